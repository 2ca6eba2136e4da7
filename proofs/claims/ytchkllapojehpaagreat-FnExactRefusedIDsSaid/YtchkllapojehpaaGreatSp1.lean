import Derived.Test.YtchkllapojehpaaGreatHp
set_option linter.all false
set_option maxRecDepth 100000
namespace Go.Ab
noncomputable section
def LK (x:List A6×Int×Unit):Option (Int×Unit):=bif decide (IntKind.i64.wrap (x.2.1-(x.1.length:Int))<0)then some (-1,())else some (IntKind.i64.wrap (x.2.1-(x.1.length:Int)),())
def ir:Ent:=⟨29,⟨(.slot (.slice YOp) (.slot .i .nil)),.nil⟩,⟨(.slot .i .nil),.nil⟩,LK⟩
theorem Aaj:Ai Go.Proofs.Tryz.prog ir:=okA (hcA 0 all_nil) Go.Proofs.Tryz.func29
def LH (x:A6×Unit):Option A6:=some (x.1.1,x.1.2.1,x.1.2.2.1,x.1.2.2.2.1,x.1.2.2.2.2.1,x.1.2.2.2.2.2.1,())
def jD:Ent:=⟨12,⟨(.slot YOp .nil),.nil⟩,⟨(.agg (si 6 .nil) .nil),.nil⟩,LH⟩
theorem A9e:Ai Go.Proofs.Tryz.prog jD:=okA (hcA 0 all_nil) Go.Proofs.Tryz.func12
abbrev A8b:=List A6×Unit
abbrev A87:=Int×List A6×Unit
abbrev A88:=List A6×Unit
def Hu (i:A8b)(v:A87)(R:Type)(K:A87 ⊕ A88->Option R):Option R:=bif decide (v.1<(i.1.length:Int))then(lAt i.1 v.1).bind fun a=>(LH ((a.1,a.2.1,a.2.2.1,a.2.2.2.1,a.2.2.2.2.1,a.2.2.2.2.2.1,()),())).bind fun b=>if 0<=v.1/\v.1<(v.2.1.length:Int)then v.2.1[0+v.1.toNat]?.bind fun c=>K (.inl (IntKind.i64.wrap (v.1+1),v.2.1.set (0+v.1.toNat) (b.1,b.2.1,b.2.2.1,b.2.2.2.1,b.2.2.2.2.1,b.2.2.2.2.2.1,()),()))else none else K (.inr (v.2.1,()))
theorem Qa:Bg Hu:=fun i v R K=>Ae (Ac fun _=>Ac fun _=>Aq (Ac fun _=>Aa)) (Aa)
def w6:Tmpl:=⟨(.slot (.slice YOp) (jk 2 (.own 0 (.slot .i (jk 18 .nil))))),(.lst false YOp .nil)⟩
def A86:Exs A8b A88:=x1 (.exit 0) fun i p=>⟨jn 3 (AV.own 0 none none::jn 19 ([])),[some (Cont.lst false YOp p.1)]⟩
def A89:=((.i (.v (.v .n))):Pk w6.ty _ _)
def Atp:Cfg:={ti:=Aw,ents:=[jD],ann:=[(3,Ao w6 0 (spP A89) Hu A86.E)],lent:=0}
def Jj (x:List A6×Unit):Option (List A6×Unit):=if 0<=(x.1.length:Int)/\(x.1.length:Int)<=(x.1.length:Int)/\(x.1.length:Int)<=(↑733007751850:Int)then(AC (fun v=>Hu (x.1,()) v _ some) (0,List.replicate ((x.1.length:Int).toNat) (0,0,0,0,0,0,()),())).bind fun p=>some (p.1,())else none
def kN:Ent:=⟨31,⟨(.slot (.slice YOp) .nil),.nil⟩,⟨(.own 0 .nil),(.lst false YOp .nil)⟩,Jj⟩
theorem A8c:CfgOK Go.Proofs.Tryz.prog Atp:=hcB (all_cons A9e all_nil)
theorem Acf:B9 Go.Proofs.Tryz.prog Atp (lpc Go.Proofs.Tryz.f31 0):=lkA A8c w6 A89 Hu A86 [3] Qa
theorem A8a:Ai Go.Proofs.Tryz.prog kN:=okB A8c Go.Proofs.Tryz.func31 Acf
abbrev A82:=Unit
abbrev A7y:=Int×List (List A2)×Unit
abbrev A7z:=List (List A2)×Unit
def It (i:A82)(v:A7y)(R:Type)(K:A7y ⊕ A7z->Option R):Option R:=bif decide (v.1<6)then if(v.2.1++[[(0,-1,0,0,1000,())]]).length<=1466015503701 then K (.inl (IntKind.i64.wrap (v.1+1),v.2.1++[[(0,-1,0,0,1000,())]],()))else none else K (.inr (v.2.1,()))
theorem Qp:Bg It:=fun i v R K=>Ae (Aq (Aa)) (Aa)
def vI:Tmpl:=⟨(.ptr 0 0 0 (.ptr 1 0 0 (.slot .i (jk 13 .nil)))),(.cells 1 (.const (AV.nils) .nil) (.cells 1 (.own 2 .nil) (.tree false 0 (.slice Af) .nil)))⟩
def A7x:Exs A82 A7z:=x1 (.exit 0) fun i p=>⟨AV.ptr 0 none 0 0::AV.ptr 1 none 0 0::jn 14 ([]),[some (Cont.cells 1 [[AV.nils]]),some (Cont.cells 1 [[AV.own 2 none none]]),some (Cont.tree false 0 (.slice Af) p.1 none)]⟩
def A80:=((.v (.v .n)):Pk vI.ty _ _)
def Asr:Cfg:={ti:=Aw,ents:=[],ann:=[(3,Ao vI 0 (spP A80) It A7x.E)],lent:=0}
def Ky (x:Unit):Option A4:=(AC (fun v=>It () v _ some) (0,[],())).bind fun p=>some (p.1,())
def vJ:Ent:=⟨162,⟨.nil,.nil⟩,⟨(.agg (.own 0 .nil) .nil),(.tree false 0 (.slice Af) .nil)⟩,Ky⟩
theorem A83:CfgOK Go.Proofs.Tryz.prog Asr:=hcB all_nil
theorem Ac7:B9 Go.Proofs.Tryz.prog Asr (lpc Go.Proofs.Tryz.f162 0):=lkA A83 vI A80 It A7x [0,1] Qp
theorem A81:Ai Go.Proofs.Tryz.prog vJ:=okB A83 Go.Proofs.Tryz.func162 Ac7
def JY (x:Bool×Unit):Option (Bool×Int×List (List A2)×Unit):=(Ky ()).bind fun v=>some (x.1,0,v.1,())
def ji:Ent:=⟨82,⟨(.slot .bool .nil),.nil⟩,⟨(.agg (.slot .bool (.own 0 (.const (AV.nils) (.const (AV.nils) (.const (AV.nils) (.slot .i .nil)))))) .nil),(.tree false 0 (.slice Af) .nil)⟩,JY⟩
theorem A7v:Ai Go.Proofs.Tryz.prog ji:=okA (hcA 0 (all_cons A81 all_nil)) Go.Proofs.Tryz.func82
def Kh (x:List A2×Unit):Option (List A2×Unit):=if x.1.length<=879609302220 then some (x.1,())else none
def dx:Ent:=⟨169,⟨(.slot (.slice Af) .nil),.nil⟩,⟨(.own 0 .nil),(.lst false Af .nil)⟩,Kh⟩
theorem A7s:Ai Go.Proofs.Tryz.prog dx:=okA (hcA 0 all_nil) Go.Proofs.Tryz.func169
abbrev A7q:=List (List A2)×Unit
abbrev A7n:=Int×List (List A2)×Unit
abbrev A7o:=List (List A2)×Unit
def Fu (i:A7q)(v:A7n)(R:Type)(K:A7n ⊕ A7o->Option R):Option R:=bif decide (v.1<(i.1.length:Int))then(lAt i.1 v.1).bind fun a=>(Kh (a,())).bind fun b=>if(v.2.1++[b.1]).length<=1466015503701 then K (.inl (IntKind.i64.wrap (v.1+1),v.2.1++[b.1],()))else none else K (.inr (v.2.1,()))
theorem ND:Bg Fu:=fun i v R K=>Ae (Ac fun _=>Ac fun _=>Aq (Aa)) (Aa)
def ue:Tmpl:=⟨(.junk (.ptr 0 0 0 (.ptr 1 0 0 (.ptr 2 0 0 (.slot .i (jk 20 .nil)))))),(.cells 1 (.slot (.slice (.slice Af)) .nil) (.cells 1 (.const (AV.nils) .nil) (.cells 1 (.own 3 .nil) (.tree false 0 (.slice Af) .nil))))⟩
def A7m:Exs A7q A7o:=x1 (.exit 0) fun i p=>⟨jn 2 (AV.ptr 1 none 0 0::AV.ptr 2 none 0 0::jn 21 ([])),[some (Cont.cells 1 [[AV.pv (.slice (.slice Af)) i.1]]),some (Cont.cells 1 [[AV.nils]]),some (Cont.cells 1 [[AV.own 3 none none]]),some (Cont.tree false 0 (.slice Af) p.1 none)]⟩
def A7p:=((.v (.i (.v .n))):Pk ue.ty _ _)
def A7r:Cfg:={ti:=Aw,ents:=[dx],ann:=[(3,Ao ue 0 (spP A7p) Fu A7m.E)],lent:=0}
def Hi (x:A4×Unit):Option A4:=(AC (fun v=>Fu (x.1.1,()) v _ some) (0,[],())).bind fun p=>some (p.1,())
def aI:Ent:=⟨94,⟨(.slot Bp .nil),.nil⟩,⟨(.agg (.own 0 .nil) .nil),(.tree false 0 (.slice Af) .nil)⟩,Hi⟩
theorem qR:CfgOK Go.Proofs.Tryz.prog A7r:=hcB (all_cons A7s all_nil)
theorem Abp:B9 Go.Proofs.Tryz.prog A7r (lpc Go.Proofs.Tryz.f94 0):=lkA qR ue A7p Fu A7m [2,3] ND
theorem uf:Ai Go.Proofs.Tryz.prog aI:=okB qR Go.Proofs.Tryz.func94 Abp
def Fx (x:List A1×Unit):Option (List A1×Unit):=if x.1.length<=2199023255552 then some (x.1,())else none
def aD:Ent:=⟨95,⟨(.slot (.slice A0) .nil),.nil⟩,⟨(.own 0 .nil),(.lst false A0 .nil)⟩,Fx⟩
theorem tF:Ai Go.Proofs.Tryz.prog aD:=okA (hcA 0 all_nil) Go.Proofs.Tryz.func95
def E5 (x:A3×Unit):Option A3:=if x.1.2.2.2.2.2.2.2.1.length<=2199023255552 then if x.1.2.2.2.2.2.2.2.2.1.length<=2199023255552 then some (x.1.1,x.1.2.1,x.1.2.2.1,x.1.2.2.2.1,x.1.2.2.2.2.1,x.1.2.2.2.2.2.1,x.1.2.2.2.2.2.2.1,x.1.2.2.2.2.2.2.2.1,x.1.2.2.2.2.2.2.2.2.1,())else none else none
def aC:Ent:=⟨96,⟨(.slot Ad .nil),.nil⟩,⟨(.agg (si 7 (.own 0 (.own 1 .nil))) .nil),(.lst false A0 (.lst false A0 .nil))⟩,E5⟩
theorem dq:Ai Go.Proofs.Tryz.prog aC:=okA (hcA 0 all_nil) Go.Proofs.Tryz.func96
abbrev A7f:=Bool×List (List A2)×List A3×List A1×List A1×Int×Bool×Int×Bool×Int×List (List A2)×A9
abbrev A7b:=Int×List A3×Unit
abbrev A7c:=List A3×Unit
def EM (i:A7f)(v:A7b)(R:Type)(K:A7b ⊕ A7c->Option R):Option R:=bif decide (v.1<(i.2.2.1.length:Int))then(lAt i.2.2.1 v.1).bind fun a=>(E5 ((a.1,a.2.1,a.2.2.1,a.2.2.2.1,a.2.2.2.2.1,a.2.2.2.2.2.1,a.2.2.2.2.2.2.1,a.2.2.2.2.2.2.2.1,a.2.2.2.2.2.2.2.2.1,()),())).bind fun b=>if(v.2.1++[(b.1,b.2.1,b.2.2.1,b.2.2.2.1,b.2.2.2.2.1,b.2.2.2.2.2.1,b.2.2.2.2.2.2.1,b.2.2.2.2.2.2.2.1,b.2.2.2.2.2.2.2.2.1,())]).length<=338311270084 then K (.inl (IntKind.i64.wrap (v.1+1),v.2.1++[(b.1,b.2.1,b.2.2.1,b.2.2.2.1,b.2.2.2.2.1,b.2.2.2.2.2.1,b.2.2.2.2.2.2.1,b.2.2.2.2.2.2.2.1,b.2.2.2.2.2.2.2.2.1,())],()))else none else K (.inr (v.2.1,()))
theorem Nd:Bg EM:=fun i v R K=>Ae (Ac fun _=>Ac fun _=>Aq (Aa)) (Aa)
def sK:Tmpl:=⟨(.junk (.ptr 0 0 0 (.ptr 1 0 0 (.ptr 2 0 0 (.slot .i (jk 36 .nil)))))),(.cells 6 (.slot .bool (.slot (.slice (.slice Af)) (.slot (.slice Ad) (.slot (.slice A0) (.slot (.slice A0) (.slot .i .nil)))))) (.cells 6 (.slot .bool (.const (AV.nils) (.const (AV.nils) (.const (AV.nils) (.const (AV.nils) (.slot .i .nil)))))) (.cells 6 (.slot .bool (.own 3 (.own 6 (.own 4 (.own 5 (.slot .i .nil)))))) (.tree false 0 (.slice Af) (.lst false A0 (.lst false A0 (.tree false 0 Ad .nil)))))))⟩
def A7a:Exs A7f A7c:=x1 (.exit 0) fun i p=>⟨jn 2 (AV.ptr 1 none 0 0::AV.ptr 2 none 0 0::jn 37 ([])),[some (Cont.cells 6 [[AV.pv .bool i.1,AV.pv (.slice (.slice Af)) i.2.1,AV.pv (.slice Ad) i.2.2.1,AV.pv (.slice A0) i.2.2.2.1,AV.pv (.slice A0) i.2.2.2.2.1,AV.pv (Ty.int IntKind.i64) i.2.2.2.2.2.1]]),some (Cont.cells 6 [[AV.pv .bool i.2.2.2.2.2.2.1,AV.nils,AV.nils,AV.nils,AV.nils,AV.pv .i i.2.2.2.2.2.2.2.1]]),some (Cont.cells 6 [[AV.pv .bool i.2.2.2.2.2.2.2.2.1,AV.own 3 none none,AV.own 6 none none,AV.own 4 none none,AV.own 5 none none,AV.pv .i i.2.2.2.2.2.2.2.2.2.1]]),some (Cont.tree false 0 (.slice Af) i.2.2.2.2.2.2.2.2.2.2.1 none),some (Cont.lst false A0 i.2.2.2.2.2.2.2.2.2.2.2.1),some (Cont.lst false A0 i.2.2.2.2.2.2.2.2.2.2.2.2.1),some (Cont.tree false 0 Ad p.1 none)]⟩
def A7d:=((.v (.i (.i (.i (.i (.i (.i (.i (.i (.i (.i (.i (.i (.i (.v .n))))))))))))))):Pk sK.ty _ _)
def Aol:Cfg:={ti:=Aw,ents:=[aI,aD,aC],ann:=[(3,Ao sK 0 (spP A7d) EM A7a.E)],lent:=0}
def HU (x:A5×Unit):Option (Bool×Int×A7):=(Hi ((x.1.2.1.1,()),())).bind fun v=>(Fx (x.1.2.2.2.1,())).bind fun a=>if x.1.2.2.2.2.1.length<=2199023255552 then(AC (fun b=>EM (x.1.1,x.1.2.1.1,x.1.2.2.1,x.1.2.2.2.1,x.1.2.2.2.2.1,x.1.2.2.2.2.2.1,false,0,x.1.1,x.1.2.2.2.2.2.1,v.1,a.1,x.1.2.2.2.2.1,()) b _ some) (0,[],())).bind fun p=>some (x.1.1,x.1.2.2.2.2.2.1,v.1,p.1,a.1,x.1.2.2.2.2.1,())else none
def iK:Ent:=⟨49,⟨(.slot D9 .nil),.nil⟩,⟨(.agg (.slot .bool (.own 0 (.own 1 (.own 2 (.own 3 (.slot .i .nil)))))) .nil),(.tree false 0 (.slice Af) (.tree false 0 Ad (.lst false A0 (.lst false A0 .nil))))⟩,HU⟩
theorem A7g:CfgOK Go.Proofs.Tryz.prog Aol:=hcB (all_cons uf (all_cons tF (all_cons dq all_nil)))
theorem Abc:B9 Go.Proofs.Tryz.prog Aol (lpc Go.Proofs.Tryz.f49 0):=lkA A7g sK A7d EM A7a [2,3] Nd
theorem A7e:Ai Go.Proofs.Tryz.prog iK:=okB A7g Go.Proofs.Tryz.func49 Abc
abbrev y9:=Int×Bool×List (List A2)×List A3×List A1×List A1×Int×Unit
abbrev y6:=Int×Unit
abbrev y7:=Int×Unit ⊕ Unit
def C9 (i:y9)(v:y6)(R:Type)(K:y6 ⊕ y7->Option R):Option R:=bif decide (v.1<(i.2.2.2.1.length:Int))then(lAt i.2.2.2.1 v.1).bind fun a=>bif a.1==i.1 then K (.inr (.inl (v.1,())))else K (.inl (IntKind.i64.wrap (v.1+1),()))else K (.inr (.inr ()))
theorem Jp:Bg C9:=fun i v R K=>Ae (Ac fun _=>Ae (Aa) (Aa)) (Aa)
def jQ:Tmpl:=⟨(.junk (.slot .i (.ptr 0 0 0 (jk 2 (.slot .i (jk 16 .nil)))))),(.cells 6 (.slot .bool (.slot (.slice (.slice Af)) (.slot (.slice Ad) (.slot (.slice A0) (.slot (.slice A0) (.slot .i .nil)))))) .nil)⟩
def y5:Exs y9 y7:=xs .ret (fun i p=>⟨jn 4 (.n (p.1)::jn 17 ([])),[some (Cont.cells 6 [[AV.pv .bool i.2.1,AV.pv (.slice (.slice Af)) i.2.2.1,AV.pv (.slice Ad) i.2.2.2.1,AV.pv (.slice A0) i.2.2.2.2.1,AV.pv (.slice A0) i.2.2.2.2.2.1,AV.pv .i i.2.2.2.2.2.2.1]])]⟩)<|x1 (.exit 0) fun i p=>⟨jn 22 ([]),[some (Cont.cells 6 [[AV.pv .bool i.2.1,AV.pv (.slice (.slice Af)) i.2.2.1,AV.pv (.slice Ad) i.2.2.2.1,AV.pv (.slice A0) i.2.2.2.2.1,AV.pv (.slice A0) i.2.2.2.2.2.1,AV.pv .i i.2.2.2.2.2.2.1]])]⟩
def y8:=((.i (.v (.i (.i (.i (.i (.i (.i .n)))))))):Pk jQ.ty _ _)
def Aah:Cfg:={ti:=Aw,ents:=[],ann:=[(2,Ao jQ 0 (spP y8) C9 y5.E)],lent:=0}
def CJ (x:A5×Int×Unit):Option (Int×Unit):=(AC (fun v=>C9 (x.2.1,x.1.1,x.1.2.1.1,x.1.2.2.1,x.1.2.2.2.1,x.1.2.2.2.2.1,x.1.2.2.2.2.2.1,()) v _ some) (0,())).bind fun p=>Az p (fun p=>some (p.1,())) fun p=>some (-1,())
def XE:Ent:=⟨50,⟨(.slot D9 (.slot .i .nil)),.nil⟩,⟨(.slot .i .nil),.nil⟩,CJ⟩
theorem ya:CfgOK Go.Proofs.Tryz.prog Aah:=hcB all_nil
theorem A6o:B9 Go.Proofs.Tryz.prog Aah (lpc Go.Proofs.Tryz.f50 0):=lkA ya jQ y8 C9 y5 [4] Jp
theorem iq:Ai Go.Proofs.Tryz.prog XE:=okB ya Go.Proofs.Tryz.func50 A6o
def Ak (x:B3):Option (Bool×Unit):=bif decide (x.1>=x.2.1)then some (decide (x.1<=x.2.2.1),())else some (false,())
def Nb:Ent:=⟨100,⟨(si 3 .nil),.nil⟩,⟨(.slot .bool .nil),.nil⟩,Ak⟩
theorem KM:Ai Go.Proofs.Tryz.prog Nb:=okA (hcA 0 all_nil) Go.Proofs.Tryz.func100
def Da (x:A2×Unit):Option (Bool×Unit):=(Ak (x.1.2.1,-1,99,())).bind fun v=>bif !v.1 then some (false,())else(Ak (x.1.2.2.1,0,999,())).bind fun v=>bif !v.1 then some (false,())else(Ak (x.1.2.2.2.1,x.1.2.2.1,999,())).bind fun v=>bif !v.1 then some (false,())else(Ak (x.1.2.2.2.2.1,1,1000,())).bind fun v=>bif !v.1 then some (false,())else bif x.1.2.2.1==0 then bif x.1.1==0 then some (x.1.2.1==-1,())else some (false,())else(Ak (x.1.1,1,9,())).bind fun v=>some (v.1,())
def bB:Ent:=⟨176,⟨(.slot Af .nil),.nil⟩,⟨(.slot .bool .nil),.nil⟩,Da⟩
theorem jP:Ai Go.Proofs.Tryz.prog bB:=okA (hcA 0 (all_cons KM all_nil)) Go.Proofs.Tryz.func176
abbrev xH:=List A2×Unit
abbrev xE:=Int×Unit
abbrev xF:=Unit ⊕ Unit ⊕ Unit ⊕ Unit
def CD (i:xH)(v:xE)(R:Type)(K:xE ⊕ xF->Option R):Option R:=bif decide (v.1<(i.1.length:Int))then(lAt i.1 v.1).bind fun a=>(Da ((a.1,a.2.1,a.2.2.1,a.2.2.2.1,a.2.2.2.2.1,()),())).bind fun b=>bif !b.1 then K (.inr (.inl ()))else bif decide (IntKind.i64.wrap (v.1+1)<(i.1.length:Int))then(lAt i.1 v.1).bind fun c=>(lAt i.1 (IntKind.i64.wrap (v.1+1))).bind fun d=>bif decide (c.2.2.1>=d.2.2.1)then K (.inr (.inr (.inl ())))else(lAt i.1 v.1).bind fun e=>(lAt i.1 (IntKind.i64.wrap (v.1+1))).bind fun f=>bif decide (e.2.2.2.2.1>f.2.2.1)then K (.inr (.inr (.inr (.inl ()))))else K (.inl (IntKind.i64.wrap (v.1+1),()))else K (.inl (IntKind.i64.wrap (v.1+1),()))else K (.inr (.inr (.inr (.inr ()))))
theorem Kl:Bg CD:=fun i v R K=>Ae (Ac fun _=>Ac fun _=>Ae (Aa) (Ae (Ac fun _=>Ac fun _=>Ae (Aa) (Ac fun _=>Ac fun _=>Ae (Aa) (Aa))) (Aa))) (Aa)
def jO:Tmpl:=⟨(.slot (.slice Af) (jk 2 (.slot .i (jk 58 .nil)))),.nil⟩
def xD:Exs xH xF:=xs .ret (fun i p=>⟨AV.pv (.slice Af) i.1::jn 1 (.b (false)::jn 59 ([])),[]⟩)<|xs .ret (fun i p=>⟨AV.pv (.slice Af) i.1::jn 1 (.b (false)::jn 59 ([])),[]⟩)<|xs .ret (fun i p=>⟨AV.pv (.slice Af) i.1::jn 1 (.b (false)::jn 59 ([])),[]⟩)<|x1 (.exit 0) fun i p=>⟨AV.pv (.slice Af) i.1::jn 61 ([]),[]⟩
def xG:=((.i (.v .n)):Pk jO.ty _ _)
def Aaf:Cfg:={ti:=Aw,ents:=[bB],ann:=[(2,Ao jO 0 (spP xG) CD xD.E)],lent:=0}
def Ck (x:List A2×Unit):Option (Bool×Unit):=(AC (fun v=>CD (x.1,()) v _ some) (0,())).bind fun p=>Az p (fun p=>some (false,())) fun p=>Az p (fun p=>some (false,())) fun p=>Az p (fun p=>some (false,())) fun p=>bif decide ((x.1.length:Int)>0)then(lAt x.1 (IntKind.i64.wrap ((x.1.length:Int)-1))).bind fun v=>some (v.2.2.2.2.1==1000,())else some (false,())
def W9:Ent:=⟨170,⟨(.slot (.slice Af) .nil),.nil⟩,⟨(.slot .bool .nil),.nil⟩,Ck⟩
theorem xI:CfgOK Go.Proofs.Tryz.prog Aaf:=hcB (all_cons jP all_nil)
theorem A6d:B9 Go.Proofs.Tryz.prog Aaf (lpc Go.Proofs.Tryz.f170 0):=lkA xI jO xG CD xD [0,2] Kl
theorem bw:Ai Go.Proofs.Tryz.prog W9:=okB xI Go.Proofs.Tryz.func170 A6d
abbrev xw:=List (List A2)×Unit
abbrev xt:=Int×Unit
abbrev xu:=Unit ⊕ Unit ⊕ Unit ⊕ Unit ⊕ Unit
def CC (i:xw)(v:xt)(R:Type)(K:xt ⊕ xu->Option R):Option R:=bif decide (v.1<(i.1.length:Int))then(lAt i.1 v.1).bind fun a=>(Ck (a,())).bind fun b=>bif !b.1 then K (.inr (.inl ()))else(lAt i.1 v.1).bind fun c=>(lAt c 0).bind fun d=>bif decide (d.2.2.1>0)then(lAt i.1 v.1).bind fun e=>bif decide ((e.length:Int)>50)then K (.inr (.inr (.inl ())))else(lAt i.1 v.1).bind fun f=>bif decide ((f.length:Int)>50)then K (.inr (.inr (.inr (.inl ()))))else K (.inl (IntKind.i64.wrap (v.1+1),()))else(lAt i.1 v.1).bind fun e=>bif decide ((e.length:Int)>50)then K (.inr (.inr (.inr (.inr (.inl ())))))else K (.inl (IntKind.i64.wrap (v.1+1),()))else K (.inr (.inr (.inr (.inr (.inr ())))))
theorem Kk:Bg CC:=fun i v R K=>Ae (Ac fun _=>Ac fun _=>Ae (Aa) (Ac fun _=>Ac fun _=>Ae (Ac fun _=>Ae (Aa) (Ac fun _=>Ae (Aa) (Aa))) (Ac fun _=>Ae (Aa) (Aa)))) (Aa)
def jM:Tmpl:=⟨(.junk (.ptr 0 0 0 (.junk (.slot .i (jk 47 .nil))))),(.cells 1 (.slot (.slice (.slice Af)) .nil) .nil)⟩
def xr:Exs xw xu:=xs .ret (fun i p=>⟨jn 1 (AV.ptr 0 none 0 0::.b (false)::jn 48 ([])),[some (Cont.cells 1 [[AV.pv (.slice (.slice Af)) i.1]])]⟩)<|xs .ret (fun i p=>⟨jn 1 (AV.ptr 0 none 0 0::.b (false)::jn 48 ([])),[some (Cont.cells 1 [[AV.pv (.slice (.slice Af)) i.1]])]⟩)<|xs .ret (fun i p=>⟨jn 1 (AV.ptr 0 none 0 0::.b (false)::jn 48 ([])),[some (Cont.cells 1 [[AV.pv (.slice (.slice Af)) i.1]])]⟩)<|xs .ret (fun i p=>⟨jn 1 (AV.ptr 0 none 0 0::.b (false)::jn 48 ([])),[some (Cont.cells 1 [[AV.pv (.slice (.slice Af)) i.1]])]⟩)<|x1 (.exit 0) fun i p=>⟨jn 1 (AV.ptr 0 none 0 0::jn 49 ([])),[some (Cont.cells 1 [[AV.pv (.slice (.slice Af)) i.1]])]⟩
def xv:=((.v (.i .n)):Pk jM.ty _ _)
def Aae:Cfg:={ti:=Aw,ents:=[W9],ann:=[(2,Ao jM 0 (spP xv) CC xr.E)],lent:=0}
def Bk (x:A4×Unit):Option (Bool×Unit):=(AC (fun v=>CC (x.1.1,()) v _ some) (0,())).bind fun p=>Az p (fun p=>some (false,())) fun p=>Az p (fun p=>some (false,())) fun p=>Az p (fun p=>some (false,())) fun p=>Az p (fun p=>some (false,())) fun p=>some ((x.1.1.length:Int)==6,())
def Q6:Ent:=⟨97,⟨(.slot Bp .nil),.nil⟩,⟨(.slot .bool .nil),.nil⟩,Bk⟩
theorem xx:CfgOK Go.Proofs.Tryz.prog Aae:=hcB (all_cons bw all_nil)
theorem A65:B9 Go.Proofs.Tryz.prog Aae (lpc Go.Proofs.Tryz.f97 0):=lkA xx jM xv CC xr [1,2] Kk
theorem Qw:Ai Go.Proofs.Tryz.prog Q6:=okB xx Go.Proofs.Tryz.func97 A65
abbrev xl:=List A1×Unit
abbrev xi:=Int×Unit
abbrev xj:=Unit ⊕ Unit ⊕ Unit ⊕ Unit
def Ed (i:xl)(v:xi)(R:Type)(K:xi ⊕ xj->Option R):Option R:=bif decide (v.1<(i.1.length:Int))then(lAt i.1 v.1).bind fun a=>(Ak (a.1,0,5,())).bind fun b=>bif !b.1 then K (.inr (.inl ()))else(lAt i.1 v.1).bind fun c=>(Ak (c.2.1,1,9,())).bind fun d=>bif !d.1 then K (.inr (.inr (.inl ())))else bif decide (v.1>0)then(lAt i.1 (IntKind.i64.wrap (v.1-1))).bind fun e=>(lAt i.1 v.1).bind fun f=>bif decide (e.1>=f.1)then K (.inr (.inr (.inr (.inl ()))))else K (.inl (IntKind.i64.wrap (v.1+1),()))else K (.inl (IntKind.i64.wrap (v.1+1),()))else K (.inr (.inr (.inr (.inr ()))))
theorem Mk:Bg Ed:=fun i v R K=>Ae (Ac fun _=>Ac fun _=>Ae (Aa) (Ac fun _=>Ac fun _=>Ae (Aa) (Ae (Ac fun _=>Ac fun _=>Ae (Aa) (Aa)) (Aa)))) (Aa)
def jK:Tmpl:=⟨(.slot (.slice A0) (jk 2 (.slot .i (jk 40 .nil)))),.nil⟩
def xh:Exs xl xj:=xs .ret (fun i p=>⟨jn 2 (.b (false)::jn 41 ([])),[]⟩)<|xs .ret (fun i p=>⟨jn 2 (.b (false)::jn 41 ([])),[]⟩)<|xs .ret (fun i p=>⟨jn 2 (.b (false)::jn 41 ([])),[]⟩)<|x1 (.exit 0) fun i p=>⟨jn 44 ([]),[]⟩
def xk:=((.i (.v .n)):Pk jK.ty _ _)
def rc:Cfg:={ti:=Aw,ents:=[Nb],ann:=[(2,Ao jK 0 (spP xk) Ed xh.E)],lent:=0}
def DF (x:List A1×Unit):Option (Bool×Unit):=(AC (fun v=>Ed (x.1,()) v _ some) (0,())).bind fun p=>Az p (fun p=>some (false,())) fun p=>Az p (fun p=>some (false,())) fun p=>Az p (fun p=>some (false,())) fun p=>some (true,())
def W8:Ent:=⟨98,⟨(.slot (.slice A0) .nil),.nil⟩,⟨(.slot .bool .nil),.nil⟩,DF⟩
theorem eS:CfgOK Go.Proofs.Tryz.prog rc:=hcB (all_cons KM all_nil)
theorem A61:B9 Go.Proofs.Tryz.prog rc (lpc Go.Proofs.Tryz.f98 0):=lkA eS jK xk Ed xh [2] Mk
theorem ba:Ai Go.Proofs.Tryz.prog W8:=okB eS Go.Proofs.Tryz.func98 A61
abbrev xd:=List A1×Unit
abbrev xa:=Int×Unit
abbrev xb:=Unit ⊕ Unit ⊕ Unit ⊕ Unit ⊕ Unit
def Eb (i:xd)(v:xa)(R:Type)(K:xa ⊕ xb->Option R):Option R:=bif decide (v.1<(i.1.length:Int))then(lAt i.1 v.1).bind fun a=>(Ak (a.1,1,9,())).bind fun b=>bif !b.1 then K (.inr (.inl ()))else(lAt i.1 v.1).bind fun c=>(Ak (c.2.1,1,9,())).bind fun d=>bif !d.1 then K (.inr (.inr (.inl ())))else(lAt i.1 v.1).bind fun e=>(lAt i.1 v.1).bind fun f=>bif e.1==f.2.1 then K (.inr (.inr (.inr (.inl ()))))else bif decide (v.1>0)then(lAt i.1 (IntKind.i64.wrap (v.1-1))).bind fun g=>(lAt i.1 v.1).bind fun h=>bif decide (g.1>=h.1)then K (.inr (.inr (.inr (.inr (.inl ())))))else K (.inl (IntKind.i64.wrap (v.1+1),()))else K (.inl (IntKind.i64.wrap (v.1+1),()))else K (.inr (.inr (.inr (.inr (.inr ())))))
theorem Mj:Bg Eb:=fun i v R K=>Ae (Ac fun _=>Ac fun _=>Ae (Aa) (Ac fun _=>Ac fun _=>Ae (Aa) (Ac fun _=>Ac fun _=>Ae (Aa) (Ae (Ac fun _=>Ac fun _=>Ae (Aa) (Aa)) (Aa))))) (Aa)
def jJ:Tmpl:=⟨(.slot (.slice A0) (jk 2 (.slot .i (jk 53 .nil)))),.nil⟩
def x9:Exs xd xb:=xs .ret (fun i p=>⟨jn 2 (.b (false)::jn 54 ([])),[]⟩)<|xs .ret (fun i p=>⟨jn 2 (.b (false)::jn 54 ([])),[]⟩)<|xs .ret (fun i p=>⟨jn 2 (.b (false)::jn 54 ([])),[]⟩)<|xs .ret (fun i p=>⟨jn 2 (.b (false)::jn 54 ([])),[]⟩)<|x1 (.exit 0) fun i p=>⟨jn 57 ([]),[]⟩
def xc:=((.i (.v .n)):Pk jJ.ty _ _)
def Aa6:Cfg:={ti:=Aw,ents:=[Nb],ann:=[(2,Ao jJ 0 (spP xc) Eb x9.E)],lent:=0}
def DE (x:List A1×Unit):Option (Bool×Unit):=(AC (fun v=>Eb (x.1,()) v _ some) (0,())).bind fun p=>Az p (fun p=>some (false,())) fun p=>Az p (fun p=>some (false,())) fun p=>Az p (fun p=>some (false,())) fun p=>Az p (fun p=>some (false,())) fun p=>some (true,())
def RD:Ent:=⟨99,⟨(.slot (.slice A0) .nil),.nil⟩,⟨(.slot .bool .nil),.nil⟩,DE⟩
theorem xe:CfgOK Go.Proofs.Tryz.prog Aa6:=hcB (all_cons KM all_nil)
theorem A5x:B9 Go.Proofs.Tryz.prog Aa6 (lpc Go.Proofs.Tryz.f99 0):=lkA xe jJ xc Eb x9 [2] Mj
theorem b9:Ai Go.Proofs.Tryz.prog RD:=okB xe Go.Proofs.Tryz.func99 A5x
abbrev x8:=Int×List (List A2)×Unit
abbrev x5:=Int×Int×Unit
abbrev x6:=Int×Unit
def Du (i:x8)(v:x5)(R:Type)(K:x5 ⊕ x6->Option R):Option R:=(lAt i.2.1 i.1).bind fun a=>bif decide (v.2.1<(a.length:Int))then(lAt i.2.1 i.1).bind fun b=>(lAt b v.2.1).bind fun c=>(lAt i.2.1 i.1).bind fun d=>(lAt d v.2.1).bind fun e=>K (.inl (mx (mx v.1 c.2.2.1) e.2.2.2.1,IntKind.i64.wrap (v.2.1+1),()))else K (.inr (v.1,()))
theorem LW:Bg Du:=fun i v R K=>Ac fun _=>Ae (Ac fun _=>Ac fun _=>Ac fun _=>Ac fun _=>Aa) (Aa)
def jH:Tmpl:=⟨(.junk (.ptr 0 0 0 (.junk (si 3 (jk 42 .nil))))),(.cells 1 (.slot (.slice (.slice Af)) .nil) .nil)⟩
def x4:Exs x8 x6:=x1 (.exit 2) fun i p=>⟨jn 1 (AV.ptr 0 none 0 0::jn 1 (.n (p.1)::.n (i.1)::jn 43 ([]))),[some (Cont.cells 1 [[AV.pv (.slice (.slice Af)) i.2.1]])]⟩
def x7:=((.v (.i (.v (.i .n)))):Pk jH.ty _ _)
abbrev eH:=List (List A2)×Unit
abbrev eE:=Int×Int×Unit
abbrev eF:=Int×Unit ⊕ Int×Unit
def Dv (i:eH)(v:eE)(R:Type)(K:eE ⊕ eF->Option R):Option R:=bif decide (v.2.1<(i.1.length:Int))then(Bk ((i.1,()),())).bind fun a=>bif a.1 then(AC (fun b=>Du (v.2.1,i.1,()) b _ some) (v.1,0,())).bind fun p=>K (.inl (p.1,IntKind.i64.wrap (v.2.1+1),()))else K (.inr (.inl (v.1,())))else K (.inr (.inr (v.1,())))
theorem LX:Bg Dv:=fun i v R K=>Ae (Ac fun _=>Ae (Ac fun _=>Aa) (Aa)) (Aa)
def WC:Tmpl:=⟨(.junk (.ptr 0 0 0 (.junk (si 2 (jk 43 .nil))))),(.cells 1 (.slot (.slice (.slice Af)) .nil) .nil)⟩
def eD:Exs eH eF:=xs (.exit 0) (fun i p=>⟨jn 3 (.n (p.1)::jn 44 ([])),[some (Cont.cells 1 [[AV.pv (.slice (.slice Af)) i.1]])]⟩)<|x1 (.exit 0) fun i p=>⟨jn 3 (.n (p.1)::jn 44 ([])),[some (Cont.cells 1 [[AV.pv (.slice (.slice Af)) i.1]])]⟩
def eG:=((.v (.v (.i .n))):Pk WC.ty _ _)
def iB:Cfg:={ti:=Aw,ents:=[Q6],ann:=[(6,Ao jH 0 (spP x7) Du x4.E),(3,Ao WC 0 (spP eG) Dv eD.E)],lent:=0}
def Fy (x:A4×Unit):Option (Int×Unit):=(AC (fun v=>Dv (x.1.1,()) v _ some) (0,0,())).bind fun p=>Az p (fun p=>some (p.1,())) fun p=>some (p.1,())
def b8:Ent:=⟨101,⟨(.slot Bp .nil),.nil⟩,⟨(.slot .i .nil),.nil⟩,Fy⟩
theorem Z9:CfgOK Go.Proofs.Tryz.prog iB:=hcB (all_cons Qw all_nil)
theorem lZ:B9 Go.Proofs.Tryz.prog iB (lpc Go.Proofs.Tryz.f101 1):=lkA Z9 jH x7 Du x4 [1,3,4] LW
theorem m0:B9 Go.Proofs.Tryz.prog iB (lpc Go.Proofs.Tryz.f101 0):=lkB Z9 WC eG Dv eD [3] LX lZ
theorem jI:Ai Go.Proofs.Tryz.prog b8:=okC Z9 Go.Proofs.Tryz.func101 m0 lZ
def G3 (x:A1×A1×Unit):Option (Bool×Unit):=bif decide (x.1.1<x.2.1.1)then some (true,())else bif x.1.1==x.2.1.1 then some (decide (x.1.2.1<x.2.1.2.1),())else some (false,())
def TR:Ent:=⟨171,⟨(.slot A0 (.slot A0 .nil)),.nil⟩,⟨(.slot .bool .nil),.nil⟩,G3⟩
theorem jG:Ai Go.Proofs.Tryz.prog TR:=okA (hcA 0 all_nil) Go.Proofs.Tryz.func171
abbrev wX:=A3
abbrev wR:=Int×Unit
abbrev wT:=Int×Int×Unit ⊕ Int×Int×Unit ⊕ Int×Int×Unit ⊕ Unit
def BK (i:wX)(v:wR)(R:Type)(K:wR ⊕ wT->Option R):Option R:=bif decide (v.1<(i.2.2.2.2.2.2.2.1.length:Int))then(lAt i.2.2.2.2.2.2.2.1 v.1).bind fun a=>(Ak (a.1,0,5,())).bind fun b=>bif !b.1 then K (.inr (.inl (a.1,a.2.1,())))else(Ak (a.2.1,0,999,())).bind fun c=>bif !c.1 then K (.inr (.inr (.inl (a.1,a.2.1,()))))else bif decide (v.1>0)then(lAt i.2.2.2.2.2.2.2.1 (IntKind.i64.wrap (v.1-1))).bind fun d=>(G3 ((d.1,d.2.1,()),(a.1,a.2.1,()),())).bind fun e=>bif !e.1 then K (.inr (.inr (.inr (.inl (a.1,a.2.1,())))))else K (.inl (IntKind.i64.wrap (v.1+1),()))else K (.inl (IntKind.i64.wrap (v.1+1),()))else K (.inr (.inr (.inr (.inr ()))))
theorem Iv:Bg BK:=fun i v R K=>Ae (Ac fun _=>Ac fun _=>Ae (Aa) (Ac fun _=>Ae (Aa) (Ae (Ac fun _=>Ac fun _=>Ae (Aa) (Aa)) (Aa)))) (Aa)
def jF:Tmpl:=⟨(.junk (.ptr 0 0 0 (.junk (.slot .i (jk 127 .nil))))),(.cells 9 (si 7 (.slot (.slice A0) (.slot (.slice A0) .nil))) .nil)⟩
def wP:Exs wX wT:=xs .ret (fun i p=>⟨jn 1 (AV.ptr 0 none 0 0::.b (false)::jn 128 ([])),[some (Cont.cells 9 [[AV.pv .i i.1,AV.pv .i i.2.1,AV.pv .i i.2.2.1,AV.pv .i i.2.2.2.1,AV.pv (Ty.int IntKind.i64) i.2.2.2.2.1,AV.pv .i i.2.2.2.2.2.1,AV.pv .i i.2.2.2.2.2.2.1,AV.pv (.slice A0) i.2.2.2.2.2.2.2.1,AV.pv (.slice A0) i.2.2.2.2.2.2.2.2.1]]),some (Cont.cells 2 [[AV.pv .i p.1,AV.pv .i p.2.1]])]⟩)<|xs .ret (fun i p=>⟨jn 1 (AV.ptr 0 none 0 0::.b (false)::jn 128 ([])),[some (Cont.cells 9 [[AV.pv .i i.1,AV.pv .i i.2.1,AV.pv .i i.2.2.1,AV.pv .i i.2.2.2.1,AV.pv (Ty.int IntKind.i64) i.2.2.2.2.1,AV.pv .i i.2.2.2.2.2.1,AV.pv .i i.2.2.2.2.2.2.1,AV.pv (.slice A0) i.2.2.2.2.2.2.2.1,AV.pv (.slice A0) i.2.2.2.2.2.2.2.2.1]]),some (Cont.cells 2 [[AV.pv .i p.1,AV.pv .i p.2.1]])]⟩)<|xs .ret (fun i p=>⟨jn 1 (AV.ptr 0 none 0 0::.b (false)::jn 128 ([])),[some (Cont.cells 9 [[AV.pv .i i.1,AV.pv .i i.2.1,AV.pv .i i.2.2.1,AV.pv .i i.2.2.2.1,AV.pv (Ty.int IntKind.i64) i.2.2.2.2.1,AV.pv .i i.2.2.2.2.2.1,AV.pv .i i.2.2.2.2.2.2.1,AV.pv (.slice A0) i.2.2.2.2.2.2.2.1,AV.pv (.slice A0) i.2.2.2.2.2.2.2.2.1]]),some (Cont.cells 2 [[AV.pv .i p.1,AV.pv .i p.2.1]])]⟩)<|x1 (.exit 0) fun i p=>⟨jn 1 (AV.ptr 0 none 0 0::jn 129 ([])),[some (Cont.cells 9 [[AV.pv .i i.1,AV.pv .i i.2.1,AV.pv .i i.2.2.1,AV.pv .i i.2.2.2.1,AV.pv .i i.2.2.2.2.1,AV.pv .i i.2.2.2.2.2.1,AV.pv .i i.2.2.2.2.2.2.1,AV.pv (.slice A0) i.2.2.2.2.2.2.2.1,AV.pv (.slice A0) i.2.2.2.2.2.2.2.2.1]])]⟩
def wV:=((.v (.i (.i (.i (.i (.i (.i (.i (.i (.i .n)))))))))):Pk jF.ty _ _)
abbrev wW:=A3
abbrev wQ:=Int×Unit
abbrev wS:=Int×Int×Unit ⊕ Int×Int×Unit ⊕ Int×Int×Unit ⊕ Unit
def BJ (i:wW)(v:wQ)(R:Type)(K:wQ ⊕ wS->Option R):Option R:=bif decide (v.1<(i.2.2.2.2.2.2.2.2.1.length:Int))then(lAt i.2.2.2.2.2.2.2.2.1 v.1).bind fun a=>(Ak (a.1,0,5,())).bind fun b=>bif !b.1 then K (.inr (.inl (a.1,a.2.1,())))else(Ak (a.2.1,-1,99,())).bind fun c=>bif !c.1 then K (.inr (.inr (.inl (a.1,a.2.1,()))))else bif decide (v.1>0)then(lAt i.2.2.2.2.2.2.2.2.1 (IntKind.i64.wrap (v.1-1))).bind fun d=>bif decide (d.1>=a.1)then K (.inr (.inr (.inr (.inl (a.1,a.2.1,())))))else K (.inl (IntKind.i64.wrap (v.1+1),()))else K (.inl (IntKind.i64.wrap (v.1+1),()))else K (.inr (.inr (.inr (.inr ()))))
theorem Iu:Bg BJ:=fun i v R K=>Ae (Ac fun _=>Ac fun _=>Ae (Aa) (Ac fun _=>Ae (Aa) (Ae (Ac fun _=>Ae (Aa) (Aa)) (Aa)))) (Aa)
def jE:Tmpl:=⟨(.junk (.ptr 0 0 0 (jk 3 (.slot .i (jk 125 .nil))))),(.cells 9 (si 7 (.slot (.slice A0) (.slot (.slice A0) .nil))) .nil)⟩
def wO:Exs wW wS:=xs .ret (fun i p=>⟨jn 1 (AV.ptr 0 none 0 0::.b (false)::jn 128 ([])),[some (Cont.cells 9 [[AV.pv .i i.1,AV.pv .i i.2.1,AV.pv .i i.2.2.1,AV.pv .i i.2.2.2.1,AV.pv (Ty.int IntKind.i64) i.2.2.2.2.1,AV.pv .i i.2.2.2.2.2.1,AV.pv .i i.2.2.2.2.2.2.1,AV.pv (.slice A0) i.2.2.2.2.2.2.2.1,AV.pv (.slice A0) i.2.2.2.2.2.2.2.2.1]]),some (Cont.cells 2 [[AV.pv .i p.1,AV.pv .i p.2.1]])]⟩)<|xs .ret (fun i p=>⟨jn 1 (AV.ptr 0 none 0 0::.b (false)::jn 128 ([])),[some (Cont.cells 9 [[AV.pv .i i.1,AV.pv .i i.2.1,AV.pv .i i.2.2.1,AV.pv .i i.2.2.2.1,AV.pv (Ty.int IntKind.i64) i.2.2.2.2.1,AV.pv .i i.2.2.2.2.2.1,AV.pv .i i.2.2.2.2.2.2.1,AV.pv (.slice A0) i.2.2.2.2.2.2.2.1,AV.pv (.slice A0) i.2.2.2.2.2.2.2.2.1]]),some (Cont.cells 2 [[AV.pv .i p.1,AV.pv .i p.2.1]])]⟩)<|xs .ret (fun i p=>⟨jn 1 (AV.ptr 0 none 0 0::.b (false)::jn 128 ([])),[some (Cont.cells 9 [[AV.pv .i i.1,AV.pv .i i.2.1,AV.pv .i i.2.2.1,AV.pv .i i.2.2.2.1,AV.pv (Ty.int IntKind.i64) i.2.2.2.2.1,AV.pv .i i.2.2.2.2.2.1,AV.pv .i i.2.2.2.2.2.2.1,AV.pv (.slice A0) i.2.2.2.2.2.2.2.1,AV.pv (.slice A0) i.2.2.2.2.2.2.2.2.1]]),some (Cont.cells 2 [[AV.pv .i p.1,AV.pv .i p.2.1]])]⟩)<|x1 (.exit 2) fun i p=>⟨jn 1 (AV.ptr 0 none 0 0::jn 129 ([])),[some (Cont.cells 9 [[AV.pv .i i.1,AV.pv .i i.2.1,AV.pv .i i.2.2.1,AV.pv .i i.2.2.2.1,AV.pv .i i.2.2.2.2.1,AV.pv .i i.2.2.2.2.2.1,AV.pv .i i.2.2.2.2.2.2.1,AV.pv (.slice A0) i.2.2.2.2.2.2.2.1,AV.pv (.slice A0) i.2.2.2.2.2.2.2.2.1]])]⟩
def wU:=((.v (.i (.i (.i (.i (.i (.i (.i (.i (.i .n)))))))))):Pk jE.ty _ _)
def iA:Cfg:={ti:=Aw,ents:=[Nb,TR],ann:=[(2,Ao jF 0 (spP wV) BK wP.E),(8,Ao jE 0 (spP wU) BJ wO.E)],lent:=0}
def AJ (x:A3×Unit):Option (Bool×Unit):=(AC (fun v=>BK (x.1.1,x.1.2.1,x.1.2.2.1,x.1.2.2.2.1,x.1.2.2.2.2.1,x.1.2.2.2.2.2.1,x.1.2.2.2.2.2.2.1,x.1.2.2.2.2.2.2.2.1,x.1.2.2.2.2.2.2.2.2.1,()) v _ some) (0,())).bind fun p=>Az p (fun p=>some (false,())) fun p=>Az p (fun p=>some (false,())) fun p=>Az p (fun p=>some (false,())) fun p=>(AC (fun v=>BJ (x.1.1,x.1.2.1,x.1.2.2.1,x.1.2.2.2.1,x.1.2.2.2.2.1,x.1.2.2.2.2.2.1,x.1.2.2.2.2.2.2.1,x.1.2.2.2.2.2.2.2.1,x.1.2.2.2.2.2.2.2.2.1,()) v _ some) (0,())).bind fun p=>Az p (fun p=>some (false,())) fun p=>Az p (fun p=>some (false,())) fun p=>Az p (fun p=>some (false,())) fun p=>(Ak (x.1.1,1,9,())).bind fun v=>bif !v.1 then some (false,())else(Ak (x.1.2.1,1,4,())).bind fun v=>bif !v.1 then some (false,())else(Ak (x.1.2.2.2.1,0,999,())).bind fun v=>bif !v.1 then some (false,())else(Ak (x.1.2.2.1,1,3,())).bind fun v=>bif v.1 then(Ak (x.1.2.2.2.2.1,0,999,())).bind fun v=>bif v.1 then(Ak (x.1.2.2.2.2.2.1,1,1000,())).bind fun v=>bif v.1 then bif (x.1.2.2.1==2)==decide (x.1.2.2.2.2.2.2.1>0)then(Ak (x.1.2.2.2.2.2.2.1,0,999,())).bind fun v=>bif v.1 then some (decide ((x.1.2.2.2.2.2.2.2.1.length:Int)<=60),())else some (false,())else some (false,())else some (false,())else some (false,())else some (false,())
def SG:Ent:=⟨102,⟨(.slot Ad .nil),.nil⟩,⟨(.slot .bool .nil),.nil⟩,AJ⟩
theorem Z8:CfgOK Go.Proofs.Tryz.prog iA:=hcB (all_cons KM (all_cons jG all_nil))
theorem A5h:B9 Go.Proofs.Tryz.prog iA (lpc Go.Proofs.Tryz.f102 1):=lkA Z8 jE wU BJ wO [1,2] Iu
theorem A5i:B9 Go.Proofs.Tryz.prog iA (lpc Go.Proofs.Tryz.f102 0):=lkA Z8 jF wV BK wP [1,2] Iv
theorem Qv:Ai Go.Proofs.Tryz.prog SG:=okC Z8 Go.Proofs.Tryz.func102 A5i A5h
abbrev wK:=List A2×Int×Unit
abbrev wH:=Int×Unit
abbrev wI:=Int×Unit ⊕ Unit
def D1 (i:wK)(v:wH)(R:Type)(K:wH ⊕ wI->Option R):Option R:=bif decide (v.1<(i.1.length:Int))then(lAt i.1 v.1).bind fun a=>bif a.2.2.1==i.2.1 then K (.inr (.inl (v.1,())))else K (.inl (IntKind.i64.wrap (v.1+1),()))else K (.inr (.inr ()))
theorem KH:Bg D1:=fun i v R K=>Ae (Ac fun _=>Ae (Aa) (Aa)) (Aa)
def jC:Tmpl:=⟨(.slot (.slice Af) (.slot .i (jk 3 (.slot .i (jk 14 .nil))))),.nil⟩
def wG:Exs wK wI:=xs .ret (fun i p=>⟨jn 4 (.n (p.1)::jn 15 ([])),[]⟩)<|x1 (.exit 0) fun i p=>⟨jn 20 ([]),[]⟩
def wJ:=((.i (.i (.v .n))):Pk jC.ty _ _)
def A94:Cfg:={ti:=Aw,ents:=[],ann:=[(2,Ao jC 0 (spP wJ) D1 wG.E)],lent:=0}
def Dh (x:List A2×Int×Unit):Option (Int×Unit):=(AC (fun v=>D1 (x.1,x.2.1,()) v _ some) (0,())).bind fun p=>Az p (fun p=>some (p.1,())) fun p=>some (-1,())
def RC:Ent:=⟨172,⟨(.slot (.slice Af) (.slot .i .nil)),.nil⟩,⟨(.slot .i .nil),.nil⟩,Dh⟩
theorem wL:CfgOK Go.Proofs.Tryz.prog A94:=hcB all_nil
theorem A58:B9 Go.Proofs.Tryz.prog A94 (lpc Go.Proofs.Tryz.f172 0):=lkA wL jC wJ D1 wG [4] KH
theorem aY:Ai Go.Proofs.Tryz.prog RC:=okB wL Go.Proofs.Tryz.func172 A58
abbrev wD:=List (List A2)×A3
abbrev wA:=Int×Unit
abbrev wB:=Unit ⊕ Unit
def Dg (i:wD)(v:wA)(R:Type)(K:wA ⊕ wB->Option R):Option R:=bif decide (v.1<(i.2.2.2.2.2.2.2.2.1.length:Int))then(lAt i.2.2.2.2.2.2.2.2.1 v.1).bind fun a=>(lAt i.1 a.1).bind fun b=>(lAt i.2.2.2.2.2.2.2.2.1 v.1).bind fun c=>(Dh (b,c.2.1,())).bind fun d=>bif decide (d.1<0)then K (.inr (.inl ()))else K (.inl (IntKind.i64.wrap (v.1+1),()))else K (.inr (.inr ()))
theorem Lf:Bg Dg:=fun i v R K=>Ae (Ac fun _=>Ac fun _=>Ac fun _=>Ac fun _=>Ae (Aa) (Aa)) (Aa)
def jB:Tmpl:=⟨(jk 2 (.ptr 0 0 0 (.ptr 1 0 0 (.junk (.slot .i (jk 33 .nil)))))),(.cells 1 (.slot (.slice (.slice Af)) .nil) (.cells 9 (si 7 (.slot (.slice A0) (.slot (.slice A0) .nil))) .nil))⟩
def wz:Exs wD wB:=xs .ret (fun i p=>⟨jn 4 (.b (false)::jn 34 ([])),[some (Cont.cells 1 [[AV.pv (.slice (.slice Af)) i.1]]),some (Cont.cells 9 [[AV.pv .i i.2.1,AV.pv .i i.2.2.1,AV.pv .i i.2.2.2.1,AV.pv .i i.2.2.2.2.1,AV.pv .i i.2.2.2.2.2.1,AV.pv .i i.2.2.2.2.2.2.1,AV.pv .i i.2.2.2.2.2.2.2.1,AV.pv (.slice A0) i.2.2.2.2.2.2.2.2.1,AV.pv (.slice A0) i.2.2.2.2.2.2.2.2.2.1]])]⟩)<|x1 (.exit 0) fun i p=>⟨jn 39 ([]),[some (Cont.cells 1 [[AV.pv (.slice (.slice Af)) i.1]]),some (Cont.cells 9 [[AV.pv .i i.2.1,AV.pv .i i.2.2.1,AV.pv .i i.2.2.2.1,AV.pv .i i.2.2.2.2.1,AV.pv .i i.2.2.2.2.2.1,AV.pv .i i.2.2.2.2.2.2.1,AV.pv .i i.2.2.2.2.2.2.2.1,AV.pv (.slice A0) i.2.2.2.2.2.2.2.2.1,AV.pv (.slice A0) i.2.2.2.2.2.2.2.2.2.1]])]⟩
def wC:=((.v (.i (.i (.i (.i (.i (.i (.i (.i (.i (.i .n))))))))))):Pk jB.ty _ _)
def r9:Cfg:={ti:=Aw,ents:=[Q6,SG,RC],ann:=[(4,Ao jB 0 (spP wC) Dg wz.E)],lent:=0}
def CR (x:A4×A3×Unit):Option (Bool×Unit):=(Bk ((x.1.1,()),())).bind fun v=>bif !v.1 then some (false,())else(AJ ((x.2.1.1,x.2.1.2.1,x.2.1.2.2.1,x.2.1.2.2.2.1,x.2.1.2.2.2.2.1,x.2.1.2.2.2.2.2.1,x.2.1.2.2.2.2.2.2.1,x.2.1.2.2.2.2.2.2.2.1,x.2.1.2.2.2.2.2.2.2.2.1,()),())).bind fun v=>bif !v.1 then some (false,())else(AC (fun v=>Dg (x.1.1,x.2.1.1,x.2.1.2.1,x.2.1.2.2.1,x.2.1.2.2.2.1,x.2.1.2.2.2.2.1,x.2.1.2.2.2.2.2.1,x.2.1.2.2.2.2.2.2.1,x.2.1.2.2.2.2.2.2.2.1,x.2.1.2.2.2.2.2.2.2.2.1,()) v _ some) (0,())).bind fun p=>Az p (fun p=>some (false,())) fun p=>some (true,())
def W4:Ent:=⟨103,⟨(.slot Bp (.slot Ad .nil)),.nil⟩,⟨(.slot .bool .nil),.nil⟩,CR⟩
theorem er:CfgOK Go.Proofs.Tryz.prog r9:=hcB (all_cons Qw (all_cons Qv (all_cons aY all_nil)))
theorem A4x:B9 Go.Proofs.Tryz.prog r9 (lpc Go.Proofs.Tryz.f103 0):=lkA er jB wC Dg wz [4] Lf
theorem aX:Ai Go.Proofs.Tryz.prog W4:=okB er Go.Proofs.Tryz.func103 A4x
def E8 (x:A5×Int×Unit):Option (Bool×Unit):=(CJ ((x.1.1,(x.1.2.1.1,()),x.1.2.2.1,x.1.2.2.2.1,x.1.2.2.2.2.1,x.1.2.2.2.2.2.1,()),x.2.1,())).bind fun v=>bif decide (v.1>=0)then(lAt x.1.2.2.1 v.1).bind fun v=>some (v.2.2.1==1,())else some (false,())
def Y9:Ent:=⟨104,⟨(.slot D9 (.slot .i .nil)),.nil⟩,⟨(.slot .bool .nil),.nil⟩,E8⟩
theorem wx:Ai Go.Proofs.Tryz.prog Y9:=okA (hcA 0 (all_cons iq all_nil)) Go.Proofs.Tryz.func104
abbrev ww:=Bool×List (List A2)×List A3×List A1×List A1×Int×Unit
abbrev wo:=Int×Unit
abbrev wq:=A3 ⊕ A3 ⊕ A3 ⊕ A3 ⊕ A3 ⊕ A3 ⊕ A3 ⊕ A3 ⊕ Unit
def C5 (i:ww)(v:wo)(R:Type)(K:wo ⊕ wq->Option R):Option R:=bif decide (v.1<(i.2.2.1.length:Int))then(lAt i.2.2.1 v.1).bind fun a=>(AJ ((a.1,a.2.1,a.2.2.1,a.2.2.2.1,a.2.2.2.2.1,a.2.2.2.2.2.1,a.2.2.2.2.2.2.1,a.2.2.2.2.2.2.2.1,a.2.2.2.2.2.2.2.2.1,()),())).bind fun b=>bif !b.1 then K (.inr (.inl (a.1,a.2.1,a.2.2.1,a.2.2.2.1,a.2.2.2.2.1,a.2.2.2.2.2.1,a.2.2.2.2.2.2.1,a.2.2.2.2.2.2.2.1,a.2.2.2.2.2.2.2.2.1,())))else bif decide (v.1>0)then(lAt i.2.2.1 (IntKind.i64.wrap (v.1-1))).bind fun c=>bif decide (c.1>=a.1)then K (.inr (.inr (.inl (a.1,a.2.1,a.2.2.1,a.2.2.2.1,a.2.2.2.2.1,a.2.2.2.2.2.1,a.2.2.2.2.2.2.1,a.2.2.2.2.2.2.2.1,a.2.2.2.2.2.2.2.2.1,()))))else bif decide (a.2.2.2.1>i.2.2.2.2.2.1)then K (.inr (.inr (.inr (.inl (a.1,a.2.1,a.2.2.1,a.2.2.2.1,a.2.2.2.2.1,a.2.2.2.2.2.1,a.2.2.2.2.2.2.1,a.2.2.2.2.2.2.2.1,a.2.2.2.2.2.2.2.2.1,())))))else bif decide (a.2.2.2.2.2.2.1>i.2.2.2.2.2.1)then K (.inr (.inr (.inr (.inr (.inl (a.1,a.2.1,a.2.2.1,a.2.2.2.1,a.2.2.2.2.1,a.2.2.2.2.2.1,a.2.2.2.2.2.2.1,a.2.2.2.2.2.2.2.1,a.2.2.2.2.2.2.2.2.1,()))))))else bif a.2.2.1==1 then(CR ((i.2.1,()),(a.1,a.2.1,a.2.2.1,a.2.2.2.1,a.2.2.2.2.1,a.2.2.2.2.2.1,a.2.2.2.2.2.2.1,a.2.2.2.2.2.2.2.1,a.2.2.2.2.2.2.2.2.1,()),())).bind fun d=>bif !d.1 then K (.inr (.inr (.inr (.inr (.inr (.inl (a.1,a.2.1,a.2.2.1,a.2.2.2.1,a.2.2.2.2.1,a.2.2.2.2.2.1,a.2.2.2.2.2.2.1,a.2.2.2.2.2.2.2.1,a.2.2.2.2.2.2.2.2.1,())))))))else K (.inl (IntKind.i64.wrap (v.1+1),()))else K (.inl (IntKind.i64.wrap (v.1+1),()))else bif decide (a.2.2.2.1>i.2.2.2.2.2.1)then K (.inr (.inr (.inr (.inr (.inr (.inr (.inl (a.1,a.2.1,a.2.2.1,a.2.2.2.1,a.2.2.2.2.1,a.2.2.2.2.2.1,a.2.2.2.2.2.2.1,a.2.2.2.2.2.2.2.1,a.2.2.2.2.2.2.2.2.1,()))))))))else bif decide (a.2.2.2.2.2.2.1>i.2.2.2.2.2.1)then K (.inr (.inr (.inr (.inr (.inr (.inr (.inr (.inl (a.1,a.2.1,a.2.2.1,a.2.2.2.1,a.2.2.2.2.1,a.2.2.2.2.2.1,a.2.2.2.2.2.2.1,a.2.2.2.2.2.2.2.1,a.2.2.2.2.2.2.2.2.1,())))))))))else bif a.2.2.1==1 then(CR ((i.2.1,()),(a.1,a.2.1,a.2.2.1,a.2.2.2.1,a.2.2.2.2.1,a.2.2.2.2.2.1,a.2.2.2.2.2.2.1,a.2.2.2.2.2.2.2.1,a.2.2.2.2.2.2.2.2.1,()),())).bind fun c=>bif !c.1 then K (.inr (.inr (.inr (.inr (.inr (.inr (.inr (.inr (.inl (a.1,a.2.1,a.2.2.1,a.2.2.2.1,a.2.2.2.2.1,a.2.2.2.2.2.1,a.2.2.2.2.2.2.1,a.2.2.2.2.2.2.2.1,a.2.2.2.2.2.2.2.2.1,()))))))))))else K (.inl (IntKind.i64.wrap (v.1+1),()))else K (.inl (IntKind.i64.wrap (v.1+1),()))else K (.inr (.inr (.inr (.inr (.inr (.inr (.inr (.inr (.inr ())))))))))
theorem K5:Bg C5:=fun i v R K=>Ae (Ac fun _=>Ac fun _=>Ae (Aa) (Ae (Ac fun _=>Ae (Aa) (Ae (Aa) (Ae (Aa) (Ae (Ac fun _=>Ae (Aa) (Aa)) (Aa))))) (Ae (Aa) (Ae (Aa) (Ae (Ac fun _=>Ae (Aa) (Aa)) (Aa)))))) (Aa)
def jA:Tmpl:=⟨(.junk (.ptr 0 0 0 (.junk (.slot .i (jk 134 .nil))))),(.cells 6 (.slot .bool (.slot (.slice (.slice Af)) (.slot (.slice Ad) (.slot (.slice A0) (.slot (.slice A0) (.slot .i .nil)))))) .nil)⟩
def wn:Exs ww wq:=xs .ret (fun i p=>⟨jn 1 (AV.ptr 0 none 0 0::.b (false)::jn 135 ([])),[some (Cont.cells 6 [[AV.pv .bool i.1,AV.pv (.slice (.slice Af)) i.2.1,AV.pv (.slice Ad) i.2.2.1,AV.pv (.slice A0) i.2.2.2.1,AV.pv (.slice A0) i.2.2.2.2.1,AV.pv (Ty.int IntKind.i64) i.2.2.2.2.2.1]]),some (Cont.cells 9 [[AV.pv .i p.1,AV.pv .i p.2.1,AV.pv .i p.2.2.1,AV.pv .i p.2.2.2.1,AV.pv .i p.2.2.2.2.1,AV.pv .i p.2.2.2.2.2.1,AV.pv .i p.2.2.2.2.2.2.1,AV.pv (.slice A0) p.2.2.2.2.2.2.2.1,AV.pv (.slice A0) p.2.2.2.2.2.2.2.2.1]])]⟩)<|xs .ret (fun i p=>⟨jn 1 (AV.ptr 0 none 0 0::.b (false)::jn 135 ([])),[some (Cont.cells 6 [[AV.pv .bool i.1,AV.pv (.slice (.slice Af)) i.2.1,AV.pv (.slice Ad) i.2.2.1,AV.pv (.slice A0) i.2.2.2.1,AV.pv (.slice A0) i.2.2.2.2.1,AV.pv (Ty.int IntKind.i64) i.2.2.2.2.2.1]]),some (Cont.cells 9 [[AV.pv .i p.1,AV.pv .i p.2.1,AV.pv .i p.2.2.1,AV.pv .i p.2.2.2.1,AV.pv .i p.2.2.2.2.1,AV.pv .i p.2.2.2.2.2.1,AV.pv .i p.2.2.2.2.2.2.1,AV.pv (.slice A0) p.2.2.2.2.2.2.2.1,AV.pv (.slice A0) p.2.2.2.2.2.2.2.2.1]])]⟩)<|xs .ret (fun i p=>⟨jn 1 (AV.ptr 0 none 0 0::.b (false)::jn 135 ([])),[some (Cont.cells 6 [[AV.pv .bool i.1,AV.pv (.slice (.slice Af)) i.2.1,AV.pv (.slice Ad) i.2.2.1,AV.pv (.slice A0) i.2.2.2.1,AV.pv (.slice A0) i.2.2.2.2.1,AV.pv (Ty.int IntKind.i64) i.2.2.2.2.2.1]]),some (Cont.cells 9 [[AV.pv .i p.1,AV.pv .i p.2.1,AV.pv .i p.2.2.1,AV.pv .i p.2.2.2.1,AV.pv .i p.2.2.2.2.1,AV.pv .i p.2.2.2.2.2.1,AV.pv .i p.2.2.2.2.2.2.1,AV.pv (.slice A0) p.2.2.2.2.2.2.2.1,AV.pv (.slice A0) p.2.2.2.2.2.2.2.2.1]])]⟩)<|xs .ret (fun i p=>⟨jn 1 (AV.ptr 0 none 0 0::.b (false)::jn 135 ([])),[some (Cont.cells 6 [[AV.pv .bool i.1,AV.pv (.slice (.slice Af)) i.2.1,AV.pv (.slice Ad) i.2.2.1,AV.pv (.slice A0) i.2.2.2.1,AV.pv (.slice A0) i.2.2.2.2.1,AV.pv (Ty.int IntKind.i64) i.2.2.2.2.2.1]]),some (Cont.cells 9 [[AV.pv .i p.1,AV.pv .i p.2.1,AV.pv .i p.2.2.1,AV.pv .i p.2.2.2.1,AV.pv .i p.2.2.2.2.1,AV.pv .i p.2.2.2.2.2.1,AV.pv .i p.2.2.2.2.2.2.1,AV.pv (.slice A0) p.2.2.2.2.2.2.2.1,AV.pv (.slice A0) p.2.2.2.2.2.2.2.2.1]])]⟩)<|xs .ret (fun i p=>⟨jn 1 (AV.ptr 0 none 0 0::.b (false)::jn 135 ([])),[some (Cont.cells 6 [[AV.pv .bool i.1,AV.pv (.slice (.slice Af)) i.2.1,AV.pv (.slice Ad) i.2.2.1,AV.pv (.slice A0) i.2.2.2.1,AV.pv (.slice A0) i.2.2.2.2.1,AV.pv (Ty.int IntKind.i64) i.2.2.2.2.2.1]]),some (Cont.cells 9 [[AV.pv .i p.1,AV.pv .i p.2.1,AV.pv .i p.2.2.1,AV.pv .i p.2.2.2.1,AV.pv .i p.2.2.2.2.1,AV.pv .i p.2.2.2.2.2.1,AV.pv .i p.2.2.2.2.2.2.1,AV.pv (.slice A0) p.2.2.2.2.2.2.2.1,AV.pv (.slice A0) p.2.2.2.2.2.2.2.2.1]])]⟩)<|xs .ret (fun i p=>⟨jn 1 (AV.ptr 0 none 0 0::.b (false)::jn 135 ([])),[some (Cont.cells 6 [[AV.pv .bool i.1,AV.pv (.slice (.slice Af)) i.2.1,AV.pv (.slice Ad) i.2.2.1,AV.pv (.slice A0) i.2.2.2.1,AV.pv (.slice A0) i.2.2.2.2.1,AV.pv (Ty.int IntKind.i64) i.2.2.2.2.2.1]]),some (Cont.cells 9 [[AV.pv .i p.1,AV.pv .i p.2.1,AV.pv .i p.2.2.1,AV.pv .i p.2.2.2.1,AV.pv .i p.2.2.2.2.1,AV.pv .i p.2.2.2.2.2.1,AV.pv .i p.2.2.2.2.2.2.1,AV.pv (.slice A0) p.2.2.2.2.2.2.2.1,AV.pv (.slice A0) p.2.2.2.2.2.2.2.2.1]])]⟩)<|xs .ret (fun i p=>⟨jn 1 (AV.ptr 0 none 0 0::.b (false)::jn 135 ([])),[some (Cont.cells 6 [[AV.pv .bool i.1,AV.pv (.slice (.slice Af)) i.2.1,AV.pv (.slice Ad) i.2.2.1,AV.pv (.slice A0) i.2.2.2.1,AV.pv (.slice A0) i.2.2.2.2.1,AV.pv (Ty.int IntKind.i64) i.2.2.2.2.2.1]]),some (Cont.cells 9 [[AV.pv .i p.1,AV.pv .i p.2.1,AV.pv .i p.2.2.1,AV.pv .i p.2.2.2.1,AV.pv .i p.2.2.2.2.1,AV.pv .i p.2.2.2.2.2.1,AV.pv .i p.2.2.2.2.2.2.1,AV.pv (.slice A0) p.2.2.2.2.2.2.2.1,AV.pv (.slice A0) p.2.2.2.2.2.2.2.2.1]])]⟩)<|xs .ret (fun i p=>⟨jn 1 (AV.ptr 0 none 0 0::.b (false)::jn 135 ([])),[some (Cont.cells 6 [[AV.pv .bool i.1,AV.pv (.slice (.slice Af)) i.2.1,AV.pv (.slice Ad) i.2.2.1,AV.pv (.slice A0) i.2.2.2.1,AV.pv (.slice A0) i.2.2.2.2.1,AV.pv (Ty.int IntKind.i64) i.2.2.2.2.2.1]]),some (Cont.cells 9 [[AV.pv .i p.1,AV.pv .i p.2.1,AV.pv .i p.2.2.1,AV.pv .i p.2.2.2.1,AV.pv .i p.2.2.2.2.1,AV.pv .i p.2.2.2.2.2.1,AV.pv .i p.2.2.2.2.2.2.1,AV.pv (.slice A0) p.2.2.2.2.2.2.2.1,AV.pv (.slice A0) p.2.2.2.2.2.2.2.2.1]])]⟩)<|x1 (.exit 0) fun i p=>⟨jn 1 (AV.ptr 0 none 0 0::jn 136 ([])),[some (Cont.cells 6 [[AV.pv .bool i.1,AV.pv (.slice (.slice Af)) i.2.1,AV.pv (.slice Ad) i.2.2.1,AV.pv (.slice A0) i.2.2.2.1,AV.pv (.slice A0) i.2.2.2.2.1,AV.pv .i i.2.2.2.2.2.1]])]⟩
def wu:=((.v (.i (.i (.i (.i (.i (.i .n))))))):Pk jA.ty _ _)
abbrev l4:=Bool×List (List A2)×List A3×List A1×List A1×Int×Unit
abbrev kU:=Int×Unit
abbrev kX:=Unit ⊕ Unit
def BT (i:l4)(v:kU)(R:Type)(K:kU ⊕ kX->Option R):Option R:=bif decide (v.1<(i.2.2.2.1.length:Int))then(lAt i.2.2.2.1 v.1).bind fun a=>(E8 ((i.1,(i.2.1,()),i.2.2.1,i.2.2.2.1,i.2.2.2.2.1,i.2.2.2.2.2.1,()),a.2.1,())).bind fun b=>bif !b.1 then K (.inr (.inl ()))else K (.inl (IntKind.i64.wrap (v.1+1),()))else K (.inr (.inr ()))
theorem JK:Bg BT:=fun i v R K=>Ae (Ac fun _=>Ac fun _=>Ae (Aa) (Aa)) (Aa)
def aV:Tmpl:=⟨(.junk (.ptr 0 0 0 (jk 3 (.slot .i (jk 132 .nil))))),(.cells 6 (.slot .bool (.slot (.slice (.slice Af)) (.slot (.slice Ad) (.slot (.slice A0) (.slot (.slice A0) (.slot .i .nil)))))) .nil)⟩
def kQ:Exs l4 kX:=xs .ret (fun i p=>⟨jn 1 (AV.ptr 0 none 0 0::.b (false)::jn 135 ([])),[some (Cont.cells 6 [[AV.pv .bool i.1,AV.pv (.slice (.slice Af)) i.2.1,AV.pv (.slice Ad) i.2.2.1,AV.pv (.slice A0) i.2.2.2.1,AV.pv (.slice A0) i.2.2.2.2.1,AV.pv (Ty.int IntKind.i64) i.2.2.2.2.2.1]])]⟩)<|x1 (.exit 2) fun i p=>⟨jn 1 (AV.ptr 0 none 0 0::jn 136 ([])),[some (Cont.cells 6 [[AV.pv .bool i.1,AV.pv (.slice (.slice Af)) i.2.1,AV.pv (.slice Ad) i.2.2.1,AV.pv (.slice A0) i.2.2.2.1,AV.pv (.slice A0) i.2.2.2.2.1,AV.pv .i i.2.2.2.2.2.1]])]⟩
def kZ:=((.v (.i (.i (.i (.i (.i (.i .n))))))):Pk aV.ty _ _)
abbrev l3:=Bool×List (List A2)×List A3×List A1×List A1×Int×Unit
abbrev kT:=Int×Unit
abbrev kV:=Unit ⊕ Unit ⊕ Unit
def BS (i:l3)(v:kT)(R:Type)(K:kT ⊕ kV->Option R):Option R:=bif decide (v.1<(i.2.2.2.2.1.length:Int))then(lAt i.2.2.2.2.1 v.1).bind fun a=>(E8 ((i.1,(i.2.1,()),i.2.2.1,i.2.2.2.1,i.2.2.2.2.1,i.2.2.2.2.2.1,()),a.1,())).bind fun b=>bif !b.1 then K (.inr (.inl ()))else(lAt i.2.2.2.2.1 v.1).bind fun c=>(E8 ((i.1,(i.2.1,()),i.2.2.1,i.2.2.2.1,i.2.2.2.2.1,i.2.2.2.2.2.1,()),c.2.1,())).bind fun d=>bif !d.1 then K (.inr (.inr (.inl ())))else K (.inl (IntKind.i64.wrap (v.1+1),()))else K (.inr (.inr (.inr ())))
theorem JJ:Bg BS:=fun i v R K=>Ae (Ac fun _=>Ac fun _=>Ae (Aa) (Ac fun _=>Ac fun _=>Ae (Aa) (Aa))) (Aa)
def aU:Tmpl:=⟨(.junk (.ptr 0 0 0 (jk 4 (.slot .i (jk 131 .nil))))),(.cells 6 (.slot .bool (.slot (.slice (.slice Af)) (.slot (.slice Ad) (.slot (.slice A0) (.slot (.slice A0) (.slot .i .nil)))))) .nil)⟩
def kP:Exs l3 kV:=xs .ret (fun i p=>⟨jn 2 (.b (false)::jn 135 ([])),[some (Cont.cells 6 [[AV.pv .bool i.1,AV.pv (.slice (.slice Af)) i.2.1,AV.pv (.slice Ad) i.2.2.1,AV.pv (.slice A0) i.2.2.2.1,AV.pv (.slice A0) i.2.2.2.2.1,AV.pv .i i.2.2.2.2.2.1]])]⟩)<|xs .ret (fun i p=>⟨jn 2 (.b (false)::jn 135 ([])),[some (Cont.cells 6 [[AV.pv .bool i.1,AV.pv (.slice (.slice Af)) i.2.1,AV.pv (.slice Ad) i.2.2.1,AV.pv (.slice A0) i.2.2.2.1,AV.pv (.slice A0) i.2.2.2.2.1,AV.pv .i i.2.2.2.2.2.1]])]⟩)<|x1 (.exit 4) fun i p=>⟨jn 138 ([]),[some (Cont.cells 6 [[AV.pv .bool i.1,AV.pv (.slice (.slice Af)) i.2.1,AV.pv (.slice Ad) i.2.2.1,AV.pv (.slice A0) i.2.2.2.1,AV.pv (.slice A0) i.2.2.2.2.1,AV.pv .i i.2.2.2.2.2.1]])]⟩
def kY:=((.v (.i (.i (.i (.i (.i (.i .n))))))):Pk aU.ty _ _)
def cc:Cfg:={ti:=Aw,ents:=[Q6,W8,RD,b8,Nb,SG,W4,Y9],ann:=[(4,Ao jA 0 (spP wu) C5 wn.E),(10,Ao aV 0 (spP kZ) BT kQ.E),(15,Ao aU 0 (spP kY) BS kP.E)],lent:=0}
def EF (x:A5×Unit):Option (Bool×Unit):=(Bk ((x.1.2.1.1,()),())).bind fun v=>bif !v.1 then some (false,())else(DF (x.1.2.2.2.1,())).bind fun v=>bif !v.1 then some (false,())else(DE (x.1.2.2.2.2.1,())).bind fun v=>bif !v.1 then some (false,())else(Fy ((x.1.2.1.1,()),())).bind fun v=>(Ak (x.1.2.2.2.2.2.1,v.1,999,())).bind fun v=>bif !v.1 then some (false,())else bif decide ((x.1.2.2.1.length:Int)>6)then some (false,())else(AC (fun v=>C5 (x.1.1,x.1.2.1.1,x.1.2.2.1,x.1.2.2.2.1,x.1.2.2.2.2.1,x.1.2.2.2.2.2.1,()) v _ some) (0,())).bind fun p=>Az p (fun p=>some (false,())) fun p=>Az p (fun p=>some (false,())) fun p=>Az p (fun p=>some (false,())) fun p=>Az p (fun p=>some (false,())) fun p=>Az p (fun p=>some (false,())) fun p=>Az p (fun p=>some (false,())) fun p=>Az p (fun p=>some (false,())) fun p=>Az p (fun p=>some (false,())) fun p=>(AC (fun v=>BT (x.1.1,x.1.2.1.1,x.1.2.2.1,x.1.2.2.2.1,x.1.2.2.2.2.1,x.1.2.2.2.2.2.1,()) v _ some) (0,())).bind fun p=>Az p (fun p=>some (false,())) fun p=>(AC (fun v=>BS (x.1.1,x.1.2.1.1,x.1.2.2.1,x.1.2.2.2.1,x.1.2.2.2.2.1,x.1.2.2.2.2.2.1,()) v _ some) (0,())).bind fun p=>Az p (fun p=>some (false,())) fun p=>Az p (fun p=>some (false,())) fun p=>some (true,())
def aW:Ent:=⟨51,⟨(.slot D9 .nil),.nil⟩,⟨(.slot .bool .nil),.nil⟩,EF⟩
theorem VF:CfgOK Go.Proofs.Tryz.prog cc:=hcB (all_cons Qw (all_cons ba (all_cons b9 (all_cons jI (all_cons KM (all_cons Qv (all_cons aX (all_cons wx all_nil))))))))
theorem wl:B9 Go.Proofs.Tryz.prog cc (lpc Go.Proofs.Tryz.f51 2):=lkA VF aU kY BS kP [2] JJ
theorem wm:B9 Go.Proofs.Tryz.prog cc (lpc Go.Proofs.Tryz.f51 1):=lkA VF aV kZ BT kQ [1,2] JK
theorem A4h:B9 Go.Proofs.Tryz.prog cc (lpc Go.Proofs.Tryz.f51 0):=lkA VF jA wu C5 wn [1,2] K5
theorem wv:Ai Go.Proofs.Tryz.prog aW:=YE VF Go.Proofs.Tryz.func51 3 (by kernel_rfl) (fun k hk=>match k,hk with|0,_=>A4h|1,_=>wm|2,_=>wl) (by kernel_rfl) (by kernel_rfl) (fun x=>by kernel_rfl)
def Ea (x:A6×Unit):Option (Bool×Unit):=bif x.1.1==1 then bif !(x.1.1==x.1.1&&(x.1.2.1==x.1.2.1&&(x.1.2.2.1==x.1.2.2.1&&(0==x.1.2.2.2.1&&(0==x.1.2.2.2.2.1&&(0==x.1.2.2.2.2.2.1&&true))))))then some (false,())else(Ak (x.1.2.1,1,9,())).bind fun v=>bif !v.1 then some (false,())else(Ak (x.1.2.2.2.1,0,5,())).bind fun v=>bif !v.1 then some (false,())else(Ak (x.1.2.2.2.2.2.1,-1,99,())).bind fun v=>bif !v.1 then some (false,())else bif x.1.1 != 1 then bif x.1.1 != 4 then some (true,())else(Ak (x.1.2.2.2.2.1,x.1.2.2.2.1,5,())).bind fun v=>some (v.1,())else(Ak (x.1.2.2.1,1,4,())).bind fun v=>bif v.1 then bif x.1.1 != 4 then some (true,())else(Ak (x.1.2.2.2.2.1,x.1.2.2.2.1,5,())).bind fun v=>some (v.1,())else some (false,())else bif x.1.1==2 then bif !(x.1.1==x.1.1&&(x.1.2.1==x.1.2.1&&(0==x.1.2.2.1&&(x.1.2.2.2.1==x.1.2.2.2.1&&(0==x.1.2.2.2.2.1&&(0==x.1.2.2.2.2.2.1&&true))))))then some (false,())else(Ak (x.1.2.1,1,9,())).bind fun v=>bif !v.1 then some (false,())else(Ak (x.1.2.2.2.1,0,5,())).bind fun v=>bif !v.1 then some (false,())else(Ak (x.1.2.2.2.2.2.1,-1,99,())).bind fun v=>bif !v.1 then some (false,())else bif x.1.1 != 1 then bif x.1.1 != 4 then some (true,())else(Ak (x.1.2.2.2.2.1,x.1.2.2.2.1,5,())).bind fun v=>some (v.1,())else(Ak (x.1.2.2.1,1,4,())).bind fun v=>bif v.1 then bif x.1.1 != 4 then some (true,())else(Ak (x.1.2.2.2.2.1,x.1.2.2.2.1,5,())).bind fun v=>some (v.1,())else some (false,())else bif x.1.1==3 then bif !(x.1.1==x.1.1&&(x.1.2.1==x.1.2.1&&(0==x.1.2.2.1&&(x.1.2.2.2.1==x.1.2.2.2.1&&(0==x.1.2.2.2.2.1&&(x.1.2.2.2.2.2.1==x.1.2.2.2.2.2.1&&true))))))then some (false,())else(Ak (x.1.2.1,1,9,())).bind fun v=>bif !v.1 then some (false,())else(Ak (x.1.2.2.2.1,0,5,())).bind fun v=>bif !v.1 then some (false,())else(Ak (x.1.2.2.2.2.2.1,-1,99,())).bind fun v=>bif !v.1 then some (false,())else bif x.1.1 != 1 then bif x.1.1 != 4 then some (true,())else(Ak (x.1.2.2.2.2.1,x.1.2.2.2.1,5,())).bind fun v=>some (v.1,())else(Ak (x.1.2.2.1,1,4,())).bind fun v=>bif v.1 then bif x.1.1 != 4 then some (true,())else(Ak (x.1.2.2.2.2.1,x.1.2.2.2.1,5,())).bind fun v=>some (v.1,())else some (false,())else bif x.1.1==4 then bif !(x.1.1==x.1.1&&(x.1.2.1==x.1.2.1&&(0==x.1.2.2.1&&(x.1.2.2.2.1==x.1.2.2.2.1&&(x.1.2.2.2.2.1==x.1.2.2.2.2.1&&(0==x.1.2.2.2.2.2.1&&true))))))then some (false,())else(Ak (x.1.2.1,1,9,())).bind fun v=>bif !v.1 then some (false,())else(Ak (x.1.2.2.2.1,0,5,())).bind fun v=>bif !v.1 then some (false,())else(Ak (x.1.2.2.2.2.2.1,-1,99,())).bind fun v=>bif !v.1 then some (false,())else bif x.1.1 != 1 then bif x.1.1 != 4 then some (true,())else(Ak (x.1.2.2.2.2.1,x.1.2.2.2.1,5,())).bind fun v=>some (v.1,())else(Ak (x.1.2.2.1,1,4,())).bind fun v=>bif v.1 then bif x.1.1 != 4 then some (true,())else(Ak (x.1.2.2.2.2.1,x.1.2.2.2.1,5,())).bind fun v=>some (v.1,())else some (false,())else bif x.1.1==5 then bif x.1.1==5 then bif !(x.1.1==x.1.1&&(x.1.2.1==x.1.2.1&&(0==x.1.2.2.1&&(0==x.1.2.2.2.1&&(0==x.1.2.2.2.2.1&&(0==x.1.2.2.2.2.2.1&&true))))))then some (false,())else(Ak (x.1.2.1,1,9,())).bind fun v=>bif !v.1 then some (false,())else(Ak (x.1.2.2.2.1,0,5,())).bind fun v=>bif !v.1 then some (false,())else(Ak (x.1.2.2.2.2.2.1,-1,99,())).bind fun v=>bif !v.1 then some (false,())else bif x.1.1 != 1 then bif x.1.1 != 4 then some (true,())else(Ak (x.1.2.2.2.2.1,x.1.2.2.2.1,5,())).bind fun v=>some (v.1,())else(Ak (x.1.2.2.1,1,4,())).bind fun v=>bif v.1 then bif x.1.1 != 4 then some (true,())else(Ak (x.1.2.2.2.2.1,x.1.2.2.2.1,5,())).bind fun v=>some (v.1,())else some (false,())else some (false,())else bif x.1.1==6 then bif !(x.1.1==x.1.1&&(x.1.2.1==x.1.2.1&&(0==x.1.2.2.1&&(0==x.1.2.2.2.1&&(0==x.1.2.2.2.2.1&&(0==x.1.2.2.2.2.2.1&&true))))))then some (false,())else(Ak (x.1.2.1,1,9,())).bind fun v=>bif !v.1 then some (false,())else(Ak (x.1.2.2.2.1,0,5,())).bind fun v=>bif !v.1 then some (false,())else(Ak (x.1.2.2.2.2.2.1,-1,99,())).bind fun v=>bif !v.1 then some (false,())else bif x.1.1 != 1 then bif x.1.1 != 4 then some (true,())else(Ak (x.1.2.2.2.2.1,x.1.2.2.2.1,5,())).bind fun v=>some (v.1,())else(Ak (x.1.2.2.1,1,4,())).bind fun v=>bif v.1 then bif x.1.1 != 4 then some (true,())else(Ak (x.1.2.2.2.2.1,x.1.2.2.2.1,5,())).bind fun v=>some (v.1,())else some (false,())else some (false,())
def XD:Ent:=⟨52,⟨(.slot YOp .nil),.nil⟩,⟨(.slot .bool .nil),.nil⟩,Ea⟩
theorem kO:Ai Go.Proofs.Tryz.prog XD:=okA (hcA 0 (all_cons KM all_nil)) Go.Proofs.Tryz.func52
def Ew (x:B3):Option (Int×Int×Int×Int×Int×Int×Int×Bool×Unit):=(AJ ((x.1,x.2.1,1,x.2.2.1,0,1000,0,[],[],()),())).bind fun v=>bif !v.1 then some (0,0,0,0,0,0,0,false,())else some (x.1,x.2.1,1,x.2.2.1,0,1000,0,true,())
def Zj:Ent:=⟨53,⟨(si 3 .nil),.nil⟩,⟨(.agg (si 7 (.const (AV.nils) (.const (AV.nils) .nil))) (.slot .bool .nil)),.nil⟩,Ew⟩
theorem wk:Ai Go.Proofs.Tryz.prog Zj:=okA (hcA 0 (all_cons Qv all_nil)) Go.Proofs.Tryz.func53
abbrev wi:=List A1×Int×Unit
abbrev wd:=Int×List A1×Unit
abbrev we:=List A1×Unit
def EL (i:wi)(v:wd)(R:Type)(K:wd ⊕ we->Option R):Option R:=bif decide (v.1<(i.1.length:Int))then(lAt i.1 v.1).bind fun a=>bif a.1 != i.2.1 then(lAt i.1 v.1).bind fun b=>if(v.2.1++[(b.1,b.2.1,())]).length<=2199023255552 then K (.inl (IntKind.i64.wrap (v.1+1),v.2.1++[(b.1,b.2.1,())],()))else none else K (.inl (IntKind.i64.wrap (v.1+1),v.2.1,()))else K (.inr (v.2.1,()))
theorem Nc:Bg EL:=fun i v R K=>Ae (Ac fun _=>Ae (Ac fun _=>Aq (Aa)) (Aa)) (Aa)
def jz:Tmpl:=⟨(.slot (.slice A0) (.slot .i (jk 3 (.own 0 (.slot .i (jk 22 .nil)))))),(.lst false A0 .nil)⟩
def wc:Exs wi we:=x1 (.exit 0) fun i p=>⟨jn 5 (AV.own 0 none none::jn 23 ([])),[some (Cont.lst false A0 p.1)]⟩
def wg:=((.i (.i (.v (.v .n)))):Pk jz.ty _ _)
def A8d:Cfg:={ti:=Aw,ents:=[],ann:=[(3,Ao jz 0 (spP wg) EL wc.E)],lent:=0}
def HY (x:List A1×Int×Unit):Option (List A1×Unit):=(AC (fun v=>EL (x.1,x.2.1,()) v _ some) (0,[],())).bind fun p=>some (p.1,())
def Y8:Ent:=⟨54,⟨(.slot (.slice A0) (.slot .i .nil)),.nil⟩,⟨(.own 0 .nil),(.lst false A0 .nil)⟩,HY⟩
theorem wj:CfgOK Go.Proofs.Tryz.prog A8d:=hcB all_nil
theorem A4f:B9 Go.Proofs.Tryz.prog A8d (lpc Go.Proofs.Tryz.f54 0):=lkA wj jz wg EL wc [5] Nc
theorem wh:Ai Go.Proofs.Tryz.prog Y8:=okB wj Go.Proofs.Tryz.func54 A4f
abbrev wb:=Int×A3
abbrev w8:=Int×Unit
abbrev w9:=Int×Unit ⊕ Unit
def Dw (i:wb)(v:w8)(R:Type)(K:w8 ⊕ w9->Option R):Option R:=bif decide (v.1<(i.2.2.2.2.2.2.2.2.2.1.length:Int))then(lAt i.2.2.2.2.2.2.2.2.2.1 v.1).bind fun a=>bif a.1==i.1 then K (.inr (.inl (v.1,())))else K (.inl (IntKind.i64.wrap (v.1+1),()))else K (.inr (.inr ()))
theorem LY:Bg Dw:=fun i v R K=>Ae (Ac fun _=>Ae (Aa) (Aa)) (Aa)
def jy:Tmpl:=⟨(.junk (.slot .i (.ptr 0 0 0 (jk 2 (.slot .i (jk 16 .nil)))))),(.cells 9 (si 7 (.slot (.slice A0) (.slot (.slice A0) .nil))) .nil)⟩
def w7:Exs wb w9:=xs .ret (fun i p=>⟨jn 4 (.n (p.1)::jn 17 ([])),[some (Cont.cells 9 [[AV.pv .i i.2.1,AV.pv .i i.2.2.1,AV.pv .i i.2.2.2.1,AV.pv .i i.2.2.2.2.1,AV.pv .i i.2.2.2.2.2.1,AV.pv .i i.2.2.2.2.2.2.1,AV.pv .i i.2.2.2.2.2.2.2.1,AV.pv (.slice A0) i.2.2.2.2.2.2.2.2.1,AV.pv (.slice A0) i.2.2.2.2.2.2.2.2.2.1]])]⟩)<|x1 (.exit 0) fun i p=>⟨jn 22 ([]),[some (Cont.cells 9 [[AV.pv .i i.2.1,AV.pv .i i.2.2.1,AV.pv .i i.2.2.2.1,AV.pv .i i.2.2.2.2.1,AV.pv .i i.2.2.2.2.2.1,AV.pv (Ty.int IntKind.i64) i.2.2.2.2.2.2.1,AV.pv .i i.2.2.2.2.2.2.2.1,AV.pv (.slice A0) i.2.2.2.2.2.2.2.2.1,AV.pv (.slice A0) i.2.2.2.2.2.2.2.2.2.1]])]⟩
def wa:=((.i (.v (.i (.i (.i (.i (.i (.i (.i (.i (.i .n))))))))))):Pk jy.ty _ _)
def r6:Cfg:={ti:=Aw,ents:=[],ann:=[(2,Ao jy 0 (spP wa) Dw w7.E)],lent:=0}
def GO (x:A3×Int×Unit):Option (Int×Unit):=(AC (fun v=>Dw (x.2.1,x.1.1,x.1.2.1,x.1.2.2.1,x.1.2.2.2.1,x.1.2.2.2.2.1,x.1.2.2.2.2.2.1,x.1.2.2.2.2.2.2.1,x.1.2.2.2.2.2.2.2.1,x.1.2.2.2.2.2.2.2.2.1,()) v _ some) (0,())).bind fun p=>Az p (fun p=>some (p.1,())) fun p=>some (-1,())
def W3:Ent:=⟨105,⟨(.slot Ad (.slot .i .nil)),.nil⟩,⟨(.slot .i .nil),.nil⟩,GO⟩
theorem ep:CfgOK Go.Proofs.Tryz.prog r6:=hcB all_nil
theorem A4e:B9 Go.Proofs.Tryz.prog r6 (lpc Go.Proofs.Tryz.f105 0):=lkA ep jy wa Dw w7 [4] LY
theorem qx:Ai Go.Proofs.Tryz.prog W3:=okB ep Go.Proofs.Tryz.func105 A4e
def Fw (x:A4×A3×Int×Unit):Option (Bool×Unit):=(Bk ((x.1.1,()),())).bind fun v=>bif v.1 then(AJ ((x.2.1.1,x.2.1.2.1,x.2.1.2.2.1,x.2.1.2.2.2.1,x.2.1.2.2.2.2.1,x.2.1.2.2.2.2.2.1,x.2.1.2.2.2.2.2.2.1,x.2.1.2.2.2.2.2.2.2.1,x.2.1.2.2.2.2.2.2.2.2.1,()),())).bind fun v=>bif v.1 then bif x.2.1.2.2.1==1 then(Ak (x.2.2.1,0,5,())).bind fun v=>some (v.1,())else some (false,())else some (false,())else some (false,())
def W2:Ent:=⟨173,⟨(.slot Bp (.slot Ad (.slot .i .nil))),.nil⟩,⟨(.slot .bool .nil),.nil⟩,Fw⟩
theorem Z7:Ai Go.Proofs.Tryz.prog W2:=okA (hcA 0 (all_cons Qw (all_cons Qv (all_cons KM all_nil)))) Go.Proofs.Tryz.func173
def Bq (x:List A2×Unit):Option A2:=(Ck (x.1,())).bind fun v=>bif !v.1 then some (0,0,0,0,0,())else(lAt x.1 (IntKind.i64.wrap ((x.1.length:Int)-1))).bind fun v=>some (v.1,v.2.1,v.2.2.1,v.2.2.2.1,v.2.2.2.2.1,())
def SF:Ent:=⟨174,⟨(.slot (.slice Af) .nil),.nil⟩,⟨(.agg (si 5 .nil) .nil),.nil⟩,Bq⟩
theorem Rg:Ai Go.Proofs.Tryz.prog SF:=okA (hcA 0 (all_cons bw all_nil)) Go.Proofs.Tryz.func174
abbrev ek:=List A2×Int×Unit
abbrev eh:=Int×Int×Unit
abbrev ei:=Int×Unit ⊕ Int×Unit
def Dt (i:ek)(v:eh)(R:Type)(K:eh ⊕ ei->Option R):Option R:=bif decide (v.2.1<(i.1.length:Int))then(Ck (i.1,())).bind fun a=>bif a.1 then(lAt i.1 v.2.1).bind fun b=>bif decide (b.2.2.1<=i.2.1)then K (.inl (v.2.1,IntKind.i64.wrap (v.2.1+1),()))else K (.inl (v.1,IntKind.i64.wrap (v.2.1+1),()))else K (.inr (.inl (v.1,())))else K (.inr (.inr (v.1,())))
theorem LU:Bg Dt:=fun i v R K=>Ae (Ac fun _=>Ae (Ac fun _=>Ae (Aa) (Aa)) (Aa)) (Aa)
def WA:Tmpl:=⟨(.slot (.slice Af) (.slot .i (jk 3 (si 2 (jk 19 .nil))))),.nil⟩
def ed:Exs ek ei:=xs (.exit 0) (fun i p=>⟨jn 5 (.n (p.1)::jn 20 ([])),[]⟩)<|x1 (.exit 0) fun i p=>⟨jn 5 (.n (p.1)::jn 20 ([])),[]⟩
def ej:=((.i (.i (.v (.v .n)))):Pk WA.ty _ _)
def r5:Cfg:={ti:=Aw,ents:=[W9],ann:=[(3,Ao WA 0 (spP ej) Dt ed.E)],lent:=0}
def GL (x:List A2×Int×Unit):Option (Int×Unit):=(AC (fun v=>Dt (x.1,x.2.1,()) v _ some) (-1,0,())).bind fun p=>Az p (fun p=>some (p.1,())) fun p=>some (p.1,())
def cr:Ent:=⟨222,⟨(.slot (.slice Af) (.slot .i .nil)),.nil⟩,⟨(.slot .i .nil),.nil⟩,GL⟩
theorem eo:CfgOK Go.Proofs.Tryz.prog r5:=hcB (all_cons bw all_nil)
theorem kM:B9 Go.Proofs.Tryz.prog r5 (lpc Go.Proofs.Tryz.f222 0):=lkA eo WA ej Dt ed [5] LU
theorem rE:Ai Go.Proofs.Tryz.prog cr:=okB eo Go.Proofs.Tryz.func222 kM
def Kj (x:A4×Int×Int×Unit):Option (Int×Int×Int×Int×Int×Bool×Unit):=(Bk ((x.1.1,()),())).bind fun v=>bif !v.1 then some (0,0,0,0,0,false,())else(Ak (x.2.1,0,5,())).bind fun v=>bif !v.1 then some (0,0,0,0,0,false,())else(lAt x.1.1 x.2.1).bind fun v=>(GL (v,x.2.2.1,())).bind fun v=>bif decide (v.1<0)then some (0,0,0,0,0,false,())else(lAt x.1.1 x.2.1).bind fun a=>(lAt a v.1).bind fun v=>some (v.1,v.2.1,v.2.2.1,v.2.2.2.1,v.2.2.2.2.1,true,())
def hZ:Ent:=⟨175,⟨(.slot Bp (si 2 .nil)),.nil⟩,⟨(.agg (si 5 .nil) (.slot .bool .nil)),.nil⟩,Kj⟩
theorem qw:Ai Go.Proofs.Tryz.prog hZ:=okA (hcA 0 (all_cons Qw (all_cons KM (all_cons rE all_nil)))) Go.Proofs.Tryz.func175
def EV (x:A4×A3×Int×Unit):Option A6:=(Fw ((x.1.1,()),(x.2.1.1,x.2.1.2.1,x.2.1.2.2.1,x.2.1.2.2.2.1,x.2.1.2.2.2.2.1,x.2.1.2.2.2.2.2.1,x.2.1.2.2.2.2.2.2.1,x.2.1.2.2.2.2.2.2.2.1,x.2.1.2.2.2.2.2.2.2.2.1,()),x.2.2.1,())).bind fun v=>bif !v.1 then some (0,0,0,0,0,6,())else(lAt x.1.1 x.2.2.1).bind fun v=>(Bq (v,())).bind fun v=>bif x.2.1.2.1==2 then(Kj ((x.1.1,()),x.2.2.1,x.2.1.2.2.2.1,())).bind fun v=>bif !v.2.2.2.2.2.1 then some (0,0,0,0,0,3,())else some (v.1,v.2.1,v.2.2.1,v.2.2.2.1,v.2.2.2.2.1,0,())else bif x.2.1.2.1==4 then bif decide (v.2.2.1>x.2.1.2.2.2.1)then some (0,0,0,0,0,3,())else some (v.1,v.2.1,v.2.2.1,v.2.2.2.1,v.2.2.2.2.1,0,())else some (v.1,v.2.1,v.2.2.1,v.2.2.2.1,v.2.2.2.2.1,0,())
def Qi:Ent:=⟨106,⟨(.slot Bp (.slot Ad (.slot .i .nil))),.nil⟩,⟨(.agg (si 5 .nil) (.slot .i .nil)),.nil⟩,EV⟩
theorem Qg:Ai Go.Proofs.Tryz.prog Qi:=okA (hcA 0 (all_cons Z7 (all_cons Rg (all_cons qw all_nil)))) Go.Proofs.Tryz.func106
abbrev w4:=List A1×Int×Unit
abbrev vX:=Int×List A1×Unit
abbrev vY:=List A1×Unit
def CB (i:w4)(v:vX)(R:Type)(K:vX ⊕ vY->Option R):Option R:=bif decide (v.1<(i.1.length:Int))then(lAt i.1 v.1).bind fun a=>bif a.2.1 != i.2.1 then(lAt i.1 v.1).bind fun b=>if(v.2.1++[(b.1,b.2.1,())]).length<=2199023255552 then K (.inl (IntKind.i64.wrap (v.1+1),v.2.1++[(b.1,b.2.1,())],()))else none else K (.inl (IntKind.i64.wrap (v.1+1),v.2.1,()))else K (.inr (v.2.1,()))
theorem Ki:Bg CB:=fun i v R K=>Ae (Ac fun _=>Ae (Ac fun _=>Aq (Aa)) (Aa)) (Aa)
def jx:Tmpl:=⟨(.slot (.slice A0) (.slot .i (jk 3 (.own 0 (.slot .i (jk 22 .nil)))))),(.lst false A0 .nil)⟩
def vW:Exs w4 vY:=x1 (.exit 0) fun i p=>⟨jn 5 (AV.own 0 none none::jn 23 ([])),[some (Cont.lst false A0 p.1)]⟩
def vZ:=((.i (.i (.v (.v .n)))):Pk jx.ty _ _)
def A85:Cfg:={ti:=Aw,ents:=[],ann:=[(3,Ao jx 0 (spP vZ) CB vW.E)],lent:=0}
def DL (x:List A1×Int×Unit):Option (List A1×Unit):=(AC (fun v=>CB (x.1,x.2.1,()) v _ some) (0,[],())).bind fun p=>some (p.1,())
def hY:Ent:=⟨117,⟨(.slot (.slice A0) (.slot .i .nil)),.nil⟩,⟨(.own 0 .nil),(.lst false A0 .nil)⟩,DL⟩
theorem w5:CfgOK Go.Proofs.Tryz.prog A85:=hcB all_nil
theorem A4d:B9 Go.Proofs.Tryz.prog A85 (lpc Go.Proofs.Tryz.f117 0):=lkA w5 jx vZ CB vW [5] Ki
theorem qv:Ai Go.Proofs.Tryz.prog hY:=okB w5 Go.Proofs.Tryz.func117 A4d
abbrev vV:=List A1×Int×Unit
abbrev vS:=Int×List A1×Unit
abbrev vT:=List A1×Unit
def Di (i:vV)(v:vS)(R:Type)(K:vS ⊕ vT->Option R):Option R:=bif decide (v.1<(i.1.length:Int))then(lAt i.1 v.1).bind fun a=>bif a.1 != i.2.1 then(lAt i.1 v.1).bind fun b=>bif b.2.1 != i.2.1 then(lAt i.1 v.1).bind fun c=>if(v.2.1++[(c.1,c.2.1,())]).length<=2199023255552 then K (.inl (IntKind.i64.wrap (v.1+1),v.2.1++[(c.1,c.2.1,())],()))else none else K (.inl (IntKind.i64.wrap (v.1+1),v.2.1,()))else K (.inl (IntKind.i64.wrap (v.1+1),v.2.1,()))else K (.inr (v.2.1,()))
theorem Lh:Bg Di:=fun i v R K=>Ae (Ac fun _=>Ae (Ac fun _=>Ae (Ac fun _=>Aq (Aa)) (Aa)) (Aa)) (Aa)
def jv:Tmpl:=⟨(.slot (.slice A0) (.slot .i (jk 3 (.own 0 (.slot .i (jk 31 .nil)))))),(.lst false A0 .nil)⟩
def vR:Exs vV vT:=x1 (.exit 0) fun i p=>⟨jn 5 (AV.own 0 none none::jn 32 ([])),[some (Cont.lst false A0 p.1)]⟩
def vU:=((.i (.i (.v (.v .n)))):Pk jv.ty _ _)
def r4:Cfg:={ti:=Aw,ents:=[],ann:=[(3,Ao jv 0 (spP vU) Di vR.E)],lent:=0}
def EU (x:List A1×Int×Unit):Option (List A1×Unit):=(AC (fun v=>Di (x.1,x.2.1,()) v _ some) (0,[],())).bind fun p=>some (p.1,())
def aR:Ent:=⟨118,⟨(.slot (.slice A0) (.slot .i .nil)),.nil⟩,⟨(.own 0 .nil),(.lst false A0 .nil)⟩,EU⟩
theorem eb:CfgOK Go.Proofs.Tryz.prog r4:=hcB all_nil
theorem A4c:B9 Go.Proofs.Tryz.prog r4 (lpc Go.Proofs.Tryz.f118 0):=lkA eb jv vU Di vR [5] Lh
theorem jw:Ai Go.Proofs.Tryz.prog aR:=okB eb Go.Proofs.Tryz.func118 A4c
def Bd (x:Int×Bool×Int×A7):Option (Bool×Int×List (List A2)×List A3×List A1×List A1×A9):=if 0<=x.1/\x.1<(x.2.2.2.2.1.length:Int)then x.2.2.2.2.1[0+x.1.toNat]?.bind fun v=>if 0<=x.1/\x.1<(x.2.2.2.2.1.length:Int)then x.2.2.2.2.1[0+x.1.toNat]?.bind fun a=>bif a.2.2.1==1 then if 0<=x.1/\x.1<(x.2.2.2.2.1.length:Int)then x.2.2.2.2.1[0+x.1.toNat]?.bind fun b=>(DL (x.2.2.2.2.2.1,v.1,())).bind fun c=>(EU (x.2.2.2.2.2.2.1,v.1,())).bind fun v=>some (x.2.1,x.2.2.1,x.2.2.2.1,x.2.2.2.2.1.set (0+x.1.toNat) (b.1,b.2.1,3,b.2.2.2.1,b.2.2.2.2.1,b.2.2.2.2.2.1,b.2.2.2.2.2.2.1,b.2.2.2.2.2.2.2.1,b.2.2.2.2.2.2.2.2.1,()),x.2.2.2.2.2.1,x.2.2.2.2.2.2.1,c.1,v.1,())else none else(DL (x.2.2.2.2.2.1,v.1,())).bind fun b=>(EU (x.2.2.2.2.2.2.1,v.1,())).bind fun v=>some (x.2.1,x.2.2.1,x.2.2.2.1,x.2.2.2.2.1,x.2.2.2.2.2.1,x.2.2.2.2.2.2.1,b.1,v.1,())else none else none
def Oo:Ent:=⟨59,⟨(.ptr 0 0 0 (.slot .i .nil)),(.cells 6 (.slot .bool (.own 1 (.own 2 (.own 3 (.own 4 (.slot .i .nil)))))) (.tree false 0 (.slice Af) (.tree false 0 Ad (.lst false A0 (.lst false A0 .nil)))))⟩,⟨.nil,(.cells 6 (.slot .bool (.own 1 (.own 2 (.own 5 (.own 6 (.slot .i .nil)))))) (.tree false 0 (.slice Af) (.tree false 1 Ad (.lst false A0 (.lst false A0 (.lst false A0 (.lst false A0 .nil)))))))⟩,Bd⟩
theorem Qu:Ai Go.Proofs.Tryz.prog Oo:=okA (hcA 5 (all_cons qv (all_cons jw all_nil))) Go.Proofs.Tryz.func59
abbrev dZ:=List A1×Int×Int×Unit
abbrev dW:=Int×Unit
abbrev dX:=Int×Unit ⊕ Int×Unit
def Ds (i:dZ)(v:dW)(R:Type)(K:dW ⊕ dX->Option R):Option R:=bif decide (v.1<(i.1.length:Int))then(lAt i.1 v.1).bind fun a=>(G3 ((a.1,a.2.1,()),(i.2.1,i.2.2.1,()),())).bind fun b=>bif b.1 then K (.inl (IntKind.i64.wrap (v.1+1),()))else K (.inr (.inl (v.1,())))else K (.inr (.inr (v.1,())))
theorem LQ:Bg Ds:=fun i v R K=>Ae (Ac fun _=>Ac fun _=>Ae (Aa) (Aa)) (Aa)
def Wz:Tmpl:=⟨(.slot (.slice A0) (jk 2 (.ptr 0 0 0 (.junk (.slot .i (jk 41 .nil)))))),(.cells 2 (si 2 .nil) .nil)⟩
def dV:Exs dZ dX:=xs (.exit 0) (fun i p=>⟨AV.pv (.slice A0) i.1::jn 2 (AV.ptr 0 none 0 0::jn 1 (.n (p.1)::jn 41 ([]))),[some (Cont.cells 2 [[AV.pv .i i.2.1,AV.pv .i i.2.2.1]])]⟩)<|x1 (.exit 0) fun i p=>⟨AV.pv (.slice A0) i.1::jn 2 (AV.ptr 0 none 0 0::jn 1 (.n (p.1)::jn 41 ([]))),[some (Cont.cells 2 [[AV.pv .i i.2.1,AV.pv .i i.2.2.1]])]⟩
def dY:=((.i (.v (.i (.i .n)))):Pk Wz.ty _ _)
def qZ:Cfg:={ti:=Aw,ents:=[TR],ann:=[(2,Ao Wz 0 (spP dY) Ds dV.E)],lent:=0}
def GJ (x:List A1×A1×Unit):Option (List A1×Unit):=(AC (fun v=>Ds (x.1,x.2.1.1,x.2.1.2.1,()) v _ some) (0,())).bind fun p=>Az p (fun p=>bif decide (p.1<(x.1.length:Int))then(lAt x.1 p.1).bind fun v=>bif v.1==x.2.1.1&&(v.2.1==x.2.1.2.1&&true)then if x.1.length<=2199023255552 then some (x.1,())else none else(Hz x.1 0 p.1).bind fun v=>if v.length<=2199023255552 then if(v++[(x.2.1.1,x.2.1.2.1,())]).length<=2199023255552 then(Hz x.1 p.1 (x.1.length:Int)).bind fun a=>if(v++[(x.2.1.1,x.2.1.2.1,())]++a).length<=2199023255552 then some (v++[(x.2.1.1,x.2.1.2.1,())]++a,())else none else none else none else(Hz x.1 0 p.1).bind fun v=>if v.length<=2199023255552 then if(v++[(x.2.1.1,x.2.1.2.1,())]).length<=2199023255552 then(Hz x.1 p.1 (x.1.length:Int)).bind fun a=>if(v++[(x.2.1.1,x.2.1.2.1,())]++a).length<=2199023255552 then some (v++[(x.2.1.1,x.2.1.2.1,())]++a,())else none else none else none) fun p=>bif decide (p.1<(x.1.length:Int))then(lAt x.1 p.1).bind fun v=>bif v.1==x.2.1.1&&(v.2.1==x.2.1.2.1&&true)then if x.1.length<=2199023255552 then some (x.1,())else none else(Hz x.1 0 p.1).bind fun v=>if v.length<=2199023255552 then if(v++[(x.2.1.1,x.2.1.2.1,())]).length<=2199023255552 then(Hz x.1 p.1 (x.1.length:Int)).bind fun a=>if(v++[(x.2.1.1,x.2.1.2.1,())]++a).length<=2199023255552 then some (v++[(x.2.1.1,x.2.1.2.1,())]++a,())else none else none else none else(Hz x.1 0 p.1).bind fun v=>if v.length<=2199023255552 then if(v++[(x.2.1.1,x.2.1.2.1,())]).length<=2199023255552 then(Hz x.1 p.1 (x.1.length:Int)).bind fun a=>if(v++[(x.2.1.1,x.2.1.2.1,())]++a).length<=2199023255552 then some (v++[(x.2.1.1,x.2.1.2.1,())]++a,())else none else none else none
def aQ:Ent:=⟨177,⟨(.slot (.slice A0) (.slot A0 .nil)),.nil⟩,⟨(.own 0 .nil),(.lst false A0 .nil)⟩,GJ⟩
theorem e9:CfgOK Go.Proofs.Tryz.prog qZ:=hcB (all_cons jG all_nil)
theorem kL:B9 Go.Proofs.Tryz.prog qZ (lpc Go.Proofs.Tryz.f177 0):=lkA e9 Wz dY Ds dV [0,3,5] LQ
theorem ju:Ai Go.Proofs.Tryz.prog aQ:=okB e9 Go.Proofs.Tryz.func177 kL
def GM (x:A3×Int×A2×Unit):Option (Int×Int×Int×Int×Int×Int×Int×Bool×A9):=(E5 ((x.1.1,x.1.2.1,x.1.2.2.1,x.1.2.2.2.1,x.1.2.2.2.2.1,x.1.2.2.2.2.2.1,x.1.2.2.2.2.2.2.1,x.1.2.2.2.2.2.2.2.1,x.1.2.2.2.2.2.2.2.2.1,()),())).bind fun v=>(AJ ((x.1.1,x.1.2.1,x.1.2.2.1,x.1.2.2.2.1,x.1.2.2.2.2.1,x.1.2.2.2.2.2.1,x.1.2.2.2.2.2.2.1,x.1.2.2.2.2.2.2.2.1,x.1.2.2.2.2.2.2.2.2.1,()),())).bind fun a=>bif !a.1 then some (v.1,v.2.1,v.2.2.1,v.2.2.2.1,v.2.2.2.2.1,v.2.2.2.2.2.1,v.2.2.2.2.2.2.1,false,v.2.2.2.2.2.2.2.1,v.2.2.2.2.2.2.2.2.1,())else bif x.1.2.2.1 != 1 then some (v.1,v.2.1,v.2.2.1,v.2.2.2.1,v.2.2.2.2.1,v.2.2.2.2.2.1,v.2.2.2.2.2.2.1,false,v.2.2.2.2.2.2.2.1,v.2.2.2.2.2.2.2.2.1,())else(Ak (x.2.1,0,5,())).bind fun b=>bif !b.1 then some (v.1,v.2.1,v.2.2.1,v.2.2.2.1,v.2.2.2.2.1,v.2.2.2.2.2.1,v.2.2.2.2.2.2.1,false,v.2.2.2.2.2.2.2.1,v.2.2.2.2.2.2.2.2.1,())else(Da ((x.2.2.1.1,x.2.2.1.2.1,x.2.2.1.2.2.1,x.2.2.1.2.2.2.1,x.2.2.1.2.2.2.2.1,()),())).bind fun c=>bif !c.1 then some (v.1,v.2.1,v.2.2.1,v.2.2.2.1,v.2.2.2.2.1,v.2.2.2.2.2.1,v.2.2.2.2.2.2.1,false,v.2.2.2.2.2.2.2.1,v.2.2.2.2.2.2.2.2.1,())else bif (x.1.2.2.2.2.2.2.2.1.length:Int)==60 then some (v.1,v.2.1,v.2.2.1,v.2.2.2.1,v.2.2.2.2.1,v.2.2.2.2.2.1,v.2.2.2.2.2.2.1,false,v.2.2.2.2.2.2.2.1,v.2.2.2.2.2.2.2.2.1,())else(GJ (x.1.2.2.2.2.2.2.2.1,(x.2.1,x.2.2.1.2.2.1,()),())).bind fun d=>some (v.1,v.2.1,v.2.2.1,v.2.2.2.1,mx x.1.2.2.2.2.1 x.2.2.1.2.2.1,mn x.1.2.2.2.2.2.1 x.2.2.1.2.2.2.2.1,v.2.2.2.2.2.2.1,true,d.1,v.2.2.2.2.2.2.2.2.1,())
def TQ:Ent:=⟨107,⟨(.slot Ad (.slot .i (.slot Af .nil))),.nil⟩,⟨(.agg (si 7 (.own 0 (.own 1 .nil))) (.slot .bool .nil)),(.lst false A0 (.lst false A0 .nil))⟩,GM⟩
theorem jt:Ai Go.Proofs.Tryz.prog TQ:=okA (hcA 0 (all_cons dq (all_cons Qv (all_cons KM (all_cons jP (all_cons ju all_nil)))))) Go.Proofs.Tryz.func107
def vQ:Cfg:={ti:=Aw,ents:=[Oo,W3,Qi,TQ],ann:=[],lent:=5,pre:=[(some (0,3)),(some (0,4))]}
def Fv (x:Int×Int×Bool×Int×A7):Option (Int×Int×Bool×Int×A7):=if 0<=x.1/\x.1<(x.2.2.2.2.2.1.length:Int)then x.2.2.2.2.2.1[0+x.1.toNat]?.bind fun v=>x.2.2.2.2.2.1[0+x.1.toNat]?.bind fun a=>x.2.2.2.2.2.1[0+x.1.toNat]?.bind fun b=>(GO ((v.1,v.2.1,v.2.2.1,v.2.2.2.1,v.2.2.2.2.1,v.2.2.2.2.2.1,v.2.2.2.2.2.2.1,a.2.2.2.2.2.2.2.1,b.2.2.2.2.2.2.2.2.1,()),x.2.1,())).bind fun c=>bif decide (c.1>=0)then x.2.2.2.2.2.1[0+x.1.toNat]?.bind fun v=>if 0<=c.1/\c.1<(v.2.2.2.2.2.2.2.2.1.length:Int)then x.2.2.2.2.2.1[0+x.1.toNat]?.bind fun v=>v.2.2.2.2.2.2.2.2.1[0+c.1.toNat]?.bind fun v=>some (v.2.1,0,x.2.2.1,x.2.2.2.1,x.2.2.2.2.1,x.2.2.2.2.2.1,x.2.2.2.2.2.2.1,x.2.2.2.2.2.2.2.1,())else none else x.2.2.2.2.2.1[0+x.1.toNat]?.bind fun d=>x.2.2.2.2.2.1[0+x.1.toNat]?.bind fun e=>(EV ((x.2.2.2.2.1,()),(v.1,v.2.1,v.2.2.1,v.2.2.2.1,v.2.2.2.2.1,v.2.2.2.2.2.1,v.2.2.2.2.2.2.1,d.2.2.2.2.2.2.2.1,e.2.2.2.2.2.2.2.2.1,()),x.2.1,())).bind fun f=>bif f.2.2.2.2.2.1 != 0 then(Bd (x.1,x.2.2.1,x.2.2.2.1,x.2.2.2.2.1,x.2.2.2.2.2.1,x.2.2.2.2.2.2.1,x.2.2.2.2.2.2.2.1,())).bind fun v=>some (0,f.2.2.2.2.2.1,v.1,v.2.1,v.2.2.1,v.2.2.2.1,v.2.2.2.2.2.2.1,v.2.2.2.2.2.2.2.1,())else x.2.2.2.2.2.1[0+x.1.toNat]?.bind fun g=>x.2.2.2.2.2.1[0+x.1.toNat]?.bind fun h=>(GM ((v.1,v.2.1,v.2.2.1,v.2.2.2.1,v.2.2.2.2.1,v.2.2.2.2.2.1,v.2.2.2.2.2.2.1,g.2.2.2.2.2.2.2.1,h.2.2.2.2.2.2.2.2.1,()),x.2.1,(f.1,f.2.1,f.2.2.1,f.2.2.2.1,f.2.2.2.2.1,()),())).bind fun v=>bif !v.2.2.2.2.2.2.2.1 then some (0,6,x.2.2.1,x.2.2.2.1,x.2.2.2.2.1,x.2.2.2.2.2.1,x.2.2.2.2.2.2.1,x.2.2.2.2.2.2.2.1,())else if 0<=x.1/\x.1<(x.2.2.2.2.2.1.length:Int)then x.2.2.2.2.2.1[0+x.1.toNat]?.bind fun j=>some (f.2.1,0,x.2.2.1,x.2.2.2.1,x.2.2.2.2.1,x.2.2.2.2.2.1.set (0+x.1.toNat) (v.1,v.2.1,v.2.2.1,v.2.2.2.1,v.2.2.2.2.1,v.2.2.2.2.2.1,v.2.2.2.2.2.2.1,v.2.2.2.2.2.2.2.2.1,v.2.2.2.2.2.2.2.2.2.1,()),x.2.2.2.2.2.2.1,x.2.2.2.2.2.2.2.1,())else none else none
def TP:Ent:=⟨55,⟨(.ptr 0 0 0 (si 2 .nil)),(.cells 6 (.slot .bool (.own 1 (.own 2 (.own 3 (.own 4 (.slot .i .nil)))))) (.tree false 0 (.slice Af) (.tree false 0 Ad (.lst false A0 (.lst false A0 .nil)))))⟩,⟨(si 2 .nil),(.cells 6 (.slot .bool (.own 1 (.own 2 (.own 5 (.own 6 (.slot .i .nil)))))) (.tree false 0 (.slice Af) (.tree false 1 Ad (.gone (.gone (.lst false A0 (.lst false A0 .nil)))))))⟩,Fv⟩
theorem dU:Ai Go.Proofs.Tryz.prog TP:=okA (C:=vQ) (hcB (all_cons Qu (all_cons qx (all_cons Qg (all_cons jt all_nil))))) Go.Proofs.Tryz.func55
abbrev vO:=B3
abbrev vL:=Int×Bool×Int×List (List A2)×List A3×List A1×List A1×List Int×Unit
abbrev vM:=Bool×Int×List (List A2)×List A3×Int×List Int×A9 ⊕ Bool×Int×List (List A2)×List A3×List A1×List A1×List Int×Unit
def CQ (i:vO)(v:vL)(R:Type)(K:vL ⊕ vM->Option R):Option R:=bif decide (v.1<=i.2.1)then(Fv (i.1,v.1,v.2.1,v.2.2.1,v.2.2.2.1,v.2.2.2.2.1,v.2.2.2.2.2.1,v.2.2.2.2.2.2.1,())).bind fun a=>bif a.2.1 != 0 then K (.inr (.inl (a.2.2.1,a.2.2.2.1,a.2.2.2.2.1,a.2.2.2.2.2.1,a.2.1,v.2.2.2.2.2.2.2.1,a.2.2.2.2.2.2.1,a.2.2.2.2.2.2.2.1,())))else if(v.2.2.2.2.2.2.2.1++[a.1]).length<=4398046511104 then K (.inl (IntKind.i64.wrap (v.1+1),a.2.2.1,a.2.2.2.1,a.2.2.2.2.1,a.2.2.2.2.2.1,a.2.2.2.2.2.2.1,a.2.2.2.2.2.2.2.1,v.2.2.2.2.2.2.2.1++[a.1],()))else none else K (.inr (.inr (v.2.1,v.2.2.1,v.2.2.2.1,v.2.2.2.2.1,v.2.2.2.2.2.1,v.2.2.2.2.2.2.1,v.2.2.2.2.2.2.2.1,())))
theorem LR:Bg CQ:=fun i v R K=>Ae (Ac fun _=>Ae (Aa) (Aq (Aa))) (Aa)
def js:Tmpl:=⟨(.ptr 0 0 0 (.slot .i (.junk (.slot .i (jk 4 (.ptr 7 0 0 (.own 8 (.slot .i (jk 26 .nil))))))))),(.cells 6 (.slot .bool (.own 1 (.own 2 (.own 5 (.own 6 (.slot .i .nil)))))) (.tree false 0 (.slice Af) (.tree false 1 Ad (.gone (.gone (.lst false A0 (.lst false A0 (.cells 2 (.slot .i (.const (AV.nils) .nil)) (.lst false .i .nil)))))))))⟩
def vK:Exs vO vM:=xs .ret (fun i p=>⟨jn 8 (AV.ptr 7 none 0 0::AV.own 8 none none::jn 27 ([])),[some (Cont.cells 6 [[AV.pv .bool p.1,AV.own 1 none none,AV.own 2 none none,AV.own 14 none none,AV.own 15 none none,AV.pv .i p.2.1]]),some (Cont.tree false 0 (.slice Af) p.2.2.1 none),some (Cont.tree false 2 Ad p.2.2.2.1 none),some Cont.dead,some Cont.dead,some Cont.dead,some Cont.dead,some (Cont.cells 2 [[AV.pv .i p.2.2.2.2.1,AV.nils]]),some (Cont.lst false .i p.2.2.2.2.2.1),none,none,none,none,none,some (Cont.lst false A0 p.2.2.2.2.2.2.1),some (Cont.lst false A0 p.2.2.2.2.2.2.2.1)]⟩)<|x1 (.exit 0) fun i p=>⟨jn 8 (AV.ptr 7 none 0 0::AV.own 8 none none::jn 27 ([])),[some (Cont.cells 6 [[AV.pv .bool p.1,AV.own 1 none none,AV.own 2 none none,AV.own 5 none none,AV.own 6 none none,AV.pv .i p.2.1]]),some (Cont.tree false 0 (.slice Af) p.2.2.1 none),some (Cont.tree false 1 Ad p.2.2.2.1 none),some Cont.dead,some Cont.dead,some (Cont.lst false A0 p.2.2.2.2.1),some (Cont.lst false A0 p.2.2.2.2.2.1),some (Cont.cells 2 [[AV.pv .i i.2.2.1,AV.nils]]),some (Cont.lst false .i p.2.2.2.2.2.2.1)]⟩
def vN:=((.i (.i (.v (.v (.v (.v (.v (.v (.v (.i (.v .n))))))))))):Pk js.ty _ _)
def A84:Cfg:={ti:=Aw,ents:=[TP],ann:=[(3,Ao js 5 (spP vN) CQ vK.E)],lent:=5,pre:=[(some (0,3)),(some (0,4))]}
def Iq (x:Int×Int×Int×Bool×Int×A7):Option (Int×Bool×Int×List (List A2)×List A3×List A1×List A1×List Int×Unit):=(AC (fun v=>CQ (x.1,x.2.2.1,0,()) v _ some) (x.2.1,x.2.2.2.1,x.2.2.2.2.1,x.2.2.2.2.2.1,x.2.2.2.2.2.2.1,x.2.2.2.2.2.2.2.1,x.2.2.2.2.2.2.2.2.1,[],())).bind fun p=>Az p (fun p=>some (p.2.2.2.2.1,p.1,p.2.1,p.2.2.1,p.2.2.2.1,p.2.2.2.2.2.2.1,p.2.2.2.2.2.2.2.1,[],())) fun p=>some (0,p.1,p.2.1,p.2.2.1,p.2.2.2.1,p.2.2.2.2.1,p.2.2.2.2.2.1,p.2.2.2.2.2.2.1,())
def W0:Ent:=⟨56,⟨(.ptr 0 0 0 (si 3 .nil)),(.cells 6 (.slot .bool (.own 1 (.own 2 (.own 3 (.own 4 (.slot .i .nil)))))) (.tree false 0 (.slice Af) (.tree false 0 Ad (.lst false A0 (.lst false A0 .nil)))))⟩,⟨(.agg (.slot .i (.own 7 .nil)) .nil),(.cells 6 (.slot .bool (.own 1 (.own 2 (.own 5 (.own 6 (.slot .i .nil)))))) (.tree false 0 (.slice Af) (.tree false 1 Ad (.gone (.gone (.lst false A0 (.lst false A0 (.lst false .i .nil))))))))⟩,Iq⟩
theorem vP:CfgOK Go.Proofs.Tryz.prog A84:=hcB (all_cons dU all_nil)
theorem A4b:B9 Go.Proofs.Tryz.prog A84 (lpc Go.Proofs.Tryz.f56 0):=lkA vP js vN CQ vK [8,9] LR
theorem qu:Ai Go.Proofs.Tryz.prog W0:=okB vP Go.Proofs.Tryz.func56 A4b
abbrev dS:=List A1×Int×Unit
abbrev dP:=Int×Unit
abbrev dQ:=Int×Unit ⊕ Unit
def CS (i:dS)(v:dP)(R:Type)(K:dP ⊕ dQ->Option R):Option R:=bif decide (v.1<(i.1.length:Int))then(lAt i.1 v.1).bind fun a=>bif a.1==i.2.1 then(lAt i.1 v.1).bind fun v=>K (.inr (.inl (v.2.1,())))else K (.inl (IntKind.i64.wrap (v.1+1),()))else K (.inr (.inr ()))
theorem LV:Bg CS:=fun i v R K=>Ae (Ac fun _=>Ae (Ac fun _=>Aa) (Aa)) (Aa)
def Wy:Tmpl:=⟨(.slot (.slice A0) (.slot .i (jk 3 (.slot .i (jk 18 .nil))))),.nil⟩
def dN:Exs dS dQ:=xs .ret (fun i p=>⟨jn 4 (.n (p.1)::jn 19 ([])),[]⟩)<|x1 (.exit 0) fun i p=>⟨jn 24 ([]),[]⟩
def dR:=((.i (.i (.v .n))):Pk Wy.ty _ _)
def kK:Cfg:={ti:=Aw,ents:=[],ann:=[(2,Ao Wy 0 (spP dR) CS dN.E)],lent:=0}
def E9 (x:List A1×Int×Unit):Option (Int×Unit):=(AC (fun v=>CS (x.1,x.2.1,()) v _ some) (0,())).bind fun p=>Az p (fun p=>some (p.1,())) fun p=>some (0,())
def RB:Ent:=⟨109,⟨(.slot (.slice A0) (.slot .i .nil)),.nil⟩,⟨(.slot .i .nil),.nil⟩,E9⟩
theorem aP:CfgOK Go.Proofs.Tryz.prog kK:=hcB all_nil
theorem kJ:B9 Go.Proofs.Tryz.prog kK (lpc Go.Proofs.Tryz.f109 0):=lkA aP Wy dR CS dN [4] LV
theorem RK:Ai Go.Proofs.Tryz.prog RB:=okB aP Go.Proofs.Tryz.func109 kJ
def GK (x:A4×List A1×A3×Int×Unit):Option (Int×Unit):=(Fw ((x.1.1,()),(x.2.2.1.1,x.2.2.1.2.1,x.2.2.1.2.2.1,x.2.2.1.2.2.2.1,x.2.2.1.2.2.2.2.1,x.2.2.1.2.2.2.2.2.1,x.2.2.1.2.2.2.2.2.2.1,x.2.2.1.2.2.2.2.2.2.2.1,x.2.2.1.2.2.2.2.2.2.2.2.1,()),x.2.2.2.1,())).bind fun v=>bif !v.1 then some (6,())else(DF (x.2.1,())).bind fun v=>bif !v.1 then some (6,())else(E9 (x.2.1,x.2.2.2.1,())).bind fun v=>bif v.1 != 0 then(lAt x.1.1 x.2.2.2.1).bind fun a=>(Bq (a,())).bind fun b=>bif x.2.2.1.2.1==1 then bif v.1 != x.2.2.1.1 then some (1,())else bif x.2.2.1.2.1==2 then bif v.1 != x.2.2.1.1 then some (2,())else bif decide (b.2.2.1>x.2.2.1.2.2.2.1)then some (2,())else bif x.2.2.1.2.1==4 then bif decide (b.2.2.1>x.2.2.1.2.2.2.1)then some (3,())else bif decide (b.2.2.2.1>x.2.2.1.2.2.2.1)then some (3,())else some (0,())else some (0,())else bif x.2.2.1.2.1==4 then bif decide (b.2.2.1>x.2.2.1.2.2.2.1)then some (3,())else bif decide (b.2.2.2.1>x.2.2.1.2.2.2.1)then some (3,())else some (0,())else some (0,())else bif x.2.2.1.2.1==2 then bif v.1 != x.2.2.1.1 then some (2,())else bif decide (b.2.2.1>x.2.2.1.2.2.2.1)then some (2,())else bif x.2.2.1.2.1==4 then bif decide (b.2.2.1>x.2.2.1.2.2.2.1)then some (3,())else bif decide (b.2.2.2.1>x.2.2.1.2.2.2.1)then some (3,())else some (0,())else some (0,())else bif x.2.2.1.2.1==4 then bif decide (b.2.2.1>x.2.2.1.2.2.2.1)then some (3,())else bif decide (b.2.2.2.1>x.2.2.1.2.2.2.1)then some (3,())else some (0,())else some (0,())else(lAt x.1.1 x.2.2.2.1).bind fun v=>(Bq (v,())).bind fun v=>bif x.2.2.1.2.1==1 then bif x.2.2.1.2.1==2 then bif decide (v.2.2.1>x.2.2.1.2.2.2.1)then some (2,())else bif x.2.2.1.2.1==4 then bif decide (v.2.2.1>x.2.2.1.2.2.2.1)then some (3,())else bif decide (v.2.2.2.1>x.2.2.1.2.2.2.1)then some (3,())else some (0,())else some (0,())else bif x.2.2.1.2.1==4 then bif decide (v.2.2.1>x.2.2.1.2.2.2.1)then some (3,())else bif decide (v.2.2.2.1>x.2.2.1.2.2.2.1)then some (3,())else some (0,())else some (0,())else bif x.2.2.1.2.1==2 then bif decide (v.2.2.1>x.2.2.1.2.2.2.1)then some (2,())else bif x.2.2.1.2.1==4 then bif decide (v.2.2.1>x.2.2.1.2.2.2.1)then some (3,())else bif decide (v.2.2.2.1>x.2.2.1.2.2.2.1)then some (3,())else some (0,())else some (0,())else bif x.2.2.1.2.1==4 then bif decide (v.2.2.1>x.2.2.1.2.2.2.1)then some (3,())else bif decide (v.2.2.2.1>x.2.2.1.2.2.2.1)then some (3,())else some (0,())else some (0,())
def TN:Ent:=⟨108,⟨(.slot Bp (.slot (.slice A0) (.slot Ad (.slot .i .nil)))),.nil⟩,⟨(.slot .i .nil),.nil⟩,GK⟩
theorem jr:Ai Go.Proofs.Tryz.prog TN:=okA (hcA 0 (all_cons Z7 (all_cons ba (all_cons RK (all_cons Rg all_nil))))) Go.Proofs.Tryz.func108
abbrev dL:=List A1×Int×Int×Unit
abbrev dI:=Int×Unit
abbrev dJ:=Int×Unit ⊕ Int×Unit
def EN (i:dL)(v:dI)(R:Type)(K:dI ⊕ dJ->Option R):Option R:=bif decide (v.1<(i.1.length:Int))then(lAt i.1 v.1).bind fun a=>bif decide (a.1<i.2.1)then K (.inl (IntKind.i64.wrap (v.1+1),()))else K (.inr (.inl (v.1,())))else K (.inr (.inr (v.1,())))
theorem Nf:Bg EN:=fun i v R K=>Ae (Ac fun _=>Ae (Aa) (Aa)) (Aa)
def Wx:Tmpl:=⟨(.slot (.slice A0) (si 2 (jk 5 (.slot .i (jk 67 .nil))))),.nil⟩
def dH:Exs dL dJ:=xs (.exit 0) (fun i p=>⟨AV.pv (.slice A0) i.1::.n (i.2.1)::.n (i.2.2.1)::jn 5 (.n (p.1)::jn 67 ([])),[]⟩)<|x1 (.exit 0) fun i p=>⟨AV.pv (.slice A0) i.1::.n (i.2.1)::.n (i.2.2.1)::jn 5 (.n (p.1)::jn 67 ([])),[]⟩
def dK:=((.i (.i (.i (.v .n)))):Pk Wx.ty _ _)
def qY:Cfg:={ti:=Aw,ents:=[RD,Nb],ann:=[(4,Ao Wx 0 (spP dK) EN dH.E)],lent:=0}
def Gv (x:List A1×Int×Int×Unit):Option (Bool×List A1×Unit):=(DE (x.1,())).bind fun v=>bif !v.1 then if x.1.length<=2199023255552 then some (false,x.1,())else none else(Ak (x.2.1,1,9,())).bind fun v=>bif !v.1 then if x.1.length<=2199023255552 then some (false,x.1,())else none else(Ak (x.2.2.1,1,9,())).bind fun v=>bif !v.1 then if x.1.length<=2199023255552 then some (false,x.1,())else none else bif x.2.1==x.2.2.1 then if x.1.length<=2199023255552 then some (false,x.1,())else none else(AC (fun v=>EN (x.1,x.2.1,x.2.2.1,()) v _ some) (0,())).bind fun p=>Az p (fun p=>(Hz x.1 0 p.1).bind fun v=>if v.length<=2199023255552 then if(v++[(x.2.1,x.2.2.1,())]).length<=2199023255552 then bif decide (p.1<(x.1.length:Int))then(lAt x.1 p.1).bind fun a=>bif a.1==x.2.1 then(Hz x.1 (IntKind.i64.wrap (p.1+1)) (x.1.length:Int)).bind fun b=>if(v++[(x.2.1,x.2.2.1,())]++b).length<=2199023255552 then some (true,v++[(x.2.1,x.2.2.1,())]++b,())else none else(Hz x.1 p.1 (x.1.length:Int)).bind fun b=>if(v++[(x.2.1,x.2.2.1,())]++b).length<=2199023255552 then some (true,v++[(x.2.1,x.2.2.1,())]++b,())else none else(Hz x.1 p.1 (x.1.length:Int)).bind fun a=>if(v++[(x.2.1,x.2.2.1,())]++a).length<=2199023255552 then some (true,v++[(x.2.1,x.2.2.1,())]++a,())else none else none else none) fun p=>(Hz x.1 0 p.1).bind fun v=>if v.length<=2199023255552 then if(v++[(x.2.1,x.2.2.1,())]).length<=2199023255552 then bif decide (p.1<(x.1.length:Int))then(lAt x.1 p.1).bind fun a=>bif a.1==x.2.1 then(Hz x.1 (IntKind.i64.wrap (p.1+1)) (x.1.length:Int)).bind fun b=>if(v++[(x.2.1,x.2.2.1,())]++b).length<=2199023255552 then some (true,v++[(x.2.1,x.2.2.1,())]++b,())else none else(Hz x.1 p.1 (x.1.length:Int)).bind fun b=>if(v++[(x.2.1,x.2.2.1,())]++b).length<=2199023255552 then some (true,v++[(x.2.1,x.2.2.1,())]++b,())else none else(Hz x.1 p.1 (x.1.length:Int)).bind fun a=>if(v++[(x.2.1,x.2.2.1,())]++a).length<=2199023255552 then some (true,v++[(x.2.1,x.2.2.1,())]++a,())else none else none else none
def VZ:Ent:=⟨111,⟨(.slot (.slice A0) (si 2 .nil)),.nil⟩,⟨(.own 0 (.slot .bool .nil)),(.lst false A0 .nil)⟩,Gv⟩
theorem dM:CfgOK Go.Proofs.Tryz.prog qY:=hcB (all_cons b9 (all_cons KM all_nil))
theorem kI:B9 Go.Proofs.Tryz.prog qY (lpc Go.Proofs.Tryz.f111 0):=lkA dM Wx dK EN dH [0,1,2,8] Nf
theorem aO:Ai Go.Proofs.Tryz.prog VZ:=okB dM Go.Proofs.Tryz.func111 kI
abbrev vG:=List A1×Int×Unit
abbrev vC:=Int×Unit
abbrev vD:=Int×Unit ⊕ Unit
def Ek (i:vG)(v:vC)(R:Type)(K:vC ⊕ vD->Option R):Option R:=bif decide (v.1<(i.1.length:Int))then(lAt i.1 v.1).bind fun a=>bif a.1==i.2.1 then(lAt i.1 v.1).bind fun v=>K (.inr (.inl (v.2.1,())))else K (.inl (IntKind.i64.wrap (v.1+1),()))else K (.inr (.inr ()))
theorem NE:Bg Ek:=fun i v R K=>Ae (Ac fun _=>Ae (Ac fun _=>Aa) (Aa)) (Aa)
def jq:Tmpl:=⟨(.slot (.slice A0) (.slot .i (jk 3 (.slot .i (jk 18 .nil))))),.nil⟩
def vB:Exs vG vD:=xs .ret (fun i p=>⟨jn 4 (.n (p.1)::jn 19 ([])),[]⟩)<|x1 (.exit 0) fun i p=>⟨jn 24 ([]),[]⟩
def vE:=((.i (.i (.v .n))):Pk jq.ty _ _)
def A7w:Cfg:={ti:=Aw,ents:=[],ann:=[(2,Ao jq 0 (spP vE) Ek vB.E)],lent:=0}
def IG (x:List A1×Int×Unit):Option (Int×Unit):=(AC (fun v=>Ek (x.1,x.2.1,()) v _ some) (0,())).bind fun p=>Az p (fun p=>some (p.1,())) fun p=>some (0,())
def Y7:Ent:=⟨223,⟨(.slot (.slice A0) (.slot .i .nil)),.nil⟩,⟨(.slot .i .nil),.nil⟩,IG⟩
theorem vH:CfgOK Go.Proofs.Tryz.prog A7w:=hcB all_nil
theorem A4a:B9 Go.Proofs.Tryz.prog A7w (lpc Go.Proofs.Tryz.f223 0):=lkA vH jq vE Ek vB [4] NE
theorem vF:Ai Go.Proofs.Tryz.prog Y7:=okB vH Go.Proofs.Tryz.func223 A4a
abbrev vx:=List A1×Int×List Int×Unit
abbrev vo:=Int×Unit
abbrev vq:=List Int×List Int×Unit ⊕ Unit
def Cn (i:vx)(v:vo)(R:Type)(K:vo ⊕ vq->Option R):Option R:=bif decide (v.1<(i.2.2.1.length:Int))then if 0<=v.1/\v.1<(i.2.2.1.length:Int)then i.2.2.1[0+v.1.toNat]?.bind fun a=>bif a==i.2.1 then if(i.2.2.1++[i.2.1]).length<=4398046511104 then K (.inr (.inl ([i.2.1],i.2.2.1++[i.2.1],())))else none else K (.inl (IntKind.i64.wrap (v.1+1),()))else none else K (.inr (.inr ()))
theorem LS:Bg Cn:=fun i v R K=>Ae (Aq (Ac fun _=>Ae (Aq (Aa)) (Aa))) (Aa)
def jo:Tmpl:=⟨(.slot (.slice A0) (jk 4 (.own 0 (si 2 (jk 36 .nil))))),(.lst false .i .nil)⟩
def vm:Exs vx vq:=xs .ret (fun i p=>⟨AV.pv (.slice A0) i.1::jn 3 (AV.own 2 none none::AV.own 0 none none::.n (i.2.1)::jn 37 ([])),[some Cont.dead,some (Cont.lst false .i p.1),some (Cont.lst false .i p.2.1)]⟩)<|x1 (.exit 2) fun i p=>⟨AV.pv (.slice A0) i.1::jn 4 (AV.own 0 none none::.n (i.2.1)::jn 37 ([])),[some (Cont.lst false .i i.2.2.1)]⟩
def vu:=((.i (.i (.v (.i .n)))):Pk jo.ty _ _)
abbrev vy:=List A1×Unit
abbrev vp:=Int×List Int×Unit
abbrev vt:=List Int×List Int×Unit ⊕ List Int×Unit ⊕ List Int×Unit ⊕ List Int×Unit
def Co (i:vy)(v:vp)(R:Type)(K:vp ⊕ vt->Option R):Option R:=bif decide (v.1>0)then(DE (i.1,())).bind fun a=>bif a.1 then bif decide (v.1<=9)then(AC (fun b=>Cn (i.1,v.1,v.2.1,()) b _ some) (0,())).bind fun p=>Az p (fun p=>K (.inr (.inl (p.1,p.2.1,())))) fun p=>if(v.2.1++[v.1]).length<=4398046511104 then(IG (i.1,v.1,())).bind fun b=>K (.inl (b.1,v.2.1++[v.1],()))else none else K (.inr (.inr (.inl (v.2.1,()))))else K (.inr (.inr (.inr (.inl (v.2.1,())))))else K (.inr (.inr (.inr (.inr (v.2.1,())))))
theorem LT:Bg Co:=fun i v R K=>Ae (Ac fun _=>Ae (Ae (Ac fun _=>cQ (fun _=>Aa) (fun _=>Aq (Ac fun _=>Aa))) (Aa)) (Aa)) (Aa)
def jp:Tmpl:=⟨(.slot (.slice A0) (jk 4 (.own 0 (.slot .i (jk 37 .nil))))),(.lst false .i .nil)⟩
def vn:Exs vy vt:=xs .ret (fun i p=>⟨jn 4 (AV.own 2 none none::AV.own 0 none none::jn 38 ([])),[some Cont.dead,some (Cont.lst false .i p.1),some (Cont.lst false .i p.2.1)]⟩)<|xs (.exit 0) (fun i p=>⟨jn 5 (AV.own 0 none none::jn 38 ([])),[some (Cont.lst false .i p.1)]⟩)<|xs (.exit 0) (fun i p=>⟨jn 5 (AV.own 0 none none::jn 38 ([])),[some (Cont.lst false .i p.1)]⟩)<|x1 (.exit 0) fun i p=>⟨jn 5 (AV.own 0 none none::jn 38 ([])),[some (Cont.lst false .i p.1)]⟩
def vw:=((.i (.v (.v .n))):Pk jp.ty _ _)
def ca:Cfg:={ti:=Aw,ents:=[RD,Y7],ann:=[(6,Ao jo 0 (spP vu) Cn vm.E),(3,Ao jp 0 (spP vw) Co vn.E)],lent:=0}
def Ir (x:List A1×Int×Unit):Option (List Int×Unit):=(AC (fun v=>Co (x.1,()) v _ some) (x.2.1,[],())).bind fun p=>Az p (fun p=>some (p.2.1,())) fun p=>Az p (fun p=>some (p.1,())) fun p=>Az p (fun p=>some (p.1,())) fun p=>some (p.1,())
def hX:Ent:=⟨178,⟨(.slot (.slice A0) (.slot .i .nil)),.nil⟩,⟨(.own 0 .nil),(.lst false .i .nil)⟩,Ir⟩
theorem VE:CfgOK Go.Proofs.Tryz.prog ca:=hcB (all_cons b9 (all_cons vF all_nil))
theorem kH:B9 Go.Proofs.Tryz.prog ca (lpc Go.Proofs.Tryz.f178 1):=lkA VE jo vu Cn vm [0,4,5,6] LS
theorem A47:B9 Go.Proofs.Tryz.prog ca (lpc Go.Proofs.Tryz.f178 0):=lkB VE jp vw Co vn [4,5] LT kH
theorem rD:Ai Go.Proofs.Tryz.prog hX:=okC VE Go.Proofs.Tryz.func178 A47 kH
def ES (x:List A1×Int×Int×Unit):Option (Bool×Unit):=(Gv (x.1,x.2.1,x.2.2.1,())).bind fun v=>bif !v.1 then some (false,())else(Ir (v.2.1,x.2.1,())).bind fun v=>bif decide ((v.1.length:Int)>1)then if 0<=IntKind.i64.wrap ((v.1.length:Int)-1)/\IntKind.i64.wrap ((v.1.length:Int)-1)<(v.1.length:Int)then v.1[0+(IntKind.i64.wrap ((v.1.length:Int)-1)).toNat]?.bind fun v=>some (v==x.2.1,())else none else some (false,())
def XC:Ent:=⟨110,⟨(.slot (.slice A0) (si 2 .nil)),.nil⟩,⟨(.slot .bool .nil),.nil⟩,ES⟩
theorem rC:Ai Go.Proofs.Tryz.prog XC:=okA (hcA 0 (all_cons aO (all_cons rD all_nil))) Go.Proofs.Tryz.func110
def Gj (x:Int×Unit):Option (Bool×Unit):=bif x.1==1 then some (true,())else some (x.1==2,())
def Y6:Ent:=⟨112,⟨(.slot .i .nil),.nil⟩,⟨(.slot .bool .nil),.nil⟩,Gj⟩
theorem vl:Ai Go.Proofs.Tryz.prog Y6:=okA (hcA 0 all_nil) Go.Proofs.Tryz.func112
abbrev vk:=Int×Int×List A1×Unit
abbrev vg:=Int×Unit
abbrev vh:=Int×Unit ⊕ Int×Unit
def Cl (i:vk)(v:vg)(R:Type)(K:vg ⊕ vh->Option R):Option R:=bif decide (v.1<(i.2.2.1.length:Int))then if 0<=v.1/\v.1<(i.2.2.1.length:Int)then i.2.2.1[0+v.1.toNat]?.bind fun a=>bif decide (a.1<i.1)then K (.inl (IntKind.i64.wrap (v.1+1),()))else K (.inr (.inl (v.1,())))else none else K (.inr (.inr (v.1,())))
theorem KI:Bg Cl:=fun i v R K=>Ae (Aq (Ac fun _=>Ae (Aa) (Aa))) (Aa)
def jm:Tmpl:=⟨(.junk (si 2 (jk 5 (.own 0 (.junk (.slot .i (jk 61 .nil))))))),(.lst false A0 .nil)⟩
def vf:Exs vk vh:=xs (.exit 0) (fun i p=>⟨jn 1 (.n (i.1)::.n (i.2.1)::jn 5 (AV.own 0 none none::jn 1 (.n (p.1)::jn 61 ([])))),[some (Cont.lst false A0 i.2.2.1)]⟩)<|x1 (.exit 0) fun i p=>⟨jn 1 (.n (i.1)::.n (i.2.1)::jn 5 (AV.own 0 none none::jn 1 (.n (p.1)::jn 61 ([])))),[some (Cont.lst false A0 i.2.2.1)]⟩
def vi:=((.i (.i (.v (.i .n)))):Pk jm.ty _ _)
def qX:Cfg:={ti:=Aw,ents:=[aD,RB,W8,Nb],ann:=[(8,Ao jm 0 (spP vi) Cl vf.E)],lent:=0}
def FR (x:List A1×Int×Int×Unit):Option (Bool×List A1×Unit):=(Fx (x.1,())).bind fun v=>(E9 (x.1,x.2.1,())).bind fun a=>(DF (x.1,())).bind fun b=>bif !b.1 then some (false,v.1,())else(Ak (x.2.1,0,5,())).bind fun c=>bif !c.1 then some (false,v.1,())else(Ak (x.2.2.1,1,9,())).bind fun d=>bif !d.1 then some (false,v.1,())else bif a.1 != 0 then bif a.1 != x.2.2.1 then some (false,v.1,())else bif a.1==x.2.2.1 then some (true,v.1,())else(AC (fun e=>Cl (x.2.1,x.2.2.1,v.1,()) e _ some) (0,())).bind fun p=>Az p (fun p=>if(0:Int)<=0/\0<=p.1/\p.1<=(v.1.length:Int)then if(Cv v.1 (some (0,p.1.toNat-Int.toNat 0))).length<=2199023255552 then if(Cv v.1 (some (0,p.1.toNat-Int.toNat 0))++[(x.2.1,x.2.2.1,())]).length<=2199023255552 then if 0<=p.1/\p.1<=(v.1.length:Int)/\(v.1.length:Int)<=(v.1.length:Int)then if(Cv v.1 (some (0,p.1.toNat-Int.toNat 0))++[(x.2.1,x.2.2.1,())]++Cv v.1 (some (0+p.1.toNat,(v.1.length:Int).toNat-p.1.toNat))).length<=2199023255552 then some (true,Cv v.1 (some (0,p.1.toNat-Int.toNat 0))++[(x.2.1,x.2.2.1,())]++Cv v.1 (some (0+p.1.toNat,(v.1.length:Int).toNat-p.1.toNat)),())else none else none else none else none else none) fun p=>if(0:Int)<=0/\0<=p.1/\p.1<=(v.1.length:Int)then if(Cv v.1 (some (0,p.1.toNat-Int.toNat 0))).length<=2199023255552 then if(Cv v.1 (some (0,p.1.toNat-Int.toNat 0))++[(x.2.1,x.2.2.1,())]).length<=2199023255552 then if 0<=p.1/\p.1<=(v.1.length:Int)/\(v.1.length:Int)<=(v.1.length:Int)then if(Cv v.1 (some (0,p.1.toNat-Int.toNat 0))++[(x.2.1,x.2.2.1,())]++Cv v.1 (some (0+p.1.toNat,(v.1.length:Int).toNat-p.1.toNat))).length<=2199023255552 then some (true,Cv v.1 (some (0,p.1.toNat-Int.toNat 0))++[(x.2.1,x.2.2.1,())]++Cv v.1 (some (0+p.1.toNat,(v.1.length:Int).toNat-p.1.toNat)),())else none else none else none else none else none else bif a.1==x.2.2.1 then some (true,v.1,())else(AC (fun e=>Cl (x.2.1,x.2.2.1,v.1,()) e _ some) (0,())).bind fun p=>Az p (fun p=>if(0:Int)<=0/\0<=p.1/\p.1<=(v.1.length:Int)then if(Cv v.1 (some (0,p.1.toNat-Int.toNat 0))).length<=2199023255552 then if(Cv v.1 (some (0,p.1.toNat-Int.toNat 0))++[(x.2.1,x.2.2.1,())]).length<=2199023255552 then if 0<=p.1/\p.1<=(v.1.length:Int)/\(v.1.length:Int)<=(v.1.length:Int)then if(Cv v.1 (some (0,p.1.toNat-Int.toNat 0))++[(x.2.1,x.2.2.1,())]++Cv v.1 (some (0+p.1.toNat,(v.1.length:Int).toNat-p.1.toNat))).length<=2199023255552 then some (true,Cv v.1 (some (0,p.1.toNat-Int.toNat 0))++[(x.2.1,x.2.2.1,())]++Cv v.1 (some (0+p.1.toNat,(v.1.length:Int).toNat-p.1.toNat)),())else none else none else none else none else none) fun p=>if(0:Int)<=0/\0<=p.1/\p.1<=(v.1.length:Int)then if(Cv v.1 (some (0,p.1.toNat-Int.toNat 0))).length<=2199023255552 then if(Cv v.1 (some (0,p.1.toNat-Int.toNat 0))++[(x.2.1,x.2.2.1,())]).length<=2199023255552 then if 0<=p.1/\p.1<=(v.1.length:Int)/\(v.1.length:Int)<=(v.1.length:Int)then if(Cv v.1 (some (0,p.1.toNat-Int.toNat 0))++[(x.2.1,x.2.2.1,())]++Cv v.1 (some (0+p.1.toNat,(v.1.length:Int).toNat-p.1.toNat))).length<=2199023255552 then some (true,Cv v.1 (some (0,p.1.toNat-Int.toNat 0))++[(x.2.1,x.2.2.1,())]++Cv v.1 (some (0+p.1.toNat,(v.1.length:Int).toNat-p.1.toNat)),())else none else none else none else none else none
def Y5:Ent:=⟨113,⟨(.slot (.slice A0) (si 2 .nil)),.nil⟩,⟨(.own 0 (.slot .bool .nil)),(.lst false A0 .nil)⟩,FR⟩
theorem dG:CfgOK Go.Proofs.Tryz.prog qX:=hcB (all_cons tF (all_cons RK (all_cons ba (all_cons KM all_nil))))
theorem A46:B9 Go.Proofs.Tryz.prog qX (lpc Go.Proofs.Tryz.f113 0):=lkA dG jm vi Cl vf [1,2,8,10] KI
theorem vj:Ai Go.Proofs.Tryz.prog Y5:=okB dG Go.Proofs.Tryz.func113 A46
abbrev dE:=List A1×Int×Int×Unit
abbrev dB:=Int×Unit
abbrev dC:=Int×Unit ⊕ Int×Unit
def De (i:dE)(v:dB)(R:Type)(K:dB ⊕ dC->Option R):Option R:=bif decide (v.1<(i.1.length:Int))then(lAt i.1 v.1).bind fun a=>bif decide (a.1<i.2.1)then K (.inl (IntKind.i64.wrap (v.1+1),()))else K (.inr (.inl (v.1,())))else K (.inr (.inr (v.1,())))
theorem Lc:Bg De:=fun i v R K=>Ae (Ac fun _=>Ae (Aa) (Aa)) (Aa)
def Ww:Tmpl:=⟨(.slot (.slice A0) (jk 2 (.ptr 0 0 0 (.junk (.slot .i (jk 46 .nil)))))),(.cells 2 (si 2 .nil) .nil)⟩
def dA:Exs dE dC:=xs (.exit 0) (fun i p=>⟨AV.pv (.slice A0) i.1::jn 2 (AV.ptr 0 none 0 0::jn 1 (.n (p.1)::jn 46 ([]))),[some (Cont.cells 2 [[AV.pv .i i.2.1,AV.pv .i i.2.2.1]])]⟩)<|x1 (.exit 0) fun i p=>⟨AV.pv (.slice A0) i.1::jn 2 (AV.ptr 0 none 0 0::jn 1 (.n (p.1)::jn 46 ([]))),[some (Cont.cells 2 [[AV.pv .i i.2.1,AV.pv .i i.2.2.1]])]⟩
def dD:=((.i (.v (.i (.i .n)))):Pk Ww.ty _ _)
def qW:Cfg:={ti:=Aw,ents:=[],ann:=[(2,Ao Ww 0 (spP dD) De dA.E)],lent:=0}
def Gh (x:List A1×A1×Unit):Option (List A1×Unit):=(AC (fun v=>De (x.1,x.2.1.1,x.2.1.2.1,()) v _ some) (0,())).bind fun p=>Az p (fun p=>(Hz x.1 0 p.1).bind fun v=>if v.length<=2199023255552 then if(v++[(x.2.1.1,x.2.1.2.1,())]).length<=2199023255552 then bif decide (p.1<(x.1.length:Int))then(lAt x.1 p.1).bind fun a=>bif a.1==x.2.1.1 then(Hz x.1 (IntKind.i64.wrap (p.1+1)) (x.1.length:Int)).bind fun b=>if(v++[(x.2.1.1,x.2.1.2.1,())]++b).length<=2199023255552 then some (v++[(x.2.1.1,x.2.1.2.1,())]++b,())else none else(Hz x.1 p.1 (x.1.length:Int)).bind fun b=>if(v++[(x.2.1.1,x.2.1.2.1,())]++b).length<=2199023255552 then some (v++[(x.2.1.1,x.2.1.2.1,())]++b,())else none else(Hz x.1 p.1 (x.1.length:Int)).bind fun a=>if(v++[(x.2.1.1,x.2.1.2.1,())]++a).length<=2199023255552 then some (v++[(x.2.1.1,x.2.1.2.1,())]++a,())else none else none else none) fun p=>(Hz x.1 0 p.1).bind fun v=>if v.length<=2199023255552 then if(v++[(x.2.1.1,x.2.1.2.1,())]).length<=2199023255552 then bif decide (p.1<(x.1.length:Int))then(lAt x.1 p.1).bind fun a=>bif a.1==x.2.1.1 then(Hz x.1 (IntKind.i64.wrap (p.1+1)) (x.1.length:Int)).bind fun b=>if(v++[(x.2.1.1,x.2.1.2.1,())]++b).length<=2199023255552 then some (v++[(x.2.1.1,x.2.1.2.1,())]++b,())else none else(Hz x.1 p.1 (x.1.length:Int)).bind fun b=>if(v++[(x.2.1.1,x.2.1.2.1,())]++b).length<=2199023255552 then some (v++[(x.2.1.1,x.2.1.2.1,())]++b,())else none else(Hz x.1 p.1 (x.1.length:Int)).bind fun a=>if(v++[(x.2.1.1,x.2.1.2.1,())]++a).length<=2199023255552 then some (v++[(x.2.1.1,x.2.1.2.1,())]++a,())else none else none else none
def hU:Ent:=⟨179,⟨(.slot (.slice A0) (.slot A0 .nil)),.nil⟩,⟨(.own 0 .nil),(.lst false A0 .nil)⟩,Gh⟩
theorem dF:CfgOK Go.Proofs.Tryz.prog qW:=hcB all_nil
theorem kG:B9 Go.Proofs.Tryz.prog qW (lpc Go.Proofs.Tryz.f179 0):=lkA dF Ww dD De dA [0,3,5] Lc
theorem vd:Ai Go.Proofs.Tryz.prog hU:=okB dF Go.Proofs.Tryz.func179 kG
def ET (x:A4×A3×Int×Int×Unit):Option (Int×Int×Int×Int×Int×Int×Int×Bool×A9):=(E5 ((x.2.1.1,x.2.1.2.1,x.2.1.2.2.1,x.2.1.2.2.2.1,x.2.1.2.2.2.2.1,x.2.1.2.2.2.2.2.1,x.2.1.2.2.2.2.2.2.1,x.2.1.2.2.2.2.2.2.2.1,x.2.1.2.2.2.2.2.2.2.2.1,()),())).bind fun v=>(Bk ((x.1.1,()),())).bind fun a=>bif !a.1 then some (v.1,v.2.1,v.2.2.1,v.2.2.2.1,v.2.2.2.2.1,v.2.2.2.2.2.1,v.2.2.2.2.2.2.1,false,v.2.2.2.2.2.2.2.1,v.2.2.2.2.2.2.2.2.1,())else(AJ ((x.2.1.1,x.2.1.2.1,x.2.1.2.2.1,x.2.1.2.2.2.1,x.2.1.2.2.2.2.1,x.2.1.2.2.2.2.2.1,x.2.1.2.2.2.2.2.2.1,x.2.1.2.2.2.2.2.2.2.1,x.2.1.2.2.2.2.2.2.2.2.1,()),())).bind fun b=>bif !b.1 then some (v.1,v.2.1,v.2.2.1,v.2.2.2.1,v.2.2.2.2.1,v.2.2.2.2.2.1,v.2.2.2.2.2.2.1,false,v.2.2.2.2.2.2.2.1,v.2.2.2.2.2.2.2.2.1,())else bif x.2.1.2.2.1 != 1 then some (v.1,v.2.1,v.2.2.1,v.2.2.2.1,v.2.2.2.2.1,v.2.2.2.2.2.1,v.2.2.2.2.2.2.1,false,v.2.2.2.2.2.2.2.1,v.2.2.2.2.2.2.2.2.1,())else(Ak (x.2.2.1,0,5,())).bind fun c=>bif !c.1 then some (v.1,v.2.1,v.2.2.1,v.2.2.2.1,v.2.2.2.2.1,v.2.2.2.2.2.1,v.2.2.2.2.2.2.1,false,v.2.2.2.2.2.2.2.1,v.2.2.2.2.2.2.2.2.1,())else(Ak (x.2.2.2.1,-1,99,())).bind fun d=>bif !d.1 then some (v.1,v.2.1,v.2.2.1,v.2.2.2.1,v.2.2.2.2.1,v.2.2.2.2.2.1,v.2.2.2.2.2.2.1,false,v.2.2.2.2.2.2.2.1,v.2.2.2.2.2.2.2.2.1,())else(Gh (x.2.1.2.2.2.2.2.2.2.2.1,(x.2.2.1,x.2.2.2.1,()),())).bind fun e=>(lAt x.1.1 x.2.2.1).bind fun f=>(Bq (f,())).bind fun g=>some (v.1,v.2.1,v.2.2.1,v.2.2.2.1,mx x.2.1.2.2.2.2.1 g.2.2.2.1,v.2.2.2.2.2.1,v.2.2.2.2.2.2.1,true,v.2.2.2.2.2.2.2.1,e.1,())
def Y4:Ent:=⟨114,⟨(.slot Bp (.slot Ad (si 2 .nil))),.nil⟩,⟨(.agg (si 7 (.own 0 (.own 1 .nil))) (.slot .bool .nil)),(.lst false A0 (.lst false A0 .nil))⟩,ET⟩
theorem jl:Ai Go.Proofs.Tryz.prog Y4:=okA (hcA 0 (all_cons dq (all_cons Qw (all_cons Qv (all_cons KM (all_cons vd (all_cons Rg all_nil))))))) Go.Proofs.Tryz.func114
def As3:Cfg:={ti:=Aw,ents:=[Oo,TN,RB,XC,VZ,Y6,Y5,Y4],ann:=[],lent:=5,hid:=[((8,11),[0]),((14,12),[0])],pre:=[(some (0,3)),(some (0,4))]}
def Gi (x:Int×Int×Int×Int×Int×Int×Int×Bool×Int×A7):Option (Int×Bool×Int×A7):=if 0<=x.1/\x.1<(x.2.2.2.2.2.2.2.2.2.2.1.length:Int)then x.2.2.2.2.2.2.2.2.2.2.1[0+x.1.toNat]?.bind fun v=>x.2.2.2.2.2.2.2.2.2.2.1[0+x.1.toNat]?.bind fun a=>x.2.2.2.2.2.2.2.2.2.2.1[0+x.1.toNat]?.bind fun b=>(GK ((x.2.2.2.2.2.2.2.2.2.1,()),x.2.2.2.2.2.2.2.2.2.2.2.1,(v.1,v.2.1,v.2.2.1,v.2.2.2.1,v.2.2.2.2.1,v.2.2.2.2.2.1,v.2.2.2.2.2.2.1,a.2.2.2.2.2.2.2.1,b.2.2.2.2.2.2.2.2.1,()),x.2.2.2.2.1,())).bind fun c=>bif c.1==1 then(E9 (x.2.2.2.2.2.2.2.2.2.2.2.1,x.2.2.2.2.1,())).bind fun d=>(ES (x.2.2.2.2.2.2.2.2.2.2.2.2.1,v.1,d.1,())).bind fun e=>bif e.1 then(Bd (x.1,x.2.2.2.2.2.2.2.1,x.2.2.2.2.2.2.2.2.1,x.2.2.2.2.2.2.2.2.2.1,x.2.2.2.2.2.2.2.2.2.2.1,x.2.2.2.2.2.2.2.2.2.2.2.1,x.2.2.2.2.2.2.2.2.2.2.2.2.1,())).bind fun v=>some (4,v.1,v.2.1,v.2.2.1,v.2.2.2.1,v.2.2.2.2.2.2.1,v.2.2.2.2.2.2.2.1,())else(Gv (x.2.2.2.2.2.2.2.2.2.2.2.2.1,v.1,d.1,())).bind fun v=>some (c.1,x.2.2.2.2.2.2.2.1,x.2.2.2.2.2.2.2.2.1,x.2.2.2.2.2.2.2.2.2.1,x.2.2.2.2.2.2.2.2.2.2.1,x.2.2.2.2.2.2.2.2.2.2.2.1,v.2.1,())else bif c.1 != 0 then(Bd (x.1,x.2.2.2.2.2.2.2.1,x.2.2.2.2.2.2.2.2.1,x.2.2.2.2.2.2.2.2.2.1,x.2.2.2.2.2.2.2.2.2.2.1,x.2.2.2.2.2.2.2.2.2.2.2.1,x.2.2.2.2.2.2.2.2.2.2.2.2.1,())).bind fun v=>some (c.1,v.1,v.2.1,v.2.2.1,v.2.2.2.1,v.2.2.2.2.2.2.1,v.2.2.2.2.2.2.2.1,())else(Gj (v.2.1,())).bind fun d=>bif d.1 then(FR (x.2.2.2.2.2.2.2.2.2.2.2.1,x.2.2.2.2.1,v.1,())).bind fun e=>x.2.2.2.2.2.2.2.2.2.2.1[0+x.1.toNat]?.bind fun f=>x.2.2.2.2.2.2.2.2.2.2.1[0+x.1.toNat]?.bind fun g=>(ET ((x.2.2.2.2.2.2.2.2.2.1,()),(v.1,v.2.1,v.2.2.1,v.2.2.2.1,v.2.2.2.2.1,v.2.2.2.2.2.1,v.2.2.2.2.2.2.1,f.2.2.2.2.2.2.2.1,g.2.2.2.2.2.2.2.2.1,()),x.2.2.2.2.1,x.2.2.2.2.2.2.1,())).bind fun v=>if 0<=x.1/\x.1<(x.2.2.2.2.2.2.2.2.2.2.1.length:Int)then x.2.2.2.2.2.2.2.2.2.2.1[0+x.1.toNat]?.bind fun h=>some (0,x.2.2.2.2.2.2.2.1,x.2.2.2.2.2.2.2.2.1,x.2.2.2.2.2.2.2.2.2.1,x.2.2.2.2.2.2.2.2.2.2.1.set (0+x.1.toNat) (v.1,v.2.1,v.2.2.1,v.2.2.2.1,v.2.2.2.2.1,v.2.2.2.2.2.1,v.2.2.2.2.2.2.1,v.2.2.2.2.2.2.2.2.1,v.2.2.2.2.2.2.2.2.2.1,()),e.2.1,x.2.2.2.2.2.2.2.2.2.2.2.2.1,())else none else x.2.2.2.2.2.2.2.2.2.2.1[0+x.1.toNat]?.bind fun e=>x.2.2.2.2.2.2.2.2.2.2.1[0+x.1.toNat]?.bind fun f=>(ET ((x.2.2.2.2.2.2.2.2.2.1,()),(v.1,v.2.1,v.2.2.1,v.2.2.2.1,v.2.2.2.2.1,v.2.2.2.2.2.1,v.2.2.2.2.2.2.1,e.2.2.2.2.2.2.2.1,f.2.2.2.2.2.2.2.2.1,()),x.2.2.2.2.1,x.2.2.2.2.2.2.1,())).bind fun v=>if 0<=x.1/\x.1<(x.2.2.2.2.2.2.2.2.2.2.1.length:Int)then x.2.2.2.2.2.2.2.2.2.2.1[0+x.1.toNat]?.bind fun g=>some (0,x.2.2.2.2.2.2.2.1,x.2.2.2.2.2.2.2.2.1,x.2.2.2.2.2.2.2.2.2.1,x.2.2.2.2.2.2.2.2.2.2.1.set (0+x.1.toNat) (v.1,v.2.1,v.2.2.1,v.2.2.2.1,v.2.2.2.2.1,v.2.2.2.2.2.1,v.2.2.2.2.2.2.1,v.2.2.2.2.2.2.2.2.1,v.2.2.2.2.2.2.2.2.2.1,()),x.2.2.2.2.2.2.2.2.2.2.2.1,x.2.2.2.2.2.2.2.2.2.2.2.2.1,())else none else none
def VY:Ent:=⟨57,⟨(.ptr 0 0 0 (.slot .i (.agg (si 6 .nil) .nil))),(.cells 6 (.slot .bool (.own 1 (.own 2 (.own 3 (.own 4 (.slot .i .nil)))))) (.tree false 0 (.slice Af) (.tree false 0 Ad (.lst false A0 (.lst false A0 .nil)))))⟩,⟨(.agg (.slot .i (.const (AV.nils) .nil)) .nil),(.cells 6 (.slot .bool (.own 1 (.own 2 (.own 5 (.own 6 (.slot .i .nil)))))) (.tree false 0 (.slice Af) (.tree false 1 Ad (.gone (.gone (.lst false A0 (.lst false A0 .nil)))))))⟩,Gi⟩
theorem aN:Ai Go.Proofs.Tryz.prog VY:=okA (C:=As3) (hcB (all_cons Qu (all_cons jr (all_cons RK (all_cons rC (all_cons aO (all_cons vl (all_cons vj (all_cons jl all_nil))))))))) Go.Proofs.Tryz.func57
abbrev vc:=List (List A2)×A3
abbrev v6:=Int×Unit
abbrev v7:=Unit ⊕ Unit ⊕ Unit
def Bu (i:vc)(v:v6)(R:Type)(K:v6 ⊕ v7->Option R):Option R:=bif decide (v.1<(i.2.2.2.2.2.2.2.2.2.1.length:Int))then(lAt i.2.2.2.2.2.2.2.2.2.1 v.1).bind fun a=>(lAt i.1 a.1).bind fun b=>(Bq (b,())).bind fun c=>bif decide (c.2.2.1<=i.2.2.2.2.1)then K (.inl (IntKind.i64.wrap (v.1+1),()))else bif i.2.2.1==2 then K (.inr (.inl ()))else bif i.2.2.1==4 then K (.inr (.inr (.inl ())))else K (.inl (IntKind.i64.wrap (v.1+1),()))else K (.inr (.inr (.inr ())))
theorem Lg:Bg Bu:=fun i v R K=>Ae (Ac fun _=>Ac fun _=>Ac fun _=>Ae (Aa) (Ae (Aa) (Ae (Aa) (Aa)))) (Aa)
def jh:Tmpl:=⟨(jk 2 (.ptr 0 0 0 (.ptr 1 0 0 (.junk (.slot .i (jk 32 .nil)))))),(.cells 1 (.slot (.slice (.slice Af)) .nil) (.cells 9 (si 7 (.slot (.slice A0) (.slot (.slice A0) .nil))) .nil))⟩
def uZ:Exs vc v7:=xs .ret (fun i p=>⟨jn 4 (.n (2)::jn 33 ([])),[some (Cont.cells 1 [[AV.pv (.slice (.slice Af)) i.1]]),some (Cont.cells 9 [[AV.pv .i i.2.1,AV.pv .i i.2.2.1,AV.pv .i i.2.2.2.1,AV.pv .i i.2.2.2.2.1,AV.pv .i i.2.2.2.2.2.1,AV.pv .i i.2.2.2.2.2.2.1,AV.pv .i i.2.2.2.2.2.2.2.1,AV.pv (.slice A0) i.2.2.2.2.2.2.2.2.1,AV.pv (.slice A0) i.2.2.2.2.2.2.2.2.2.1]])]⟩)<|xs .ret (fun i p=>⟨jn 4 (.n (3)::jn 33 ([])),[some (Cont.cells 1 [[AV.pv (.slice (.slice Af)) i.1]]),some (Cont.cells 9 [[AV.pv .i i.2.1,AV.pv .i i.2.2.1,AV.pv .i i.2.2.2.1,AV.pv .i i.2.2.2.2.1,AV.pv .i i.2.2.2.2.2.1,AV.pv .i i.2.2.2.2.2.2.1,AV.pv .i i.2.2.2.2.2.2.2.1,AV.pv (.slice A0) i.2.2.2.2.2.2.2.2.1,AV.pv (.slice A0) i.2.2.2.2.2.2.2.2.2.1]])]⟩)<|x1 (.exit 0) fun i p=>⟨jn 38 ([]),[some (Cont.cells 1 [[AV.pv (.slice (.slice Af)) i.1]]),some (Cont.cells 9 [[AV.pv .i i.2.1,AV.pv .i i.2.2.1,AV.pv .i i.2.2.2.1,AV.pv .i i.2.2.2.2.1,AV.pv .i i.2.2.2.2.2.1,AV.pv .i i.2.2.2.2.2.2.1,AV.pv .i i.2.2.2.2.2.2.2.1,AV.pv (.slice A0) i.2.2.2.2.2.2.2.2.1,AV.pv (.slice A0) i.2.2.2.2.2.2.2.2.2.1]])]⟩
def v8:=((.v (.i (.i (.i (.i (.i (.i (.i (.i (.i (.i .n))))))))))):Pk jh.ty _ _)
def qV:Cfg:={ti:=Aw,ents:=[W2,SF],ann:=[(4,Ao jh 0 (spP v8) Bu uZ.E)],lent:=0}
def Gl (x:A4×A3×Unit):Option (Int×Unit):=(Fw ((x.1.1,()),(x.2.1.1,x.2.1.2.1,x.2.1.2.2.1,x.2.1.2.2.2.1,x.2.1.2.2.2.2.1,x.2.1.2.2.2.2.2.1,x.2.1.2.2.2.2.2.2.1,x.2.1.2.2.2.2.2.2.2.1,x.2.1.2.2.2.2.2.2.2.2.1,()),0,())).bind fun v=>bif !v.1 then some (6,())else(AC (fun v=>Bu (x.1.1,x.2.1.1,x.2.1.2.1,x.2.1.2.2.1,x.2.1.2.2.2.1,x.2.1.2.2.2.2.1,x.2.1.2.2.2.2.2.1,x.2.1.2.2.2.2.2.2.1,x.2.1.2.2.2.2.2.2.2.1,x.2.1.2.2.2.2.2.2.2.2.1,()) v _ some) (0,())).bind fun p=>Az p (fun p=>some (2,())) fun p=>Az p (fun p=>some (3,())) fun p=>some (0,())
def aM:Ent:=⟨115,⟨(.slot Bp (.slot Ad .nil)),.nil⟩,⟨(.slot .i .nil),.nil⟩,Gl⟩
theorem dz:CfgOK Go.Proofs.Tryz.prog qV:=hcB (all_cons Z7 (all_cons Rg all_nil))
theorem A45:B9 Go.Proofs.Tryz.prog qV (lpc Go.Proofs.Tryz.f115 0):=lkA dz jh v8 Bu uZ [4] Lg
theorem va:Ai Go.Proofs.Tryz.prog aM:=okB dz Go.Proofs.Tryz.func115 A45
abbrev uX:=List (List A2)×A3
abbrev uQ:=Int×Int×Unit
abbrev uS:=Int×Unit
def Df (i:uX)(v:uQ)(R:Type)(K:uQ ⊕ uS->Option R):Option R:=bif decide (v.2.1<(i.2.2.2.2.2.2.2.2.1.length:Int))then(lAt i.2.2.2.2.2.2.2.2.1 v.2.1).bind fun a=>K (.inl (mx v.1 a.2.1,IntKind.i64.wrap (v.2.1+1),()))else K (.inr (v.1,()))
theorem Le:Bg Df:=fun i v R K=>Ae (Ac fun _=>Aa) (Aa)
def jf:Tmpl:=⟨(jk 2 (.ptr 0 0 0 (.ptr 1 0 0 (.junk (si 2 (jk 46 .nil)))))),(.cells 1 (.slot (.slice (.slice Af)) .nil) (.cells 9 (si 7 (.slot (.slice A0) (.slot (.slice A0) .nil))) .nil))⟩
def uO:Exs uX uS:=x1 (.exit 0) fun i p=>⟨jn 2 (AV.ptr 0 none 0 0::AV.ptr 1 none 0 0::jn 1 (.n (p.1)::jn 47 ([]))),[some (Cont.cells 1 [[AV.pv (.slice (.slice Af)) i.1]]),some (Cont.cells 9 [[AV.pv .i i.2.1,AV.pv .i i.2.2.1,AV.pv .i i.2.2.2.1,AV.pv .i i.2.2.2.2.1,AV.pv .i i.2.2.2.2.2.1,AV.pv .i i.2.2.2.2.2.2.1,AV.pv .i i.2.2.2.2.2.2.2.1,AV.pv (.slice A0) i.2.2.2.2.2.2.2.2.1,AV.pv (.slice A0) i.2.2.2.2.2.2.2.2.2.1]])]⟩
def uU:=((.v (.v (.i (.i (.i (.i (.i (.i (.i (.i (.i (.i .n)))))))))))):Pk jf.ty _ _)
abbrev uW:=List (List A2)×A3
abbrev uP:=Int×Int×Unit
abbrev uR:=Int×Unit
def Cy (i:uW)(v:uP)(R:Type)(K:uP ⊕ uR->Option R):Option R:=bif decide (v.2.1<(i.2.2.2.2.2.2.2.2.2.1.length:Int))then(lAt i.2.2.2.2.2.2.2.2.2.1 v.2.1).bind fun a=>(lAt i.1 a.1).bind fun b=>(Bq (b,())).bind fun c=>K (.inl (mx v.1 c.2.2.2.1,IntKind.i64.wrap (v.2.1+1),()))else K (.inr (v.1,()))
theorem Ld:Bg Cy:=fun i v R K=>Ae (Ac fun _=>Ac fun _=>Ac fun _=>Aa) (Aa)
def je:Tmpl:=⟨(jk 2 (.ptr 0 0 0 (.ptr 1 0 0 (.junk (.slot .i (.junk (.slot .i (jk 45 .nil)))))))),(.cells 1 (.slot (.slice (.slice Af)) .nil) (.cells 9 (si 7 (.slot (.slice A0) (.slot (.slice A0) .nil))) .nil))⟩
def uN:Exs uW uR:=x1 (.exit 2) fun i p=>⟨jn 5 (.n (p.1)::jn 47 ([])),[some (Cont.cells 1 [[AV.pv (.slice (.slice Af)) i.1]]),some (Cont.cells 9 [[AV.pv .i i.2.1,AV.pv .i i.2.2.1,AV.pv .i i.2.2.2.1,AV.pv .i i.2.2.2.2.1,AV.pv .i i.2.2.2.2.2.1,AV.pv .i i.2.2.2.2.2.2.1,AV.pv .i i.2.2.2.2.2.2.2.1,AV.pv (.slice A0) i.2.2.2.2.2.2.2.2.1,AV.pv (.slice A0) i.2.2.2.2.2.2.2.2.2.1]])]⟩
def uT:=((.v (.v (.i (.i (.i (.i (.i (.i (.i (.i (.i (.i .n)))))))))))):Pk je.ty _ _)
def uY:Cfg:={ti:=Aw,ents:=[Q6,SG,SF],ann:=[(5,Ao jf 0 (spP uU) Df uO.E),(9,Ao je 0 (spP uT) Cy uN.E)],lent:=0}
def Gk (x:A4×A3×Unit):Option (Int×Unit):=(Bk ((x.1.1,()),())).bind fun v=>bif !v.1 then some (0,())else(AJ ((x.2.1.1,x.2.1.2.1,x.2.1.2.2.1,x.2.1.2.2.2.1,x.2.1.2.2.2.2.1,x.2.1.2.2.2.2.2.1,x.2.1.2.2.2.2.2.2.1,x.2.1.2.2.2.2.2.2.2.1,x.2.1.2.2.2.2.2.2.2.2.1,()),())).bind fun v=>bif !v.1 then some (0,())else(AC (fun v=>Df (x.1.1,x.2.1.1,x.2.1.2.1,x.2.1.2.2.1,x.2.1.2.2.2.1,x.2.1.2.2.2.2.1,x.2.1.2.2.2.2.2.1,x.2.1.2.2.2.2.2.2.1,x.2.1.2.2.2.2.2.2.2.1,x.2.1.2.2.2.2.2.2.2.2.1,()) v _ some) (0,0,())).bind fun p=>(AC (fun v=>Cy (x.1.1,x.2.1.1,x.2.1.2.1,x.2.1.2.2.1,x.2.1.2.2.2.1,x.2.1.2.2.2.2.1,x.2.1.2.2.2.2.2.1,x.2.1.2.2.2.2.2.2.1,x.2.1.2.2.2.2.2.2.2.1,x.2.1.2.2.2.2.2.2.2.2.1,()) v _ some) (p.1,0,())).bind fun p=>some (p.1,())
def kF:Ent:=⟨224,⟨(.slot Bp (.slot Ad .nil)),.nil⟩,⟨(.slot .i .nil),.nil⟩,Gk⟩
theorem jg:CfgOK Go.Proofs.Tryz.prog uY:=hcB (all_cons Qw (all_cons Qv (all_cons Rg all_nil)))
theorem A43:B9 Go.Proofs.Tryz.prog uY (lpc Go.Proofs.Tryz.f224 1):=lkA jg je uT Cy uN [5] Ld
theorem A44:B9 Go.Proofs.Tryz.prog uY (lpc Go.Proofs.Tryz.f224 0):=lkA jg jf uU Df uO [2,3,5] Le
theorem uV:Ai Go.Proofs.Tryz.prog kF:=okC jg Go.Proofs.Tryz.func224 A44 A43
abbrev uL:=List (List A2)×A3
abbrev uH:=Int×Int×Unit
abbrev uI:=Int×Unit
def D0 (i:uL)(v:uH)(R:Type)(K:uH ⊕ uI->Option R):Option R:=bif decide (v.2.1<(i.2.2.2.2.2.2.2.2.1.length:Int))then(lAt i.2.2.2.2.2.2.2.2.1 v.2.1).bind fun a=>(lAt i.1 a.1).bind fun b=>(lAt i.2.2.2.2.2.2.2.2.1 v.2.1).bind fun c=>(Dh (b,c.2.1,())).bind fun d=>(lAt b d.1).bind fun e=>K (.inl (mn v.1 e.2.2.2.2.1,IntKind.i64.wrap (v.2.1+1),()))else K (.inr (v.1,()))
theorem KG:Bg D0:=fun i v R K=>Ae (Ac fun _=>Ac fun _=>Ac fun _=>Ac fun _=>Ac fun _=>Aa) (Aa)
def jd:Tmpl:=⟨(jk 2 (.ptr 0 0 0 (.ptr 1 0 0 (.junk (si 2 (jk 37 .nil)))))),(.cells 1 (.slot (.slice (.slice Af)) .nil) (.cells 9 (si 7 (.slot (.slice A0) (.slot (.slice A0) .nil))) .nil))⟩
def uG:Exs uL uI:=x1 (.exit 0) fun i p=>⟨jn 5 (.n (p.1)::jn 38 ([])),[some (Cont.cells 1 [[AV.pv (.slice (.slice Af)) i.1]]),some (Cont.cells 9 [[AV.pv .i i.2.1,AV.pv .i i.2.2.1,AV.pv .i i.2.2.2.1,AV.pv .i i.2.2.2.2.1,AV.pv .i i.2.2.2.2.2.1,AV.pv .i i.2.2.2.2.2.2.1,AV.pv .i i.2.2.2.2.2.2.2.1,AV.pv (.slice A0) i.2.2.2.2.2.2.2.2.1,AV.pv (.slice A0) i.2.2.2.2.2.2.2.2.2.1]])]⟩
def uJ:=((.v (.v (.i (.i (.i (.i (.i (.i (.i (.i (.i (.i .n)))))))))))):Pk jd.ty _ _)
def A7u:Cfg:={ti:=Aw,ents:=[W4,RC],ann:=[(5,Ao jd 0 (spP uJ) D0 uG.E)],lent:=0}
def FQ (x:A4×A3×Unit):Option (Int×Unit):=(CR ((x.1.1,()),(x.2.1.1,x.2.1.2.1,x.2.1.2.2.1,x.2.1.2.2.2.1,x.2.1.2.2.2.2.1,x.2.1.2.2.2.2.2.1,x.2.1.2.2.2.2.2.2.1,x.2.1.2.2.2.2.2.2.2.1,x.2.1.2.2.2.2.2.2.2.2.1,()),())).bind fun v=>bif !v.1 then some (0,())else(AC (fun v=>D0 (x.1.1,x.2.1.1,x.2.1.2.1,x.2.1.2.2.1,x.2.1.2.2.2.1,x.2.1.2.2.2.2.1,x.2.1.2.2.2.2.2.1,x.2.1.2.2.2.2.2.2.1,x.2.1.2.2.2.2.2.2.2.1,x.2.1.2.2.2.2.2.2.2.2.1,()) v _ some) (1000,0,())).bind fun p=>some (p.1,())
def hP:Ent:=⟨225,⟨(.slot Bp (.slot Ad .nil)),.nil⟩,⟨(.slot .i .nil),.nil⟩,FQ⟩
theorem uM:CfgOK Go.Proofs.Tryz.prog A7u:=hcB (all_cons aX (all_cons aY all_nil))
theorem A42:B9 Go.Proofs.Tryz.prog A7u (lpc Go.Proofs.Tryz.f225 0):=lkA uM jd uJ D0 uG [5] KG
theorem uK:Ai Go.Proofs.Tryz.prog hP:=okB uM Go.Proofs.Tryz.func225 A42
def El (x:A4×A3×Int×Unit):Option (Int×Int×Bool×Unit):=(CR ((x.1.1,()),(x.2.1.1,x.2.1.2.1,x.2.1.2.2.1,x.2.1.2.2.2.1,x.2.1.2.2.2.2.1,x.2.1.2.2.2.2.2.1,x.2.1.2.2.2.2.2.2.1,x.2.1.2.2.2.2.2.2.2.1,x.2.1.2.2.2.2.2.2.2.2.1,()),())).bind fun v=>bif !v.1 then some (0,0,false,())else bif x.2.1.2.2.1 != 1 then some (0,0,false,())else(Fy ((x.1.1,()),())).bind fun v=>(Ak (x.2.2.1,IntKind.i64.wrap (v.1+1),999,())).bind fun v=>bif !v.1 then some (0,0,false,())else(Gk ((x.1.1,()),(x.2.1.1,x.2.1.2.1,x.2.1.2.2.1,x.2.1.2.2.2.1,x.2.1.2.2.2.2.1,x.2.1.2.2.2.2.2.1,x.2.1.2.2.2.2.2.2.1,x.2.1.2.2.2.2.2.2.2.1,x.2.1.2.2.2.2.2.2.2.2.1,()),())).bind fun v=>(FQ ((x.1.1,()),(x.2.1.1,x.2.1.2.1,x.2.1.2.2.1,x.2.1.2.2.2.1,x.2.1.2.2.2.2.1,x.2.1.2.2.2.2.2.1,x.2.1.2.2.2.2.2.2.1,x.2.1.2.2.2.2.2.2.2.1,x.2.1.2.2.2.2.2.2.2.2.1,()),())).bind fun a=>some (mx x.2.1.2.2.2.2.1 v.1,mn (mn x.2.1.2.2.2.2.2.1 a.1) x.2.2.1,true,())
def VX:Ent:=⟨180,⟨(.slot Bp (.slot Ad (.slot .i .nil))),.nil⟩,⟨(si 2 (.slot .bool .nil)),.nil⟩,El⟩
theorem jc:Ai Go.Proofs.Tryz.prog VX:=okA (hcA 0 (all_cons aX (all_cons jI (all_cons KM (all_cons uV (all_cons uK all_nil)))))) Go.Proofs.Tryz.func180
abbrev uF:=List (List A2)×A3
abbrev uC:=Int×Unit
abbrev uD:=Unit ⊕ Unit
def Ej (i:uF)(v:uC)(R:Type)(K:uC ⊕ uD->Option R):Option R:=bif decide (v.1<(i.2.2.2.2.2.2.2.2.2.1.length:Int))then(lAt i.2.2.2.2.2.2.2.2.2.1 v.1).bind fun a=>(lAt i.1 a.1).bind fun b=>bif decide ((b.length:Int)>=50)then K (.inr (.inl ()))else K (.inl (IntKind.i64.wrap (v.1+1),()))else K (.inr (.inr ()))
theorem NC:Bg Ej:=fun i v R K=>Ae (Ac fun _=>Ac fun _=>Ae (Aa) (Aa)) (Aa)
def ja:Tmpl:=⟨(jk 2 (.ptr 0 0 0 (.ptr 1 0 0 (.junk (.slot .i (jk 19 .nil)))))),(.cells 1 (.slot (.slice (.slice Af)) .nil) (.cells 9 (si 7 (.slot (.slice A0) (.slot (.slice A0) .nil))) .nil))⟩
def uB:Exs uF uD:=xs .ret (fun i p=>⟨jn 4 (.b (false)::jn 20 ([])),[some (Cont.cells 1 [[AV.pv (.slice (.slice Af)) i.1]]),some (Cont.cells 9 [[AV.pv .i i.2.1,AV.pv .i i.2.2.1,AV.pv .i i.2.2.2.1,AV.pv .i i.2.2.2.2.1,AV.pv .i i.2.2.2.2.2.1,AV.pv .i i.2.2.2.2.2.2.1,AV.pv .i i.2.2.2.2.2.2.2.1,AV.pv (.slice A0) i.2.2.2.2.2.2.2.2.1,AV.pv (.slice A0) i.2.2.2.2.2.2.2.2.2.1]])]⟩)<|x1 (.exit 0) fun i p=>⟨jn 25 ([]),[some (Cont.cells 1 [[AV.pv (.slice (.slice Af)) i.1]]),some (Cont.cells 9 [[AV.pv .i i.2.1,AV.pv .i i.2.2.1,AV.pv .i i.2.2.2.1,AV.pv .i i.2.2.2.2.1,AV.pv .i i.2.2.2.2.2.1,AV.pv .i i.2.2.2.2.2.2.1,AV.pv .i i.2.2.2.2.2.2.2.1,AV.pv (.slice A0) i.2.2.2.2.2.2.2.2.1,AV.pv (.slice A0) i.2.2.2.2.2.2.2.2.2.1]])]⟩
def uE:=((.v (.i (.i (.i (.i (.i (.i (.i (.i (.i (.i .n))))))))))):Pk ja.ty _ _)
def qU:Cfg:={ti:=Aw,ents:=[],ann:=[(2,Ao ja 0 (spP uE) Ej uB.E)],lent:=0}
def Ff (x:A4×A3×Unit):Option (Bool×Unit):=(AC (fun v=>Ej (x.1.1,x.2.1.1,x.2.1.2.1,x.2.1.2.2.1,x.2.1.2.2.2.1,x.2.1.2.2.2.2.1,x.2.1.2.2.2.2.2.1,x.2.1.2.2.2.2.2.2.1,x.2.1.2.2.2.2.2.2.2.1,x.2.1.2.2.2.2.2.2.2.2.1,()) v _ some) (0,())).bind fun p=>Az p (fun p=>some (false,())) fun p=>some (true,())
def VW:Ent:=⟨181,⟨(.slot Bp (.slot Ad .nil)),.nil⟩,⟨(.slot .bool .nil),.nil⟩,Ff⟩
theorem dy:CfgOK Go.Proofs.Tryz.prog qU:=hcB all_nil
theorem A41:B9 Go.Proofs.Tryz.prog qU (lpc Go.Proofs.Tryz.f181 0):=lkA dy ja uE Ej uB [4] NC
theorem jb:Ai Go.Proofs.Tryz.prog VW:=okB dy Go.Proofs.Tryz.func181 A41
abbrev uz:=Int×Int×Int×Int×Int×Int×Int×Int×Int×List A1×List A1×Int×Int×Int×Int×Int×Int×Int×A3
abbrev uw:=Int×List (List A2)×Unit
abbrev ux:=List (List A2)×Unit
def CP (i:uz)(v:uw)(R:Type)(K:uw ⊕ ux->Option R):Option R:=bif decide (v.1<(i.2.2.2.2.2.2.2.2.2.1.length:Int))then(lAt i.2.2.2.2.2.2.2.2.2.1 v.1).bind fun a=>if 0<=a.1/\a.1<(v.2.1.length:Int)then v.2.1[0+a.1.toNat]?.bind fun b=>(lAt i.2.2.2.2.2.2.2.2.2.1 v.1).bind fun c=>v.2.1[0+a.1.toNat]?.bind fun d=>(Dh (d,c.2.1,())).bind fun e=>if 0<=a.1/\a.1<(v.2.1.length:Int)then v.2.1[0+a.1.toNat]?.bind fun f=>if 0<=a.1/\a.1<(v.2.1.length:Int)then v.2.1[0+a.1.toNat]?.bind fun g=>v.2.1[0+a.1.toNat]?.bind fun h=>if 0<=e.1/\e.1<(h.length:Int)then v.2.1[0+a.1.toNat]?.bind fun j=>j[0+e.1.toNat]?.bind fun k=>v.2.1[0+a.1.toNat]?.bind fun l=>if 0<=e.1/\e.1<(l.length:Int)then v.2.1[0+a.1.toNat]?.bind fun m=>m[0+e.1.toNat]?.bind fun n=>K (.inl (IntKind.i64.wrap (v.1+1),v.2.1.set (0+a.1.toNat) (m.set (0+e.1.toNat) (n.1,n.2.1,n.2.2.1,mx k.2.2.2.1 i.1,n.2.2.2.2.1,())),()))else none else none else none else none else none else K (.inr (v.2.1,()))
theorem LP:Bg CP:=fun i v R K=>Ae (Ac fun _=>Aq (Ac fun _=>Ac fun _=>Ac fun _=>Ac fun _=>Aq (Ac fun _=>Aq (Ac fun _=>Ac fun _=>Aq (Ac fun _=>Ac fun _=>Ac fun _=>Aq (Ac fun _=>Ac fun _=>Aa)))))) (Aa)
def j8:Tmpl:=⟨(jk 2 (.slot .i (.junk (.slot .i (.junk (.ptr 0 0 0 (jk 3 (.ptr 1 0 0 (.ptr 2 0 0 (.ptr 3 0 0 (.ptr 5 0 0 (.slot .i (jk 113 .nil))))))))))))),(.cells 9 (si 7 (.slot (.slice A0) (.slot (.slice A0) .nil))) (.cells 1 (.const (AV.nils) .nil) (.cells 9 (si 7 (.const (AV.nils) (.const (AV.nils) .nil))) (.cells 1 (.own 4 .nil) (.tree false 0 (.slice Af) (.cells 9 (si 7 (.own 6 (.own 7 .nil))) (.lst false A0 (.lst false A0 .nil))))))))⟩
def uv:Exs uz ux:=x1 (.exit 0) fun i p=>⟨jn 2 (.n (i.1)::jn 1 (.n (i.2.1)::jn 1 (AV.ptr 0 none 0 0::jn 3 (AV.ptr 1 none 0 0::AV.ptr 2 none 0 0::AV.ptr 3 none 0 0::AV.ptr 5 none 0 0::jn 114 ([]))))),[some (Cont.cells 9 [[AV.pv .i i.2.2.1,AV.pv .i i.2.2.2.1,AV.pv .i i.2.2.2.2.1,AV.pv .i i.2.2.2.2.2.1,AV.pv .i i.2.2.2.2.2.2.1,AV.pv .i i.2.2.2.2.2.2.2.1,AV.pv .i i.2.2.2.2.2.2.2.2.1,AV.pv (.slice A0) i.2.2.2.2.2.2.2.2.2.1,AV.pv (.slice A0) i.2.2.2.2.2.2.2.2.2.2.1]]),some (Cont.cells 1 [[AV.nils]]),some (Cont.cells 9 [[AV.pv .i i.2.2.2.2.2.2.2.2.2.2.2.1,AV.pv .i i.2.2.2.2.2.2.2.2.2.2.2.2.1,AV.pv .i i.2.2.2.2.2.2.2.2.2.2.2.2.2.1,AV.pv .i i.2.2.2.2.2.2.2.2.2.2.2.2.2.2.1,AV.pv .i i.2.2.2.2.2.2.2.2.2.2.2.2.2.2.2.1,AV.pv .i i.2.2.2.2.2.2.2.2.2.2.2.2.2.2.2.2.1,AV.pv (Ty.int IntKind.i64) i.2.2.2.2.2.2.2.2.2.2.2.2.2.2.2.2.2.1,AV.nils,AV.nils]]),some (Cont.cells 1 [[AV.own 4 none none]]),some (Cont.tree false 0 (.slice Af) p.1 none),some (Cont.cells 9 [[AV.pv .i i.2.2.2.2.2.2.2.2.2.2.2.2.2.2.2.2.2.2.1,AV.pv .i i.2.2.2.2.2.2.2.2.2.2.2.2.2.2.2.2.2.2.2.1,AV.pv .i i.2.2.2.2.2.2.2.2.2.2.2.2.2.2.2.2.2.2.2.2.1,AV.pv .i i.2.2.2.2.2.2.2.2.2.2.2.2.2.2.2.2.2.2.2.2.2.1,AV.pv .i i.2.2.2.2.2.2.2.2.2.2.2.2.2.2.2.2.2.2.2.2.2.2.1,AV.pv .i i.2.2.2.2.2.2.2.2.2.2.2.2.2.2.2.2.2.2.2.2.2.2.2.1,AV.pv .i i.2.2.2.2.2.2.2.2.2.2.2.2.2.2.2.2.2.2.2.2.2.2.2.2.1,AV.own 6 none none,AV.own 7 none none]]),some (Cont.lst false A0 i.2.2.2.2.2.2.2.2.2.2.2.2.2.2.2.2.2.2.2.2.2.2.2.2.2.1),some (Cont.lst false A0 i.2.2.2.2.2.2.2.2.2.2.2.2.2.2.2.2.2.2.2.2.2.2.2.2.2.2.1)]⟩
def uy:=((.i (.i (.v (.i (.i (.i (.i (.i (.i (.i (.i (.i (.i (.i (.i (.i (.i (.i (.i (.v (.i (.i (.i (.i (.i (.i (.i (.i (.i .n))))))))))))))))))))))))))))):Pk j8.ty _ _)
abbrev kD:=Int×Int×Int×Int×Int×Int×Int×Int×Int×List A1×List A1×Int×Int×Int×Int×Int×Int×Int×A3
abbrev kz:=Int×List (List A2)×Unit
abbrev kA:=List (List A2)×Unit
def Cw (i:kD)(v:kz)(R:Type)(K:kz ⊕ kA->Option R):Option R:=bif decide (v.1<(i.2.2.2.2.2.2.2.2.2.2.1.length:Int))then(lAt i.2.2.2.2.2.2.2.2.2.2.1 v.1).bind fun a=>if 0<=a.1/\a.1<(v.2.1.length:Int)then v.2.1[0+a.1.toNat]?.bind fun b=>v.2.1[0+a.1.toNat]?.bind fun c=>if 0<=a.1/\a.1<(v.2.1.length:Int)then v.2.1[0+a.1.toNat]?.bind fun d=>v.2.1[0+a.1.toNat]?.bind fun e=>if 0<=IntKind.i64.wrap ((c.length:Int)-1)/\IntKind.i64.wrap ((c.length:Int)-1)<(e.length:Int)then v.2.1[0+a.1.toNat]?.bind fun f=>f[0+(IntKind.i64.wrap ((c.length:Int)-1)).toNat]?.bind fun g=>if 0<=a.1/\a.1<(↑((v.2.1.set (0+a.1.toNat) (f.set (0+(IntKind.i64.wrap ((c.length:Int)-1)).toNat) (g.1,g.2.1,g.2.2.1,g.2.2.2.1,i.2.1,()))).length):Int)then(v.2.1.set (0+a.1.toNat) (f.set (0+(IntKind.i64.wrap ((c.length:Int)-1)).toNat) (g.1,g.2.1,g.2.2.1,g.2.2.2.1,i.2.1,())))[0+a.1.toNat]?.bind fun h=>(lAt i.2.2.2.2.2.2.2.2.2.2.1 v.1).bind fun j=>(v.2.1.set (0+a.1.toNat) (f.set (0+(IntKind.i64.wrap ((c.length:Int)-1)).toNat) (g.1,g.2.1,g.2.2.1,g.2.2.2.1,i.2.1,())))[0+a.1.toNat]?.bind fun k=>if(k++[(i.2.2.1,j.2.1,i.1,i.1,1000,())]).length<=879609302220 then if 0<=a.1/\a.1<(↑((v.2.1.set (0+a.1.toNat) (f.set (0+(IntKind.i64.wrap ((c.length:Int)-1)).toNat) (g.1,g.2.1,g.2.2.1,g.2.2.2.1,i.2.1,()))).length):Int)then(v.2.1.set (0+a.1.toNat) (f.set (0+(IntKind.i64.wrap ((c.length:Int)-1)).toNat) (g.1,g.2.1,g.2.2.1,g.2.2.2.1,i.2.1,())))[0+a.1.toNat]?.bind fun l=>if 1<=1/\true=true/\0+a.1.toNat=0+a.1.toNat/\0<=0/\0<1 then K (.inl (IntKind.i64.wrap (v.1+1),(v.2.1.set (0+a.1.toNat) (f.set (0+(IntKind.i64.wrap ((c.length:Int)-1)).toNat) (g.1,g.2.1,g.2.2.1,g.2.2.2.1,i.2.1,()))).set (0+a.1.toNat) (k++[(i.2.2.1,j.2.1,i.1,i.1,1000,())]),()))else none else none else none else none else none else none else none else K (.inr (v.2.1,()))
theorem Lb:Bg Cw:=fun i v R K=>Ae (Ac fun _=>Aq (Ac fun _=>Ac fun _=>Aq (Ac fun _=>Ac fun _=>Aq (Ac fun _=>Ac fun _=>Aq (Ac fun _=>Ac fun _=>Ac fun _=>Aq (Aq (Ac fun _=>Aq (Aa)))))))) (Aa)
def aL:Tmpl:=⟨(jk 2 (.slot .i (.junk (.slot .i (.junk (.ptr 0 0 0 (jk 3 (.ptr 1 0 0 (.ptr 2 0 0 (.ptr 3 0 0 (.ptr 5 0 0 (jk 3 (.slot .i (jk 110 .nil)))))))))))))),(.cells 9 (si 7 (.slot (.slice A0) (.slot (.slice A0) .nil))) (.cells 1 (.const (AV.nils) .nil) (.cells 9 (si 7 (.const (AV.nils) (.const (AV.nils) .nil))) (.cells 1 (.own 4 .nil) (.tree false 1 (.slice Af) (.cells 9 (si 7 (.own 6 (.own 7 .nil))) (.lst false A0 (.lst false A0 .nil))))))))⟩
def ky:Exs kD kA:=x1 (.exit 2) fun i p=>⟨jn 10 (AV.ptr 1 none 0 0::AV.ptr 2 none 0 0::AV.ptr 3 none 0 0::AV.ptr 5 none 0 0::jn 114 ([])),[some (Cont.cells 9 [[AV.pv .i i.2.2.1,AV.pv .i i.2.2.2.1,AV.pv .i i.2.2.2.2.1,AV.pv .i i.2.2.2.2.2.1,AV.pv .i i.2.2.2.2.2.2.1,AV.pv .i i.2.2.2.2.2.2.2.1,AV.pv .i i.2.2.2.2.2.2.2.2.1,AV.pv (.slice A0) i.2.2.2.2.2.2.2.2.2.1,AV.pv (.slice A0) i.2.2.2.2.2.2.2.2.2.2.1]]),some (Cont.cells 1 [[AV.nils]]),some (Cont.cells 9 [[AV.pv (Ty.int IntKind.i64) i.2.2.2.2.2.2.2.2.2.2.2.1,AV.pv .i i.2.2.2.2.2.2.2.2.2.2.2.2.1,AV.pv .i i.2.2.2.2.2.2.2.2.2.2.2.2.2.1,AV.pv .i i.2.2.2.2.2.2.2.2.2.2.2.2.2.2.1,AV.pv .i i.2.2.2.2.2.2.2.2.2.2.2.2.2.2.2.1,AV.pv .i i.2.2.2.2.2.2.2.2.2.2.2.2.2.2.2.2.1,AV.pv .i i.2.2.2.2.2.2.2.2.2.2.2.2.2.2.2.2.2.1,AV.nils,AV.nils]]),some (Cont.cells 1 [[AV.own 4 none none]]),some (Cont.tree false 1 (.slice Af) p.1 none),some (Cont.cells 9 [[AV.pv (Ty.int IntKind.i64) i.2.2.2.2.2.2.2.2.2.2.2.2.2.2.2.2.2.2.1,AV.pv .i i.2.2.2.2.2.2.2.2.2.2.2.2.2.2.2.2.2.2.2.1,AV.pv .i i.2.2.2.2.2.2.2.2.2.2.2.2.2.2.2.2.2.2.2.2.1,AV.pv .i i.2.2.2.2.2.2.2.2.2.2.2.2.2.2.2.2.2.2.2.2.2.1,AV.pv .i i.2.2.2.2.2.2.2.2.2.2.2.2.2.2.2.2.2.2.2.2.2.2.1,AV.pv .i i.2.2.2.2.2.2.2.2.2.2.2.2.2.2.2.2.2.2.2.2.2.2.2.1,AV.pv .i i.2.2.2.2.2.2.2.2.2.2.2.2.2.2.2.2.2.2.2.2.2.2.2.2.1,AV.own 6 none none,AV.own 7 none none]]),some (Cont.lst false A0 i.2.2.2.2.2.2.2.2.2.2.2.2.2.2.2.2.2.2.2.2.2.2.2.2.2.1),some (Cont.lst false A0 i.2.2.2.2.2.2.2.2.2.2.2.2.2.2.2.2.2.2.2.2.2.2.2.2.2.2.1)]⟩
def kB:=((.i (.i (.v (.i (.i (.i (.i (.i (.i (.i (.i (.i (.i (.i (.i (.i (.i (.i (.i (.v (.i (.i (.i (.i (.i (.i (.i (.i (.i .n))))))))))))))))))))))))))))):Pk aL.ty _ _)
def uA:Cfg:={ti:=Aw,ents:=[aI,aC,RC],ann:=[(8,Ao j8 0 (spP uy) CP uv.E),(14,Ao aL 0 (spP kB) Cw ky.E)],lent:=0,hid:=[((19,0),[4]),((19,1),[4]),((19,2),[4]),((20,1),[1])]}
def Dd (x:A4×A3×B3):Option (Int×Int×Int×Int×Int×Int×Int×List (List A2)×A9):=(Hi ((x.1.1,()),())).bind fun v=>(E5 ((x.2.1.1,x.2.1.2.1,x.2.1.2.2.1,x.2.1.2.2.2.1,x.2.1.2.2.2.2.1,x.2.1.2.2.2.2.2.1,x.2.1.2.2.2.2.2.2.1,x.2.1.2.2.2.2.2.2.2.1,x.2.1.2.2.2.2.2.2.2.2.1,()),())).bind fun a=>(AC (fun v=>CP (x.2.2.1,x.2.2.2.2.1,x.2.1.1,x.2.1.2.1,x.2.1.2.2.1,x.2.1.2.2.2.1,x.2.1.2.2.2.2.1,x.2.1.2.2.2.2.2.1,x.2.1.2.2.2.2.2.2.1,x.2.1.2.2.2.2.2.2.2.1,x.2.1.2.2.2.2.2.2.2.2.1,0,0,0,0,0,0,0,a.1,a.2.1,2,a.2.2.2.1,x.2.2.2.1,x.2.2.2.2.1,x.2.2.1,a.2.2.2.2.2.2.2.1,a.2.2.2.2.2.2.2.2.1,()) v _ some) (0,v.1,())).bind fun p=>(AC (fun v=>Cw (x.2.2.1,x.2.2.2.2.1,x.2.1.1,x.2.1.2.1,x.2.1.2.2.1,x.2.1.2.2.2.1,x.2.1.2.2.2.2.1,x.2.1.2.2.2.2.2.1,x.2.1.2.2.2.2.2.2.1,x.2.1.2.2.2.2.2.2.2.1,x.2.1.2.2.2.2.2.2.2.2.1,0,0,0,0,0,0,0,a.1,a.2.1,2,a.2.2.2.1,x.2.2.2.1,x.2.2.2.2.1,x.2.2.1,a.2.2.2.2.2.2.2.1,a.2.2.2.2.2.2.2.2.1,()) v _ some) (0,p.1,())).bind fun p=>some (a.1,a.2.1,2,a.2.2.2.1,x.2.2.2.1,x.2.2.2.2.1,x.2.2.1,p.1,a.2.2.2.2.2.2.2.1,a.2.2.2.2.2.2.2.2.1,())
def R7:Ent:=⟨182,⟨(.slot Bp (.slot Ad (si 3 .nil))),.nil⟩,⟨(.agg (.own 0 .nil) (.agg (si 7 (.own 1 (.own 2 .nil))) .nil)),(.tree false 1 (.slice Af) (.lst false A0 (.lst false A0 .nil)))⟩,Dd⟩
theorem j9:CfgOK Go.Proofs.Tryz.prog uA:=hcB (all_cons uf (all_cons dq (all_cons aY all_nil)))
theorem ur:B9 Go.Proofs.Tryz.prog uA (lpc Go.Proofs.Tryz.f182 1):=lkA j9 aL kB Cw ky [10,11,12,13] Lb
theorem A40:B9 Go.Proofs.Tryz.prog uA (lpc Go.Proofs.Tryz.f182 0):=lkA j9 j8 uy CP uv [2,4,6,10,11,12,13] LP
theorem Z6:Ai Go.Proofs.Tryz.prog R7:=okC j9 Go.Proofs.Tryz.func182 A40 ur
def Arg:Cfg:={ti:=Aw,ents:=[VX,VW,R7],ann:=[],lent:=4,hid:=[((3,2),[6]),((5,1),[6])]}
def Fn (x:Bool×Int×Int×Int×Int×Int×Int×Int×Int×Nat×Nat×A7):Option (Int×Int×Int×Int×Int×Int×Int×Nat×Nat×Bool×A7):=x.2.2.2.2.2.2.2.2.2.2.2.2.1[x.2.2.2.2.2.2.2.2.2.1]?.bind fun v=>x.2.2.2.2.2.2.2.2.2.2.2.2.1[x.2.2.2.2.2.2.2.2.2.2.1]?.bind fun a=>(El ((x.2.2.2.2.2.2.2.2.2.2.2.1,()),(x.2.2.1,x.2.2.2.1,x.2.2.2.2.1,x.2.2.2.2.2.1,x.2.2.2.2.2.2.1,x.2.2.2.2.2.2.2.1,x.2.2.2.2.2.2.2.2.1,v.2.2.2.2.2.2.2.1,a.2.2.2.2.2.2.2.2.1,()),IntKind.i64.wrap (x.2.1+1),())).bind fun v=>bif !v.2.2.1 then some (x.2.2.1,x.2.2.2.1,x.2.2.2.2.1,x.2.2.2.2.2.1,x.2.2.2.2.2.2.1,x.2.2.2.2.2.2.2.1,x.2.2.2.2.2.2.2.2.1,x.2.2.2.2.2.2.2.2.2.1,x.2.2.2.2.2.2.2.2.2.2.1,false,x.2.2.2.2.2.2.2.2.2.2.2.1,x.2.2.2.2.2.2.2.2.2.2.2.2.1,x.2.2.2.2.2.2.2.2.2.2.2.2.2.1,x.2.2.2.2.2.2.2.2.2.2.2.2.2.2.1,())else bif x.1 then bif decide (v.2.1<=v.1)then some (x.2.2.1,x.2.2.2.1,x.2.2.2.2.1,x.2.2.2.2.2.1,x.2.2.2.2.2.2.1,x.2.2.2.2.2.2.2.1,x.2.2.2.2.2.2.2.2.1,x.2.2.2.2.2.2.2.2.2.1,x.2.2.2.2.2.2.2.2.2.2.1,false,x.2.2.2.2.2.2.2.2.2.2.2.1,x.2.2.2.2.2.2.2.2.2.2.2.2.1,x.2.2.2.2.2.2.2.2.2.2.2.2.2.1,x.2.2.2.2.2.2.2.2.2.2.2.2.2.2.1,())else x.2.2.2.2.2.2.2.2.2.2.2.2.1[x.2.2.2.2.2.2.2.2.2.1]?.bind fun b=>x.2.2.2.2.2.2.2.2.2.2.2.2.1[x.2.2.2.2.2.2.2.2.2.2.1]?.bind fun c=>(Ff ((x.2.2.2.2.2.2.2.2.2.2.2.1,()),(x.2.2.1,x.2.2.2.1,x.2.2.2.2.1,x.2.2.2.2.2.1,x.2.2.2.2.2.2.1,x.2.2.2.2.2.2.2.1,x.2.2.2.2.2.2.2.2.1,b.2.2.2.2.2.2.2.1,c.2.2.2.2.2.2.2.2.1,()),())).bind fun d=>bif !d.1 then some (x.2.2.1,x.2.2.2.1,x.2.2.2.2.1,x.2.2.2.2.2.1,x.2.2.2.2.2.2.1,x.2.2.2.2.2.2.2.1,x.2.2.2.2.2.2.2.2.1,x.2.2.2.2.2.2.2.2.2.1,x.2.2.2.2.2.2.2.2.2.2.1,false,x.2.2.2.2.2.2.2.2.2.2.2.1,x.2.2.2.2.2.2.2.2.2.2.2.2.1,x.2.2.2.2.2.2.2.2.2.2.2.2.2.1,x.2.2.2.2.2.2.2.2.2.2.2.2.2.2.1,())else x.2.2.2.2.2.2.2.2.2.2.2.2.1[x.2.2.2.2.2.2.2.2.2.1]?.bind fun e=>x.2.2.2.2.2.2.2.2.2.2.2.2.1[x.2.2.2.2.2.2.2.2.2.2.1]?.bind fun f=>(Dd ((x.2.2.2.2.2.2.2.2.2.2.2.1,()),(x.2.2.1,x.2.2.2.1,x.2.2.2.2.1,x.2.2.2.2.2.1,x.2.2.2.2.2.2.1,x.2.2.2.2.2.2.2.1,x.2.2.2.2.2.2.2.2.1,e.2.2.2.2.2.2.2.1,f.2.2.2.2.2.2.2.2.1,()),IntKind.i64.wrap (x.2.1+1),v.1,v.2.1,())).bind fun v=>none else x.2.2.2.2.2.2.2.2.2.2.2.2.1[x.2.2.2.2.2.2.2.2.2.1]?.bind fun b=>x.2.2.2.2.2.2.2.2.2.2.2.2.1[x.2.2.2.2.2.2.2.2.2.2.1]?.bind fun c=>(Ff ((x.2.2.2.2.2.2.2.2.2.2.2.1,()),(x.2.2.1,x.2.2.2.1,x.2.2.2.2.1,x.2.2.2.2.2.1,x.2.2.2.2.2.2.1,x.2.2.2.2.2.2.2.1,x.2.2.2.2.2.2.2.2.1,b.2.2.2.2.2.2.2.1,c.2.2.2.2.2.2.2.2.1,()),())).bind fun d=>bif !d.1 then some (x.2.2.1,x.2.2.2.1,x.2.2.2.2.1,x.2.2.2.2.2.1,x.2.2.2.2.2.2.1,x.2.2.2.2.2.2.2.1,x.2.2.2.2.2.2.2.2.1,x.2.2.2.2.2.2.2.2.2.1,x.2.2.2.2.2.2.2.2.2.2.1,false,x.2.2.2.2.2.2.2.2.2.2.2.1,x.2.2.2.2.2.2.2.2.2.2.2.2.1,x.2.2.2.2.2.2.2.2.2.2.2.2.2.1,x.2.2.2.2.2.2.2.2.2.2.2.2.2.2.1,())else x.2.2.2.2.2.2.2.2.2.2.2.2.1[x.2.2.2.2.2.2.2.2.2.1]?.bind fun e=>x.2.2.2.2.2.2.2.2.2.2.2.2.1[x.2.2.2.2.2.2.2.2.2.2.1]?.bind fun f=>(Dd ((x.2.2.2.2.2.2.2.2.2.2.2.1,()),(x.2.2.1,x.2.2.2.1,x.2.2.2.2.1,x.2.2.2.2.2.1,x.2.2.2.2.2.2.1,x.2.2.2.2.2.2.2.1,x.2.2.2.2.2.2.2.2.1,e.2.2.2.2.2.2.2.1,f.2.2.2.2.2.2.2.2.1,()),IntKind.i64.wrap (x.2.1+1),v.1,v.2.1,())).bind fun v=>none
def Y3:Ent:=⟨116,⟨(.agg (.slot .bool (.own 0 (.own 1 (.own 2 (.own 3 (.slot .i .nil)))))) (.agg (si 7 (.nown 1 7 (.nown 1 8 .nil))) .nil)),(.tree false 0 (.slice Af) (.tree false 0 Ad (.lst false A0 (.lst false A0 .nil))))⟩,⟨(.agg (.own 0 .nil) (.agg (si 7 (.nown 1 7 (.nown 1 8 .nil))) (.slot .bool .nil))),(.tree false 0 (.slice Af) (.tree false 0 Ad (.lst false A0 (.lst false A0 .nil))))⟩,Fn⟩
theorem uq:Ai Go.Proofs.Tryz.prog Y3:=okA (C:=Arg) (hcB (all_cons jc (all_cons jb (all_cons Z6 all_nil)))) Go.Proofs.Tryz.func116
def A7t:Cfg:={ti:=Aw,ents:=[VX,VW,R7],ann:=[],lent:=4,hid:=[((3,2),[6]),((5,1),[6])]}
def Ev (x:Bool×Int×Int×Int×Int×Int×Int×Int×Int×Nat×Nat×A7):Option (Int×Int×Int×Int×Int×Int×Int×Bool×List (List A2)×List A3×List A1×List A1×List (List A2)×A9):=x.2.2.2.2.2.2.2.2.2.2.2.2.1[x.2.2.2.2.2.2.2.2.2.1]?.bind fun v=>x.2.2.2.2.2.2.2.2.2.2.2.2.1[x.2.2.2.2.2.2.2.2.2.2.1]?.bind fun a=>(El ((x.2.2.2.2.2.2.2.2.2.2.2.1,()),(x.2.2.1,x.2.2.2.1,x.2.2.2.2.1,x.2.2.2.2.2.1,x.2.2.2.2.2.2.1,x.2.2.2.2.2.2.2.1,x.2.2.2.2.2.2.2.2.1,v.2.2.2.2.2.2.2.1,a.2.2.2.2.2.2.2.2.1,()),IntKind.i64.wrap (x.2.1+1),())).bind fun v=>bif !v.2.2.1 then none else bif x.1 then bif decide (v.2.1<=v.1)then none else x.2.2.2.2.2.2.2.2.2.2.2.2.1[x.2.2.2.2.2.2.2.2.2.1]?.bind fun b=>x.2.2.2.2.2.2.2.2.2.2.2.2.1[x.2.2.2.2.2.2.2.2.2.2.1]?.bind fun c=>(Ff ((x.2.2.2.2.2.2.2.2.2.2.2.1,()),(x.2.2.1,x.2.2.2.1,x.2.2.2.2.1,x.2.2.2.2.2.1,x.2.2.2.2.2.2.1,x.2.2.2.2.2.2.2.1,x.2.2.2.2.2.2.2.2.1,b.2.2.2.2.2.2.2.1,c.2.2.2.2.2.2.2.2.1,()),())).bind fun d=>bif !d.1 then none else x.2.2.2.2.2.2.2.2.2.2.2.2.1[x.2.2.2.2.2.2.2.2.2.1]?.bind fun e=>x.2.2.2.2.2.2.2.2.2.2.2.2.1[x.2.2.2.2.2.2.2.2.2.2.1]?.bind fun f=>(Dd ((x.2.2.2.2.2.2.2.2.2.2.2.1,()),(x.2.2.1,x.2.2.2.1,x.2.2.2.2.1,x.2.2.2.2.2.1,x.2.2.2.2.2.2.1,x.2.2.2.2.2.2.2.1,x.2.2.2.2.2.2.2.2.1,e.2.2.2.2.2.2.2.1,f.2.2.2.2.2.2.2.2.1,()),IntKind.i64.wrap (x.2.1+1),v.1,v.2.1,())).bind fun v=>some (v.1,v.2.1,v.2.2.1,v.2.2.2.1,v.2.2.2.2.1,v.2.2.2.2.2.1,v.2.2.2.2.2.2.1,true,x.2.2.2.2.2.2.2.2.2.2.2.1,x.2.2.2.2.2.2.2.2.2.2.2.2.1,x.2.2.2.2.2.2.2.2.2.2.2.2.2.1,x.2.2.2.2.2.2.2.2.2.2.2.2.2.2.1,v.2.2.2.2.2.2.2.1,v.2.2.2.2.2.2.2.2.1,v.2.2.2.2.2.2.2.2.2.1,())else x.2.2.2.2.2.2.2.2.2.2.2.2.1[x.2.2.2.2.2.2.2.2.2.1]?.bind fun b=>x.2.2.2.2.2.2.2.2.2.2.2.2.1[x.2.2.2.2.2.2.2.2.2.2.1]?.bind fun c=>(Ff ((x.2.2.2.2.2.2.2.2.2.2.2.1,()),(x.2.2.1,x.2.2.2.1,x.2.2.2.2.1,x.2.2.2.2.2.1,x.2.2.2.2.2.2.1,x.2.2.2.2.2.2.2.1,x.2.2.2.2.2.2.2.2.1,b.2.2.2.2.2.2.2.1,c.2.2.2.2.2.2.2.2.1,()),())).bind fun d=>bif !d.1 then none else x.2.2.2.2.2.2.2.2.2.2.2.2.1[x.2.2.2.2.2.2.2.2.2.1]?.bind fun e=>x.2.2.2.2.2.2.2.2.2.2.2.2.1[x.2.2.2.2.2.2.2.2.2.2.1]?.bind fun f=>(Dd ((x.2.2.2.2.2.2.2.2.2.2.2.1,()),(x.2.2.1,x.2.2.2.1,x.2.2.2.2.1,x.2.2.2.2.2.1,x.2.2.2.2.2.2.1,x.2.2.2.2.2.2.2.1,x.2.2.2.2.2.2.2.2.1,e.2.2.2.2.2.2.2.1,f.2.2.2.2.2.2.2.2.1,()),IntKind.i64.wrap (x.2.1+1),v.1,v.2.1,())).bind fun v=>some (v.1,v.2.1,v.2.2.1,v.2.2.2.1,v.2.2.2.2.1,v.2.2.2.2.2.1,v.2.2.2.2.2.2.1,true,x.2.2.2.2.2.2.2.2.2.2.2.1,x.2.2.2.2.2.2.2.2.2.2.2.2.1,x.2.2.2.2.2.2.2.2.2.2.2.2.2.1,x.2.2.2.2.2.2.2.2.2.2.2.2.2.2.1,v.2.2.2.2.2.2.2.1,v.2.2.2.2.2.2.2.2.1,v.2.2.2.2.2.2.2.2.2.1,())
def VU:Ent:=⟨116,⟨(.agg (.slot .bool (.own 0 (.own 1 (.own 2 (.own 3 (.slot .i .nil)))))) (.agg (si 7 (.nown 1 7 (.nown 1 8 .nil))) .nil)),(.tree false 0 (.slice Af) (.tree false 0 Ad (.lst false A0 (.lst false A0 .nil))))⟩,⟨(.agg (.own 4 .nil) (.agg (si 7 (.own 5 (.own 6 .nil))) (.slot .bool .nil))),(.tree false 0 (.slice Af) (.tree false 0 Ad (.lst false A0 (.lst false A0 (.tree false 1 (.slice Af) (.lst false A0 (.lst false A0 .nil)))))))⟩,Ev⟩
theorem qt:Ai Go.Proofs.Tryz.prog VU:=okA (C:=A7t) (hcB (all_cons jc (all_cons jb (all_cons Z6 all_nil)))) Go.Proofs.Tryz.func116
def A37:Cfg:={ti:=Aw,ents:=[Y3,VU,Oo,aM],ann:=[],lent:=5,pre:=[(some (0,1)),(some (0,3)),(some (0,4))],two:=[116]}
def FN (x:Int×Bool×Int×A7):Option (Int×Bool×Int×List A3×List (List A2)×A9):=if 0<=x.1/\x.1<(x.2.2.2.2.1.length:Int)then x.2.2.2.2.1[0+x.1.toNat]?.bind fun v=>x.2.2.2.2.1[0+x.1.toNat]?.bind fun a=>x.2.2.2.2.1[0+x.1.toNat]?.bind fun b=>(Gl ((x.2.2.2.1,()),(v.1,v.2.1,v.2.2.1,v.2.2.2.1,v.2.2.2.2.1,v.2.2.2.2.2.1,v.2.2.2.2.2.2.1,a.2.2.2.2.2.2.2.1,b.2.2.2.2.2.2.2.2.1,()),())).bind fun c=>bif c.1==0 then bif x.2.2.1==999 then some (6,x.2.1,x.2.2.1,x.2.2.2.2.1,x.2.2.2.1,x.2.2.2.2.2.1,x.2.2.2.2.2.2.1,())else bif c.1==0 then Rp (Fn (x.2.1,x.2.2.1,v.1,v.2.1,v.2.2.1,v.2.2.2.1,v.2.2.2.2.1,v.2.2.2.2.2.1,v.2.2.2.2.2.2.1,0+x.1.toNat,0+x.1.toNat,x.2.2.2.1,x.2.2.2.2.1,x.2.2.2.2.2.1,x.2.2.2.2.2.2.1,())) (fun v=>bif v.2.2.2.2.2.2.2.2.2.1 then if 0<=x.1/\x.1<(v.2.2.2.2.2.2.2.2.2.2.2.1.length:Int)then v.2.2.2.2.2.2.2.2.2.2.2.1[0+x.1.toNat]?.bind fun v=>none else none else(Bd (x.1,x.2.1,x.2.2.1,v.2.2.2.2.2.2.2.2.2.2.1,v.2.2.2.2.2.2.2.2.2.2.2.1,v.2.2.2.2.2.2.2.2.2.2.2.2.1,v.2.2.2.2.2.2.2.2.2.2.2.2.2.1,())).bind fun v=>some (5,v.1,v.2.1,v.2.2.2.1,v.2.2.1,v.2.2.2.2.2.2.1,v.2.2.2.2.2.2.2.1,())) ((Ev (x.2.1,x.2.2.1,v.1,v.2.1,v.2.2.1,v.2.2.2.1,v.2.2.2.2.1,v.2.2.2.2.2.1,v.2.2.2.2.2.2.1,0+x.1.toNat,0+x.1.toNat,x.2.2.2.1,x.2.2.2.2.1,x.2.2.2.2.2.1,x.2.2.2.2.2.2.1,())).bind fun v=>bif v.2.2.2.2.2.2.2.1 then if 0<=x.1/\x.1<(v.2.2.2.2.2.2.2.2.2.1.length:Int)then v.2.2.2.2.2.2.2.2.2.1[0+x.1.toNat]?.bind fun d=>(Bd (x.1,x.2.1,IntKind.i64.wrap (x.2.2.1+1),v.2.2.2.2.2.2.2.2.2.2.2.2.1,v.2.2.2.2.2.2.2.2.2.1.set (0+x.1.toNat) (v.1,v.2.1,v.2.2.1,v.2.2.2.1,v.2.2.2.2.1,v.2.2.2.2.2.1,v.2.2.2.2.2.2.1,v.2.2.2.2.2.2.2.2.2.2.2.2.2.1,v.2.2.2.2.2.2.2.2.2.2.2.2.2.2.1,()),v.2.2.2.2.2.2.2.2.2.2.1,v.2.2.2.2.2.2.2.2.2.2.2.1,())).bind fun v=>some (c.1,v.1,v.2.1,v.2.2.2.1,v.2.2.1,v.2.2.2.2.2.2.1,v.2.2.2.2.2.2.2.1,())else none else(Bd (x.1,x.2.1,x.2.2.1,v.2.2.2.2.2.2.2.2.1,v.2.2.2.2.2.2.2.2.2.1,v.2.2.2.2.2.2.2.2.2.2.1,v.2.2.2.2.2.2.2.2.2.2.2.1,())).bind fun v=>some (5,v.1,v.2.1,v.2.2.2.1,v.2.2.1,v.2.2.2.2.2.2.1,v.2.2.2.2.2.2.2.1,()))else(Bd (x.1,x.2.1,x.2.2.1,x.2.2.2.1,x.2.2.2.2.1,x.2.2.2.2.2.1,x.2.2.2.2.2.2.1,())).bind fun v=>some (c.1,v.1,v.2.1,v.2.2.2.1,v.2.2.1,v.2.2.2.2.2.2.1,v.2.2.2.2.2.2.2.1,())else bif c.1==0 then Rp (Fn (x.2.1,x.2.2.1,v.1,v.2.1,v.2.2.1,v.2.2.2.1,v.2.2.2.2.1,v.2.2.2.2.2.1,v.2.2.2.2.2.2.1,0+x.1.toNat,0+x.1.toNat,x.2.2.2.1,x.2.2.2.2.1,x.2.2.2.2.2.1,x.2.2.2.2.2.2.1,())) (fun v=>bif v.2.2.2.2.2.2.2.2.2.1 then if 0<=x.1/\x.1<(v.2.2.2.2.2.2.2.2.2.2.2.1.length:Int)then v.2.2.2.2.2.2.2.2.2.2.2.1[0+x.1.toNat]?.bind fun v=>none else none else(Bd (x.1,x.2.1,x.2.2.1,v.2.2.2.2.2.2.2.2.2.2.1,v.2.2.2.2.2.2.2.2.2.2.2.1,v.2.2.2.2.2.2.2.2.2.2.2.2.1,v.2.2.2.2.2.2.2.2.2.2.2.2.2.1,())).bind fun v=>some (5,v.1,v.2.1,v.2.2.2.1,v.2.2.1,v.2.2.2.2.2.2.1,v.2.2.2.2.2.2.2.1,())) ((Ev (x.2.1,x.2.2.1,v.1,v.2.1,v.2.2.1,v.2.2.2.1,v.2.2.2.2.1,v.2.2.2.2.2.1,v.2.2.2.2.2.2.1,0+x.1.toNat,0+x.1.toNat,x.2.2.2.1,x.2.2.2.2.1,x.2.2.2.2.2.1,x.2.2.2.2.2.2.1,())).bind fun v=>bif v.2.2.2.2.2.2.2.1 then if 0<=x.1/\x.1<(v.2.2.2.2.2.2.2.2.2.1.length:Int)then v.2.2.2.2.2.2.2.2.2.1[0+x.1.toNat]?.bind fun d=>(Bd (x.1,x.2.1,IntKind.i64.wrap (x.2.2.1+1),v.2.2.2.2.2.2.2.2.2.2.2.2.1,v.2.2.2.2.2.2.2.2.2.1.set (0+x.1.toNat) (v.1,v.2.1,v.2.2.1,v.2.2.2.1,v.2.2.2.2.1,v.2.2.2.2.2.1,v.2.2.2.2.2.2.1,v.2.2.2.2.2.2.2.2.2.2.2.2.2.1,v.2.2.2.2.2.2.2.2.2.2.2.2.2.2.1,()),v.2.2.2.2.2.2.2.2.2.2.1,v.2.2.2.2.2.2.2.2.2.2.2.1,())).bind fun v=>some (c.1,v.1,v.2.1,v.2.2.2.1,v.2.2.1,v.2.2.2.2.2.2.1,v.2.2.2.2.2.2.2.1,())else none else(Bd (x.1,x.2.1,x.2.2.1,v.2.2.2.2.2.2.2.2.1,v.2.2.2.2.2.2.2.2.2.1,v.2.2.2.2.2.2.2.2.2.2.1,v.2.2.2.2.2.2.2.2.2.2.2.1,())).bind fun v=>some (5,v.1,v.2.1,v.2.2.2.1,v.2.2.1,v.2.2.2.2.2.2.1,v.2.2.2.2.2.2.2.1,()))else(Bd (x.1,x.2.1,x.2.2.1,x.2.2.2.1,x.2.2.2.2.1,x.2.2.2.2.2.1,x.2.2.2.2.2.2.1,())).bind fun v=>some (c.1,v.1,v.2.1,v.2.2.2.1,v.2.2.1,v.2.2.2.2.2.2.1,v.2.2.2.2.2.2.2.1,())else none
def Y2:Ent:=⟨58,⟨(.ptr 0 0 0 (.slot .i .nil)),(.cells 6 (.slot .bool (.own 1 (.own 2 (.own 3 (.own 4 (.slot .i .nil)))))) (.tree false 0 (.slice Af) (.tree false 0 Ad (.lst false A0 (.lst false A0 .nil)))))⟩,⟨(.agg (.slot .i (.const (AV.nils) .nil)) .nil),(.cells 6 (.slot .bool (.own 5 (.own 2 (.own 6 (.own 7 (.slot .i .nil)))))) (.gone (.tree false 1 Ad (.gone (.gone (.tree false 1 (.slice Af) (.lst false A0 (.lst false A0 .nil))))))))⟩,FN⟩
theorem uo:Ai Go.Proofs.Tryz.prog Y2:=okA (C:=A37) (hcB (all_cons uq (all_cons qt (all_cons Qu (all_cons va all_nil))))) Go.Proofs.Tryz.func58
abbrev kx:=Int×Int×Int×Int×Int×Int×Bool×Int×Int×Bool×Int×List (List A2)×List A3×List A1×List A1×Int×A6
abbrev kt:=Int×Unit
abbrev ku:=Int×Unit ⊕ Int×Unit
def CZ (i:kx)(v:kt)(R:Type)(K:kt ⊕ ku->Option R):Option R:=bif decide (v.1<(i.2.2.2.2.2.2.2.2.2.2.2.2.1.length:Int))then if 0<=v.1/\v.1<(i.2.2.2.2.2.2.2.2.2.2.2.2.1.length:Int)then i.2.2.2.2.2.2.2.2.2.2.2.2.1[0+v.1.toNat]?.bind fun a=>bif decide (a.1<i.2.1)then K (.inl (IntKind.i64.wrap (v.1+1),()))else K (.inr (.inl (v.1,())))else none else K (.inr (.inr (v.1,())))
theorem KF:Bg CZ:=fun i v R K=>Ae (Aq (Ac fun _=>Ae (Aa) (Aa))) (Aa)
def aK:Tmpl:=⟨(jk 3 (.ptr 0 0 0 (.ptr 1 0 0 (.ptr 2 0 0 (.ptr 3 0 0 (jk 2 (.ptr 8 0 0 (.junk (.slot .i (jk 137 .nil)))))))))),(.cells 6 (si 6 .nil) (.cells 6 (.slot .bool (.const (AV.nils) (.const (AV.nils) (.const (AV.nils) (.const (AV.nils) (.slot .i .nil)))))) (.cells 2 (.slot .i (.const (AV.nils) .nil)) (.cells 6 (.slot .bool (.own 4 (.own 5 (.own 6 (.own 7 (.slot .i .nil)))))) (.tree false 0 (.slice Af) (.tree false 0 Ad (.lst false A0 (.lst false A0 (.cells 9 (si 7 (.const (AV.nils) (.const (AV.nils) .nil))) .nil)))))))))⟩
def kr:Exs kx ku:=xs (.exit 0) (fun i p=>⟨jn 4 (AV.ptr 1 none 0 0::AV.ptr 2 none 0 0::AV.ptr 3 none 0 0::jn 2 (AV.ptr 8 none 0 0::jn 1 (.n (p.1)::jn 137 ([])))),[some (Cont.cells 6 [[AV.pv .i i.1,AV.pv .i i.2.1,AV.pv (Ty.int IntKind.i64) i.2.2.1,AV.pv .i i.2.2.2.1,AV.pv .i i.2.2.2.2.1,AV.pv .i i.2.2.2.2.2.1]]),some (Cont.cells 6 [[AV.pv .bool i.2.2.2.2.2.2.1,AV.nils,AV.nils,AV.nils,AV.nils,AV.pv .i i.2.2.2.2.2.2.2.1]]),some (Cont.cells 2 [[AV.pv .i i.2.2.2.2.2.2.2.2.1,AV.nils]]),some (Cont.cells 6 [[AV.pv .bool i.2.2.2.2.2.2.2.2.2.1,AV.own 4 none none,AV.own 5 none none,AV.own 6 none none,AV.own 7 none none,AV.pv .i i.2.2.2.2.2.2.2.2.2.2.1]]),some (Cont.tree false 0 (.slice Af) i.2.2.2.2.2.2.2.2.2.2.2.1 none),some (Cont.tree false 0 Ad i.2.2.2.2.2.2.2.2.2.2.2.2.1 none),some (Cont.lst false A0 i.2.2.2.2.2.2.2.2.2.2.2.2.2.1),some (Cont.lst false A0 i.2.2.2.2.2.2.2.2.2.2.2.2.2.2.1),some (Cont.cells 9 [[AV.pv .i i.2.2.2.2.2.2.2.2.2.2.2.2.2.2.2.1,AV.pv .i i.2.2.2.2.2.2.2.2.2.2.2.2.2.2.2.2.1,AV.pv .i i.2.2.2.2.2.2.2.2.2.2.2.2.2.2.2.2.2.1,AV.pv .i i.2.2.2.2.2.2.2.2.2.2.2.2.2.2.2.2.2.2.1,AV.pv .i i.2.2.2.2.2.2.2.2.2.2.2.2.2.2.2.2.2.2.2.1,AV.pv .i i.2.2.2.2.2.2.2.2.2.2.2.2.2.2.2.2.2.2.2.2.1,AV.pv .i i.2.2.2.2.2.2.2.2.2.2.2.2.2.2.2.2.2.2.2.2.2.1,AV.nils,AV.nils]])]⟩)<|x1 (.exit 0) fun i p=>⟨jn 4 (AV.ptr 1 none 0 0::AV.ptr 2 none 0 0::AV.ptr 3 none 0 0::jn 2 (AV.ptr 8 none 0 0::jn 1 (.n (p.1)::jn 137 ([])))),[some (Cont.cells 6 [[AV.pv .i i.1,AV.pv .i i.2.1,AV.pv (Ty.int IntKind.i64) i.2.2.1,AV.pv .i i.2.2.2.1,AV.pv .i i.2.2.2.2.1,AV.pv .i i.2.2.2.2.2.1]]),some (Cont.cells 6 [[AV.pv .bool i.2.2.2.2.2.2.1,AV.nils,AV.nils,AV.nils,AV.nils,AV.pv .i i.2.2.2.2.2.2.2.1]]),some (Cont.cells 2 [[AV.pv .i i.2.2.2.2.2.2.2.2.1,AV.nils]]),some (Cont.cells 6 [[AV.pv .bool i.2.2.2.2.2.2.2.2.2.1,AV.own 4 none none,AV.own 5 none none,AV.own 6 none none,AV.own 7 none none,AV.pv .i i.2.2.2.2.2.2.2.2.2.2.1]]),some (Cont.tree false 0 (.slice Af) i.2.2.2.2.2.2.2.2.2.2.2.1 none),some (Cont.tree false 0 Ad i.2.2.2.2.2.2.2.2.2.2.2.2.1 none),some (Cont.lst false A0 i.2.2.2.2.2.2.2.2.2.2.2.2.2.1),some (Cont.lst false A0 i.2.2.2.2.2.2.2.2.2.2.2.2.2.2.1),some (Cont.cells 9 [[AV.pv .i i.2.2.2.2.2.2.2.2.2.2.2.2.2.2.2.1,AV.pv .i i.2.2.2.2.2.2.2.2.2.2.2.2.2.2.2.2.1,AV.pv .i i.2.2.2.2.2.2.2.2.2.2.2.2.2.2.2.2.2.1,AV.pv .i i.2.2.2.2.2.2.2.2.2.2.2.2.2.2.2.2.2.2.1,AV.pv .i i.2.2.2.2.2.2.2.2.2.2.2.2.2.2.2.2.2.2.2.1,AV.pv .i i.2.2.2.2.2.2.2.2.2.2.2.2.2.2.2.2.2.2.2.2.1,AV.pv .i i.2.2.2.2.2.2.2.2.2.2.2.2.2.2.2.2.2.2.2.2.2.1,AV.nils,AV.nils]])]⟩
def kw:=((.v (.i (.i (.i (.i (.i (.i (.i (.i (.i (.i (.i (.i (.i (.i (.i (.i (.i (.i (.i (.i (.i (.i .n))))))))))))))))))))))):Pk aK.ty _ _)
def qT:Cfg:={ti:=Aw,ents:=[TP,W0,VY,Y2,Oo,iK,XE,aW,XD,Zj,Y8],ann:=[(11,Ao aK 0 (spP kw) CZ kr.E)],lent:=0,hid:=[((5,1),[2]),((8,1),[2]),((16,1),[2]),((32,1),[2])],gho:=[(13,[5])]}
def FP (x:A5×A6×Unit):Option (Bool×Int×Int×List (List A2)×List A3×List A1×List A1×List Int×Unit):=(HU ((x.1.1,(x.1.2.1.1,()),x.1.2.2.1,x.1.2.2.2.1,x.1.2.2.2.2.1,x.1.2.2.2.2.2.1,()),())).bind fun v=>(CJ ((x.1.1,(x.1.2.1.1,()),x.1.2.2.1,x.1.2.2.2.1,x.1.2.2.2.2.1,x.1.2.2.2.2.2.1,()),x.2.1.2.1,())).bind fun a=>(EF ((x.1.1,(x.1.2.1.1,()),x.1.2.2.1,x.1.2.2.2.1,x.1.2.2.2.2.1,x.1.2.2.2.2.2.1,()),())).bind fun b=>bif !b.1 then some (v.1,v.2.1,6,v.2.2.1,v.2.2.2.1,v.2.2.2.2.1,v.2.2.2.2.2.1,[],())else(Ea ((x.2.1.1,x.2.1.2.1,x.2.1.2.2.1,x.2.1.2.2.2.1,x.2.1.2.2.2.2.1,x.2.1.2.2.2.2.2.1,()),())).bind fun c=>bif !c.1 then some (v.1,v.2.1,6,v.2.2.1,v.2.2.2.1,v.2.2.2.2.1,v.2.2.2.2.2.1,[],())else bif !(x.2.1.1==1)==decide (a.1<0)then some (v.1,v.2.1,6,v.2.2.1,v.2.2.2.1,v.2.2.2.2.1,v.2.2.2.2.2.1,[],())else bif x.2.1.1==1 then bif (x.1.2.2.1.length:Int)==6 then some (v.1,v.2.1,6,v.2.2.1,v.2.2.2.1,v.2.2.2.2.1,v.2.2.2.2.2.1,[],())else(Ew (x.2.1.2.1,x.2.1.2.2.1,x.1.2.2.2.2.2.1,())).bind fun d=>(AC (fun e=>CZ (x.2.1.1,x.2.1.2.1,x.2.1.2.2.1,x.2.1.2.2.2.1,x.2.1.2.2.2.2.1,x.2.1.2.2.2.2.2.1,false,0,0,v.1,v.2.1,v.2.2.1,v.2.2.2.1,v.2.2.2.2.1,v.2.2.2.2.2.1,d.1,d.2.1,d.2.2.1,d.2.2.2.1,d.2.2.2.2.1,d.2.2.2.2.2.1,d.2.2.2.2.2.2.1,()) e _ some) (0,())).bind fun p=>Az p (fun p=>if(0:Int)<=0/\0<=p.1/\p.1<=(v.2.2.2.1.length:Int)then if(Cv v.2.2.2.1 (some (0,p.1.toNat-Int.toNat 0))).length<=338311270084 then if(Cv v.2.2.2.1 (some (0,p.1.toNat-Int.toNat 0))++[(d.1,d.2.1,d.2.2.1,d.2.2.2.1,d.2.2.2.2.1,d.2.2.2.2.2.1,d.2.2.2.2.2.2.1,[],[],())]).length<=338311270084 then if 0<=p.1/\p.1<=(v.2.2.2.1.length:Int)/\(v.2.2.2.1.length:Int)<=(v.2.2.2.1.length:Int)then if(Cv v.2.2.2.1 (some (0,p.1.toNat-Int.toNat 0))++[(d.1,d.2.1,d.2.2.1,d.2.2.2.1,d.2.2.2.2.1,d.2.2.2.2.2.1,d.2.2.2.2.2.2.1,[],[],())]++Cv v.2.2.2.1 (some (0+p.1.toNat,(v.2.2.2.1.length:Int).toNat-p.1.toNat))).length<=338311270084 then some (v.1,v.2.1,0,v.2.2.1,Cv v.2.2.2.1 (some (0,p.1.toNat-Int.toNat 0))++[(d.1,d.2.1,d.2.2.1,d.2.2.2.1,d.2.2.2.2.1,d.2.2.2.2.2.1,d.2.2.2.2.2.2.1,[],[],())]++Cv v.2.2.2.1 (some (0+p.1.toNat,(v.2.2.2.1.length:Int).toNat-p.1.toNat)),v.2.2.2.2.1,v.2.2.2.2.2.1,[],())else none else none else none else none else none) fun p=>if(0:Int)<=0/\0<=p.1/\p.1<=(v.2.2.2.1.length:Int)then if(Cv v.2.2.2.1 (some (0,p.1.toNat-Int.toNat 0))).length<=338311270084 then if(Cv v.2.2.2.1 (some (0,p.1.toNat-Int.toNat 0))++[(d.1,d.2.1,d.2.2.1,d.2.2.2.1,d.2.2.2.2.1,d.2.2.2.2.2.1,d.2.2.2.2.2.2.1,[],[],())]).length<=338311270084 then if 0<=p.1/\p.1<=(v.2.2.2.1.length:Int)/\(v.2.2.2.1.length:Int)<=(v.2.2.2.1.length:Int)then if(Cv v.2.2.2.1 (some (0,p.1.toNat-Int.toNat 0))++[(d.1,d.2.1,d.2.2.1,d.2.2.2.1,d.2.2.2.2.1,d.2.2.2.2.2.1,d.2.2.2.2.2.2.1,[],[],())]++Cv v.2.2.2.1 (some (0+p.1.toNat,(v.2.2.2.1.length:Int).toNat-p.1.toNat))).length<=338311270084 then some (v.1,v.2.1,0,v.2.2.1,Cv v.2.2.2.1 (some (0,p.1.toNat-Int.toNat 0))++[(d.1,d.2.1,d.2.2.1,d.2.2.2.1,d.2.2.2.2.1,d.2.2.2.2.2.1,d.2.2.2.2.2.2.1,[],[],())]++Cv v.2.2.2.1 (some (0+p.1.toNat,(v.2.2.2.1.length:Int).toNat-p.1.toNat)),v.2.2.2.2.1,v.2.2.2.2.2.1,[],())else none else none else none else none else none else(lAt x.1.2.2.1 a.1).bind fun d=>bif d.2.2.1 != 1 then some (v.1,v.2.1,6,v.2.2.1,v.2.2.2.1,v.2.2.2.2.1,v.2.2.2.2.2.1,[],())else(HY (v.2.2.2.2.2.1,x.2.1.2.1,())).bind fun e=>bif x.2.1.1==2 then(Fv (a.1,x.2.1.2.2.2.1,v.1,v.2.1,v.2.2.1,v.2.2.2.1,v.2.2.2.2.1,e.1,())).bind fun v=>bif v.2.1==0 then some (v.2.2.1,v.2.2.2.1,v.2.1,v.2.2.2.2.1,v.2.2.2.2.2.1,v.2.2.2.2.2.2.1,v.2.2.2.2.2.2.2.1,[v.1],())else some (v.2.2.1,v.2.2.2.1,v.2.1,v.2.2.2.2.1,v.2.2.2.2.2.1,v.2.2.2.2.2.2.1,v.2.2.2.2.2.2.2.1,[],())else bif x.2.1.1==4 then(Iq (a.1,x.2.1.2.2.2.1,x.2.1.2.2.2.2.1,v.1,v.2.1,v.2.2.1,v.2.2.2.1,v.2.2.2.2.1,e.1,())).bind fun v=>some (v.2.1,v.2.2.1,v.1,v.2.2.2.1,v.2.2.2.2.1,v.2.2.2.2.2.1,v.2.2.2.2.2.2.1,v.2.2.2.2.2.2.2.1,())else bif x.2.1.1==3 then(Gi (a.1,x.2.1.1,x.2.1.2.1,x.2.1.2.2.1,x.2.1.2.2.2.1,x.2.1.2.2.2.2.1,x.2.1.2.2.2.2.2.1,v.1,v.2.1,v.2.2.1,v.2.2.2.1,v.2.2.2.2.1,e.1,())).bind fun v=>some (v.2.1,v.2.2.1,v.1,v.2.2.2.1,v.2.2.2.2.1,v.2.2.2.2.2.1,v.2.2.2.2.2.2.1,[],())else bif x.2.1.1==5 then(FN (a.1,v.1,v.2.1,v.2.2.1,v.2.2.2.1,v.2.2.2.2.1,e.1,())).bind fun v=>some (v.2.1,v.2.2.1,v.1,v.2.2.2.2.1,v.2.2.2.1,v.2.2.2.2.2.1,v.2.2.2.2.2.2.1,[],())else(Bd (a.1,v.1,v.2.1,v.2.2.1,v.2.2.2.1,v.2.2.2.2.1,e.1,())).bind fun v=>some (v.1,v.2.1,0,v.2.2.1,v.2.2.2.1,v.2.2.2.2.2.2.1,v.2.2.2.2.2.2.2.1,[],())
def VT:Ent:=⟨10,⟨(.slot D9 (.slot YOp .nil)),.nil⟩,⟨(.agg (.slot .bool (.own 0 (.own 1 (.own 2 (.own 3 (.slot .i .nil)))))) (.agg (.slot .i (.own 4 .nil)) .nil)),(.tree false 1 (.slice Af) (.lst false Ad (.lst false A0 (.lst false A0 (.lst false .i .nil)))))⟩,FP⟩
theorem dw:CfgOK Go.Proofs.Tryz.prog qT:=hcB (all_cons dU (all_cons qu (all_cons aN (all_cons uo (all_cons Qu (all_cons A7e (all_cons iq (all_cons wv (all_cons kO (all_cons wk (all_cons wh all_nil)))))))))))
theorem um:B9 Go.Proofs.Tryz.prog qT (lpc Go.Proofs.Tryz.f10 0):=lkA dw aK kw CZ kr [4,5,6,9,11] KF
theorem j7:Ai Go.Proofs.Tryz.prog VT:=okB dw Go.Proofs.Tryz.func10 um
abbrev ul:=Unit
abbrev ui:=Int×List (List A2)×Unit
abbrev uj:=List (List A2)×Unit
def IB (i:ul)(v:ui)(R:Type)(K:ui ⊕ uj->Option R):Option R:=bif decide (v.1<6)then if(v.2.1++[[(0,-1,0,0,1000,())]]).length<=1466015503701 then K (.inl (IntKind.i64.wrap (v.1+1),v.2.1++[[(0,-1,0,0,1000,())]],()))else none else K (.inr (v.2.1,()))
theorem QQ:Bg IB:=fun i v R K=>Ae (Aq (Aa)) (Aa)
def j6:Tmpl:=⟨(.ptr 0 0 0 (.ptr 1 0 0 (.junk (.slot .i (jk 10 .nil))))),(.cells 1 (.const (AV.nils) .nil) (.cells 1 (.own 2 .nil) (.tree false 0 (.slice Af) .nil)))⟩
def uh:Exs ul uj:=x1 (.exit 0) fun i p=>⟨AV.ptr 0 none 0 0::AV.ptr 1 none 0 0::jn 12 ([]),[some (Cont.cells 1 [[AV.nils]]),some (Cont.cells 1 [[AV.own 2 none none]]),some (Cont.tree false 0 (.slice Af) p.1 none)]⟩
def uk:=((.v (.v .n)):Pk j6.ty _ _)
def qS:Cfg:={ti:=Aw,ents:=[],ann:=[(3,Ao j6 0 (spP uk) IB uh.E)],lent:=0}
def KA (x:Unit):Option A4:=(AC (fun v=>IB () v _ some) (0,[],())).bind fun p=>some (p.1,())
def hO:Ent:=⟨163,⟨.nil,.nil⟩,⟨(.agg (.own 0 .nil) .nil),(.tree false 0 (.slice Af) .nil)⟩,KA⟩
theorem dv:CfgOK Go.Proofs.Tryz.prog qS:=hcB all_nil
theorem A3y:B9 Go.Proofs.Tryz.prog qS (lpc Go.Proofs.Tryz.f163 0):=lkA dv j6 uk IB uh [0,1] QQ
theorem qr:Ai Go.Proofs.Tryz.prog hO:=okB dv Go.Proofs.Tryz.func163 A3y
def K4 (x:Bool×Unit):Option (Bool×Int×List (List A2)×Unit):=(KA ()).bind fun v=>some (x.1,0,v.1,())
def Y1:Ent:=⟨83,⟨(.slot .bool .nil),.nil⟩,⟨(.agg (.slot .bool (.own 0 (.const (AV.nils) (.const (AV.nils) (.const (AV.nils) (.slot .i .nil)))))) .nil),(.tree false 0 (.slice Af) .nil)⟩,K4⟩
theorem ug:Ai Go.Proofs.Tryz.prog Y1:=okA (hcA 0 (all_cons qr all_nil)) Go.Proofs.Tryz.func83
def BL (x:B3):Option (Bool×Unit):=bif decide (x.2.1<=x.1)then some (decide (x.1<=x.2.2.1),())else some (false,())
def XB:Ent:=⟨130,⟨(si 3 .nil),.nil⟩,⟨(.slot .bool .nil),.nil⟩,BL⟩
theorem OW:Ai Go.Proofs.Tryz.prog XB:=okA (hcA 0 all_nil) Go.Proofs.Tryz.func130
def ER (x:Int×Unit):Option (Bool×Unit):=(BL (x.1,1,4,())).bind fun v=>some (v.1,())
def gZ:Ent:=⟨138,⟨(.slot .i .nil),.nil⟩,⟨(.slot .bool .nil),.nil⟩,ER⟩
theorem j5:Ai Go.Proofs.Tryz.prog gZ:=okA (hcA 0 (all_cons OW all_nil)) Go.Proofs.Tryz.func138
def BC (x:Int×Unit):Option (Bool×Unit):=(BL (x.1,1,9,())).bind fun v=>some (v.1,())
def RA:Ent:=⟨141,⟨(.slot .i .nil),.nil⟩,⟨(.slot .bool .nil),.nil⟩,BC⟩
theorem Qt:Ai Go.Proofs.Tryz.prog RA:=okA (hcA 0 (all_cons OW all_nil)) Go.Proofs.Tryz.func141
def Dl (x:Int×Unit):Option (Bool×Unit):=(BL (x.1,0,5,())).bind fun v=>some (v.1,())
def Rz:Ent:=⟨139,⟨(.slot .i .nil),.nil⟩,⟨(.slot .bool .nil),.nil⟩,Dl⟩
theorem TJ:Ai Go.Proofs.Tryz.prog Rz:=okA (hcA 0 (all_cons OW all_nil)) Go.Proofs.Tryz.func139
def Gc (x:Int×Unit):Option (Bool×Unit):=(BL (x.1,-1,99,())).bind fun v=>some (v.1,())
def aJ:Ent:=⟨140,⟨(.slot .i .nil),.nil⟩,⟨(.slot .bool .nil),.nil⟩,Gc⟩
theorem j4:Ai Go.Proofs.Tryz.prog aJ:=okA (hcA 0 (all_cons OW all_nil)) Go.Proofs.Tryz.func140
def Fb (x:A6×Unit):Option (Bool×Unit):=bif x.1.1==1 then(ER (x.1.2.2.1,())).bind fun v=>(BL (x.1.1,1,6,())).bind fun a=>bif a.1 then(BC (x.1.2.1,())).bind fun b=>bif b.1 then bif v.1 then some (0==0&&(0==0&&(0==0&&(x.1.2.2.2.1==0&&(x.1.2.2.2.2.1==0&&(x.1.2.2.2.2.2.1==0&&true))))),())else some (false,())else some (false,())else some (false,())else bif x.1.1==2 then(Dl (x.1.2.2.2.1,())).bind fun v=>(BL (x.1.1,1,6,())).bind fun a=>bif a.1 then(BC (x.1.2.1,())).bind fun b=>bif b.1 then bif v.1 then some (0==0&&(0==0&&(x.1.2.2.1==0&&(0==0&&(x.1.2.2.2.2.1==0&&(x.1.2.2.2.2.2.1==0&&true))))),())else some (false,())else some (false,())else some (false,())else bif x.1.1==3 then(Dl (x.1.2.2.2.1,())).bind fun v=>bif v.1 then(Gc (x.1.2.2.2.2.2.1,())).bind fun v=>(BL (x.1.1,1,6,())).bind fun a=>bif a.1 then(BC (x.1.2.1,())).bind fun b=>bif b.1 then bif v.1 then some (0==0&&(0==0&&(x.1.2.2.1==0&&(0==0&&(x.1.2.2.2.2.1==0&&(0==0&&true))))),())else some (false,())else some (false,())else some (false,())else(BL (x.1.1,1,6,())).bind fun v=>bif v.1 then(BC (x.1.2.1,())).bind fun v=>bif v.1 then some (false,())else some (false,())else some (false,())else bif x.1.1==4 then(Dl (x.1.2.2.2.1,())).bind fun v=>bif v.1 then(BL (x.1.2.2.2.2.1,x.1.2.2.2.1,5,())).bind fun v=>(BL (x.1.1,1,6,())).bind fun a=>bif a.1 then(BC (x.1.2.1,())).bind fun b=>bif b.1 then bif v.1 then some (0==0&&(0==0&&(x.1.2.2.1==0&&(0==0&&(0==0&&(x.1.2.2.2.2.2.1==0&&true))))),())else some (false,())else some (false,())else some (false,())else(BL (x.1.1,1,6,())).bind fun v=>bif v.1 then(BC (x.1.2.1,())).bind fun v=>bif v.1 then some (false,())else some (false,())else some (false,())else(BL (x.1.1,1,6,())).bind fun v=>bif v.1 then(BC (x.1.2.1,())).bind fun v=>bif v.1 then some (0==0&&(0==0&&(x.1.2.2.1==0&&(x.1.2.2.2.1==0&&(x.1.2.2.2.2.1==0&&(x.1.2.2.2.2.2.1==0&&true))))),())else some (false,())else some (false,())
def Y0:Ent:=⟨66,⟨(.slot YOp .nil),.nil⟩,⟨(.slot .bool .nil),.nil⟩,Fb⟩
theorem ud:Ai Go.Proofs.Tryz.prog Y0:=okA (hcA 0 (all_cons j5 (all_cons OW (all_cons Qt (all_cons TJ (all_cons j4 all_nil)))))) Go.Proofs.Tryz.func66
def Hr (x:Int×Unit):Option (Bool×Unit):=some (x.1 != x.1,())
def gY:Ent:=⟨237,⟨(.slot .i .nil),.nil⟩,⟨(.slot .bool .nil),.nil⟩,Hr⟩
theorem uc:Ai Go.Proofs.Tryz.prog gY:=okA (hcA 0 all_nil) Go.Proofs.Tryz.func237
def BO (x:Int×Int×Unit):Option (Int×Unit):=(Hr (x.1,())).bind fun v=>(Hr (x.2.1,())).bind fun a=>bif v.1 then bif a.1 then some (0,())else some (-1,())else bif a.1 then some (1,())else bif decide (x.1<x.2.1)then some (-1,())else bif decide (x.1>x.2.1)then some (1,())else some (0,())
def gX:Ent:=⟨198,⟨(si 2 .nil),.nil⟩,⟨(.slot .i .nil),.nil⟩,BO⟩
theorem TH:Ai Go.Proofs.Tryz.prog gX:=okA (hcA 0 (all_cons uc all_nil)) Go.Proofs.Tryz.func198
def Dc (x:A3×Int×Unit):Option (Int×Unit):=(BO (x.1.1,x.2.1,())).bind fun v=>some (v.1,())
def aH:Ent:=⟨197,⟨(.slot Ad (.slot .i .nil)),.nil⟩,⟨(.slot .i .nil),.nil⟩,Dc⟩
theorem ub:Ai Go.Proofs.Tryz.prog aH:=okA (hcA 0 (all_cons TH all_nil)) Go.Proofs.Tryz.func197
abbrev ua:=List A3×Int×Unit×Int×Unit
abbrev u5:=Int×Int×Unit
abbrev u6:=Int×Unit
def Ay (i:ua)(v:u5)(R:Type)(K:u5 ⊕ u6->Option R):Option R:=bif decide (v.1<v.2.1)then(lAt i.1 (IntKind.i64.wrap (Int.fdiv (IntKind.u64.wrap (IntKind.i64.wrap (v.1+v.2.1))) (2 ^ min (Int.toNat 1) (IntKind.bits IntKind.u64))))).bind fun a=>(Dc ((a.1,a.2.1,a.2.2.1,a.2.2.2.1,a.2.2.2.2.1,a.2.2.2.2.2.1,a.2.2.2.2.2.2.1,a.2.2.2.2.2.2.2.1,a.2.2.2.2.2.2.2.2.1,()),i.2.1,())).bind fun b=>bif decide (b.1<0)then K (.inl (IntKind.i64.wrap (IntKind.i64.wrap (Int.fdiv (IntKind.u64.wrap (IntKind.i64.wrap (v.1+v.2.1))) (2 ^ min (Int.toNat 1) (IntKind.bits IntKind.u64)))+1),v.2.1,()))else K (.inl (v.1,IntKind.i64.wrap (Int.fdiv (IntKind.u64.wrap (IntKind.i64.wrap (v.1+v.2.1))) (2 ^ min (Int.toNat 1) (IntKind.bits IntKind.u64))),()))else K (.inr (v.1,()))
theorem Ee:Bg Ay:=fun i v R K=>Ae (Ac fun _=>Ac fun _=>Ae (Aa) (Aa)) (Aa)
def j3:Tmpl:=⟨(.slot (.slice Ad) (.slot .i (.slot (.fn 197 .unit) (jk 5 (si 3 (jk 38 .nil)))))),.nil⟩
def tZ:Exs ua u6:=x1 (.exit 0) fun i p=>⟨AV.pv (.slice Ad) i.1::.n (i.2.1)::AV.pv (.fn 197 .unit) i.2.2.1::jn 5 (.n (i.2.2.2.1)::.n (p.1)::jn 39 ([])),[]⟩
def u7:=((.i (.i (.i (.i (.v (.v .n)))))):Pk j3.ty _ _)
def qQ:Cfg:={ti:=Aw,ents:=[aH],ann:=[(3,Ao j3 0 (spP u7) Ay tZ.E)],lent:=0}
def AO (x:List A3×Int×Unit×Unit):Option (Int×Bool×Unit):=(AC (fun v=>Ay (x.1,x.2.1,x.2.2.1,(x.1.length:Int),()) v _ some) (0,(x.1.length:Int),())).bind fun p=>bif decide (p.1<(x.1.length:Int))then(lAt x.1 p.1).bind fun v=>(Dc ((v.1,v.2.1,v.2.2.1,v.2.2.2.1,v.2.2.2.2.1,v.2.2.2.2.2.1,v.2.2.2.2.2.2.1,v.2.2.2.2.2.2.2.1,v.2.2.2.2.2.2.2.2.1,()),x.2.1,())).bind fun v=>some (p.1,v.1==0,())else some (p.1,false,())
def aG:Ent:=⟨196,⟨(.slot (.slice Ad) (.slot .i (.slot (.fn 197 .unit) .nil))),.nil⟩,⟨(.slot .i (.slot .bool .nil)),.nil⟩,AO⟩
theorem du:CfgOK Go.Proofs.Tryz.prog qQ:=hcB (all_cons ub all_nil)
theorem A3x:B9 Go.Proofs.Tryz.prog qQ (lpc Go.Proofs.Tryz.f196 0):=lkA du j3 u7 Ay tZ [0,1,2,8,9] Ee
theorem u9:Ai Go.Proofs.Tryz.prog aG:=okB du Go.Proofs.Tryz.func196 A3x
def JT (x:Int×Unit):Option (Bool×Unit):=(BL (x.1,1,999,())).bind fun v=>some (v.1,())
def aF:Ent:=⟨231,⟨(.slot .i .nil),.nil⟩,⟨(.slot .bool .nil),.nil⟩,JT⟩
theorem qq:Ai Go.Proofs.Tryz.prog aF:=okA (hcA 0 (all_cons OW all_nil)) Go.Proofs.Tryz.func231
abbrev tY:=Int×List Int×Int×Unit
abbrev tV:=Int×Unit
abbrev tW:=Int×Unit ⊕ Unit
def CO (i:tY)(v:tV)(R:Type)(K:tV ⊕ tW->Option R):Option R:=bif decide (v.1<i.2.2.1)then(lAt i.2.1 v.1).bind fun a=>bif a != i.1 then K (.inr (.inl (a,())))else K (.inl (IntKind.i64.wrap (v.1+1),()))else K (.inr (.inr ()))
theorem OQ:Bg CO:=fun i v R K=>Ae (Ac fun _=>Ae (Aa) (Aa)) (Aa)
def iZ:Tmpl:=⟨(jk 3 (.slot .i (jk 2 (.slot (.slice .i) (si 2 (jk 9 .nil)))))),.nil⟩
def tU:Exs tY tW:=xs .ret (fun i p=>⟨jn 2 (.n (p.1)::.n (i.1)::jn 14 ([])),[]⟩)<|x1 (.exit 0) fun i p=>⟨jn 3 (.n (i.1)::jn 14 ([])),[]⟩
def tX:=((.i (.i (.i (.v .n)))):Pk iZ.ty _ _)
def qP:Cfg:={ti:=Aw,ents:=[],ann:=[(3,Ao iZ 0 (spP tX) CO tU.E)],lent:=0}
def Jy (x:List Int×Unit):Option (Int×Unit):=(AC (fun v=>CO (0,x.1,(x.1.length:Int),()) v _ some) (0,())).bind fun p=>Az p (fun p=>some (p.1,())) fun p=>some (0,())
def aE:Ent:=⟨284,⟨(.slot (.slice .i) .nil),.nil⟩,⟨(.slot .i .nil),.nil⟩,Jy⟩
theorem dt:CfgOK Go.Proofs.Tryz.prog qP:=hcB all_nil
theorem A3w:B9 Go.Proofs.Tryz.prog qP (lpc Go.Proofs.Tryz.f284 0):=lkA dt iZ tX CO tU [2,3] OQ
theorem qp:Ai Go.Proofs.Tryz.prog aE:=okB dt Go.Proofs.Tryz.func284 A3w
def BI (x:A1×A1×Unit):Option (Int×Unit):=(BO (x.1.1,x.2.1.1,())).bind fun v=>(BO (x.1.2.1,x.2.1.2.1,())).bind fun a=>(Jy ([v.1,a.1],())).bind fun v=>some (v.1,())
def SE:Ent:=⟨265,⟨(.slot A0 (.slot A0 .nil)),.nil⟩,⟨(.slot .i .nil),.nil⟩,BI⟩
theorem dr:Ai Go.Proofs.Tryz.prog SE:=okA (hcA 0 (all_cons TH (all_cons qp all_nil))) Go.Proofs.Tryz.func265
abbrev tS:=List A1×List A1×Int×Unit
abbrev tP:=Int×Unit
abbrev tQ:=Int×Int×Unit ⊕ Int×Int×Unit ⊕ Int×Int×Unit ⊕ Unit
def Ef (i:tS)(v:tP)(R:Type)(K:tP ⊕ tQ->Option R):Option R:=bif decide (v.1<i.2.2.1)then(lAt i.2.1 v.1).bind fun a=>(Dl (a.1,())).bind fun b=>bif !b.1 then K (.inr (.inl (a.1,a.2.1,())))else(BL (a.2.1,0,999,())).bind fun c=>bif !c.1 then K (.inr (.inr (.inl (a.1,a.2.1,()))))else bif decide (v.1>0)then(lAt i.1 (IntKind.i64.wrap (v.1-1))).bind fun d=>(BI ((d.1,d.2.1,()),(a.1,a.2.1,()),())).bind fun e=>bif decide (e.1>=0)then K (.inr (.inr (.inr (.inl (a.1,a.2.1,())))))else K (.inl (IntKind.i64.wrap (v.1+1),()))else K (.inl (IntKind.i64.wrap (v.1+1),()))else K (.inr (.inr (.inr (.inr ()))))
theorem Mv:Bg Ef:=fun i v R K=>Ae (Ac fun _=>Ac fun _=>Ae (Aa) (Ac fun _=>Ae (Aa) (Ae (Ac fun _=>Ac fun _=>Ae (Aa) (Aa)) (Aa)))) (Aa)
def iY:Tmpl:=⟨(.slot (.slice A0) (jk 4 (.slot (.slice A0) (si 2 (jk 32 .nil))))),.nil⟩
def tO:Exs tS tQ:=xs .ret (fun i p=>⟨AV.pv (.slice A0) i.1::jn 1 (.b (false)::jn 37 ([])),[some (Cont.cells 2 [[AV.pv .i p.1,AV.pv .i p.2.1]])]⟩)<|xs .ret (fun i p=>⟨AV.pv (.slice A0) i.1::jn 1 (.b (false)::jn 37 ([])),[some (Cont.cells 2 [[AV.pv .i p.1,AV.pv .i p.2.1]])]⟩)<|xs .ret (fun i p=>⟨AV.pv (.slice A0) i.1::jn 1 (.b (false)::jn 37 ([])),[some (Cont.cells 2 [[AV.pv .i p.1,AV.pv .i p.2.1]])]⟩)<|x1 (.exit 0) fun i p=>⟨AV.pv (.slice A0) i.1::jn 39 ([]),[]⟩
def tR:=((.i (.i (.i (.v .n)))):Pk iY.ty _ _)
def A7l:Cfg:={ti:=Aw,ents:=[Rz,XB,SE],ann:=[(2,Ao iY 0 (spP tR) Ef tO.E)],lent:=0}
def D6 (x:List A1×Unit):Option (Bool×Unit):=(AC (fun v=>Ef (x.1,x.1,(x.1.length:Int),()) v _ some) (0,())).bind fun p=>Az p (fun p=>some (false,())) fun p=>Az p (fun p=>some (false,())) fun p=>Az p (fun p=>some (false,())) fun p=>some (decide ((x.1.length:Int)<=60),())
def A3u:Ent:=⟨232,⟨(.slot (.slice A0) .nil),.nil⟩,⟨(.slot .bool .nil),.nil⟩,D6⟩
theorem tT:CfgOK Go.Proofs.Tryz.prog A7l:=hcB (all_cons TJ (all_cons OW (all_cons dr all_nil)))
theorem A3t:B9 Go.Proofs.Tryz.prog A7l (lpc Go.Proofs.Tryz.f232 0):=lkA tT iY tR Ef tO [0,2] Mv
theorem Abg:Ai Go.Proofs.Tryz.prog A3u:=okB tT Go.Proofs.Tryz.func232 A3t
abbrev tL:=List A1×List A1×Int×Unit
abbrev tH:=Int×Unit
abbrev tI:=Int×Int×Unit ⊕ Int×Int×Unit ⊕ Int×Int×Unit ⊕ Unit
def Dz (i:tL)(v:tH)(R:Type)(K:tH ⊕ tI->Option R):Option R:=bif decide (v.1<i.2.2.1)then(lAt i.2.1 v.1).bind fun a=>(Dl (a.1,())).bind fun b=>bif !b.1 then K (.inr (.inl (a.1,a.2.1,())))else(Gc (a.2.1,())).bind fun c=>bif !c.1 then K (.inr (.inr (.inl (a.1,a.2.1,()))))else bif decide (v.1>0)then(lAt i.1 (IntKind.i64.wrap (v.1-1))).bind fun d=>bif decide (d.1>=a.1)then K (.inr (.inr (.inr (.inl (a.1,a.2.1,())))))else K (.inl (IntKind.i64.wrap (v.1+1),()))else K (.inl (IntKind.i64.wrap (v.1+1),()))else K (.inr (.inr (.inr (.inr ()))))
theorem M4:Bg Dz:=fun i v R K=>Ae (Ac fun _=>Ac fun _=>Ae (Aa) (Ac fun _=>Ae (Aa) (Ae (Ac fun _=>Ae (Aa) (Aa)) (Aa)))) (Aa)
def iX:Tmpl:=⟨(.slot (.slice A0) (jk 4 (.slot (.slice A0) (si 2 (jk 30 .nil))))),.nil⟩
def tG:Exs tL tI:=xs .ret (fun i p=>⟨jn 2 (.b (false)::jn 35 ([])),[some (Cont.cells 2 [[AV.pv .i p.1,AV.pv .i p.2.1]])]⟩)<|xs .ret (fun i p=>⟨jn 2 (.b (false)::jn 35 ([])),[some (Cont.cells 2 [[AV.pv .i p.1,AV.pv .i p.2.1]])]⟩)<|xs .ret (fun i p=>⟨jn 2 (.b (false)::jn 35 ([])),[some (Cont.cells 2 [[AV.pv .i p.1,AV.pv .i p.2.1]])]⟩)<|x1 (.exit 0) fun i p=>⟨jn 38 ([]),[]⟩
def tJ:=((.i (.i (.i (.v .n)))):Pk iX.ty _ _)
def tN:Cfg:={ti:=Aw,ents:=[Rz,aJ],ann:=[(2,Ao iX 0 (spP tJ) Dz tG.E)],lent:=0}
def CG (x:List A1×Unit):Option (Bool×Unit):=(AC (fun v=>Dz (x.1,x.1,(x.1.length:Int),()) v _ some) (0,())).bind fun p=>Az p (fun p=>some (false,())) fun p=>Az p (fun p=>some (false,())) fun p=>Az p (fun p=>some (false,())) fun p=>some (true,())
def gW:Ent:=⟨233,⟨(.slot (.slice A0) .nil),.nil⟩,⟨(.slot .bool .nil),.nil⟩,CG⟩
theorem tM:CfgOK Go.Proofs.Tryz.prog tN:=hcB (all_cons TJ (all_cons j4 all_nil))
theorem A3s:B9 Go.Proofs.Tryz.prog tN (lpc Go.Proofs.Tryz.f233 0):=lkA tM iX tJ Dz tG [2] M4
theorem tK:Ai Go.Proofs.Tryz.prog gW:=okB tM Go.Proofs.Tryz.func233 A3s
def CL (x:A3×Unit):Option (Bool×Unit):=(BC (x.1.1,())).bind fun v=>bif !v.1 then some (false,())else(ER (x.1.2.1,())).bind fun v=>bif !v.1 then some (false,())else(BL (x.1.2.2.1,1,3,())).bind fun v=>bif !v.1 then some (false,())else(BL (x.1.2.2.2.1,0,999,())).bind fun v=>bif !v.1 then some (false,())else(BL (x.1.2.2.2.2.1,0,999,())).bind fun v=>bif !v.1 then some (false,())else(BL (x.1.2.2.2.2.2.1,1,1000,())).bind fun v=>bif !v.1 then some (false,())else bif x.1.2.2.1==2 then(JT (x.1.2.2.2.2.2.2.1,())).bind fun v=>bif !v.1 then some (false,())else bif x.1.2.2.1 != 2 then bif x.1.2.2.2.2.2.2.1 != 0 then some (false,())else(D6 (x.1.2.2.2.2.2.2.2.1,())).bind fun v=>bif v.1 then(CG (x.1.2.2.2.2.2.2.2.2.1,())).bind fun v=>some (v.1,())else some (false,())else(D6 (x.1.2.2.2.2.2.2.2.1,())).bind fun v=>bif v.1 then(CG (x.1.2.2.2.2.2.2.2.2.1,())).bind fun v=>some (v.1,())else some (false,())else bif x.1.2.2.1 != 2 then bif x.1.2.2.2.2.2.2.1 != 0 then some (false,())else(D6 (x.1.2.2.2.2.2.2.2.1,())).bind fun v=>bif v.1 then(CG (x.1.2.2.2.2.2.2.2.2.1,())).bind fun v=>some (v.1,())else some (false,())else(D6 (x.1.2.2.2.2.2.2.2.1,())).bind fun v=>bif v.1 then(CG (x.1.2.2.2.2.2.2.2.2.1,())).bind fun v=>some (v.1,())else some (false,())
def gV:Ent:=⟨192,⟨(.slot Ad .nil),.nil⟩,⟨(.slot .bool .nil),.nil⟩,CL⟩
theorem tE:Ai Go.Proofs.Tryz.prog gV:=okA (hcA 0 (all_cons Qt (all_cons j5 (all_cons OW (all_cons qq (all_cons Abg (all_cons tK all_nil))))))) Go.Proofs.Tryz.func192
def Ey (x:B3):Option (Int×Int×Int×Int×Int×Int×Int×Bool×Unit):=(CL ((x.1,x.2.1,1,x.2.2.1,0,1000,0,[],[],()),())).bind fun v=>bif !v.1 then some (0,0,0,0,0,0,0,false,())else some (x.1,x.2.1,1,x.2.2.1,0,1000,0,true,())
def XZ:Ent:=⟨199,⟨(si 3 .nil),.nil⟩,⟨(.agg (si 7 (.const (AV.nils) (.const (AV.nils) .nil))) (.slot .bool .nil)),.nil⟩,Ey⟩
theorem tD:Ai Go.Proofs.Tryz.prog XZ:=okA (hcA 0 (all_cons tE all_nil)) Go.Proofs.Tryz.func199
def kq:Go.Shelf.Ren:=⟨fun|22=>200|29=>238|30=>239|n=>n,fun|24=>36|9=>93|n=>n,fun|n=>n⟩
theorem Ap5:InsL Go.Proofs.Tryz.prog kq true 9 where
 mixed:=by kernel_rfl
 f22:=⟨ "slices.Insert[[]loop.example/g01924/impl.Transaction,loop.example/g01924/impl.Transaction]",by decide,Go.Proofs.Tryz.func200.trans (congrArg some (by kernel_rfl))⟩
 f29:=⟨_,Go.Proofs.Tryz.func238,by kernel_rfl,by kernel_rfl,by kernel_rfl,by kernel_rfl⟩
 a9:=Go.Proofs.Tryz.isAgg93
 z9:=Go.Proofs.Tryz.sizeOf93
 t0:=Go.Proofs.Tryz.underlying0
 a0:=Go.Proofs.Tryz.isAgg0
 z0:=Go.Proofs.Tryz.sizeOf0
 v0:=Go.Proofs.Tryz.zeroValue0
 t3:=Go.Proofs.Tryz.underlying3
 a3:=Go.Proofs.Tryz.isAgg3
 z3:=Go.Proofs.Tryz.sizeOf3
 v3:=Go.Proofs.Tryz.zeroValue3
 t4:=Go.Proofs.Tryz.underlying4
 a4:=Go.Proofs.Tryz.isAgg4
 z4:=Go.Proofs.Tryz.sizeOf4
 v4:=Go.Proofs.Tryz.zeroValue4
 t24:=Go.Proofs.Tryz.underlying36
 a24:=Go.Proofs.Tryz.isAgg36
 z24:=Go.Proofs.Tryz.sizeOf36
 v24:=Go.Proofs.Tryz.zeroValue36
def CT (x:Int×List (Int×Int×Int×Int×Int×Int×Int×List (Int×Int×Unit)×List (Int×Int×Unit)×Unit)×List (Int×Int×Int×Int×Int×Int×Int×List (Int×Int×Unit)×List (Int×Int×Unit)×Unit)×Unit):Option (List (Int×Int×Int×Int×Int×Int×Int×List (Int×Int×Unit)×List (Int×Int×Unit)×Unit)×Unit):=Pi (α:=Int×Int×Int×Int×Int×Int×Int×List (Int×Int×Unit)×List (Int×Int×Unit)×Unit) 338311270084 x
def Add:Cfg:={ti:=Aw,ents:=[],ann:=[],lent:=2}
def Zi:Ent:=⟨200,⟨(.own 0 (.slot Ty.i (.own 1 .nil))),(.tree false 0 (Ty.prod Ty.i (Ty.prod Ty.i (Ty.prod Ty.i (Ty.prod Ty.i (Ty.prod Ty.i (Ty.prod Ty.i (Ty.prod Ty.i (Ty.prod (Ty.slice (Ty.prod
 Ty.i (Ty.prod Ty.i Ty.unit))) (Ty.prod (Ty.slice A0) Ty.unit))))))))) (.tree false 0 (Ty.prod Ty.i (Ty.prod Ty.i (Ty.prod Ty.i (Ty.prod Ty.i (Ty.prod Ty.i (Ty.prod Ty.i (Ty.prod Ty.i (Ty.prod (Ty.slice (Ty.prod
 Ty.i (Ty.prod Ty.i Ty.unit))) (Ty.prod (Ty.slice A0) Ty.unit))))))))) .nil))⟩,⟨(.own 2 .nil),(.gone (.gone (.tree false 0 (Ty.prod Ty.i (Ty.prod Ty.i (Ty.prod Ty.i (Ty.prod Ty.i (Ty.prod Ty.i (Ty.prod Ty.i (Ty.prod Ty.i (Ty.prod (Ty.slice (Ty.prod
 Ty.i (Ty.prod Ty.i Ty.unit))) (Ty.prod (Ty.slice A0) Ty.unit))))))))) .nil)))⟩,CT⟩
theorem tC:Ai Go.Proofs.Tryz.prog Zi:=py (ρ:=kq) (t:=Ty.prod Ty.i (Ty.prod Ty.i (Ty.prod Ty.i (Ty.prod Ty.i (Ty.prod Ty.i (Ty.prod Ty.i (Ty.prod Ty.i (Ty.prod (Ty.slice (Ty.prod
 Ty.i (Ty.prod Ty.i Ty.unit))) (Ty.prod (Ty.slice A0) Ty.unit))))))))) gy Ap5 rfl (by decide) rfl
def Ap3:Cfg:={ti:=Aw,ents:=[Zi,aG,XZ],ann:=[],lent:=5,hid:=[((5,0),[2,5])],pre:=[(some (0,2))]}
def EA (x:Int×Int×Int×Int×Int×Int×Bool×Int×A7):Option (Int×Bool×Int×List (List A2)×List A1×List A1×List A3×Unit):=(AO (x.2.2.2.2.2.2.2.2.2.1,x.2.1,(),())).bind fun v=>bif v.2.1 then some (6,x.2.2.2.2.2.2.1,x.2.2.2.2.2.2.2.1,x.2.2.2.2.2.2.2.2.1,x.2.2.2.2.2.2.2.2.2.2.1,x.2.2.2.2.2.2.2.2.2.2.2.1,x.2.2.2.2.2.2.2.2.2.1,())else bif (x.2.2.2.2.2.2.2.2.2.1.length:Int)==6 then some (6,x.2.2.2.2.2.2.1,x.2.2.2.2.2.2.2.1,x.2.2.2.2.2.2.2.2.1,x.2.2.2.2.2.2.2.2.2.2.1,x.2.2.2.2.2.2.2.2.2.2.2.1,x.2.2.2.2.2.2.2.2.2.1,())else(Ey (x.2.1,x.2.2.1,x.2.2.2.2.2.2.2.1,())).bind fun a=>(CT (v.1,x.2.2.2.2.2.2.2.2.2.1,[(a.1,a.2.1,a.2.2.1,a.2.2.2.1,a.2.2.2.2.1,a.2.2.2.2.2.1,a.2.2.2.2.2.2.1,[],[],())],())).bind fun v=>some (0,x.2.2.2.2.2.2.1,x.2.2.2.2.2.2.2.1,x.2.2.2.2.2.2.2.2.1,x.2.2.2.2.2.2.2.2.2.2.1,x.2.2.2.2.2.2.2.2.2.2.2.1,v.1,())
def XY:Ent:=⟨142,⟨(.ptr 0 0 0 (.agg (si 6 .nil) .nil)),(.cells 6 (.slot .bool (.own 1 (.own 2 (.own 3 (.own 4 (.slot .i .nil)))))) (.tree false 0 (.slice Af) (.tree false 0 Ad (.lst false A0 (.lst false A0 .nil)))))⟩,⟨(.agg (.slot .i (.const (AV.nils) .nil)) .nil),(.cells 6 (.slot .bool (.own 1 (.own 5 (.own 3 (.own 4 (.slot .i .nil)))))) (.tree false 0 (.slice Af) (.gone (.lst false A0 (.lst false A0 (.tree false 0 Ad .nil))))))⟩,EA⟩
theorem tB:Ai Go.Proofs.Tryz.prog XY:=okA (C:=Ap3) (hcB (all_cons tC (all_cons u9 (all_cons tD all_nil)))) Go.Proofs.Tryz.func142
def Fh (x:A3×Option Int×Unit):Option (Bool×Unit):=x.2.1.bind fun v=>some (x.1.1==v,())
def XX:Ent:=⟨202,⟨(.slot Ad (.slot (.iref .i) .nil)),.nil⟩,⟨(.slot .bool .nil),.nil⟩,Fh⟩
theorem tz:Ai Go.Proofs.Tryz.prog XX:=okA (hcA 0 all_nil) Go.Proofs.Tryz.func202
abbrev tw:=List A3×(Option Int×Unit)×Int×Unit
abbrev tp:=Int×Unit
abbrev tq:=Int×Unit ⊕ Unit
def AD (i:tw)(v:tp)(R:Type)(K:tp ⊕ tq->Option R):Option R:=bif decide (v.1<i.2.2.1)then(lAt i.1 v.1).bind fun a=>(Fh ((a.1,a.2.1,a.2.2.1,a.2.2.2.1,a.2.2.2.2.1,a.2.2.2.2.2.1,a.2.2.2.2.2.2.1,a.2.2.2.2.2.2.2.1,a.2.2.2.2.2.2.2.2.1,()),i.2.1.1,())).bind fun b=>bif b.1 then K (.inr (.inl (v.1,())))else K (.inl (IntKind.i64.wrap (v.1+1),()))else K (.inr (.inr ()))
theorem EW:Bg AD:=fun i v R K=>Ae (Ac fun _=>Ac fun _=>Ae (Aa) (Aa)) (Aa)
def iV:Tmpl:=⟨(.slot (.slice Ad) (.slot (.fn 202 (.prod (.iref .i) .unit)) (jk 5 (si 2 (jk 10 .nil))))),.nil⟩
def tn:Exs tw tq:=xs .ret (fun i p=>⟨jn 4 (.n (p.1)::jn 14 ([])),[]⟩)<|x1 (.exit 0) fun i p=>⟨jn 19 ([]),[]⟩
def tu:=((.i (.i (.i (.v .n)))):Pk iV.ty _ _)
def A7k:Cfg:={ti:=Aw,ents:=[XX],ann:=[(2,Ao iV 0 (spP tu) AD tn.E)],lent:=0}
def BU (x:List A3×(Option Int×Unit)×Unit):Option (Int×Unit):=(AC (fun v=>AD (x.1,x.2.1,(x.1.length:Int),()) v _ some) (0,())).bind fun p=>Az p (fun p=>some (p.1,())) fun p=>some (-1,())
def gU:Ent:=⟨201,⟨(.slot (.slice Ad) (.slot (.fn 202 (.prod (.iref .i) .unit)) .nil)),.nil⟩,⟨(.slot .i .nil),.nil⟩,BU⟩
theorem tx:CfgOK Go.Proofs.Tryz.prog A7k:=hcB (all_cons tz all_nil)
theorem A3q:B9 Go.Proofs.Tryz.prog A7k (lpc Go.Proofs.Tryz.f201 0):=lkA tx iV tu AD tn [4] EW
theorem iW:Ai Go.Proofs.Tryz.prog gU:=okB tx Go.Proofs.Tryz.func201 A3q
def CX (x:A5×Int×Unit):Option (Int×Unit):=(BU (x.1.2.2.1,(some x.2.1,()),())).bind fun v=>some (v.1,())
def VS:Ent:=⟨143,⟨(.slot D9 (.slot .i .nil)),.nil⟩,⟨(.slot .i .nil),.nil⟩,CX⟩
theorem Z5:Ai Go.Proofs.Tryz.prog VS:=okA (hcA 0 (all_cons iW all_nil)) Go.Proofs.Tryz.func143
def CY (x:A5×Int×Unit):Option (Bool×Unit):=(CX ((x.1.1,(x.1.2.1.1,()),x.1.2.2.1,x.1.2.2.2.1,x.1.2.2.2.2.1,x.1.2.2.2.2.2.1,()),x.2.1,())).bind fun v=>bif decide (v.1>=0)then(lAt x.1.2.2.1 v.1).bind fun v=>some (v.2.2.1==1,())else some (false,())
def XW:Ent:=⟨135,⟨(.slot D9 (.slot .i .nil)),.nil⟩,⟨(.slot .bool .nil),.nil⟩,CY⟩
theorem qo:Ai Go.Proofs.Tryz.prog XW:=okA (hcA 0 (all_cons Z5 all_nil)) Go.Proofs.Tryz.func135
def BP (x:List A1×Unit):Option (List A1×Unit):=bif x.1.length==0 then Sz (some ([],())) (if x.1.length<=2199023255552 then some (x.1,())else none)else if x.1.length<=2199023255552 then some (x.1,())else none
def XV:Ent:=⟨125,⟨(.slot (.slice A0) .nil),.nil⟩,⟨(.own 0 .nil),(.lst false A0 .nil)⟩,BP⟩
theorem Z4:Ai Go.Proofs.Tryz.prog XV:=okA (hcA 0 all_nil) Go.Proofs.Tryz.func125
def CH (x:A1×Option A6×Unit):Option (Bool×Unit):=x.2.1.bind fun v=>some (x.1.1==v.2.1,())
def TM:Ent:=⟨145,⟨(.slot A0 (.slot (.iref YOp) .nil)),.nil⟩,⟨(.slot .bool .nil),.nil⟩,CH⟩
theorem iU:Ai Go.Proofs.Tryz.prog TM:=okA (hcA 0 all_nil) Go.Proofs.Tryz.func145
abbrev tm:=List A1×(Option A6×Unit)×Int×Unit
abbrev tg:=Int×Unit
abbrev th:=Int×Unit ⊕ Unit
def AP (i:tm)(v:tg)(R:Type)(K:tg ⊕ th->Option R):Option R:=bif decide (v.1<i.2.2.1)then(lAt i.1 v.1).bind fun a=>(CH ((a.1,a.2.1,()),i.2.1.1,())).bind fun b=>bif b.1 then K (.inr (.inl (v.1,())))else K (.inl (IntKind.i64.wrap (v.1+1),()))else K (.inr (.inr ()))
theorem FH:Bg AP:=fun i v R K=>Ae (Ac fun _=>Ac fun _=>Ae (Aa) (Aa)) (Aa)
def iT:Tmpl:=⟨(.slot (.slice A0) (.slot (.fn 145 (.prod (.iref YOp) .unit)) (jk 5 (si 2 (jk 10 .nil))))),.nil⟩
def tf:Exs tm th:=xs .ret (fun i p=>⟨jn 4 (.n (p.1)::jn 14 ([])),[]⟩)<|x1 (.exit 0) fun i p=>⟨jn 19 ([]),[]⟩
def tj:=((.i (.i (.i (.v .n)))):Pk iT.ty _ _)
def qO:Cfg:={ti:=Aw,ents:=[TM],ann:=[(2,Ao iT 0 (spP tj) AP tf.E)],lent:=0}
def Br (x:List A1×(Option A6×Unit)×Unit):Option (Int×Unit):=(AC (fun v=>AP (x.1,x.2.1,(x.1.length:Int),()) v _ some) (0,())).bind fun p=>Az p (fun p=>some (p.1,())) fun p=>some (-1,())
def XU:Ent:=⟨195,⟨(.slot (.slice A0) (.slot (.fn 145 (.prod (.iref YOp) .unit)) .nil)),.nil⟩,⟨(.slot .i .nil),.nil⟩,Br⟩
theorem dp:CfgOK Go.Proofs.Tryz.prog qO:=hcB (all_cons iU all_nil)
theorem A3p:B9 Go.Proofs.Tryz.prog qO (lpc Go.Proofs.Tryz.f195 0):=lkA dp iT tj AP tf [4] FH
theorem tk:Ai Go.Proofs.Tryz.prog XU:=okB dp Go.Proofs.Tryz.func195 A3p
abbrev td:=A6
abbrev t8:=Int×Int×List A1×Unit
abbrev ta:=Int×List A1×Unit
def Ba (i:td)(v:t8)(R:Type)(K:t8 ⊕ ta->Option R):Option R:=bif decide (v.2.1<(v.2.2.1.length:Int))then if 0<=v.2.1/\v.2.1<(v.2.2.1.length:Int)then v.2.2.1[0+v.2.1.toNat]?.bind fun a=>(CH ((a.1,a.2.1,()),some (i.1,i.2.1,i.2.2.1,i.2.2.2.1,i.2.2.2.2.1,i.2.2.2.2.2.1,()),())).bind fun b=>bif !b.1 then if 0<=v.1/\v.1<(v.2.2.1.length:Int)then v.2.2.1[0+v.1.toNat]?.bind fun c=>K (.inl (IntKind.i64.wrap (v.1+1),IntKind.i64.wrap (v.2.1+1),v.2.2.1.set (0+v.1.toNat) (a.1,a.2.1,()),()))else none else K (.inl (v.1,IntKind.i64.wrap (v.2.1+1),v.2.2.1,()))else none else K (.inr (v.1,v.2.2.1,()))
theorem GY:Bg Ba:=fun i v R K=>Ae (Aq (Ac fun _=>Ac fun _=>Ae (Aq (Ac fun _=>Aa)) (Aa))) (Aa)
def iR:Tmpl:=⟨(.own 0 (.fn 145 (.ptr 1 0 0 .nil) (jk 3 (si 2 (jk 35 .nil))))),(.lst false A0 (.cells 6 (si 6 .nil) .nil))⟩
def t7:Exs td ta:=x1 (.exit 0) fun i p=>⟨AV.own 0 none none::jn 4 (.n (p.1)::jn 36 ([])),[some (Cont.lst false A0 p.2.1),some (Cont.cells 6 [[AV.pv .i i.1,AV.pv .i i.2.1,AV.pv .i i.2.2.1,AV.pv .i i.2.2.2.1,AV.pv .i i.2.2.2.2.1,AV.pv .i i.2.2.2.2.2.1]])]⟩
def tc:=((.v (.v (.v (.i (.i (.i (.i (.i (.i .n))))))))):Pk iR.ty _ _)
def A7j:Cfg:={ti:=Aw,ents:=[XU,TM],ann:=[(5,Ao iR 2 (spP tc) Ba t7.E)],lent:=2,cut:=[none]}
def BB (x:List A1×A6):Option (Int×Int×Int×Int×Int×Int×List A1×Unit):=(Br (x.1,(some (x.2.1,x.2.2.1,x.2.2.2.1,x.2.2.2.2.1,x.2.2.2.2.2.1,x.2.2.2.2.2.2.1,()),()),())).bind fun v=>bif v.1==-1 then some (x.2.1,x.2.2.1,x.2.2.2.1,x.2.2.2.2.1,x.2.2.2.2.2.1,x.2.2.2.2.2.2.1,x.1,())else(AC (fun v=>Ba (x.2.1,x.2.2.1,x.2.2.2.1,x.2.2.2.2.1,x.2.2.2.2.2.1,x.2.2.2.2.2.2.1,()) v _ some) (v.1,IntKind.i64.wrap (v.1+1),x.1,())).bind fun p=>if 0<=p.1/\p.1<=(p.2.1.length:Int)/\(p.2.1.length:Int)<=(p.2.1.length:Int)then if(0:Int)<=0/\0<=p.1/\p.1<=(↑((List.take (0+p.1.toNat) p.2.1++List.replicate ((p.2.1.length:Int).toNat-p.1.toNat) (0,0,())++List.drop (0+p.1.toNat+((p.2.1.length:Int).toNat-p.1.toNat)) p.2.1).length):Int)then some (x.2.1,x.2.2.1,x.2.2.2.1,x.2.2.2.2.1,x.2.2.2.2.2.1,x.2.2.2.2.2.2.1,List.take (p.1.toNat-Int.toNat 0) (List.take (0+p.1.toNat) p.2.1++List.replicate ((p.2.1.length:Int).toNat-p.1.toNat) (0,0,())++List.drop (0+p.1.toNat+((p.2.1.length:Int).toNat-p.1.toNat)) p.2.1),())else none else none
def XA:Ent:=⟨144,⟨(.own 0 (.fn 145 (.ptr 1 0 0 .nil) .nil)),(.lst false A0 (.cells 6 (si 6 .nil) .nil))⟩,⟨(.own 2 .nil),(.gone (.cells 6 (si 6 .nil) (.lst false A0 .nil)))⟩,BB⟩
theorem te:CfgOK Go.Proofs.Tryz.prog A7j:=hcB (all_cons tk (all_cons iU all_nil))
theorem A3o:B9 Go.Proofs.Tryz.prog A7j (lpc Go.Proofs.Tryz.f144 0):=lkA te iR tc Ba t7 [0,5] GY
theorem Sy:Ai Go.Proofs.Tryz.prog XA:=okB te Go.Proofs.Tryz.func144 A3o
def FZ (x:A1×Option Int×Unit):Option (Bool×Unit):=x.2.1.bind fun v=>some (x.1.1==v,())
def XT:Ent:=⟨270,⟨(.slot A0 (.slot (.iref .i) .nil)),.nil⟩,⟨(.slot .bool .nil),.nil⟩,FZ⟩
theorem iQ:Ai Go.Proofs.Tryz.prog XT:=okA (hcA 0 all_nil) Go.Proofs.Tryz.func270
abbrev t5:=List A1×(Option Int×Unit)×Int×Unit
abbrev sX:=Int×Unit
abbrev sY:=Int×Unit ⊕ Unit
def B8 (i:t5)(v:sX)(R:Type)(K:sX ⊕ sY->Option R):Option R:=bif decide (v.1<i.2.2.1)then(lAt i.1 v.1).bind fun a=>(FZ ((a.1,a.2.1,()),i.2.1.1,())).bind fun b=>bif b.1 then K (.inr (.inl (v.1,())))else K (.inl (IntKind.i64.wrap (v.1+1),()))else K (.inr (.inr ()))
theorem G6:Bg B8:=fun i v R K=>Ae (Ac fun _=>Ac fun _=>Ae (Aa) (Aa)) (Aa)
def iP:Tmpl:=⟨(.slot (.slice A0) (.slot (.fn 270 (.prod (.iref .i) .unit)) (jk 5 (si 2 (jk 10 .nil))))),.nil⟩
def sW:Exs t5 sY:=xs .ret (fun i p=>⟨jn 4 (.n (p.1)::jn 14 ([])),[]⟩)<|x1 (.exit 0) fun i p=>⟨jn 19 ([]),[]⟩
def sZ:=((.i (.i (.i (.v .n)))):Pk iP.ty _ _)
def A7i:Cfg:={ti:=Aw,ents:=[XT],ann:=[(2,Ao iP 0 (spP sZ) B8 sW.E)],lent:=0}
def BH (x:List A1×(Option Int×Unit)×Unit):Option (Int×Unit):=(AC (fun v=>B8 (x.1,x.2.1,(x.1.length:Int),()) v _ some) (0,())).bind fun p=>Az p (fun p=>some (p.1,())) fun p=>some (-1,())
def XS:Ent:=⟨269,⟨(.slot (.slice A0) (.slot (.fn 270 (.prod (.iref .i) .unit)) .nil)),.nil⟩,⟨(.slot .i .nil),.nil⟩,BH⟩
theorem t6:CfgOK Go.Proofs.Tryz.prog A7i:=hcB (all_cons iQ all_nil)
theorem A3n:B9 Go.Proofs.Tryz.prog A7i (lpc Go.Proofs.Tryz.f269 0):=lkA t6 iP sZ B8 sW [4] G6
theorem VD:Ai Go.Proofs.Tryz.prog XS:=okB t6 Go.Proofs.Tryz.func269 A3n
def GT (x:A3×Int×Unit):Option (Int×Unit):=(BH (x.1.2.2.2.2.2.2.2.2.1,(some x.2.1,()),())).bind fun v=>some (v.1,())
def XR:Ent:=⟨240,⟨(.slot Ad (.slot .i .nil)),.nil⟩,⟨(.slot .i .nil),.nil⟩,GT⟩
theorem sV:Ai Go.Proofs.Tryz.prog XR:=okA (hcA 0 (all_cons VD all_nil)) Go.Proofs.Tryz.func240
abbrev dm:=List A2×Int×Unit
abbrev dj:=Int×Unit
abbrev dk:=Int×Unit ⊕ Int×Unit
def Cr (i:dm)(v:dj)(R:Type)(K:dj ⊕ dk->Option R):Option R:=bif decide (v.1>=0)then(lAt i.1 v.1).bind fun a=>bif decide (a.2.2.1>i.2.1)then K (.inl (IntKind.i64.wrap (v.1-1),()))else K (.inr (.inl (v.1,())))else K (.inr (.inr (v.1,())))
theorem M3:Bg Cr:=fun i v R K=>Ae (Ac fun _=>Ae (Aa) (Aa)) (Aa)
def Wv:Tmpl:=⟨(.slot (.slice Af) (.slot .i (jk 3 (.slot .i (jk 17 .nil))))),.nil⟩
def di:Exs dm dk:=xs (.exit 0) (fun i p=>⟨jn 5 (.n (p.1)::jn 17 ([])),[]⟩)<|x1 (.exit 0) fun i p=>⟨jn 5 (.n (p.1)::jn 17 ([])),[]⟩
def dl:=((.i (.i (.v .n))):Pk Wv.ty _ _)
def qN:Cfg:={ti:=Aw,ents:=[],ann:=[(2,Ao Wv 0 (spP dl) Cr di.E)],lent:=0}
def GR (x:List A2×Int×Unit):Option (Int×Unit):=(AC (fun v=>Cr (x.1,x.2.1,()) v _ some) (IntKind.i64.wrap ((x.1.length:Int)-1),())).bind fun p=>Az p (fun p=>some (p.1,())) fun p=>some (p.1,())
def kp:Ent:=⟨271,⟨(.slot (.slice Af) (.slot .i .nil)),.nil⟩,⟨(.slot .i .nil),.nil⟩,GR⟩
theorem dn:CfgOK Go.Proofs.Tryz.prog qN:=hcB all_nil
theorem ko:B9 Go.Proofs.Tryz.prog qN (lpc Go.Proofs.Tryz.f271 0):=lkA dn Wv dl Cr di [5] M3
theorem sU:Ai Go.Proofs.Tryz.prog kp:=okB dn Go.Proofs.Tryz.func271 ko
def Fp (x:A4×A3×Int×Unit):Option A6:=(lAt x.1.1 x.2.2.1).bind fun v=>bif x.2.1.2.1==2 then(GR (v,x.2.1.2.2.2.1,())).bind fun a=>bif decide (a.1<0)then some (0,0,0,0,0,3,())else bif x.2.1.2.1==4 then(lAt v a.1).bind fun b=>bif decide (b.2.2.1>x.2.1.2.2.2.1)then some (0,0,0,0,0,3,())else(lAt v a.1).bind fun v=>some (v.1,v.2.1,v.2.2.1,v.2.2.2.1,v.2.2.2.2.1,0,())else(lAt v a.1).bind fun v=>some (v.1,v.2.1,v.2.2.1,v.2.2.2.1,v.2.2.2.2.1,0,())else bif decide (IntKind.i64.wrap ((v.length:Int)-1)<0)then some (0,0,0,0,0,3,())else bif x.2.1.2.1==4 then(lAt v (IntKind.i64.wrap ((v.length:Int)-1))).bind fun a=>bif decide (a.2.2.1>x.2.1.2.2.2.1)then some (0,0,0,0,0,3,())else(lAt v (IntKind.i64.wrap ((v.length:Int)-1))).bind fun v=>some (v.1,v.2.1,v.2.2.1,v.2.2.2.1,v.2.2.2.2.1,0,())else(lAt v (IntKind.i64.wrap ((v.length:Int)-1))).bind fun v=>some (v.1,v.2.1,v.2.2.1,v.2.2.2.1,v.2.2.2.2.1,0,())
def XQ:Ent:=⟨241,⟨(.slot Bp (.slot Ad (.slot .i .nil))),.nil⟩,⟨(.agg (si 5 .nil) (.slot .i .nil)),.nil⟩,Fp⟩
theorem sS:Ai Go.Proofs.Tryz.prog XQ:=okA (hcA 0 (all_cons sU all_nil)) Go.Proofs.Tryz.func241
def Cg (x:List A1×Unit):Option (List A1×Unit):=bif x.1.length==0 then Sz (some ([],())) (if x.1.length<=2199023255552 then some (x.1,())else none)else if x.1.length<=2199023255552 then some (x.1,())else none
def km:Ent:=⟨124,⟨(.slot (.slice A0) .nil),.nil⟩,⟨(.own 0 .nil),(.lst false A0 .nil)⟩,Cg⟩
theorem iO:Ai Go.Proofs.Tryz.prog km:=okA (hcA 0 all_nil) Go.Proofs.Tryz.func124
def Ct (x:A1×Option Int×Unit):Option (Bool×Unit):=x.2.1.bind fun v=>some (x.1.2.1==v,())
def VR:Ent:=⟨282,⟨(.slot A0 (.slot (.iref .i) .nil)),.nil⟩,⟨(.slot .bool .nil),.nil⟩,Ct⟩
theorem iM:Ai Go.Proofs.Tryz.prog VR:=okA (hcA 0 all_nil) Go.Proofs.Tryz.func282
abbrev sQ:=List A1×(Option Int×Unit)×Int×Unit
abbrev sM:=Int×Unit
abbrev sN:=Int×Unit ⊕ Unit
def AM (i:sQ)(v:sM)(R:Type)(K:sM ⊕ sN->Option R):Option R:=bif decide (v.1<i.2.2.1)then(lAt i.1 v.1).bind fun a=>(Ct ((a.1,a.2.1,()),i.2.1.1,())).bind fun b=>bif b.1 then K (.inr (.inl (v.1,())))else K (.inl (IntKind.i64.wrap (v.1+1),()))else K (.inr (.inr ()))
theorem FA:Bg AM:=fun i v R K=>Ae (Ac fun _=>Ac fun _=>Ae (Aa) (Aa)) (Aa)
def iL:Tmpl:=⟨(.slot (.slice A0) (.slot (.fn 282 (.prod (.iref .i) .unit)) (jk 5 (si 2 (jk 10 .nil))))),.nil⟩
def sL:Exs sQ sN:=xs .ret (fun i p=>⟨jn 4 (.n (p.1)::jn 14 ([])),[]⟩)<|x1 (.exit 0) fun i p=>⟨jn 19 ([]),[]⟩
def sO:=((.i (.i (.i (.v .n)))):Pk iL.ty _ _)
def A7h:Cfg:={ti:=Aw,ents:=[VR],ann:=[(2,Ao iL 0 (spP sO) AM sL.E)],lent:=0}
def Bo (x:List A1×(Option Int×Unit)×Unit):Option (Int×Unit):=(AC (fun v=>AM (x.1,x.2.1,(x.1.length:Int),()) v _ some) (0,())).bind fun p=>Az p (fun p=>some (p.1,())) fun p=>some (-1,())
def aB:Ent:=⟨194,⟨(.slot (.slice A0) (.slot (.fn 282 (.prod (.iref .i) .unit)) .nil)),.nil⟩,⟨(.slot .i .nil),.nil⟩,Bo⟩
theorem sR:CfgOK Go.Proofs.Tryz.prog A7h:=hcB (all_cons iM all_nil)
theorem A3m:B9 Go.Proofs.Tryz.prog A7h (lpc Go.Proofs.Tryz.f194 0):=lkA sR iL sO AM sL [4] FA
theorem sP:Ai Go.Proofs.Tryz.prog aB:=okB sR Go.Proofs.Tryz.func194 A3m
abbrev pj:=Int×Unit
abbrev pg:=Int×Int×List A1×Unit
abbrev ph:=Int×List A1×Unit
def Bb (i:pj)(v:pg)(R:Type)(K:pg ⊕ ph->Option R):Option R:=bif decide (v.2.1<(v.2.2.1.length:Int))then if 0<=v.2.1/\v.2.1<(v.2.2.1.length:Int)then v.2.2.1[0+v.2.1.toNat]?.bind fun a=>(Ct ((a.1,a.2.1,()),some i.1,())).bind fun b=>bif !b.1 then if 0<=v.1/\v.1<(v.2.2.1.length:Int)then v.2.2.1[0+v.1.toNat]?.bind fun c=>K (.inl (IntKind.i64.wrap (v.1+1),IntKind.i64.wrap (v.2.1+1),v.2.2.1.set (0+v.1.toNat) (a.1,a.2.1,()),()))else none else K (.inl (v.1,IntKind.i64.wrap (v.2.1+1),v.2.2.1,()))else none else K (.inr (v.1,v.2.2.1,()))
theorem GZ:Bg Bb:=fun i v R K=>Ae (Aq (Ac fun _=>Ac fun _=>Ae (Aq (Ac fun _=>Aa)) (Aa))) (Aa)
def bQ:Tmpl:=⟨(.own 0 (.fn 282 (.ptr 1 0 0 .nil) (jk 3 (si 2 (jk 35 .nil))))),(.lst false A0 (.cells 1 (.slot .i .nil) .nil))⟩
def pf:Exs pj ph:=x1 (.exit 0) fun i p=>⟨AV.own 0 none none::jn 4 (.n (p.1)::jn 36 ([])),[some (Cont.lst false A0 p.2.1),some (Cont.cells 1 [[AV.pv .i i.1]])]⟩
def pi:=((.v (.v (.v (.i .n)))):Pk bQ.ty _ _)
def yf:Cfg:={ti:=Aw,ents:=[aB,VR],ann:=[(5,Ao bQ 2 (spP pi) Bb pf.E)],lent:=2,cut:=[none]}
def Ca (x:List A1×Int×Unit):Option (Int×List A1×Unit):=(Bo (x.1,(some x.2.1,()),())).bind fun v=>bif v.1==-1 then some (x.2.1,x.1,())else(AC (fun v=>Bb (x.2.1,()) v _ some) (v.1,IntKind.i64.wrap (v.1+1),x.1,())).bind fun p=>if 0<=p.1/\p.1<=(p.2.1.length:Int)/\(p.2.1.length:Int)<=(p.2.1.length:Int)then if(0:Int)<=0/\0<=p.1/\p.1<=(↑((List.take (0+p.1.toNat) p.2.1++List.replicate ((p.2.1.length:Int).toNat-p.1.toNat) (0,0,())++List.drop (0+p.1.toNat+((p.2.1.length:Int).toNat-p.1.toNat)) p.2.1).length):Int)then some (x.2.1,List.take (p.1.toNat-Int.toNat 0) (List.take (0+p.1.toNat) p.2.1++List.replicate ((p.2.1.length:Int).toNat-p.1.toNat) (0,0,())++List.drop (0+p.1.toNat+((p.2.1.length:Int).toNat-p.1.toNat)) p.2.1),())else none else none
def UC:Ent:=⟨281,⟨(.own 0 (.fn 282 (.ptr 1 0 0 .nil) .nil)),(.lst false A0 (.cells 1 (.slot .i .nil) .nil))⟩,⟨(.own 2 .nil),(.gone (.cells 1 (.slot .i .nil) (.lst false A0 .nil)))⟩,Ca⟩
theorem pk:CfgOK Go.Proofs.Tryz.prog yf:=hcB (all_cons sP (all_cons iM all_nil))
theorem ye:B9 Go.Proofs.Tryz.prog yf (lpc Go.Proofs.Tryz.f281 0):=lkA pk bQ pi Bb pf [0,5] GZ
theorem Wd:Ai Go.Proofs.Tryz.prog UC:=okB pk Go.Proofs.Tryz.func281 ye
def Fq (x:List A1×Int×Unit):Option (List A1×Unit):=(Cg (x.1,())).bind fun v=>(Ca (v.1,x.2.1,())).bind fun v=>some (v.2.1,())
def WQ:Ent:=⟨260,⟨(.slot (.slice A0) (.slot .i .nil)),.nil⟩,⟨(.own 0 .nil),(.lst false A0 .nil)⟩,Fq⟩
theorem ib:Ai Go.Proofs.Tryz.prog WQ:=okA (hcA 0 (all_cons Wd (all_cons iO all_nil))) Go.Proofs.Tryz.func260
def D4 (x:A1×Option Int×Unit):Option (Bool×Unit):=x.2.1.bind fun v=>bif x.1.1==v then some (true,())else x.2.1.bind fun v=>some (x.1.2.1==v,())
def Rl:Ent:=⟨283,⟨(.slot A0 (.slot (.iref .i) .nil)),.nil⟩,⟨(.slot .bool .nil),.nil⟩,D4⟩
theorem Wc:Ai Go.Proofs.Tryz.prog Rl:=okA (hcA 0 all_nil) Go.Proofs.Tryz.func283
abbrev pe:=List A1×(Option Int×Unit)×Int×Unit
abbrev pa:=Int×Unit
abbrev pb:=Int×Unit ⊕ Unit
def AX (i:pe)(v:pa)(R:Type)(K:pa ⊕ pb->Option R):Option R:=bif decide (v.1<i.2.2.1)then(lAt i.1 v.1).bind fun a=>(D4 ((a.1,a.2.1,()),i.2.1.1,())).bind fun b=>bif b.1 then K (.inr (.inl (v.1,())))else K (.inl (IntKind.i64.wrap (v.1+1),()))else K (.inr (.inr ()))
theorem FS:Bg AX:=fun i v R K=>Ae (Ac fun _=>Ac fun _=>Ae (Aa) (Aa)) (Aa)
def bO:Tmpl:=⟨(.slot (.slice A0) (.slot (.fn 283 (.prod (.iref .i) .unit)) (jk 5 (si 2 (jk 10 .nil))))),.nil⟩
def p9:Exs pe pb:=xs .ret (fun i p=>⟨jn 4 (.n (p.1)::jn 14 ([])),[]⟩)<|x1 (.exit 0) fun i p=>⟨jn 19 ([]),[]⟩
def pc:=((.i (.i (.i (.v .n)))):Pk bO.ty _ _)
def bP:Cfg:={ti:=Aw,ents:=[Rl],ann:=[(2,Ao bO 0 (spP pc) AX p9.E)],lent:=0}
def Bz (x:List A1×(Option Int×Unit)×Unit):Option (Int×Unit):=(AC (fun v=>AX (x.1,x.2.1,(x.1.length:Int),()) v _ some) (0,())).bind fun p=>Az p (fun p=>some (p.1,())) fun p=>some (-1,())
def WP:Ent:=⟨195,⟨(.slot (.slice A0) (.slot (.fn 283 (.prod (.iref .i) .unit)) .nil)),.nil⟩,⟨(.slot .i .nil),.nil⟩,Bz⟩
theorem Wb:CfgOK Go.Proofs.Tryz.prog bP:=hcB (all_cons Wc all_nil)
theorem yd:B9 Go.Proofs.Tryz.prog bP (lpc Go.Proofs.Tryz.f195 0):=lkA Wb bO pc AX p9 [4] FS
theorem pd:Ai Go.Proofs.Tryz.prog WP:=okB Wb Go.Proofs.Tryz.func195 yd
abbrev p7:=Int×Unit
abbrev p4:=Int×Int×List A1×Unit
abbrev p5:=Int×List A1×Unit
def AU (i:p7)(v:p4)(R:Type)(K:p4 ⊕ p5->Option R):Option R:=bif decide (v.2.1<(v.2.2.1.length:Int))then if 0<=v.2.1/\v.2.1<(v.2.2.1.length:Int)then v.2.2.1[0+v.2.1.toNat]?.bind fun a=>(D4 ((a.1,a.2.1,()),some i.1,())).bind fun b=>bif !b.1 then if 0<=v.1/\v.1<(v.2.2.1.length:Int)then v.2.2.1[0+v.1.toNat]?.bind fun c=>K (.inl (IntKind.i64.wrap (v.1+1),IntKind.i64.wrap (v.2.1+1),v.2.2.1.set (0+v.1.toNat) (a.1,a.2.1,()),()))else none else K (.inl (v.1,IntKind.i64.wrap (v.2.1+1),v.2.2.1,()))else none else K (.inr (v.1,v.2.2.1,()))
theorem Gx:Bg AU:=fun i v R K=>Ae (Aq (Ac fun _=>Ac fun _=>Ae (Aq (Ac fun _=>Aa)) (Aa))) (Aa)
def bN:Tmpl:=⟨(.own 0 (.fn 283 (.ptr 1 0 0 .nil) (jk 3 (si 2 (jk 35 .nil))))),(.lst false A0 (.cells 1 (.slot .i .nil) .nil))⟩
def p3:Exs p7 p5:=x1 (.exit 0) fun i p=>⟨AV.own 0 none none::jn 4 (.n (p.1)::jn 36 ([])),[some (Cont.lst false A0 p.2.1),some (Cont.cells 1 [[AV.pv .i i.1]])]⟩
def p6:=((.v (.v (.v (.i .n)))):Pk bN.ty _ _)
def yc:Cfg:={ti:=Aw,ents:=[WP,Rl],ann:=[(5,Ao bN 2 (spP p6) AU p3.E)],lent:=2,cut:=[none]}
def C2 (x:List A1×Int×Unit):Option (Int×List A1×Unit):=(Bz (x.1,(some x.2.1,()),())).bind fun v=>bif v.1==-1 then some (x.2.1,x.1,())else(AC (fun v=>AU (x.2.1,()) v _ some) (v.1,IntKind.i64.wrap (v.1+1),x.1,())).bind fun p=>if 0<=p.1/\p.1<=(p.2.1.length:Int)/\(p.2.1.length:Int)<=(p.2.1.length:Int)then if(0:Int)<=0/\0<=p.1/\p.1<=(↑((List.take (0+p.1.toNat) p.2.1++List.replicate ((p.2.1.length:Int).toNat-p.1.toNat) (0,0,())++List.drop (0+p.1.toNat+((p.2.1.length:Int).toNat-p.1.toNat)) p.2.1).length):Int)then some (x.2.1,List.take (p.1.toNat-Int.toNat 0) (List.take (0+p.1.toNat) p.2.1++List.replicate ((p.2.1.length:Int).toNat-p.1.toNat) (0,0,())++List.drop (0+p.1.toNat+((p.2.1.length:Int).toNat-p.1.toNat)) p.2.1),())else none else none
def fj:Ent:=⟨144,⟨(.own 0 (.fn 283 (.ptr 1 0 0 .nil) .nil)),(.lst false A0 (.cells 1 (.slot .i .nil) .nil))⟩,⟨(.own 2 .nil),(.gone (.cells 1 (.slot .i .nil) (.lst false A0 .nil)))⟩,C2⟩
theorem p8:CfgOK Go.Proofs.Tryz.prog yc:=hcB (all_cons pd (all_cons Wc all_nil))
theorem yb:B9 Go.Proofs.Tryz.prog yc (lpc Go.Proofs.Tryz.f144 0):=lkA p8 bN p6 AU p3 [0,5] Gx
theorem ia:Ai Go.Proofs.Tryz.prog fj:=okB p8 Go.Proofs.Tryz.func144 yb
def Gr (x:List A1×Int×Unit):Option (List A1×Unit):=(BP (x.1,())).bind fun v=>(C2 (v.1,x.2.1,())).bind fun v=>some (v.2.1,())
def WO:Ent:=⟨261,⟨(.slot (.slice A0) (.slot .i .nil)),.nil⟩,⟨(.own 0 .nil),(.lst false A0 .nil)⟩,Gr⟩
theorem p0:Ai Go.Proofs.Tryz.prog WO:=okA (hcA 0 (all_cons ia (all_cons Z4 all_nil))) Go.Proofs.Tryz.func261
end
end Go.Ab
