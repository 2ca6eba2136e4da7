import Derived.Test.YtchkllapojehpaaGreatSp1
set_option linter.all false
set_option maxRecDepth 100000
namespace Go.Ab
noncomputable section
def Acw:Cfg:={ti:=Aw,ents:=[WQ,WO],ann:=[],lent:=5,hid:=[((0,1),[0])]}
def D3 (x:Nat×Bool×Int×A7):Option (Bool×Int×List (List A2)×List A3×List A1×List A1×A9):=x.2.2.2.2.1[x.1]?.bind fun v=>(Fq (x.2.2.2.2.2.1,v.1,())).bind fun v=>x.2.2.2.2.1[x.1]?.bind fun a=>(Gr (x.2.2.2.2.2.2.1,a.1,())).bind fun b=>some (x.2.1,x.2.2.1,x.2.2.2.1,x.2.2.2.2.1,x.2.2.2.2.2.1,x.2.2.2.2.2.2.1,v.1,b.1,())
def WN:Ent:=⟨215,⟨(.ptr 0 0 0 (.ptrI 2 0 .nil)),(.cells 6 (.slot .bool (.own 1 (.own 2 (.own 3 (.own 4 (.slot .i .nil)))))) (.tree false 0 (.slice Af) (.tree false 0 Ad (.lst false A0 (.lst false A0 .nil)))))⟩,⟨.nil,(.cells 6 (.slot .bool (.own 1 (.own 2 (.own 5 (.own 6 (.slot .i .nil)))))) (.tree false 0 (.slice Af) (.tree false 0 Ad (.lst false A0 (.lst false A0 (.lst false A0 (.lst false A0 .nil)))))))⟩,D3⟩
theorem bM:Ai Go.Proofs.Tryz.prog WN:=okA (C:=Acw) (hcB (all_cons ib (all_cons p0 all_nil))) Go.Proofs.Tryz.func215
def B5 (x:Nat×Int×Bool×Int×A7):Option (Int×Bool×Int×List (List A2)×List A3×List A1×List A1×A9):=x.2.2.2.2.2.1[x.1]?.bind fun v=>(D3 (x.1,x.2.2.1,x.2.2.2.1,x.2.2.2.2.1,x.2.2.2.2.2.1.set x.1 (v.1,v.2.1,3,v.2.2.2.1,v.2.2.2.2.1,v.2.2.2.2.2.1,v.2.2.2.2.2.2.1,v.2.2.2.2.2.2.2.1,v.2.2.2.2.2.2.2.2.1,()),x.2.2.2.2.2.2.1,x.2.2.2.2.2.2.2.1,())).bind fun v=>some (x.2.1,v.1,v.2.1,v.2.2.1,v.2.2.2.1,v.2.2.2.2.1,v.2.2.2.2.2.1,v.2.2.2.2.2.2.1,v.2.2.2.2.2.2.2.1,())
def Pa:Ent:=⟨149,⟨(.ptr 0 0 0 (.ptrI 2 0 (.slot .i .nil))),(.cells 6 (.slot .bool (.own 1 (.own 2 (.own 3 (.own 4 (.slot .i .nil)))))) (.tree false 0 (.slice Af) (.tree false 0 Ad (.lst false A0 (.lst false A0 .nil)))))⟩,⟨(.agg (.slot .i (.const (AV.nils) .nil)) .nil),(.cells 6 (.slot .bool (.own 1 (.own 2 (.own 5 (.own 6 (.slot .i .nil)))))) (.tree false 0 (.slice Af) (.tree false 1 Ad (.lst false A0 (.lst false A0 (.lst false A0 (.lst false A0 .nil)))))))⟩,B5⟩
theorem PL:Ai Go.Proofs.Tryz.prog Pa:=okA (hcA 5 (all_cons bM all_nil)) Go.Proofs.Tryz.func149
abbrev Yu:=List A1×Unit×B3
abbrev Yr:=Int×Int×Unit
abbrev Ys:=Int×Unit
def AB (i:Yu)(v:Yr)(R:Type)(K:Yr ⊕ Ys->Option R):Option R:=bif decide (v.1<v.2.1)then(lAt i.1 (IntKind.i64.wrap (Int.fdiv (IntKind.u64.wrap (IntKind.i64.wrap (v.1+v.2.1))) (2 ^ min (Int.toNat 1) (IntKind.bits IntKind.u64))))).bind fun a=>(BI ((a.1,a.2.1,()),(i.2.2.2.1,i.2.2.2.2.1,()),())).bind fun b=>bif decide (b.1<0)then K (.inl (IntKind.i64.wrap (IntKind.i64.wrap (Int.fdiv (IntKind.u64.wrap (IntKind.i64.wrap (v.1+v.2.1))) (2 ^ min (Int.toNat 1) (IntKind.bits IntKind.u64)))+1),v.2.1,()))else K (.inl (v.1,IntKind.i64.wrap (Int.fdiv (IntKind.u64.wrap (IntKind.i64.wrap (v.1+v.2.1))) (2 ^ min (Int.toNat 1) (IntKind.bits IntKind.u64))),()))else K (.inr (v.1,()))
theorem EC:Bg AB:=fun i v R K=>Ae (Ac fun _=>Ac fun _=>Ae (Aa) (Aa)) (Aa)
def SL:Tmpl:=⟨(.slot (.slice A0) (.junk (.slot (.fn 265 .unit) (.junk (.ptr 0 0 0 (jk 3 (si 3 (jk 38 .nil)))))))),(.cells 2 (si 2 .nil) .nil)⟩
def Yq:Exs Yu Ys:=x1 (.exit 0) fun i p=>⟨AV.pv (.slice A0) i.1::jn 1 (AV.pv (.fn 265 .unit) i.2.1::jn 1 (AV.ptr 0 none 0 0::jn 3 (.n (i.2.2.1)::.n (p.1)::jn 39 ([])))),[some (Cont.cells 2 [[AV.pv .i i.2.2.2.1,AV.pv .i i.2.2.2.2.1]])]⟩
def Yt:=((.i (.i (.i (.v (.v (.i (.i .n))))))):Pk SL.ty _ _)
def fi:Cfg:={ti:=Aw,ents:=[SE],ann:=[(3,Ao SL 0 (spP Yt) AB Yq.E)],lent:=0}
def AY (x:List A1×A1×Unit×Unit):Option (Int×Bool×Unit):=(AC (fun v=>AB (x.1,x.2.2.1,(x.1.length:Int),x.2.1.1,x.2.1.2.1,()) v _ some) (0,(x.1.length:Int),())).bind fun p=>bif decide (p.1<(x.1.length:Int))then(lAt x.1 p.1).bind fun v=>(BI ((v.1,v.2.1,()),(x.2.1.1,x.2.1.2.1,()),())).bind fun v=>some (p.1,v.1==0,())else some (p.1,false,())
def WM:Ent:=⟨272,⟨(.slot (.slice A0) (.slot A0 (.slot (.fn 265 .unit) .nil))),.nil⟩,⟨(.slot .i (.slot .bool .nil)),.nil⟩,AY⟩
theorem Yv:CfgOK Go.Proofs.Tryz.prog fi:=hcB (all_cons dr all_nil)
theorem fh:B9 Go.Proofs.Tryz.prog fi (lpc Go.Proofs.Tryz.f272 0):=lkA Yv SL Yt AB Yq [0,2,4,8,9] EC
theorem oZ:Ai Go.Proofs.Tryz.prog WM:=okB Yv Go.Proofs.Tryz.func272 fh
def Ch (x:List A1×Unit):Option (List A1×Unit):=bif x.1.length==0 then Sz (some ([],())) (if x.1.length<=2199023255552 then some (x.1,())else none)else if x.1.length<=2199023255552 then some (x.1,())else none
def SK:Ent:=⟨187,⟨(.slot (.slice A0) .nil),.nil⟩,⟨(.own 0 .nil),(.lst false A0 .nil)⟩,Ch⟩
theorem i9:Ai Go.Proofs.Tryz.prog SK:=okA (hcA 0 all_nil) Go.Proofs.Tryz.func187
def fg:Go.Shelf.Ren:=⟨fun|22=>273|29=>288|30=>289|n=>n,fun|24=>90|9=>204|n=>n,fun|n=>n⟩
theorem Acv:InsL Go.Proofs.Tryz.prog fg true 2 where
 mixed:=by kernel_rfl
 f22:=⟨ "slices.Insert[[]loop.example/g01924/impl.ReadMark,loop.example/g01924/impl.ReadMark]",by decide,Go.Proofs.Tryz.func273.trans (congrArg some (by kernel_rfl))⟩
 f29:=⟨_,Go.Proofs.Tryz.func288,by kernel_rfl,by kernel_rfl,by kernel_rfl,by kernel_rfl⟩
 a9:=Go.Proofs.Tryz.isAgg204
 z9:=Go.Proofs.Tryz.sizeOf204
 t0:=Go.Proofs.Tryz.underlying0
 a0:=Go.Proofs.Tryz.isAgg0
 z0:=Go.Proofs.Tryz.sizeOf0
 v0:=Go.Proofs.Tryz.zeroValue0
 t3:=Go.Proofs.Tryz.underlying3
 a3:=Go.Proofs.Tryz.isAgg3
 z3:=Go.Proofs.Tryz.sizeOf3
 v3:=Go.Proofs.Tryz.zeroValue3
 t4:=Go.Proofs.Tryz.underlying4
 a4:=Go.Proofs.Tryz.isAgg4
 z4:=Go.Proofs.Tryz.sizeOf4
 v4:=Go.Proofs.Tryz.zeroValue4
 t24:=Go.Proofs.Tryz.underlying90
 a24:=Go.Proofs.Tryz.isAgg90
 z24:=Go.Proofs.Tryz.sizeOf90
 v24:=Go.Proofs.Tryz.zeroValue90
def Cp (x:Int×List (Int×Int×Unit)×List (Int×Int×Unit)×Unit):Option (List (Int×Int×Unit)×Unit):=Pi (α:=Int×Int×Unit) 2199023255552 x
def A6n:Cfg:={ti:=Aw,ents:=[],ann:=[],lent:=2}
def WL:Ent:=⟨273,⟨(.own 0 (.slot Ty.i (.own 1 .nil))),(.lst false A0 (.lst false A0 .nil))⟩,⟨(.own 2 .nil),(.gone (.gone (.lst false A0 .nil)))⟩,Cp⟩
theorem oY:Ai Go.Proofs.Tryz.prog WL:=Qe (ρ:=fg) (t:=A0) YQ Acv rfl (by decide) rfl
def qC:Cfg:={ti:=Aw,ents:=[WL,WM,SK],ann:=[],lent:=1,hid:=[((7,1),[0]),((7,13),[0]),((7,14),[0]),((7,15),[0])]}
def CW (x:Nat×Int×Int×Int×Int×Int×Int×List A3×Unit):Option (Bool×List A3×Unit):=x.2.2.2.2.2.2.2.1[x.1]?.bind fun v=>x.2.2.2.2.2.2.2.1[x.1]?.bind fun v=>bif (v.2.2.2.2.2.2.2.1.length:Int)==60 then some (false,x.2.2.2.2.2.2.2.1,())else x.2.2.2.2.2.2.2.1[x.1]?.bind fun v=>x.2.2.2.2.2.2.2.1[x.1]?.bind fun v=>(AY (v.2.2.2.2.2.2.2.1,(x.2.1,x.2.2.2.2.1,()),(),())).bind fun v=>bif !v.2.1 then x.2.2.2.2.2.2.2.1[x.1]?.bind fun a=>x.2.2.2.2.2.2.2.1[x.1]?.bind fun b=>(Ch (b.2.2.2.2.2.2.2.1,())).bind fun c=>(Cp (v.1,c.1,[(x.2.1,x.2.2.2.2.1,())],())).bind fun v=>x.2.2.2.2.2.2.2.1[x.1]?.bind fun d=>(x.2.2.2.2.2.2.2.1.set x.1 (d.1,d.2.1,d.2.2.1,d.2.2.2.1,d.2.2.2.2.1,d.2.2.2.2.2.1,d.2.2.2.2.2.2.1,v.1,d.2.2.2.2.2.2.2.2.1,()))[x.1]?.bind fun e=>(x.2.2.2.2.2.2.2.1.set x.1 (d.1,d.2.1,d.2.2.1,d.2.2.2.1,d.2.2.2.2.1,d.2.2.2.2.2.1,d.2.2.2.2.2.2.1,v.1,d.2.2.2.2.2.2.2.2.1,()))[x.1]?.bind fun f=>(x.2.2.2.2.2.2.2.1.set x.1 (d.1,d.2.1,d.2.2.1,d.2.2.2.1,d.2.2.2.2.1,d.2.2.2.2.2.1,d.2.2.2.2.2.2.1,v.1,d.2.2.2.2.2.2.2.2.1,()))[x.1]?.bind fun g=>((x.2.2.2.2.2.2.2.1.set x.1 (d.1,d.2.1,d.2.2.1,d.2.2.2.1,d.2.2.2.2.1,d.2.2.2.2.2.1,d.2.2.2.2.2.2.1,v.1,d.2.2.2.2.2.2.2.2.1,())).set x.1 (g.1,g.2.1,g.2.2.1,g.2.2.2.1,mx e.2.2.2.2.1 x.2.2.2.2.1,g.2.2.2.2.2.1,g.2.2.2.2.2.2.1,g.2.2.2.2.2.2.2.1,g.2.2.2.2.2.2.2.2.1,()))[x.1]?.bind fun h=>some (true,((x.2.2.2.2.2.2.2.1.set x.1 (d.1,d.2.1,d.2.2.1,d.2.2.2.1,d.2.2.2.2.1,d.2.2.2.2.2.1,d.2.2.2.2.2.2.1,v.1,d.2.2.2.2.2.2.2.2.1,())).set x.1 (g.1,g.2.1,g.2.2.1,g.2.2.2.1,mx e.2.2.2.2.1 x.2.2.2.2.1,g.2.2.2.2.2.1,g.2.2.2.2.2.2.1,g.2.2.2.2.2.2.2.1,g.2.2.2.2.2.2.2.2.1,())).set x.1 (h.1,h.2.1,h.2.2.1,h.2.2.2.1,h.2.2.2.2.1,mn f.2.2.2.2.2.1 x.2.2.2.2.2.2.1,h.2.2.2.2.2.2.1,h.2.2.2.2.2.2.2.1,h.2.2.2.2.2.2.2.2.1,()),())else x.2.2.2.2.2.2.2.1[x.1]?.bind fun v=>x.2.2.2.2.2.2.2.1[x.1]?.bind fun a=>x.2.2.2.2.2.2.2.1[x.1]?.bind fun b=>(x.2.2.2.2.2.2.2.1.set x.1 (b.1,b.2.1,b.2.2.1,b.2.2.2.1,mx v.2.2.2.2.1 x.2.2.2.2.1,b.2.2.2.2.2.1,b.2.2.2.2.2.2.1,b.2.2.2.2.2.2.2.1,b.2.2.2.2.2.2.2.2.1,()))[x.1]?.bind fun c=>some (true,(x.2.2.2.2.2.2.2.1.set x.1 (b.1,b.2.1,b.2.2.1,b.2.2.2.1,mx v.2.2.2.2.1 x.2.2.2.2.1,b.2.2.2.2.2.1,b.2.2.2.2.2.2.1,b.2.2.2.2.2.2.2.1,b.2.2.2.2.2.2.2.2.1,())).set x.1 (c.1,c.2.1,c.2.2.1,c.2.2.2.1,c.2.2.2.2.1,mn a.2.2.2.2.2.1 x.2.2.2.2.2.2.1,c.2.2.2.2.2.2.1,c.2.2.2.2.2.2.2.1,c.2.2.2.2.2.2.2.2.1,()),())
def WK:Ent:=⟨242,⟨(.ptrI 0 0 (.slot .i (.agg (si 5 .nil) .nil))),(.tree false 0 Ad .nil)⟩,⟨(.slot .bool .nil),(.tree false 1 Ad .nil)⟩,CW⟩
theorem oX:Ai Go.Proofs.Tryz.prog WK:=okA (C:=qC) (hcB (all_cons oY (all_cons oZ (all_cons i9 all_nil)))) Go.Proofs.Tryz.func242
def Acu:Cfg:={ti:=Aw,ents:=[Pa,WK,XR,XQ],ann:=[],lent:=5,pre:=[(some (0,3)),(some (0,4))]}
def Fa (x:Nat×Int×Bool×Int×A7):Option (Int×Int×Bool×Int×A7):=x.2.2.2.2.2.1[x.1]?.bind fun v=>x.2.2.2.2.2.1[x.1]?.bind fun a=>x.2.2.2.2.2.1[x.1]?.bind fun b=>(GT ((v.1,v.2.1,v.2.2.1,v.2.2.2.1,v.2.2.2.2.1,v.2.2.2.2.2.1,v.2.2.2.2.2.2.1,a.2.2.2.2.2.2.2.1,b.2.2.2.2.2.2.2.2.1,()),x.2.1,())).bind fun v=>bif decide (v.1>=0)then x.2.2.2.2.2.1[x.1]?.bind fun c=>x.2.2.2.2.2.1[x.1]?.bind fun d=>if 0<=v.1/\v.1<(d.2.2.2.2.2.2.2.2.1.length:Int)then x.2.2.2.2.2.1[x.1]?.bind fun e=>e.2.2.2.2.2.2.2.2.1[0+v.1.toNat]?.bind fun v=>some (v.2.1,0,x.2.2.1,x.2.2.2.1,x.2.2.2.2.1,x.2.2.2.2.2.1,x.2.2.2.2.2.2.1,x.2.2.2.2.2.2.2.1,())else none else x.2.2.2.2.2.1[x.1]?.bind fun v=>x.2.2.2.2.2.1[x.1]?.bind fun c=>x.2.2.2.2.2.1[x.1]?.bind fun d=>(Fp ((x.2.2.2.2.1,()),(v.1,v.2.1,v.2.2.1,v.2.2.2.1,v.2.2.2.2.1,v.2.2.2.2.2.1,v.2.2.2.2.2.2.1,c.2.2.2.2.2.2.2.1,d.2.2.2.2.2.2.2.2.1,()),x.2.1,())).bind fun v=>bif v.2.2.2.2.2.1 != 0 then(B5 (x.1,v.2.2.2.2.2.1,x.2.2.1,x.2.2.2.1,x.2.2.2.2.1,x.2.2.2.2.2.1,x.2.2.2.2.2.2.1,x.2.2.2.2.2.2.2.1,())).bind fun e=>some (0,v.2.2.2.2.2.1,e.2.1,e.2.2.1,e.2.2.2.1,e.2.2.2.2.1,e.2.2.2.2.2.2.2.1,e.2.2.2.2.2.2.2.2.1,())else(CW (x.1,x.2.1,v.1,v.2.1,v.2.2.1,v.2.2.2.1,v.2.2.2.2.1,x.2.2.2.2.2.1,())).bind fun e=>bif !e.1 then some (0,6,x.2.2.1,x.2.2.2.1,x.2.2.2.2.1,e.2.1,x.2.2.2.2.2.2.1,x.2.2.2.2.2.2.2.1,())else some (v.2.1,0,x.2.2.1,x.2.2.2.1,x.2.2.2.2.1,e.2.1,x.2.2.2.2.2.2.1,x.2.2.2.2.2.2.2.1,())
def UB:Ent:=⟨203,⟨(.ptr 0 0 0 (.ptrI 2 0 (.slot .i .nil))),(.cells 6 (.slot .bool (.own 1 (.own 2 (.own 3 (.own 4 (.slot .i .nil)))))) (.tree false 0 (.slice Af) (.tree false 0 Ad (.lst false A0 (.lst false A0 .nil)))))⟩,⟨(si 2 .nil),(.cells 6 (.slot .bool (.own 1 (.own 2 (.own 5 (.own 6 (.slot .i .nil)))))) (.tree false 0 (.slice Af) (.tree false 1 Ad (.gone (.gone (.lst false A0 (.lst false A0 .nil)))))))⟩,Fa⟩
theorem i8:Ai Go.Proofs.Tryz.prog UB:=okA (C:=Acu) (hcB (all_cons PL (all_cons oX (all_cons sV (all_cons sS all_nil))))) Go.Proofs.Tryz.func203
abbrev oV:=Nat×B3
abbrev oQ:=Int×Bool×Int×List (List A2)×List A3×List A1×List A1×List Int×Unit
abbrev oS:=Bool×Int×List (List A2)×List A3×Int×List Int×A9 ⊕ Bool×Int×List (List A2)×List A3×List A1×List A1×List Int×Unit
def C6 (i:oV)(v:oQ)(R:Type)(K:oQ ⊕ oS->Option R):Option R:=bif decide (v.1<=i.2.1)then(Fa (i.1,v.1,v.2.1,v.2.2.1,v.2.2.2.1,v.2.2.2.2.1,v.2.2.2.2.2.1,v.2.2.2.2.2.2.1,())).bind fun a=>bif a.2.1 != 0 then K (.inr (.inl (a.2.2.1,a.2.2.2.1,a.2.2.2.2.1,a.2.2.2.2.2.1,a.2.1,v.2.2.2.2.2.2.2.1,a.2.2.2.2.2.2.1,a.2.2.2.2.2.2.2.1,())))else if(v.2.2.2.2.2.2.2.1++[a.1]).length<=4398046511104 then K (.inl (IntKind.i64.wrap (v.1+1),a.2.2.1,a.2.2.2.1,a.2.2.2.2.1,a.2.2.2.2.2.1,a.2.2.2.2.2.2.1,a.2.2.2.2.2.2.2.1,v.2.2.2.2.2.2.2.1++[a.1],()))else none else K (.inr (.inr (v.2.1,v.2.2.1,v.2.2.2.1,v.2.2.2.2.1,v.2.2.2.2.2.1,v.2.2.2.2.2.2.1,v.2.2.2.2.2.2.2.1,())))
theorem K6:Bg C6:=fun i v R K=>Ae (Ac fun _=>Ae (Aa) (Aq (Aa))) (Aa)
def bL:Tmpl:=⟨(.ptr 0 0 0 (.ptrI 2 0 (.junk (.slot .i (jk 4 (.ptr 7 0 0 (.ptr 8 0 0 (.slot .i (jk 27 .nil))))))))),(.cells 6 (.slot .bool (.own 1 (.own 2 (.own 5 (.own 6 (.slot .i .nil)))))) (.tree false 0 (.slice Af) (.tree false 1 Ad (.gone (.gone (.lst false A0 (.lst false A0 (.cells 2 (.slot .i (.const (AV.nils) .nil)) (.cells 2 (.slot .i (.own 9 .nil)) (.lst false .i .nil))))))))))⟩
def oP:Exs oV oS:=xs .ret (fun i p=>⟨jn 8 (AV.ptr 7 none 0 0::AV.ptr 8 none 0 0::jn 28 ([])),[some (Cont.cells 6 [[AV.pv .bool p.1,AV.own 1 none none,AV.own 2 none none,AV.own 15 none none,AV.own 16 none none,AV.pv .i p.2.1]]),some (Cont.tree false 0 (.slice Af) p.2.2.1 none),some (Cont.tree false 2 Ad p.2.2.2.1 none),some Cont.dead,some Cont.dead,some Cont.dead,some Cont.dead,some (Cont.cells 2 [[AV.pv .i p.2.2.2.2.1,AV.nils]]),some (Cont.cells 2 [[AV.pv .i i.2.2.2.1,AV.own 9 none none]]),some (Cont.lst false .i p.2.2.2.2.2.1),none,none,none,none,none,some (Cont.lst false A0 p.2.2.2.2.2.2.1),some (Cont.lst false A0 p.2.2.2.2.2.2.2.1)]⟩)<|x1 (.exit 0) fun i p=>⟨jn 8 (AV.ptr 7 none 0 0::AV.ptr 8 none 0 0::jn 28 ([])),[some (Cont.cells 6 [[AV.pv .bool p.1,AV.own 1 none none,AV.own 2 none none,AV.own 5 none none,AV.own 6 none none,AV.pv .i p.2.1]]),some (Cont.tree false 0 (.slice Af) p.2.2.1 none),some (Cont.tree false 1 Ad p.2.2.2.1 none),some Cont.dead,some Cont.dead,some (Cont.lst false A0 p.2.2.2.2.1),some (Cont.lst false A0 p.2.2.2.2.2.1),some (Cont.cells 2 [[AV.pv .i i.2.2.1,AV.nils]]),some (Cont.cells 2 [[AV.pv .i i.2.2.2.1,AV.own 9 none none]]),some (Cont.lst false .i p.2.2.2.2.2.2.1)]⟩
def oT:=((.i (.i (.v (.v (.v (.v (.v (.v (.v (.i (.i (.v .n)))))))))))):Pk bL.ty _ _)
def y4:Cfg:={ti:=Aw,ents:=[UB],ann:=[(3,Ao bL 5 (spP oT) C6 oP.E)],lent:=5,pre:=[(some (0,3)),(some (0,4))]}
def F9 (x:Nat×Int×Int×Bool×Int×A7):Option (Int×Bool×Int×List (List A2)×List A3×List A1×List A1×List Int×Unit):=(AC (fun v=>C6 (x.1,x.2.2.1,0,0,()) v _ some) (x.2.1,x.2.2.2.1,x.2.2.2.2.1,x.2.2.2.2.2.1,x.2.2.2.2.2.2.1,x.2.2.2.2.2.2.2.1,x.2.2.2.2.2.2.2.2.1,[],())).bind fun p=>Az p (fun p=>some (p.2.2.2.2.1,p.1,p.2.1,p.2.2.1,p.2.2.2.1,p.2.2.2.2.2.2.1,p.2.2.2.2.2.2.2.1,[],())) fun p=>some (0,p.1,p.2.1,p.2.2.1,p.2.2.2.1,p.2.2.2.2.1,p.2.2.2.2.2.1,p.2.2.2.2.2.2.1,())
def UA:Ent:=⟨146,⟨(.ptr 0 0 0 (.ptrI 2 0 (si 2 .nil))),(.cells 6 (.slot .bool (.own 1 (.own 2 (.own 3 (.own 4 (.slot .i .nil)))))) (.tree false 0 (.slice Af) (.tree false 0 Ad (.lst false A0 (.lst false A0 .nil)))))⟩,⟨(.agg (.slot .i (.own 7 .nil)) .nil),(.cells 6 (.slot .bool (.own 1 (.own 2 (.own 5 (.own 6 (.slot .i .nil)))))) (.tree false 0 (.slice Af) (.tree false 1 Ad (.gone (.gone (.lst false A0 (.lst false A0 (.lst false .i .nil))))))))⟩,F9⟩
theorem oW:CfgOK Go.Proofs.Tryz.prog y4:=hcB (all_cons i8 all_nil)
theorem xZ:B9 Go.Proofs.Tryz.prog y4 (lpc Go.Proofs.Tryz.f146 0):=lkA oW bL oT C6 oP [8,9] K6
theorem oU:Ai Go.Proofs.Tryz.prog UA:=okB oW Go.Proofs.Tryz.func146 xZ
def FY (x:A1×Option Int×Unit):Option (Bool×Unit):=x.2.1.bind fun v=>some (x.1.1==v,())
def WJ:Ent:=⟨244,⟨(.slot A0 (.slot (.iref .i) .nil)),.nil⟩,⟨(.slot .bool .nil),.nil⟩,FY⟩
theorem oO:Ai Go.Proofs.Tryz.prog WJ:=okA (hcA 0 all_nil) Go.Proofs.Tryz.func244
abbrev oL:=List A1×(Option Int×Unit)×Int×Unit
abbrev oI:=Int×Unit
abbrev oJ:=Int×Unit ⊕ Unit
def B7 (i:oL)(v:oI)(R:Type)(K:oI ⊕ oJ->Option R):Option R:=bif decide (v.1<i.2.2.1)then(lAt i.1 v.1).bind fun a=>(FY ((a.1,a.2.1,()),i.2.1.1,())).bind fun b=>bif b.1 then K (.inr (.inl (v.1,())))else K (.inl (IntKind.i64.wrap (v.1+1),()))else K (.inr (.inr ()))
theorem G5:Bg B7:=fun i v R K=>Ae (Ac fun _=>Ac fun _=>Ae (Aa) (Aa)) (Aa)
def bK:Tmpl:=⟨(.slot (.slice A0) (.slot (.fn 244 (.prod (.iref .i) .unit)) (jk 5 (si 2 (jk 10 .nil))))),.nil⟩
def oH:Exs oL oJ:=xs .ret (fun i p=>⟨jn 4 (.n (p.1)::jn 14 ([])),[]⟩)<|x1 (.exit 0) fun i p=>⟨jn 19 ([]),[]⟩
def oK:=((.i (.i (.i (.v .n)))):Pk bK.ty _ _)
def xY:Cfg:={ti:=Aw,ents:=[WJ],ann:=[(2,Ao bK 0 (spP oK) B7 oH.E)],lent:=0}
def BG (x:List A1×(Option Int×Unit)×Unit):Option (Int×Unit):=(AC (fun v=>B7 (x.1,x.2.1,(x.1.length:Int),()) v _ some) (0,())).bind fun p=>Az p (fun p=>some (p.1,())) fun p=>some (-1,())
def ff:Ent:=⟨194,⟨(.slot (.slice A0) (.slot (.fn 244 (.prod (.iref .i) .unit)) .nil)),.nil⟩,⟨(.slot .i .nil),.nil⟩,BG⟩
theorem oM:CfgOK Go.Proofs.Tryz.prog xY:=hcB (all_cons oO all_nil)
theorem xX:B9 Go.Proofs.Tryz.prog xY (lpc Go.Proofs.Tryz.f194 0):=lkA oM bK oK B7 oH [4] G5
theorem i7:Ai Go.Proofs.Tryz.prog ff:=okB oM Go.Proofs.Tryz.func194 xX
def FD (x:List A1×Int×Unit):Option (Int×Unit):=(BG (x.1,(some x.2.1,()),())).bind fun v=>bif decide (v.1<0)then some (0,())else(lAt x.1 v.1).bind fun v=>some (v.2.1,())
def Uz:Ent:=⟨205,⟨(.slot (.slice A0) (.slot .i .nil)),.nil⟩,⟨(.slot .i .nil),.nil⟩,FD⟩
theorem Yp:Ai Go.Proofs.Tryz.prog Uz:=okA (hcA 0 (all_cons i7 all_nil)) Go.Proofs.Tryz.func205
def D2 (x:A4×Int×Unit):Option (Option A2×Unit):=(lAt x.1.1 x.2.1).bind fun v=>(lAt v (IntKind.i64.wrap ((v.length:Int)-1))).bind fun v=>some (some v,())
def Uy:Ent:=⟨243,⟨(.slot Bp (.slot .i .nil)),.nil⟩,⟨(.slot (.iref Af) .nil),.nil⟩,D2⟩
theorem Wa:Ai Go.Proofs.Tryz.prog Uy:=okA (hcA 0 all_nil) Go.Proofs.Tryz.func243
def DV (x:A4×List A1×A3×Int×Unit):Option (Int×Unit):=(FD (x.2.1,x.2.2.2.1,())).bind fun v=>(D2 ((x.1.1,()),x.2.2.2.1,())).bind fun a=>bif v.1 != 0 then bif x.2.2.1.2.1==1 then bif v.1 != x.2.2.1.1 then some (1,())else bif x.2.2.1.2.1==2 then bif v.1 != x.2.2.1.1 then some (2,())else a.1.bind fun v=>bif decide (v.2.2.1>x.2.2.1.2.2.2.1)then some (2,())else bif x.2.2.1.2.1==4 then a.1.bind fun v=>bif decide (v.2.2.2.1>x.2.2.1.2.2.2.1)then some (3,())else some (0,())else some (0,())else bif x.2.2.1.2.1==4 then a.1.bind fun v=>bif decide (v.2.2.2.1>x.2.2.1.2.2.2.1)then some (3,())else some (0,())else some (0,())else bif x.2.2.1.2.1==2 then bif v.1 != x.2.2.1.1 then some (2,())else a.1.bind fun v=>bif decide (v.2.2.1>x.2.2.1.2.2.2.1)then some (2,())else bif x.2.2.1.2.1==4 then a.1.bind fun v=>bif decide (v.2.2.2.1>x.2.2.1.2.2.2.1)then some (3,())else some (0,())else some (0,())else bif x.2.2.1.2.1==4 then a.1.bind fun v=>bif decide (v.2.2.2.1>x.2.2.1.2.2.2.1)then some (3,())else some (0,())else some (0,())else bif x.2.2.1.2.1==1 then bif x.2.2.1.2.1==2 then a.1.bind fun v=>bif decide (v.2.2.1>x.2.2.1.2.2.2.1)then some (2,())else bif x.2.2.1.2.1==4 then a.1.bind fun v=>bif decide (v.2.2.2.1>x.2.2.1.2.2.2.1)then some (3,())else some (0,())else some (0,())else bif x.2.2.1.2.1==4 then a.1.bind fun v=>bif decide (v.2.2.2.1>x.2.2.1.2.2.2.1)then some (3,())else some (0,())else some (0,())else bif x.2.2.1.2.1==2 then a.1.bind fun v=>bif decide (v.2.2.1>x.2.2.1.2.2.2.1)then some (2,())else bif x.2.2.1.2.1==4 then a.1.bind fun v=>bif decide (v.2.2.2.1>x.2.2.1.2.2.2.1)then some (3,())else some (0,())else some (0,())else bif x.2.2.1.2.1==4 then a.1.bind fun v=>bif decide (v.2.2.2.1>x.2.2.1.2.2.2.1)then some (3,())else some (0,())else some (0,())
def WI:Ent:=⟨204,⟨(.slot Bp (.slot (.slice A0) (.slot Ad (.slot .i .nil)))),.nil⟩,⟨(.slot .i .nil),.nil⟩,DV⟩
theorem oG:Ai Go.Proofs.Tryz.prog WI:=okA (hcA 0 (all_cons Yp (all_cons Wa all_nil))) Go.Proofs.Tryz.func204
abbrev oE:=List A1×List A1×Int×Unit
abbrev oB:=Int×Unit
abbrev oC:=Int×Int×Unit ⊕ Int×Int×Unit ⊕ Int×Int×Unit ⊕ Int×Int×Unit ⊕ Unit
def Eg (i:oE)(v:oB)(R:Type)(K:oB ⊕ oC->Option R):Option R:=bif decide (v.1<i.2.2.1)then(lAt i.2.1 v.1).bind fun a=>(BC (a.1,())).bind fun b=>bif !b.1 then K (.inr (.inl (a.1,a.2.1,())))else(BC (a.2.1,())).bind fun c=>bif !c.1 then K (.inr (.inr (.inl (a.1,a.2.1,()))))else bif a.1==a.2.1 then K (.inr (.inr (.inr (.inl (a.1,a.2.1,())))))else bif decide (v.1>0)then(lAt i.1 (IntKind.i64.wrap (v.1-1))).bind fun d=>bif decide (d.1>=a.1)then K (.inr (.inr (.inr (.inr (.inl (a.1,a.2.1,()))))))else K (.inl (IntKind.i64.wrap (v.1+1),()))else K (.inl (IntKind.i64.wrap (v.1+1),()))else K (.inr (.inr (.inr (.inr (.inr ())))))
theorem Mw:Bg Eg:=fun i v R K=>Ae (Ac fun _=>Ac fun _=>Ae (Aa) (Ac fun _=>Ae (Aa) (Ae (Aa) (Ae (Ac fun _=>Ae (Aa) (Aa)) (Aa))))) (Aa)
def bI:Tmpl:=⟨(.slot (.slice A0) (jk 4 (.slot (.slice A0) (si 2 (jk 37 .nil))))),.nil⟩
def oA:Exs oE oC:=xs .ret (fun i p=>⟨jn 2 (.b (false)::jn 42 ([])),[some (Cont.cells 2 [[AV.pv .i p.1,AV.pv .i p.2.1]])]⟩)<|xs .ret (fun i p=>⟨jn 2 (.b (false)::jn 42 ([])),[some (Cont.cells 2 [[AV.pv .i p.1,AV.pv .i p.2.1]])]⟩)<|xs .ret (fun i p=>⟨jn 2 (.b (false)::jn 42 ([])),[some (Cont.cells 2 [[AV.pv .i p.1,AV.pv .i p.2.1]])]⟩)<|xs .ret (fun i p=>⟨jn 2 (.b (false)::jn 42 ([])),[some (Cont.cells 2 [[AV.pv .i p.1,AV.pv .i p.2.1]])]⟩)<|x1 (.exit 0) fun i p=>⟨jn 45 ([]),[]⟩
def oD:=((.i (.i (.i (.v .n)))):Pk bI.ty _ _)
def xW:Cfg:={ti:=Aw,ents:=[RA],ann:=[(2,Ao bI 0 (spP oD) Eg oA.E)],lent:=0}
def Dn (x:List A1×Unit):Option (Bool×Unit):=(AC (fun v=>Eg (x.1,x.1,(x.1.length:Int),()) v _ some) (0,())).bind fun p=>Az p (fun p=>some (false,())) fun p=>Az p (fun p=>some (false,())) fun p=>Az p (fun p=>some (false,())) fun p=>Az p (fun p=>some (false,())) fun p=>some (true,())
def WH:Ent:=⟨129,⟨(.slot (.slice A0) .nil),.nil⟩,⟨(.slot .bool .nil),.nil⟩,Dn⟩
theorem oF:CfgOK Go.Proofs.Tryz.prog xW:=hcB (all_cons Qt all_nil)
theorem xV:B9 Go.Proofs.Tryz.prog xW (lpc Go.Proofs.Tryz.f129 0):=lkA oF bI oD Eg oA [2] Mw
theorem bJ:Ai Go.Proofs.Tryz.prog WH:=okB oF Go.Proofs.Tryz.func129 xV
def FC (x:A1×Int×Unit):Option (Int×Unit):=(BO (x.1.1,x.2.1,())).bind fun v=>some (v.1,())
def Ux:Ent:=⟨247,⟨(.slot A0 (.slot .i .nil)),.nil⟩,⟨(.slot .i .nil),.nil⟩,FC⟩
theorem oz:Ai Go.Proofs.Tryz.prog Ux:=okA (hcA 0 (all_cons TH all_nil)) Go.Proofs.Tryz.func247
abbrev oy:=List A1×Int×Unit×Int×Unit
abbrev ou:=Int×Int×Unit
abbrev ov:=Int×Unit
def AE (i:oy)(v:ou)(R:Type)(K:ou ⊕ ov->Option R):Option R:=bif decide (v.1<v.2.1)then(lAt i.1 (IntKind.i64.wrap (Int.fdiv (IntKind.u64.wrap (IntKind.i64.wrap (v.1+v.2.1))) (2 ^ min (Int.toNat 1) (IntKind.bits IntKind.u64))))).bind fun a=>(FC ((a.1,a.2.1,()),i.2.1,())).bind fun b=>bif decide (b.1<0)then K (.inl (IntKind.i64.wrap (IntKind.i64.wrap (Int.fdiv (IntKind.u64.wrap (IntKind.i64.wrap (v.1+v.2.1))) (2 ^ min (Int.toNat 1) (IntKind.bits IntKind.u64)))+1),v.2.1,()))else K (.inl (v.1,IntKind.i64.wrap (Int.fdiv (IntKind.u64.wrap (IntKind.i64.wrap (v.1+v.2.1))) (2 ^ min (Int.toNat 1) (IntKind.bits IntKind.u64))),()))else K (.inr (v.1,()))
theorem Fg:Bg AE:=fun i v R K=>Ae (Ac fun _=>Ac fun _=>Ae (Aa) (Aa)) (Aa)
def bH:Tmpl:=⟨(.slot (.slice A0) (.slot .i (.slot (.fn 247 .unit) (jk 5 (si 3 (jk 38 .nil)))))),.nil⟩
def ot:Exs oy ov:=x1 (.exit 0) fun i p=>⟨AV.pv (.slice A0) i.1::.n (i.2.1)::AV.pv (.fn 247 .unit) i.2.2.1::jn 5 (.n (i.2.2.2.1)::.n (p.1)::jn 39 ([])),[]⟩
def ow:=((.i (.i (.i (.i (.v (.v .n)))))):Pk bH.ty _ _)
def fe:Cfg:={ti:=Aw,ents:=[Ux],ann:=[(3,Ao bH 0 (spP ow) AE ot.E)],lent:=0}
def Be (x:List A1×Int×Unit×Unit):Option (Int×Bool×Unit):=(AC (fun v=>AE (x.1,x.2.1,x.2.2.1,(x.1.length:Int),()) v _ some) (0,(x.1.length:Int),())).bind fun p=>bif decide (p.1<(x.1.length:Int))then(lAt x.1 p.1).bind fun v=>(FC ((v.1,v.2.1,()),x.2.1,())).bind fun v=>some (p.1,v.1==0,())else some (p.1,false,())
def fc:Ent:=⟨246,⟨(.slot (.slice A0) (.slot .i (.slot (.fn 247 .unit) .nil))),.nil⟩,⟨(.slot .i (.slot .bool .nil)),.nil⟩,Be⟩
theorem Yo:CfgOK Go.Proofs.Tryz.prog fe:=hcB (all_cons oz all_nil)
theorem xU:B9 Go.Proofs.Tryz.prog fe (lpc Go.Proofs.Tryz.f246 0):=lkA Yo bH ow AE ot [0,1,2,8,9] Fg
theorem ox:Ai Go.Proofs.Tryz.prog fc:=okB Yo Go.Proofs.Tryz.func246 xU
def fb:Go.Shelf.Ren:=⟨fun|22=>248|29=>275|30=>276|n=>n,fun|24=>38|9=>144|n=>n,fun|n=>n⟩
theorem Acr:InsL Go.Proofs.Tryz.prog fb true 2 where
 mixed:=by kernel_rfl
 f22:=⟨ "slices.Insert[[]loop.example/g01924/impl.Wait,loop.example/g01924/impl.Wait]",by decide,Go.Proofs.Tryz.func248.trans (congrArg some (by kernel_rfl))⟩
 f29:=⟨_,Go.Proofs.Tryz.func275,by kernel_rfl,by kernel_rfl,by kernel_rfl,by kernel_rfl⟩
 a9:=Go.Proofs.Tryz.isAgg144
 z9:=Go.Proofs.Tryz.sizeOf144
 t0:=Go.Proofs.Tryz.underlying0
 a0:=Go.Proofs.Tryz.isAgg0
 z0:=Go.Proofs.Tryz.sizeOf0
 v0:=Go.Proofs.Tryz.zeroValue0
 t3:=Go.Proofs.Tryz.underlying3
 a3:=Go.Proofs.Tryz.isAgg3
 z3:=Go.Proofs.Tryz.sizeOf3
 v3:=Go.Proofs.Tryz.zeroValue3
 t4:=Go.Proofs.Tryz.underlying4
 a4:=Go.Proofs.Tryz.isAgg4
 z4:=Go.Proofs.Tryz.sizeOf4
 v4:=Go.Proofs.Tryz.zeroValue4
 t24:=Go.Proofs.Tryz.underlying38
 a24:=Go.Proofs.Tryz.isAgg38
 z24:=Go.Proofs.Tryz.sizeOf38
 v24:=Go.Proofs.Tryz.zeroValue38
def EH (x:Int×List (Int×Int×Unit)×List (Int×Int×Unit)×Unit):Option (List (Int×Int×Unit)×Unit):=Pi (α:=Int×Int×Unit) 2199023255552 x
def ABw:Cfg:={ti:=Aw,ents:=[],ann:=[],lent:=2}
def ZE:Ent:=⟨248,⟨(.own 0 (.slot Ty.i (.own 1 .nil))),(.lst false A0 (.lst false A0 .nil))⟩,⟨(.own 2 .nil),(.gone (.gone (.lst false A0 .nil)))⟩,EH⟩
theorem oq:Ai Go.Proofs.Tryz.prog ZE:=Qe (ρ:=fb) (t:=A0) YS Acr rfl (by decide) rfl
def FB (x:List A1×Int×Int×Unit):Option (Bool×List A1×Unit):=(BP (x.1,())).bind fun v=>(Dn (x.1,())).bind fun a=>bif !a.1 then some (false,v.1,())else(BC (x.2.1,())).bind fun b=>bif !b.1 then some (false,v.1,())else(BC (x.2.2.1,())).bind fun c=>bif !c.1 then some (false,v.1,())else bif x.2.1==x.2.2.1 then some (false,v.1,())else(Be (x.1,x.2.1,(),())).bind fun d=>bif !d.2.1 then(EH (d.1,v.1,[(x.2.1,x.2.2.1,())],())).bind fun v=>some (true,v.1,())else if 0<=d.1/\d.1<(v.1.length:Int)then v.1[0+d.1.toNat]?.bind fun e=>some (true,v.1.set (0+d.1.toNat) (e.1,x.2.2.1,()),())else none
def WG:Ent:=⟨207,⟨(.slot (.slice A0) (si 2 .nil)),.nil⟩,⟨(.own 0 (.slot .bool .nil)),(.lst false A0 .nil)⟩,FB⟩
theorem bG:Ai Go.Proofs.Tryz.prog WG:=okA (hcA 0 (all_cons oq (all_cons Z4 (all_cons bJ (all_cons Qt (all_cons ox all_nil)))))) Go.Proofs.Tryz.func207
def FX (x:A1×Option (List Int)×Unit):Option (Bool×Unit):=x.2.1.bind fun v=>x.2.1.bind fun a=>(lAt v (IntKind.i64.wrap ((a.length:Int)-1))).bind fun v=>some (x.1.1==v,())
def Uw:Ent:=⟨274,⟨(.slot A0 (.slot (.iref (.slice .i)) .nil)),.nil⟩,⟨(.slot .bool .nil),.nil⟩,FX⟩
theorem i6:Ai Go.Proofs.Tryz.prog Uw:=okA (hcA 0 all_nil) Go.Proofs.Tryz.func274
abbrev om:=List A1×(Option (List Int)×Unit)×Int×Unit
abbrev oi:=Int×Unit
abbrev oj:=Int×Unit ⊕ Unit
def B6 (i:om)(v:oi)(R:Type)(K:oi ⊕ oj->Option R):Option R:=bif decide (v.1<i.2.2.1)then(lAt i.1 v.1).bind fun a=>(FX ((a.1,a.2.1,()),i.2.1.1,())).bind fun b=>bif b.1 then K (.inr (.inl (v.1,())))else K (.inl (IntKind.i64.wrap (v.1+1),()))else K (.inr (.inr ()))
theorem G4:Bg B6:=fun i v R K=>Ae (Ac fun _=>Ac fun _=>Ae (Aa) (Aa)) (Aa)
def bE:Tmpl:=⟨(.slot (.slice A0) (.slot (.fn 274 (.prod (.iref (.slice .i)) .unit)) (jk 5 (si 2 (jk 10 .nil))))),.nil⟩
def oh:Exs om oj:=xs .ret (fun i p=>⟨jn 4 (.n (p.1)::jn 14 ([])),[]⟩)<|x1 (.exit 0) fun i p=>⟨jn 19 ([]),[]⟩
def ol:=((.i (.i (.i (.v .n)))):Pk bE.ty _ _)
def xT:Cfg:={ti:=Aw,ents:=[Uw],ann:=[(2,Ao bE 0 (spP ol) B6 oh.E)],lent:=0}
def BF (x:List A1×(Option (List Int)×Unit)×Unit):Option (Int×Unit):=(AC (fun v=>B6 (x.1,x.2.1,(x.1.length:Int),()) v _ some) (0,())).bind fun p=>Az p (fun p=>some (p.1,())) fun p=>some (-1,())
def Uv:Ent:=⟨195,⟨(.slot (.slice A0) (.slot (.fn 274 (.prod (.iref (.slice .i)) .unit)) .nil)),.nil⟩,⟨(.slot .i .nil),.nil⟩,BF⟩
theorem oo:CfgOK Go.Proofs.Tryz.prog xT:=hcB (all_cons i6 all_nil)
theorem xS:B9 Go.Proofs.Tryz.prog xT (lpc Go.Proofs.Tryz.f195 0):=lkA oo bE ol B6 oh [4] G4
theorem bF:Ai Go.Proofs.Tryz.prog Uv:=okB oo Go.Proofs.Tryz.func195 xS
abbrev oe:=List Int×Int×Int×Unit
abbrev oa:=Int×Unit
abbrev ob:=Int×Unit ⊕ Unit
def Cm (i:oe)(v:oa)(R:Type)(K:oa ⊕ ob->Option R):Option R:=bif decide (v.1<i.2.2.1)then(lAt i.1 v.1).bind fun a=>bif i.2.1==a then K (.inr (.inl (v.1,())))else K (.inl (IntKind.i64.wrap (v.1+1),()))else K (.inr (.inr ()))
theorem KJ:Bg Cm:=fun i v R K=>Ae (Ac fun _=>Ae (Aa) (Aa)) (Aa)
def bD:Tmpl:=⟨(.slot (.slice .i) (.slot .i (jk 5 (si 2 (jk 10 .nil))))),.nil⟩
def o9:Exs oe ob:=xs .ret (fun i p=>⟨jn 4 (.n (p.1)::jn 14 ([])),[]⟩)<|x1 (.exit 0) fun i p=>⟨jn 19 ([]),[]⟩
def oc:=((.i (.i (.i (.v .n)))):Pk bD.ty _ _)
def xR:Cfg:={ti:=Aw,ents:=[],ann:=[(2,Ao bD 0 (spP oc) Cm o9.E)],lent:=0}
def Hw (x:List Int×Int×Unit):Option (Int×Unit):=(AC (fun v=>Cm (x.1,x.2.1,(x.1.length:Int),()) v _ some) (0,())).bind fun p=>Az p (fun p=>some (p.1,())) fun p=>some (-1,())
def ZD:Ent:=⟨221,⟨(.slot (.slice .i) (.slot .i .nil)),.nil⟩,⟨(.slot .i .nil),.nil⟩,Hw⟩
theorem og:CfgOK Go.Proofs.Tryz.prog xR:=hcB all_nil
theorem xQ:B9 Go.Proofs.Tryz.prog xR (lpc Go.Proofs.Tryz.f221 0):=lkA og bD oc Cm o9 [4] KJ
theorem od:Ai Go.Proofs.Tryz.prog ZD:=okB og Go.Proofs.Tryz.func221 xQ
def E6 (x:List Int×Int×Unit):Option (Bool×Unit):=(Hw (x.1,x.2.1,())).bind fun v=>some (decide (v.1>=0),())
def VQ:Ent:=⟨161,⟨(.slot (.slice .i) (.slot .i .nil)),.nil⟩,⟨(.slot .bool .nil),.nil⟩,E6⟩
theorem iH:Ai Go.Proofs.Tryz.prog VQ:=okA (hcA 0 (all_cons od all_nil)) Go.Proofs.Tryz.func161
abbrev o7:=List A1×Unit
abbrev nW:=List Int×Unit
abbrev nX:=List Int×Unit ⊕ List Int×List Int×Unit
def DA (i:o7)(v:nW)(R:Type)(K:nW ⊕ nX->Option R):Option R:=(BF (i.1,(some v.1,()),())).bind fun a=>bif decide (a.1<0)then K (.inr (.inl (v.1,())))else(lAt i.1 a.1).bind fun b=>(E6 (v.1,b.2.1,())).bind fun c=>(lAt i.1 a.1).bind fun d=>if(v.1++[d.2.1]).length<=4398046511104 then bif c.1 then K (.inr (.inr ([d.2.1],v.1++[d.2.1],())))else K (.inl (v.1++[d.2.1],()))else none
theorem M5:Bg DA:=fun i v R K=>Ac fun _=>Ae (Aa) (Ac fun _=>Ac fun _=>Ac fun _=>Aq (Ae (Aa) (Aa)))
def bC:Tmpl:=⟨(.slot (.slice A0) (jk 4 (.ptr 0 0 0 (jk 35 .nil)))),(.cells 1 (.own 1 .nil) (.lst false .i .nil))⟩
def nV:Exs o7 nX:=xs .ret (fun i p=>⟨jn 4 (AV.own 1 none none::jn 36 ([])),[some (Cont.cells 1 [[AV.own 1 none none]]),some (Cont.lst false .i p.1)]⟩)<|x1 .ret fun i p=>⟨jn 4 (AV.own 3 none none::jn 36 ([])),[some (Cont.cells 1 [[AV.own 3 none none]]),some Cont.dead,some (Cont.lst false .i p.1),some (Cont.lst false .i p.2.1)]⟩
def nY:=((.i (.v .n)):Pk bC.ty _ _)
def xP:Cfg:={ti:=Aw,ents:=[WH,RA,Uv,VQ],ann:=[(4,Ao bC 0 (spP nY) DA nV.E)],lent:=0}
def IA (x:List A1×Int×Unit):Option (List Int×Unit):=(Dn (x.1,())).bind fun v=>bif !v.1 then some ([],())else(BC (x.2.1,())).bind fun v=>bif !v.1 then some ([],())else(AC (fun v=>DA (x.1,()) v _ some) ([x.2.1],())).bind fun p=>Az p (fun p=>some (p.1,())) fun p=>some (p.2.1,())
def fa:Ent:=⟨245,⟨(.slot (.slice A0) (.slot .i .nil)),.nil⟩,⟨(.own 0 .nil),(.lst false .i .nil)⟩,IA⟩
theorem o8:CfgOK Go.Proofs.Tryz.prog xP:=hcB (all_cons bJ (all_cons Qt (all_cons bF (all_cons iH all_nil))))
theorem xO:B9 Go.Proofs.Tryz.prog xP (lpc Go.Proofs.Tryz.f245 0):=lkA o8 bC nY DA nV [4] M5
theorem nZ:Ai Go.Proofs.Tryz.prog fa:=okB o8 Go.Proofs.Tryz.func245 xO
def F5 (x:List A1×Int×Int×Unit):Option (Bool×Unit):=(FB (x.1,x.2.1,x.2.2.1,())).bind fun v=>bif !v.1 then some (false,())else(IA (v.2.1,x.2.1,())).bind fun v=>if 0<=IntKind.i64.wrap ((v.1.length:Int)-1)/\IntKind.i64.wrap ((v.1.length:Int)-1)<(v.1.length:Int)then v.1[0+(IntKind.i64.wrap ((v.1.length:Int)-1)).toNat]?.bind fun v=>some (v==x.2.1,())else none
def Uu:Ent:=⟨206,⟨(.slot (.slice A0) (si 2 .nil)),.nil⟩,⟨(.slot .bool .nil),.nil⟩,F5⟩
theorem nU:Ai Go.Proofs.Tryz.prog Uu:=okA (hcA 0 (all_cons bG (all_cons nZ all_nil))) Go.Proofs.Tryz.func206
def F6 (x:Int×Unit):Option (Bool×Unit):=bif x.1==1 then some (true,())else some (x.1==2,())
def WF:Ent:=⟨208,⟨(.slot .i .nil),.nil⟩,⟨(.slot .bool .nil),.nil⟩,F6⟩
theorem nT:Ai Go.Proofs.Tryz.prog WF:=okA (hcA 0 all_nil) Go.Proofs.Tryz.func208
abbrev nR:=List A1×List A1×Int×Unit
abbrev nN:=Int×Unit
abbrev nO:=Int×Int×Unit ⊕ Int×Int×Unit ⊕ Int×Int×Unit ⊕ Unit
def Eh (i:nR)(v:nN)(R:Type)(K:nN ⊕ nO->Option R):Option R:=bif decide (v.1<i.2.2.1)then(lAt i.2.1 v.1).bind fun a=>(Dl (a.1,())).bind fun b=>bif !b.1 then K (.inr (.inl (a.1,a.2.1,())))else(BC (a.2.1,())).bind fun c=>bif !c.1 then K (.inr (.inr (.inl (a.1,a.2.1,()))))else bif decide (v.1>0)then(lAt i.1 (IntKind.i64.wrap (v.1-1))).bind fun d=>bif decide (d.1>=a.1)then K (.inr (.inr (.inr (.inl (a.1,a.2.1,())))))else K (.inl (IntKind.i64.wrap (v.1+1),()))else K (.inl (IntKind.i64.wrap (v.1+1),()))else K (.inr (.inr (.inr (.inr ()))))
theorem Mx:Bg Eh:=fun i v R K=>Ae (Ac fun _=>Ac fun _=>Ae (Aa) (Ac fun _=>Ae (Aa) (Ae (Ac fun _=>Ae (Aa) (Aa)) (Aa)))) (Aa)
def bA:Tmpl:=⟨(.slot (.slice A0) (jk 4 (.slot (.slice A0) (si 2 (jk 30 .nil))))),.nil⟩
def nM:Exs nR nO:=xs .ret (fun i p=>⟨jn 2 (.b (false)::jn 35 ([])),[some (Cont.cells 2 [[AV.pv .i p.1,AV.pv .i p.2.1]])]⟩)<|xs .ret (fun i p=>⟨jn 2 (.b (false)::jn 35 ([])),[some (Cont.cells 2 [[AV.pv .i p.1,AV.pv .i p.2.1]])]⟩)<|xs .ret (fun i p=>⟨jn 2 (.b (false)::jn 35 ([])),[some (Cont.cells 2 [[AV.pv .i p.1,AV.pv .i p.2.1]])]⟩)<|x1 (.exit 0) fun i p=>⟨jn 38 ([]),[]⟩
def nP:=((.i (.i (.i (.v .n)))):Pk bA.ty _ _)
def xN:Cfg:={ti:=Aw,ents:=[Rz,RA],ann:=[(2,Ao bA 0 (spP nP) Eh nM.E)],lent:=0}
def Eu (x:List A1×Unit):Option (Bool×Unit):=(AC (fun v=>Eh (x.1,x.1,(x.1.length:Int),()) v _ some) (0,())).bind fun p=>Az p (fun p=>some (false,())) fun p=>Az p (fun p=>some (false,())) fun p=>Az p (fun p=>some (false,())) fun p=>some (true,())
def eZ:Ent:=⟨128,⟨(.slot (.slice A0) .nil),.nil⟩,⟨(.slot .bool .nil),.nil⟩,Eu⟩
theorem nS:CfgOK Go.Proofs.Tryz.prog xN:=hcB (all_cons TJ (all_cons Qt all_nil))
theorem xM:B9 Go.Proofs.Tryz.prog xN (lpc Go.Proofs.Tryz.f128 0):=lkA nS bA nP Eh nM [2] Mx
theorem nQ:Ai Go.Proofs.Tryz.prog eZ:=okB nS Go.Proofs.Tryz.func128 xM
def Dp (x:A1×Int×Unit):Option (Int×Unit):=(BO (x.1.1,x.2.1,())).bind fun v=>some (v.1,())
def VP:Ent:=⟨250,⟨(.slot A0 (.slot .i .nil)),.nil⟩,⟨(.slot .i .nil),.nil⟩,Dp⟩
theorem nL:Ai Go.Proofs.Tryz.prog VP:=okA (hcA 0 (all_cons TH all_nil)) Go.Proofs.Tryz.func250
abbrev nJ:=List A1×Int×Unit×Int×Unit
abbrev nF:=Int×Int×Unit
abbrev nG:=Int×Unit
def AA (i:nJ)(v:nF)(R:Type)(K:nF ⊕ nG->Option R):Option R:=bif decide (v.1<v.2.1)then(lAt i.1 (IntKind.i64.wrap (Int.fdiv (IntKind.u64.wrap (IntKind.i64.wrap (v.1+v.2.1))) (2 ^ min (Int.toNat 1) (IntKind.bits IntKind.u64))))).bind fun a=>(Dp ((a.1,a.2.1,()),i.2.1,())).bind fun b=>bif decide (b.1<0)then K (.inl (IntKind.i64.wrap (IntKind.i64.wrap (Int.fdiv (IntKind.u64.wrap (IntKind.i64.wrap (v.1+v.2.1))) (2 ^ min (Int.toNat 1) (IntKind.bits IntKind.u64)))+1),v.2.1,()))else K (.inl (v.1,IntKind.i64.wrap (Int.fdiv (IntKind.u64.wrap (IntKind.i64.wrap (v.1+v.2.1))) (2 ^ min (Int.toNat 1) (IntKind.bits IntKind.u64))),()))else K (.inr (v.1,()))
theorem En:Bg AA:=fun i v R K=>Ae (Ac fun _=>Ac fun _=>Ae (Aa) (Aa)) (Aa)
def bz:Tmpl:=⟨(.slot (.slice A0) (.slot .i (.slot (.fn 250 .unit) (jk 5 (si 3 (jk 38 .nil)))))),.nil⟩
def nE:Exs nJ nG:=x1 (.exit 0) fun i p=>⟨AV.pv (.slice A0) i.1::.n (i.2.1)::AV.pv (.fn 250 .unit) i.2.2.1::jn 5 (.n (i.2.2.2.1)::.n (p.1)::jn 39 ([])),[]⟩
def nH:=((.i (.i (.i (.i (.v (.v .n)))))):Pk bz.ty _ _)
def xL:Cfg:={ti:=Aw,ents:=[VP],ann:=[(3,Ao bz 0 (spP nH) AA nE.E)],lent:=0}
def AQ (x:List A1×Int×Unit×Unit):Option (Int×Bool×Unit):=(AC (fun v=>AA (x.1,x.2.1,x.2.2.1,(x.1.length:Int),()) v _ some) (0,(x.1.length:Int),())).bind fun p=>bif decide (p.1<(x.1.length:Int))then(lAt x.1 p.1).bind fun v=>(Dp ((v.1,v.2.1,()),x.2.1,())).bind fun v=>some (p.1,v.1==0,())else some (p.1,false,())
def ZC:Ent:=⟨249,⟨(.slot (.slice A0) (.slot .i (.slot (.fn 250 .unit) .nil))),.nil⟩,⟨(.slot .i (.slot .bool .nil)),.nil⟩,AQ⟩
theorem nK:CfgOK Go.Proofs.Tryz.prog xL:=hcB (all_cons nL all_nil)
theorem xK:B9 Go.Proofs.Tryz.prog xL (lpc Go.Proofs.Tryz.f249 0):=lkA nK bz nH AA nE [0,1,2,8,9] En
theorem nI:Ai Go.Proofs.Tryz.prog ZC:=okB nK Go.Proofs.Tryz.func249 xK
def eY:Go.Shelf.Ren:=⟨fun|22=>251|29=>277|30=>278|n=>n,fun|24=>37|9=>142|n=>n,fun|n=>n⟩
theorem Acp:InsL Go.Proofs.Tryz.prog eY true 2 where
 mixed:=by kernel_rfl
 f22:=⟨ "slices.Insert[[]loop.example/g01924/impl.Lock,loop.example/g01924/impl.Lock]",by decide,Go.Proofs.Tryz.func251.trans (congrArg some (by kernel_rfl))⟩
 f29:=⟨_,Go.Proofs.Tryz.func277,by kernel_rfl,by kernel_rfl,by kernel_rfl,by kernel_rfl⟩
 a9:=Go.Proofs.Tryz.isAgg142
 z9:=Go.Proofs.Tryz.sizeOf142
 t0:=Go.Proofs.Tryz.underlying0
 a0:=Go.Proofs.Tryz.isAgg0
 z0:=Go.Proofs.Tryz.sizeOf0
 v0:=Go.Proofs.Tryz.zeroValue0
 t3:=Go.Proofs.Tryz.underlying3
 a3:=Go.Proofs.Tryz.isAgg3
 z3:=Go.Proofs.Tryz.sizeOf3
 v3:=Go.Proofs.Tryz.zeroValue3
 t4:=Go.Proofs.Tryz.underlying4
 a4:=Go.Proofs.Tryz.isAgg4
 z4:=Go.Proofs.Tryz.sizeOf4
 v4:=Go.Proofs.Tryz.zeroValue4
 t24:=Go.Proofs.Tryz.underlying37
 a24:=Go.Proofs.Tryz.isAgg37
 z24:=Go.Proofs.Tryz.sizeOf37
 v24:=Go.Proofs.Tryz.zeroValue37
def EI (x:Int×List (Int×Int×Unit)×List (Int×Int×Unit)×Unit):Option (List (Int×Int×Unit)×Unit):=Pi (α:=Int×Int×Unit) 2199023255552 x
def ABv:Cfg:={ti:=Aw,ents:=[],ann:=[],lent:=2}
def ZB:Ent:=⟨251,⟨(.own 0 (.slot Ty.i (.own 1 .nil))),(.lst false A0 (.lst false A0 .nil))⟩,⟨(.own 2 .nil),(.gone (.gone (.lst false A0 .nil)))⟩,EI⟩
theorem nD:Ai Go.Proofs.Tryz.prog ZB:=Qe (ρ:=eY) (t:=A0) YT Acp rfl (by decide) rfl
def Es (x:List A1×Int×Int×Unit):Option (Bool×List A1×Unit):=(Cg (x.1,())).bind fun v=>(Eu (x.1,())).bind fun a=>bif !a.1 then some (false,v.1,())else(Dl (x.2.1,())).bind fun b=>bif !b.1 then some (false,v.1,())else(BC (x.2.2.1,())).bind fun c=>bif !c.1 then some (false,v.1,())else(AQ (x.1,x.2.1,(),())).bind fun d=>bif d.2.1 then(lAt x.1 d.1).bind fun e=>some (e.2.1==x.2.2.1,v.1,())else(EI (d.1,v.1,[(x.2.1,x.2.2.1,())],())).bind fun v=>some (true,v.1,())
def Ut:Ent:=⟨209,⟨(.slot (.slice A0) (si 2 .nil)),.nil⟩,⟨(.own 0 (.slot .bool .nil)),(.lst false A0 .nil)⟩,Es⟩
theorem nC:Ai Go.Proofs.Tryz.prog Ut:=okA (hcA 0 (all_cons nD (all_cons iO (all_cons nQ (all_cons TJ (all_cons Qt (all_cons nI all_nil))))))) Go.Proofs.Tryz.func209
def Cu (x:A1×Int×Unit):Option (Int×Unit):=(BO (x.1.1,x.2.1,())).bind fun v=>some (v.1,())
def Us:Ent:=⟨253,⟨(.slot A0 (.slot .i .nil)),.nil⟩,⟨(.slot .i .nil),.nil⟩,Cu⟩
theorem nB:Ai Go.Proofs.Tryz.prog Us:=okA (hcA 0 (all_cons TH all_nil)) Go.Proofs.Tryz.func253
abbrev nz:=List A1×Int×Unit×Int×Unit
abbrev nv:=Int×Int×Unit
abbrev nw:=Int×Unit
def Ar (i:nz)(v:nv)(R:Type)(K:nv ⊕ nw->Option R):Option R:=bif decide (v.1<v.2.1)then(lAt i.1 (IntKind.i64.wrap (Int.fdiv (IntKind.u64.wrap (IntKind.i64.wrap (v.1+v.2.1))) (2 ^ min (Int.toNat 1) (IntKind.bits IntKind.u64))))).bind fun a=>(Cu ((a.1,a.2.1,()),i.2.1,())).bind fun b=>bif decide (b.1<0)then K (.inl (IntKind.i64.wrap (IntKind.i64.wrap (Int.fdiv (IntKind.u64.wrap (IntKind.i64.wrap (v.1+v.2.1))) (2 ^ min (Int.toNat 1) (IntKind.bits IntKind.u64)))+1),v.2.1,()))else K (.inl (v.1,IntKind.i64.wrap (Int.fdiv (IntKind.u64.wrap (IntKind.i64.wrap (v.1+v.2.1))) (2 ^ min (Int.toNat 1) (IntKind.bits IntKind.u64))),()))else K (.inr (v.1,()))
theorem DI:Bg Ar:=fun i v R K=>Ae (Ac fun _=>Ac fun _=>Ae (Aa) (Aa)) (Aa)
def bx:Tmpl:=⟨(.slot (.slice A0) (.slot .i (.slot (.fn 253 .unit) (jk 5 (si 3 (jk 38 .nil)))))),.nil⟩
def nt:Exs nz nw:=x1 (.exit 0) fun i p=>⟨AV.pv (.slice A0) i.1::.n (i.2.1)::AV.pv (.fn 253 .unit) i.2.2.1::jn 5 (.n (i.2.2.2.1)::.n (p.1)::jn 39 ([])),[]⟩
def nx:=((.i (.i (.i (.i (.v (.v .n)))))):Pk bx.ty _ _)
def qB:Cfg:={ti:=Aw,ents:=[Us],ann:=[(3,Ao bx 0 (spP nx) Ar nt.E)],lent:=0}
def AI (x:List A1×Int×Unit×Unit):Option (Int×Bool×Unit):=(AC (fun v=>Ar (x.1,x.2.1,x.2.2.1,(x.1.length:Int),()) v _ some) (0,(x.1.length:Int),())).bind fun p=>bif decide (p.1<(x.1.length:Int))then(lAt x.1 p.1).bind fun v=>(Cu ((v.1,v.2.1,()),x.2.1,())).bind fun v=>some (p.1,v.1==0,())else some (p.1,false,())
def Ur:Ent:=⟨252,⟨(.slot (.slice A0) (.slot .i (.slot (.fn 253 .unit) .nil))),.nil⟩,⟨(.slot .i (.slot .bool .nil)),.nil⟩,AI⟩
theorem nA:CfgOK Go.Proofs.Tryz.prog qB:=hcB (all_cons nB all_nil)
theorem xJ:B9 Go.Proofs.Tryz.prog qB (lpc Go.Proofs.Tryz.f252 0):=lkA nA bx nx Ar nt [0,1,2,8,9] DI
theorem ny:Ai Go.Proofs.Tryz.prog Ur:=okB nA Go.Proofs.Tryz.func252 xJ
def CK (x:List A1×Unit):Option (List A1×Unit):=bif x.1.length==0 then Sz (some ([],())) (if x.1.length<=2199023255552 then some (x.1,())else none)else if x.1.length<=2199023255552 then some (x.1,())else none
def Uq:Ent:=⟨188,⟨(.slot (.slice A0) .nil),.nil⟩,⟨(.own 0 .nil),(.lst false A0 .nil)⟩,CK⟩
theorem ns:Ai Go.Proofs.Tryz.prog Uq:=okA (hcA 0 all_nil) Go.Proofs.Tryz.func188
def BE (x:Int×List (List A2)×Unit):Option (Option (Nat×Nat)×List (List A2)×Unit):=if 0<=x.1/\x.1<(x.2.1.length:Int)then x.2.1[0+x.1.toNat]?.bind fun v=>x.2.1[0+x.1.toNat]?.bind fun v=>x.2.1[0+x.1.toNat]?.bind fun a=>if 0<=IntKind.i64.wrap ((v.length:Int)-1)/\IntKind.i64.wrap ((v.length:Int)-1)<(a.length:Int)then some (some (0+x.1.toNat,0+(IntKind.i64.wrap ((v.length:Int)-1)).toNat),x.2.1,())else none else none
def Qx:Ent:=⟨243,⟨(.agg (.own 0 .nil) (.slot .i .nil)),(.tree false 0 (.slice Af) .nil)⟩,⟨(.mptr 0 0 0 .nil),(.tree false 0 (.slice Af) .nil)⟩,BE⟩
theorem Yn:Ai Go.Proofs.Tryz.prog Qx:=okA (hcA 1 all_nil) Go.Proofs.Tryz.func243
def eX:Go.Shelf.Ren:=⟨fun|22=>254|29=>279|30=>280|n=>n,fun|24=>91|9=>147|n=>n,fun|n=>n⟩
theorem Aco:InsL Go.Proofs.Tryz.prog eX true 2 where
 mixed:=by kernel_rfl
 f22:=⟨ "slices.Insert[[]loop.example/g01924/impl.Write,loop.example/g01924/impl.Write]",by decide,Go.Proofs.Tryz.func254.trans (congrArg some (by kernel_rfl))⟩
 f29:=⟨_,Go.Proofs.Tryz.func279,by kernel_rfl,by kernel_rfl,by kernel_rfl,by kernel_rfl⟩
 a9:=Go.Proofs.Tryz.isAgg147
 z9:=Go.Proofs.Tryz.sizeOf147
 t0:=Go.Proofs.Tryz.underlying0
 a0:=Go.Proofs.Tryz.isAgg0
 z0:=Go.Proofs.Tryz.sizeOf0
 v0:=Go.Proofs.Tryz.zeroValue0
 t3:=Go.Proofs.Tryz.underlying3
 a3:=Go.Proofs.Tryz.isAgg3
 z3:=Go.Proofs.Tryz.sizeOf3
 v3:=Go.Proofs.Tryz.zeroValue3
 t4:=Go.Proofs.Tryz.underlying4
 a4:=Go.Proofs.Tryz.isAgg4
 z4:=Go.Proofs.Tryz.sizeOf4
 v4:=Go.Proofs.Tryz.zeroValue4
 t24:=Go.Proofs.Tryz.underlying91
 a24:=Go.Proofs.Tryz.isAgg91
 z24:=Go.Proofs.Tryz.sizeOf91
 v24:=Go.Proofs.Tryz.zeroValue91
def Em (x:Int×List (Int×Int×Unit)×List (Int×Int×Unit)×Unit):Option (List (Int×Int×Unit)×Unit):=Pi (α:=Int×Int×Unit) 2199023255552 x
def A6c:Cfg:={ti:=Aw,ents:=[],ann:=[],lent:=2}
def Up:Ent:=⟨254,⟨(.own 0 (.slot Ty.i (.own 1 .nil))),(.lst false A0 (.lst false A0 .nil))⟩,⟨(.own 2 .nil),(.gone (.gone (.lst false A0 .nil)))⟩,Em⟩
theorem nr:Ai Go.Proofs.Tryz.prog Up:=Qe (ρ:=eX) (t:=A0) YR Aco rfl (by decide) rfl
def qA:Cfg:={ti:=Aw,ents:=[Qx,Up,Ur,Uq],ann:=[],lent:=2,hid:=[((6,0),[1]),((6,1),[1]),((6,2),[1]),((6,3),[1]),((6,4),[1])],tak:=[254]}
def Bw (x:Nat×Int×Int×List A3×List (List A2)×Unit):Option (List A3×List (List A2)×Unit):=x.2.2.2.1[x.1]?.bind fun v=>x.2.2.2.1[x.1]?.bind fun v=>(AI (v.2.2.2.2.2.2.2.2.1,x.2.1,(),())).bind fun v=>x.2.2.2.1[x.1]?.bind fun a=>x.2.2.2.1[x.1]?.bind fun b=>(CK (b.2.2.2.2.2.2.2.2.1,())).bind fun c=>x.2.2.2.1[x.1]?.bind fun d=>bif v.2.1 then(x.2.2.2.1.set x.1 (d.1,d.2.1,d.2.2.1,d.2.2.2.1,d.2.2.2.2.1,d.2.2.2.2.2.1,d.2.2.2.2.2.2.1,d.2.2.2.2.2.2.2.1,c.1,()))[x.1]?.bind fun e=>(x.2.2.2.1.set x.1 (d.1,d.2.1,d.2.2.1,d.2.2.2.1,d.2.2.2.2.1,d.2.2.2.2.2.1,d.2.2.2.2.2.2.1,d.2.2.2.2.2.2.2.1,c.1,()))[x.1]?.bind fun f=>if 0<=v.1/\v.1<(f.2.2.2.2.2.2.2.2.1.length:Int)then(x.2.2.2.1.set x.1 (d.1,d.2.1,d.2.2.1,d.2.2.2.1,d.2.2.2.2.1,d.2.2.2.2.2.1,d.2.2.2.2.2.2.1,d.2.2.2.2.2.2.2.1,c.1,()))[x.1]?.bind fun g=>g.2.2.2.2.2.2.2.2.1[0+v.1.toNat]?.bind fun h=>((x.2.2.2.1.set x.1 (d.1,d.2.1,d.2.2.1,d.2.2.2.1,d.2.2.2.2.1,d.2.2.2.2.2.1,d.2.2.2.2.2.2.1,d.2.2.2.2.2.2.2.1,c.1,())).set x.1 (g.1,g.2.1,g.2.2.1,g.2.2.2.1,g.2.2.2.2.1,g.2.2.2.2.2.1,g.2.2.2.2.2.2.1,g.2.2.2.2.2.2.2.1,g.2.2.2.2.2.2.2.2.1.set (0+v.1.toNat) (h.1,x.2.2.1,()),()))[x.1]?.bind fun j=>(BE (x.2.1,x.2.2.2.2.1,())).bind fun k=>k.1.bind fun l=>k.2.1[l.1]?.bind fun m=>m[l.2]?.bind fun n=>((x.2.2.2.1.set x.1 (d.1,d.2.1,d.2.2.1,d.2.2.2.1,d.2.2.2.2.1,d.2.2.2.2.2.1,d.2.2.2.2.2.2.1,d.2.2.2.2.2.2.2.1,c.1,())).set x.1 (g.1,g.2.1,g.2.2.1,g.2.2.2.1,g.2.2.2.2.1,g.2.2.2.2.2.1,g.2.2.2.2.2.2.1,g.2.2.2.2.2.2.2.1,g.2.2.2.2.2.2.2.2.1.set (0+v.1.toNat) (h.1,x.2.2.1,()),()))[x.1]?.bind fun o=>some (((x.2.2.2.1.set x.1 (d.1,d.2.1,d.2.2.1,d.2.2.2.1,d.2.2.2.2.1,d.2.2.2.2.2.1,d.2.2.2.2.2.2.1,d.2.2.2.2.2.2.2.1,c.1,())).set x.1 (g.1,g.2.1,g.2.2.1,g.2.2.2.1,g.2.2.2.2.1,g.2.2.2.2.2.1,g.2.2.2.2.2.2.1,g.2.2.2.2.2.2.2.1,g.2.2.2.2.2.2.2.2.1.set (0+v.1.toNat) (h.1,x.2.2.1,()),())).set x.1 (o.1,o.2.1,o.2.2.1,o.2.2.2.1,mx j.2.2.2.2.1 n.2.2.2.1,o.2.2.2.2.2.1,o.2.2.2.2.2.2.1,o.2.2.2.2.2.2.2.1,o.2.2.2.2.2.2.2.2.1,()),k.2.1,())else none else(x.2.2.2.1.set x.1 (d.1,d.2.1,d.2.2.1,d.2.2.2.1,d.2.2.2.2.1,d.2.2.2.2.2.1,d.2.2.2.2.2.2.1,d.2.2.2.2.2.2.2.1,c.1,()))[x.1]?.bind fun e=>(x.2.2.2.1.set x.1 (d.1,d.2.1,d.2.2.1,d.2.2.2.1,d.2.2.2.2.1,d.2.2.2.2.2.1,d.2.2.2.2.2.2.1,d.2.2.2.2.2.2.2.1,c.1,()))[x.1]?.bind fun f=>(Em (v.1,f.2.2.2.2.2.2.2.2.1,[(x.2.1,x.2.2.1,())],())).bind fun v=>(x.2.2.2.1.set x.1 (d.1,d.2.1,d.2.2.1,d.2.2.2.1,d.2.2.2.2.1,d.2.2.2.2.2.1,d.2.2.2.2.2.2.1,d.2.2.2.2.2.2.2.1,c.1,()))[x.1]?.bind fun g=>if 9<=9/\true=true/\x.1=x.1/\8<=8/\8<9 then((x.2.2.2.1.set x.1 (d.1,d.2.1,d.2.2.1,d.2.2.2.1,d.2.2.2.2.1,d.2.2.2.2.2.1,d.2.2.2.2.2.2.1,d.2.2.2.2.2.2.2.1,c.1,())).set x.1 (g.1,g.2.1,g.2.2.1,g.2.2.2.1,g.2.2.2.2.1,g.2.2.2.2.2.1,g.2.2.2.2.2.2.1,g.2.2.2.2.2.2.2.1,v.1,()))[x.1]?.bind fun h=>(BE (x.2.1,x.2.2.2.2.1,())).bind fun j=>j.1.bind fun k=>j.2.1[k.1]?.bind fun l=>l[k.2]?.bind fun m=>((x.2.2.2.1.set x.1 (d.1,d.2.1,d.2.2.1,d.2.2.2.1,d.2.2.2.2.1,d.2.2.2.2.2.1,d.2.2.2.2.2.2.1,d.2.2.2.2.2.2.2.1,c.1,())).set x.1 (g.1,g.2.1,g.2.2.1,g.2.2.2.1,g.2.2.2.2.1,g.2.2.2.2.2.1,g.2.2.2.2.2.2.1,g.2.2.2.2.2.2.2.1,v.1,()))[x.1]?.bind fun n=>some (((x.2.2.2.1.set x.1 (d.1,d.2.1,d.2.2.1,d.2.2.2.1,d.2.2.2.2.1,d.2.2.2.2.2.1,d.2.2.2.2.2.2.1,d.2.2.2.2.2.2.2.1,c.1,())).set x.1 (g.1,g.2.1,g.2.2.1,g.2.2.2.1,g.2.2.2.2.1,g.2.2.2.2.2.1,g.2.2.2.2.2.2.1,g.2.2.2.2.2.2.2.1,v.1,())).set x.1 (n.1,n.2.1,n.2.2.1,n.2.2.2.1,mx h.2.2.2.2.1 m.2.2.2.1,n.2.2.2.2.2.1,n.2.2.2.2.2.2.1,n.2.2.2.2.2.2.2.1,n.2.2.2.2.2.2.2.2.1,()),j.2.1,())else none
def Uo:Ent:=⟨210,⟨(.ptrI 0 0 (.agg (.own 1 .nil) (si 2 .nil))),(.tree false 0 Ad (.tree false 0 (.slice Af) .nil))⟩,⟨.nil,(.tree false 1 Ad (.tree false 0 (.slice Af) .nil))⟩,Bw⟩
theorem nq:Ai Go.Proofs.Tryz.prog Uo:=okA (C:=qA) (hcB (all_cons Yn (all_cons nr (all_cons ny (all_cons ns all_nil))))) Go.Proofs.Tryz.func210
def Acn:Cfg:={ti:=Aw,ents:=[Pa,Uo,WI,Uz,Uu,WG,WF,Ut],ann:=[],lent:=5,hid:=[((5,13),[0]),((10,13),[0])],pre:=[(some (0,3)),(some (0,4))]}
def Ez (x:Nat×Int×Int×Bool×Int×A7):Option (Int×Bool×Int×A7):=x.2.2.2.2.2.2.1[x.1]?.bind fun v=>x.2.2.2.2.2.2.1[x.1]?.bind fun a=>x.2.2.2.2.2.2.1[x.1]?.bind fun b=>(DV ((x.2.2.2.2.2.1,()),x.2.2.2.2.2.2.2.1,(v.1,v.2.1,v.2.2.1,v.2.2.2.1,v.2.2.2.2.1,v.2.2.2.2.2.1,v.2.2.2.2.2.2.1,a.2.2.2.2.2.2.2.1,b.2.2.2.2.2.2.2.2.1,()),x.2.1,())).bind fun v=>(FD (x.2.2.2.2.2.2.2.1,x.2.1,())).bind fun c=>bif v.1==1 then x.2.2.2.2.2.2.1[x.1]?.bind fun d=>(F5 (x.2.2.2.2.2.2.2.2.1,d.1,c.1,())).bind fun e=>bif e.1 then(B5 (x.1,4,x.2.2.2.1,x.2.2.2.2.1,x.2.2.2.2.2.1,x.2.2.2.2.2.2.1,x.2.2.2.2.2.2.2.1,x.2.2.2.2.2.2.2.2.1,())).bind fun v=>some (v.1,v.2.1,v.2.2.1,v.2.2.2.1,v.2.2.2.2.1,v.2.2.2.2.2.2.2.1,v.2.2.2.2.2.2.2.2.1,())else bif v.1==1 then x.2.2.2.2.2.2.1[x.1]?.bind fun f=>(FB (x.2.2.2.2.2.2.2.2.1,f.1,c.1,())).bind fun g=>some (v.1,x.2.2.2.1,x.2.2.2.2.1,x.2.2.2.2.2.1,x.2.2.2.2.2.2.1,x.2.2.2.2.2.2.2.1,g.2.1,())else bif v.1 != 0 then(B5 (x.1,v.1,x.2.2.2.1,x.2.2.2.2.1,x.2.2.2.2.2.1,x.2.2.2.2.2.2.1,x.2.2.2.2.2.2.2.1,x.2.2.2.2.2.2.2.2.1,())).bind fun v=>some (v.1,v.2.1,v.2.2.1,v.2.2.2.1,v.2.2.2.2.1,v.2.2.2.2.2.2.2.1,v.2.2.2.2.2.2.2.2.1,())else x.2.2.2.2.2.2.1[x.1]?.bind fun v=>(F6 (v.2.1,())).bind fun v=>bif v.1 then x.2.2.2.2.2.2.1[x.1]?.bind fun v=>(Es (x.2.2.2.2.2.2.2.1,x.2.1,v.1,())).bind fun v=>(Bw (x.1,x.2.1,x.2.2.1,x.2.2.2.2.2.2.1,x.2.2.2.2.2.1,())).bind fun f=>some (0,x.2.2.2.1,x.2.2.2.2.1,f.2.1,f.1,v.2.1,x.2.2.2.2.2.2.2.2.1,())else(Bw (x.1,x.2.1,x.2.2.1,x.2.2.2.2.2.2.1,x.2.2.2.2.2.1,())).bind fun v=>some (0,x.2.2.2.1,x.2.2.2.2.1,v.2.1,v.1,x.2.2.2.2.2.2.2.1,x.2.2.2.2.2.2.2.2.1,())else bif v.1==1 then x.2.2.2.2.2.2.1[x.1]?.bind fun d=>(FB (x.2.2.2.2.2.2.2.2.1,d.1,c.1,())).bind fun e=>some (v.1,x.2.2.2.1,x.2.2.2.2.1,x.2.2.2.2.2.1,x.2.2.2.2.2.2.1,x.2.2.2.2.2.2.2.1,e.2.1,())else bif v.1 != 0 then(B5 (x.1,v.1,x.2.2.2.1,x.2.2.2.2.1,x.2.2.2.2.2.1,x.2.2.2.2.2.2.1,x.2.2.2.2.2.2.2.1,x.2.2.2.2.2.2.2.2.1,())).bind fun v=>some (v.1,v.2.1,v.2.2.1,v.2.2.2.1,v.2.2.2.2.1,v.2.2.2.2.2.2.2.1,v.2.2.2.2.2.2.2.2.1,())else x.2.2.2.2.2.2.1[x.1]?.bind fun v=>(F6 (v.2.1,())).bind fun v=>bif v.1 then x.2.2.2.2.2.2.1[x.1]?.bind fun v=>(Es (x.2.2.2.2.2.2.2.1,x.2.1,v.1,())).bind fun v=>(Bw (x.1,x.2.1,x.2.2.1,x.2.2.2.2.2.2.1,x.2.2.2.2.2.1,())).bind fun d=>some (0,x.2.2.2.1,x.2.2.2.2.1,d.2.1,d.1,v.2.1,x.2.2.2.2.2.2.2.2.1,())else(Bw (x.1,x.2.1,x.2.2.1,x.2.2.2.2.2.2.1,x.2.2.2.2.2.1,())).bind fun v=>some (0,x.2.2.2.1,x.2.2.2.2.1,v.2.1,v.1,x.2.2.2.2.2.2.2.1,x.2.2.2.2.2.2.2.2.1,())
def Un:Ent:=⟨147,⟨(.ptr 0 0 0 (.ptrI 2 0 (si 2 .nil))),(.cells 6 (.slot .bool (.own 1 (.own 2 (.own 3 (.own 4 (.slot .i .nil)))))) (.tree false 0 (.slice Af) (.tree false 0 Ad (.lst false A0 (.lst false A0 .nil)))))⟩,⟨(.agg (.slot .i (.const (AV.nils) .nil)) .nil),(.cells 6 (.slot .bool (.own 1 (.own 2 (.own 5 (.own 6 (.slot .i .nil)))))) (.tree false 0 (.slice Af) (.tree false 1 Ad (.gone (.gone (.lst false A0 (.lst false A0 .nil)))))))⟩,Ez⟩
theorem np:Ai Go.Proofs.Tryz.prog Un:=okA (C:=Acn) (hcB (all_cons PL (all_cons nq (all_cons oG (all_cons Yp (all_cons nU (all_cons bG (all_cons nT (all_cons nC all_nil))))))))) Go.Proofs.Tryz.func147
def BR (x:A1×Option A4×Option A3×Unit):Option (Bool×Unit):=x.2.1.bind fun v=>(D2 ((v.1,()),x.1.1,())).bind fun v=>v.1.bind fun v=>x.2.2.1.bind fun a=>some (decide (v.2.2.1>a.2.2.2.1),())
def WE:Ent:=⟨256,⟨(.slot A0 (.slot (.iref Bp) (.slot (.iref Ad) .nil))),.nil⟩,⟨(.slot .bool .nil),.nil⟩,BR⟩
theorem nn:Ai Go.Proofs.Tryz.prog WE:=okA (hcA 0 (all_cons Wa all_nil)) Go.Proofs.Tryz.func256
abbrev nk:=List A1×(Option A4×Option A3×Unit)×Int×Unit
abbrev ng:=Int×Unit
abbrev nh:=Int×Unit ⊕ Unit
def AG (i:nk)(v:ng)(R:Type)(K:ng ⊕ nh->Option R):Option R:=bif decide (v.1<i.2.2.1)then(lAt i.1 v.1).bind fun a=>(BR ((a.1,a.2.1,()),i.2.1.1,i.2.1.2.1,())).bind fun b=>bif b.1 then K (.inr (.inl (v.1,())))else K (.inl (IntKind.i64.wrap (v.1+1),()))else K (.inr (.inr ()))
theorem EJ:Bg AG:=fun i v R K=>Ae (Ac fun _=>Ac fun _=>Ae (Aa) (Aa)) (Aa)
def bv:Tmpl:=⟨(.slot (.slice A0) (.slot (.fn 256 (.prod (.iref Bp) (.prod (.iref Ad) .unit))) (jk 5 (si 2 (jk 10 .nil))))),.nil⟩
def nf:Exs nk nh:=xs .ret (fun i p=>⟨jn 4 (.n (p.1)::jn 14 ([])),[]⟩)<|x1 (.exit 0) fun i p=>⟨jn 19 ([]),[]⟩
def ni:=((.i (.i (.i (.v .n)))):Pk bv.ty _ _)
def xC:Cfg:={ti:=Aw,ents:=[WE],ann:=[(2,Ao bv 0 (spP ni) AG nf.E)],lent:=0}
def Bj (x:List A1×(Option A4×Option A3×Unit)×Unit):Option (Int×Unit):=(AC (fun v=>AG (x.1,x.2.1,(x.1.length:Int),()) v _ some) (0,())).bind fun p=>Az p (fun p=>some (p.1,())) fun p=>some (-1,())
def ZA:Ent:=⟨269,⟨(.slot (.slice A0) (.slot (.fn 256 (.prod (.iref Bp) (.prod (.iref Ad) .unit))) .nil)),.nil⟩,⟨(.slot .i .nil),.nil⟩,Bj⟩
theorem nl:CfgOK Go.Proofs.Tryz.prog xC:=hcB (all_cons nn all_nil)
theorem xB:B9 Go.Proofs.Tryz.prog xC (lpc Go.Proofs.Tryz.f269 0):=lkA nl bv ni AG nf [4] EJ
theorem nj:Ai Go.Proofs.Tryz.prog ZA:=okB nl Go.Proofs.Tryz.func269 xB
def Bh (x:List A1×(Option A4×Option A3×Unit)×Unit):Option (Bool×Unit):=(Bj (x.1,x.2.1,())).bind fun v=>some (decide (v.1>=0),())
def eW:Ent:=⟨255,⟨(.slot (.slice A0) (.slot (.fn 256 (.prod (.iref Bp) (.prod (.iref Ad) .unit))) .nil)),.nil⟩,⟨(.slot .bool .nil),.nil⟩,Bh⟩
theorem ne:Ai Go.Proofs.Tryz.prog eW:=okA (hcA 0 (all_cons nj all_nil)) Go.Proofs.Tryz.func255
def DC (x:A4×A3×Unit):Option (Int×Unit):=(Bh (x.2.1.2.2.2.2.2.2.2.2.1,(some (x.1.1,()),some (x.2.1.1,x.2.1.2.1,x.2.1.2.2.1,x.2.1.2.2.2.1,x.2.1.2.2.2.2.1,x.2.1.2.2.2.2.2.1,x.2.1.2.2.2.2.2.2.1,x.2.1.2.2.2.2.2.2.2.1,x.2.1.2.2.2.2.2.2.2.2.1,()),()),())).bind fun v=>bif !v.1 then some (0,())else bif x.2.1.2.1==2 then some (2,())else bif x.2.1.2.1==4 then some (3,())else some (0,())
def Um:Ent:=⟨211,⟨(.slot Bp (.slot Ad .nil)),.nil⟩,⟨(.slot .i .nil),.nil⟩,DC⟩
theorem nc:Ai Go.Proofs.Tryz.prog Um:=okA (hcA 0 (all_cons ne all_nil)) Go.Proofs.Tryz.func211
abbrev na:=List A1×Int×List (List A2)×A3
abbrev n3:=Int×Int×Unit
abbrev n6:=Int×Unit
def C3 (i:na)(v:n3)(R:Type)(K:n3 ⊕ n6->Option R):Option R:=bif decide (v.2.1<i.2.1)then(lAt i.1 v.2.1).bind fun a=>K (.inl (mx v.1 a.2.1,IntKind.i64.wrap (v.2.1+1),()))else K (.inr (v.1,()))
theorem Jh:Bg C3:=fun i v R K=>Ae (Ac fun _=>Aa) (Aa)
def bp:Tmpl:=⟨(jk 2 (.ptr 0 0 0 (.ptr 1 0 0 (.junk (.slot .i (jk 5 (.slot (.slice A0) (si 2 (jk 26 .nil))))))))),(.cells 1 (.slot (.slice (.slice Af)) .nil) (.cells 9 (si 7 (.slot (.slice A0) (.slot (.slice A0) .nil))) .nil))⟩
def mY:Exs na n6:=x1 (.exit 0) fun i p=>⟨jn 2 (AV.ptr 0 none 0 0::AV.ptr 1 none 0 0::jn 1 (.n (p.1)::jn 34 ([]))),[some (Cont.cells 1 [[AV.pv (.slice (.slice Af)) i.2.2.1]]),some (Cont.cells 9 [[AV.pv .i i.2.2.2.1,AV.pv .i i.2.2.2.2.1,AV.pv .i i.2.2.2.2.2.1,AV.pv .i i.2.2.2.2.2.2.1,AV.pv .i i.2.2.2.2.2.2.2.1,AV.pv .i i.2.2.2.2.2.2.2.2.1,AV.pv .i i.2.2.2.2.2.2.2.2.2.1,AV.pv (.slice A0) i.2.2.2.2.2.2.2.2.2.2.1,AV.pv (.slice A0) i.2.2.2.2.2.2.2.2.2.2.2.1]])]⟩
def n8:=((.v (.i (.i (.v (.i (.i (.i (.i (.i (.i (.i (.i (.i (.i .n)))))))))))))):Pk bp.ty _ _)
abbrev n9:=List A1×Int×List (List A2)×Unit
abbrev mZ:=Int×Int×Unit
abbrev n5:=Int×Unit
def Bx (i:n9)(v:mZ)(R:Type)(K:mZ ⊕ n5->Option R):Option R:=bif decide (v.2.1<i.2.1)then(lAt i.1 v.2.1).bind fun a=>(D2 ((i.2.2.1,()),a.1,())).bind fun b=>b.1.bind fun c=>K (.inl (mx v.1 c.2.2.2.1,IntKind.i64.wrap (v.2.1+1),()))else K (.inr (v.1,()))
theorem Jg:Bg Bx:=fun i v R K=>Ae (Ac fun _=>Ac fun _=>Ac fun _=>Aa) (Aa)
def bn:Tmpl:=⟨(jk 2 (.ptr 0 0 0 (jk 2 (.slot .i (jk 17 (.slot (.slice A0) (si 2 (jk 14 .nil)))))))),(.cells 1 (.slot (.slice (.slice Af)) .nil) .nil)⟩
def mX:Exs n9 n5:=x1 (.exit 2) fun i p=>⟨jn 5 (.n (p.1)::jn 34 ([])),[some (Cont.cells 1 [[AV.pv (.slice (.slice Af)) i.2.2.1]])]⟩
def n7:=((.v (.i (.i (.v (.i .n))))):Pk bn.ty _ _)
def jN:Cfg:={ti:=Aw,ents:=[Uy],ann:=[(3,Ao bp 0 (spP n8) C3 mY.E),(8,Ao bn 0 (spP n7) Bx mX.E)],lent:=0}
def DB (x:A4×A3×Unit):Option (Int×Unit):=(AC (fun v=>C3 (x.2.1.2.2.2.2.2.2.2.1,(x.2.1.2.2.2.2.2.2.2.1.length:Int),x.1.1,x.2.1.1,x.2.1.2.1,x.2.1.2.2.1,x.2.1.2.2.2.1,x.2.1.2.2.2.2.1,x.2.1.2.2.2.2.2.1,x.2.1.2.2.2.2.2.2.1,x.2.1.2.2.2.2.2.2.2.1,x.2.1.2.2.2.2.2.2.2.2.1,()) v _ some) (0,0,())).bind fun p=>(AC (fun v=>Bx (x.2.1.2.2.2.2.2.2.2.2.1,(x.2.1.2.2.2.2.2.2.2.2.1.length:Int),x.1.1,()) v _ some) (p.1,0,())).bind fun p=>some (p.1,())
def WD:Ent:=⟨257,⟨(.slot Bp (.slot Ad .nil)),.nil⟩,⟨(.slot .i .nil),.nil⟩,DB⟩
theorem bq:CfgOK Go.Proofs.Tryz.prog jN:=hcB (all_cons Wa all_nil)
theorem xz:B9 Go.Proofs.Tryz.prog jN (lpc Go.Proofs.Tryz.f257 1):=lkA bq bn n7 Bx mX [5] Jg
theorem xA:B9 Go.Proofs.Tryz.prog jN (lpc Go.Proofs.Tryz.f257 0):=lkA bq bp n8 C3 mY [2,3,5] Jh
theorem i5:Ai Go.Proofs.Tryz.prog WD:=okC bq Go.Proofs.Tryz.func257 xA xz
def GC (x:A2×Option Int×Unit):Option (Bool×Unit):=x.2.1.bind fun v=>some (x.1.2.2.1==v,())
def Ul:Ent:=⟨286,⟨(.slot Af (.slot (.iref .i) .nil)),.nil⟩,⟨(.slot .bool .nil),.nil⟩,GC⟩
theorem mW:Ai Go.Proofs.Tryz.prog Ul:=okA (hcA 0 all_nil) Go.Proofs.Tryz.func286
abbrev mV:=List A2×(Option Int×Unit)×Int×Unit
abbrev mR:=Int×Unit
abbrev mS:=Int×Unit ⊕ Unit
def AF (i:mV)(v:mR)(R:Type)(K:mR ⊕ mS->Option R):Option R:=bif decide (v.1<i.2.2.1)then(lAt i.1 v.1).bind fun a=>(GC ((a.1,a.2.1,a.2.2.1,a.2.2.2.1,a.2.2.2.2.1,()),i.2.1.1,())).bind fun b=>bif b.1 then K (.inr (.inl (v.1,())))else K (.inl (IntKind.i64.wrap (v.1+1),()))else K (.inr (.inr ()))
theorem FG:Bg AF:=fun i v R K=>Ae (Ac fun _=>Ac fun _=>Ae (Aa) (Aa)) (Aa)
def bm:Tmpl:=⟨(.slot (.slice Af) (.slot (.fn 286 (.prod (.iref .i) .unit)) (jk 5 (si 2 (jk 10 .nil))))),.nil⟩
def mQ:Exs mV mS:=xs .ret (fun i p=>⟨jn 4 (.n (p.1)::jn 14 ([])),[]⟩)<|x1 (.exit 0) fun i p=>⟨jn 19 ([]),[]⟩
def mT:=((.i (.i (.i (.v .n)))):Pk bm.ty _ _)
def eV:Cfg:={ti:=Aw,ents:=[Ul],ann:=[(2,Ao bm 0 (spP mT) AF mQ.E)],lent:=0}
def Cb (x:List A2×(Option Int×Unit)×Unit):Option (Int×Unit):=(AC (fun v=>AF (x.1,x.2.1,(x.1.length:Int),()) v _ some) (0,())).bind fun p=>Az p (fun p=>some (p.1,())) fun p=>some (-1,())
def eU:Ent:=⟨285,⟨(.slot (.slice Af) (.slot (.fn 286 (.prod (.iref .i) .unit)) .nil)),.nil⟩,⟨(.slot .i .nil),.nil⟩,Cb⟩
theorem Ym:CfgOK Go.Proofs.Tryz.prog eV:=hcB (all_cons mW all_nil)
theorem xy:B9 Go.Proofs.Tryz.prog eV (lpc Go.Proofs.Tryz.f285 0):=lkA Ym bm mT AF mQ [4] FG
theorem mU:Ai Go.Proofs.Tryz.prog eU:=okB Ym Go.Proofs.Tryz.func285 xy
def Er (x:List A2×Int×Unit):Option (Int×Unit):=(Cb (x.1,(some x.2.1,()),())).bind fun v=>some (v.1,())
def Zz:Ent:=⟨267,⟨(.slot (.slice Af) (.slot .i .nil)),.nil⟩,⟨(.slot .i .nil),.nil⟩,Er⟩
theorem bl:Ai Go.Proofs.Tryz.prog Zz:=okA (hcA 0 (all_cons mU all_nil)) Go.Proofs.Tryz.func267
def F7 (x:A4×A1×Unit):Option (Option A2×Unit):=(lAt x.1.1 x.2.1.1).bind fun v=>(Er (v,x.2.1.2.1,())).bind fun a=>bif decide (a.1<0)then some (none,())else(lAt v a.1).bind fun v=>some (some v,())
def SJ:Ent:=⟨236,⟨(.slot Bp (.slot A0 .nil)),.nil⟩,⟨(.slot (.iref Af) .nil),.nil⟩,F7⟩
theorem i4:Ai Go.Proofs.Tryz.prog SJ:=okA (hcA 0 (all_cons bl all_nil)) Go.Proofs.Tryz.func236
abbrev mP:=List A1×Int×List (List A2)×Unit
abbrev mL:=Int×Int×Unit
abbrev mM:=Int×Unit
def BQ (i:mP)(v:mL)(R:Type)(K:mL ⊕ mM->Option R):Option R:=bif decide (v.2.1<i.2.1)then(lAt i.1 v.2.1).bind fun a=>(F7 ((i.2.2.1,()),(a.1,a.2.1,()),())).bind fun b=>b.1.bind fun c=>K (.inl (mn v.1 c.2.2.2.2.1,IntKind.i64.wrap (v.2.1+1),()))else K (.inr (v.1,()))
theorem IX:Bg BQ:=fun i v R K=>Ae (Ac fun _=>Ac fun _=>Ac fun _=>Aa) (Aa)
def bk:Tmpl:=⟨(jk 2 (.ptr 0 0 0 (jk 2 (.slot .i (jk 3 (.slot (.slice A0) (si 2 (jk 13 .nil)))))))),(.cells 1 (.slot (.slice (.slice Af)) .nil) .nil)⟩
def mK:Exs mP mM:=x1 (.exit 0) fun i p=>⟨jn 5 (.n (p.1)::jn 19 ([])),[some (Cont.cells 1 [[AV.pv (.slice (.slice Af)) i.2.2.1]])]⟩
def mN:=((.v (.i (.i (.v (.i .n))))):Pk bk.ty _ _)
def eT:Cfg:={ti:=Aw,ents:=[SJ],ann:=[(3,Ao bk 0 (spP mN) BQ mK.E)],lent:=0}
def Dm (x:A4×A3×Unit):Option (Int×Unit):=(AC (fun v=>BQ (x.2.1.2.2.2.2.2.2.2.1,(x.2.1.2.2.2.2.2.2.2.1.length:Int),x.1.1,()) v _ some) (1000,0,())).bind fun p=>some (p.1,())
def Zy:Ent:=⟨258,⟨(.slot Bp (.slot Ad .nil)),.nil⟩,⟨(.slot .i .nil),.nil⟩,Dm⟩
theorem Yl:CfgOK Go.Proofs.Tryz.prog eT:=hcB (all_cons i4 all_nil)
theorem xq:B9 Go.Proofs.Tryz.prog eT (lpc Go.Proofs.Tryz.f258 0):=lkA Yl bk mN BQ mK [5] IX
theorem mO:Ai Go.Proofs.Tryz.prog Zy:=okB Yl Go.Proofs.Tryz.func258 xq
def DN (x:A4×A3×Int×Unit):Option A1:=(DB ((x.1.1,()),(x.2.1.1,x.2.1.2.1,x.2.1.2.2.1,x.2.1.2.2.2.1,x.2.1.2.2.2.2.1,x.2.1.2.2.2.2.2.1,x.2.1.2.2.2.2.2.2.1,x.2.1.2.2.2.2.2.2.2.1,x.2.1.2.2.2.2.2.2.2.2.1,()),())).bind fun v=>(Dm ((x.1.1,()),(x.2.1.1,x.2.1.2.1,x.2.1.2.2.1,x.2.1.2.2.2.1,x.2.1.2.2.2.2.1,x.2.1.2.2.2.2.2.1,x.2.1.2.2.2.2.2.2.1,x.2.1.2.2.2.2.2.2.2.1,x.2.1.2.2.2.2.2.2.2.2.1,()),())).bind fun a=>some (mx x.2.1.2.2.2.2.1 v.1,mn (mn x.2.1.2.2.2.2.2.1 a.1) x.2.2.1,())
def SI:Ent:=⟨212,⟨(.slot Bp (.slot Ad (.slot .i .nil))),.nil⟩,⟨(si 2 .nil),.nil⟩,DN⟩
theorem bj:Ai Go.Proofs.Tryz.prog SI:=okA (hcA 0 (all_cons i5 (all_cons mO all_nil))) Go.Proofs.Tryz.func212
def Cs (x:A1×Option A4×Unit):Option (Bool×Unit):=x.2.1.bind fun v=>(lAt v.1 x.1.1).bind fun v=>some ((v.length:Int)==50,())
def Uk:Ent:=⟨259,⟨(.slot A0 (.slot (.iref Bp) .nil)),.nil⟩,⟨(.slot .bool .nil),.nil⟩,Cs⟩
theorem mJ:Ai Go.Proofs.Tryz.prog Uk:=okA (hcA 0 all_nil) Go.Proofs.Tryz.func259
abbrev mH:=List A1×(Option A4×Unit)×Int×Unit
abbrev mE:=Int×Unit
abbrev mF:=Int×Unit ⊕ Unit
def AL (i:mH)(v:mE)(R:Type)(K:mE ⊕ mF->Option R):Option R:=bif decide (v.1<i.2.2.1)then(lAt i.1 v.1).bind fun a=>(Cs ((a.1,a.2.1,()),i.2.1.1,())).bind fun b=>bif b.1 then K (.inr (.inl (v.1,())))else K (.inl (IntKind.i64.wrap (v.1+1),()))else K (.inr (.inr ()))
theorem Fz:Bg AL:=fun i v R K=>Ae (Ac fun _=>Ac fun _=>Ae (Aa) (Aa)) (Aa)
def bi:Tmpl:=⟨(.slot (.slice A0) (.slot (.fn 259 (.prod (.iref Bp) .unit)) (jk 5 (si 2 (jk 10 .nil))))),.nil⟩
def mD:Exs mH mF:=xs .ret (fun i p=>⟨jn 4 (.n (p.1)::jn 14 ([])),[]⟩)<|x1 (.exit 0) fun i p=>⟨jn 19 ([]),[]⟩
def mG:=((.i (.i (.i (.v .n)))):Pk bi.ty _ _)
def jL:Cfg:={ti:=Aw,ents:=[Uk],ann:=[(2,Ao bi 0 (spP mG) AL mD.E)],lent:=0}
def Bn (x:List A1×(Option A4×Unit)×Unit):Option (Int×Unit):=(AC (fun v=>AL (x.1,x.2.1,(x.1.length:Int),()) v _ some) (0,())).bind fun p=>Az p (fun p=>some (p.1,())) fun p=>some (-1,())
def Zx:Ent:=⟨269,⟨(.slot (.slice A0) (.slot (.fn 259 (.prod (.iref Bp) .unit)) .nil)),.nil⟩,⟨(.slot .i .nil),.nil⟩,Bn⟩
theorem mI:CfgOK Go.Proofs.Tryz.prog jL:=hcB (all_cons mJ all_nil)
theorem xp:B9 Go.Proofs.Tryz.prog jL (lpc Go.Proofs.Tryz.f269 0):=lkA mI bi mG AL mD [4] Fz
theorem i3:Ai Go.Proofs.Tryz.prog Zx:=okB mI Go.Proofs.Tryz.func269 xp
def Bl (x:List A1×(Option A4×Unit)×Unit):Option (Bool×Unit):=(Bn (x.1,x.2.1,())).bind fun v=>some (decide (v.1>=0),())
def SH:Ent:=⟨255,⟨(.slot (.slice A0) (.slot (.fn 259 (.prod (.iref Bp) .unit)) .nil)),.nil⟩,⟨(.slot .bool .nil),.nil⟩,Bl⟩
theorem Yk:Ai Go.Proofs.Tryz.prog SH:=okA (hcA 0 (all_cons i3 all_nil)) Go.Proofs.Tryz.func255
def DP (x:A4×A3×Unit):Option (Bool×Unit):=(Bl (x.2.1.2.2.2.2.2.2.2.2.1,(some (x.1.1,()),()),())).bind fun v=>some (v.1,())
def Uj:Ent:=⟨213,⟨(.slot Bp (.slot Ad .nil)),.nil⟩,⟨(.slot .bool .nil),.nil⟩,DP⟩
theorem mC:Ai Go.Proofs.Tryz.prog Uj:=okA (hcA 0 (all_cons Yk all_nil)) Go.Proofs.Tryz.func213
def Fo (x:Int×Int×List (List A2)×Unit):Option (Option (Nat×Nat)×List (List A2)×Unit):=if 0<=x.1/\x.1<(x.2.2.1.length:Int)then x.2.2.1[0+x.1.toNat]?.bind fun v=>x.2.2.1[0+x.1.toNat]?.bind fun v=>(Er (v,x.2.1,())).bind fun v=>bif decide (v.1<0)then some (none,x.2.2.1,())else x.2.2.1[0+x.1.toNat]?.bind fun a=>if 0<=v.1/\v.1<(a.length:Int)then some (some (0+x.1.toNat,0+v.1.toNat),x.2.2.1,())else none else none
def Ui:Ent:=⟨236,⟨(.agg (.own 0 .nil) (.agg (si 2 .nil) .nil)),(.tree false 0 (.slice Af) .nil)⟩,⟨(.mptr 0 0 0 .nil),(.tree false 0 (.slice Af) .nil)⟩,Fo⟩
theorem mB:Ai Go.Proofs.Tryz.prog Ui:=okA (hcA 1 (all_cons bl all_nil)) Go.Proofs.Tryz.func236
abbrev mA:=Nat×Int×Nat×Int×Bool×Int×A8
abbrev mr:=Int×List (List A2)×Unit
abbrev mu:=List (List A2)×Unit
def BW (i:mA)(v:mr)(R:Type)(K:mr ⊕ mu->Option R):Option R:=bif decide (v.1<i.2.2.2.1)then i.2.2.2.2.2.2.1[i.2.2.1]?.bind fun a=>if 0<=v.1/\v.1<(a.2.2.2.2.2.2.2.1.length:Int)then i.2.2.2.2.2.2.1[i.2.2.1]?.bind fun b=>b.2.2.2.2.2.2.2.1[0+v.1.toNat]?.bind fun c=>(Fo (c.1,c.2.1,v.2.1,())).bind fun d=>d.1.bind fun e=>d.2.1[e.1]?.bind fun f=>f[e.2]?.bind fun g=>d.1.bind fun h=>d.2.1[h.1]?.bind fun j=>j[h.2]?.bind fun k=>K (.inl (IntKind.i64.wrap (v.1+1),d.2.1.set h.1 (j.set h.2 (k.1,k.2.1,k.2.2.1,mx g.2.2.2.1 i.2.1,k.2.2.2.2.1,())),()))else none else K (.inr (v.2.1,()))
theorem JS:Bg BW:=fun i v R K=>Ae (Ac fun _=>Aq (Ac fun _=>Ac fun _=>Ac fun _=>Ac fun _=>Ac fun _=>Ac fun _=>Ac fun _=>Ac fun _=>Ac fun _=>Aa)) (Aa)
def bf:Tmpl:=⟨(.ptr 0 0 1 (.ptrI 2 0 (.slot .i (jk 35 (.nown 2 7 (si 2 (jk 66 .nil))))))),(.cells 6 (.slot .bool (.own 1 (.own 2 (.own 3 (.own 4 (.slot .i .nil)))))) (.tree false 0 (.slice Af) (.tree false 1 Ad (.lst false A0 (.lst false A0 .nil)))))⟩
def mp:Exs mA mu:=x1 (.exit 0) fun i p=>⟨AV.ptr 0 none 0 1::AV.ptr 2 none i.1 0::.n (i.2.1)::jn 104 ([]),[some (Cont.cells 6 [[AV.pv .bool i.2.2.2.2.1,AV.own 1 none none,AV.own 2 none none,AV.own 3 none none,AV.own 4 none none,AV.pv .i i.2.2.2.2.2.1]]),some (Cont.tree false 0 (.slice Af) p.1 none),some (Cont.tree false 1 Ad i.2.2.2.2.2.2.1 none),some (Cont.lst false A0 i.2.2.2.2.2.2.2.1),some (Cont.lst false A0 i.2.2.2.2.2.2.2.2.1)]⟩
def mw:=((.i (.i (.i (.i (.v (.i (.i (.v (.i (.i (.i .n))))))))))):Pk bf.ty _ _)
abbrev mz:=Nat×Int×Nat×Int×Bool×Int×A8
abbrev mq:=Int×List (List A2)×Unit
abbrev mt:=List (List A2)×Unit
def BV (i:mz)(v:mq)(R:Type)(K:mq ⊕ mt->Option R):Option R:=bif decide (v.1<i.2.2.2.1)then i.2.2.2.2.2.2.1[i.2.2.1]?.bind fun a=>if 0<=v.1/\v.1<(a.2.2.2.2.2.2.2.2.1.length:Int)then i.2.2.2.2.2.2.1[i.2.2.1]?.bind fun b=>b.2.2.2.2.2.2.2.2.1[0+v.1.toNat]?.bind fun c=>(BE (c.1,v.2.1,())).bind fun d=>i.2.2.2.2.2.2.1[i.1]?.bind fun e=>d.1.bind fun f=>d.2.1[f.1]?.bind fun g=>g[f.2]?.bind fun h=>if 0<=c.1/\c.1<(↑((d.2.1.set f.1 (g.set f.2 (h.1,h.2.1,h.2.2.1,h.2.2.2.1,e.2.2.2.2.2.1,()))).length):Int)then(d.2.1.set f.1 (g.set f.2 (h.1,h.2.1,h.2.2.1,h.2.2.2.1,e.2.2.2.2.2.1,())))[0+c.1.toNat]?.bind fun j=>i.2.2.2.2.2.2.1[i.1]?.bind fun k=>(d.2.1.set f.1 (g.set f.2 (h.1,h.2.1,h.2.2.1,h.2.2.2.1,e.2.2.2.2.2.1,())))[0+c.1.toNat]?.bind fun l=>if(l++[(k.1,c.2.1,i.2.1,i.2.1,1000,())]).length<=879609302220 then if 0<=c.1/\c.1<(↑((d.2.1.set f.1 (g.set f.2 (h.1,h.2.1,h.2.2.1,h.2.2.2.1,e.2.2.2.2.2.1,()))).length):Int)then(d.2.1.set f.1 (g.set f.2 (h.1,h.2.1,h.2.2.1,h.2.2.2.1,e.2.2.2.2.2.1,())))[0+c.1.toNat]?.bind fun m=>if 1<=1/\true=true/\0+c.1.toNat=0+c.1.toNat/\0<=0/\0<1 then K (.inl (IntKind.i64.wrap (v.1+1),(d.2.1.set f.1 (g.set f.2 (h.1,h.2.1,h.2.2.1,h.2.2.2.1,e.2.2.2.2.2.1,()))).set (0+c.1.toNat) (l++[(k.1,c.2.1,i.2.1,i.2.1,1000,())]),()))else none else none else none else none else none else K (.inr (v.2.1,()))
theorem JR:Bg BV:=fun i v R K=>Ae (Ac fun _=>Aq (Ac fun _=>Ac fun _=>Ac fun _=>Ac fun _=>Ac fun _=>Ac fun _=>Ac fun _=>Aq (Ac fun _=>Ac fun _=>Ac fun _=>Aq (Aq (Ac fun _=>Aq (Aa)))))) (Aa)
def bc:Tmpl:=⟨(.ptr 0 0 1 (.ptrI 2 0 (.slot .i (jk 59 (.nown 2 8 (si 2 (jk 42 .nil))))))),(.cells 6 (.slot .bool (.own 1 (.own 2 (.own 3 (.own 4 (.slot .i .nil)))))) (.tree false 1 (.slice Af) (.tree false 1 Ad (.lst false A0 (.lst false A0 .nil)))))⟩
def mo:Exs mz mt:=x1 (.exit 2) fun i p=>⟨jn 107 ([]),[some (Cont.cells 6 [[AV.pv .bool i.2.2.2.2.1,AV.own 1 none none,AV.own 2 none none,AV.own 3 none none,AV.own 4 none none,AV.pv .i i.2.2.2.2.2.1]]),some (Cont.tree false 1 (.slice Af) p.1 none),some (Cont.tree false 1 Ad i.2.2.2.2.2.2.1 none),some (Cont.lst false A0 i.2.2.2.2.2.2.2.1),some (Cont.lst false A0 i.2.2.2.2.2.2.2.2.1)]⟩
def mv:=((.i (.i (.i (.i (.v (.i (.i (.v (.i (.i (.i .n))))))))))):Pk bc.ty _ _)
def bh:Cfg:={ti:=Aw,ents:=[Ui,Qx,SI],ann:=[(3,Ao bf 5 (spP mw) BW mp.E),(9,Ao bc 5 (spP mv) BV mo.E)],lent:=5,hid:=[((0,1),[2]),((0,12),[2]),((12,0),[1]),((12,1),[1]),((12,2),[1]),((12,3),[1]),((12,4),[1]),((12,5),[1])]}
def Db (x:Nat×Int×Bool×Int×A7):Option (Bool×Int×A7):=x.2.2.2.2.2.1[x.1]?.bind fun v=>x.2.2.2.2.2.1[x.1]?.bind fun a=>x.2.2.2.2.2.1[x.1]?.bind fun b=>(DN ((x.2.2.2.2.1,()),(v.1,v.2.1,v.2.2.1,v.2.2.2.1,v.2.2.2.2.1,v.2.2.2.2.2.1,v.2.2.2.2.2.2.1,a.2.2.2.2.2.2.2.1,b.2.2.2.2.2.2.2.2.1,()),x.2.1,())).bind fun v=>x.2.2.2.2.2.1[x.1]?.bind fun c=>(x.2.2.2.2.2.1.set x.1 (c.1,c.2.1,c.2.2.1,c.2.2.2.1,v.1,c.2.2.2.2.2.1,c.2.2.2.2.2.2.1,c.2.2.2.2.2.2.2.1,c.2.2.2.2.2.2.2.2.1,()))[x.1]?.bind fun d=>((x.2.2.2.2.2.1.set x.1 (c.1,c.2.1,c.2.2.1,c.2.2.2.1,v.1,c.2.2.2.2.2.1,c.2.2.2.2.2.2.1,c.2.2.2.2.2.2.2.1,c.2.2.2.2.2.2.2.2.1,())).set x.1 (d.1,d.2.1,d.2.2.1,d.2.2.2.1,d.2.2.2.2.1,v.2.1,d.2.2.2.2.2.2.1,d.2.2.2.2.2.2.2.1,d.2.2.2.2.2.2.2.2.1,()))[x.1]?.bind fun e=>(((x.2.2.2.2.2.1.set x.1 (c.1,c.2.1,c.2.2.1,c.2.2.2.1,v.1,c.2.2.2.2.2.1,c.2.2.2.2.2.2.1,c.2.2.2.2.2.2.2.1,c.2.2.2.2.2.2.2.2.1,())).set x.1 (d.1,d.2.1,d.2.2.1,d.2.2.2.1,d.2.2.2.2.1,v.2.1,d.2.2.2.2.2.2.1,d.2.2.2.2.2.2.2.1,d.2.2.2.2.2.2.2.2.1,())).set x.1 (e.1,e.2.1,2,e.2.2.2.1,e.2.2.2.2.1,e.2.2.2.2.2.1,e.2.2.2.2.2.2.1,e.2.2.2.2.2.2.2.1,e.2.2.2.2.2.2.2.2.1,()))[x.1]?.bind fun f=>((((x.2.2.2.2.2.1.set x.1 (c.1,c.2.1,c.2.2.1,c.2.2.2.1,v.1,c.2.2.2.2.2.1,c.2.2.2.2.2.2.1,c.2.2.2.2.2.2.2.1,c.2.2.2.2.2.2.2.2.1,())).set x.1 (d.1,d.2.1,d.2.2.1,d.2.2.2.1,d.2.2.2.2.1,v.2.1,d.2.2.2.2.2.2.1,d.2.2.2.2.2.2.2.1,d.2.2.2.2.2.2.2.2.1,())).set x.1 (e.1,e.2.1,2,e.2.2.2.1,e.2.2.2.2.1,e.2.2.2.2.2.1,e.2.2.2.2.2.2.1,e.2.2.2.2.2.2.2.1,e.2.2.2.2.2.2.2.2.1,())).set x.1 (f.1,f.2.1,f.2.2.1,f.2.2.2.1,f.2.2.2.2.1,f.2.2.2.2.2.1,x.2.1,f.2.2.2.2.2.2.2.1,f.2.2.2.2.2.2.2.2.1,()))[x.1]?.bind fun g=>((((x.2.2.2.2.2.1.set x.1 (c.1,c.2.1,c.2.2.1,c.2.2.2.1,v.1,c.2.2.2.2.2.1,c.2.2.2.2.2.2.1,c.2.2.2.2.2.2.2.1,c.2.2.2.2.2.2.2.2.1,())).set x.1 (d.1,d.2.1,d.2.2.1,d.2.2.2.1,d.2.2.2.2.1,v.2.1,d.2.2.2.2.2.2.1,d.2.2.2.2.2.2.2.1,d.2.2.2.2.2.2.2.2.1,())).set x.1 (e.1,e.2.1,2,e.2.2.2.1,e.2.2.2.2.1,e.2.2.2.2.2.1,e.2.2.2.2.2.2.1,e.2.2.2.2.2.2.2.1,e.2.2.2.2.2.2.2.2.1,())).set x.1 (f.1,f.2.1,f.2.2.1,f.2.2.2.1,f.2.2.2.2.1,f.2.2.2.2.2.1,x.2.1,f.2.2.2.2.2.2.2.1,f.2.2.2.2.2.2.2.2.1,()))[x.1]?.bind fun h=>(AC (fun j=>BW (x.1,x.2.1,x.1,(h.2.2.2.2.2.2.2.1.length:Int),x.2.2.1,x.2.2.2.1,(((x.2.2.2.2.2.1.set x.1 (c.1,c.2.1,c.2.2.1,c.2.2.2.1,v.1,c.2.2.2.2.2.1,c.2.2.2.2.2.2.1,c.2.2.2.2.2.2.2.1,c.2.2.2.2.2.2.2.2.1,())).set x.1 (d.1,d.2.1,d.2.2.1,d.2.2.2.1,d.2.2.2.2.1,v.2.1,d.2.2.2.2.2.2.1,d.2.2.2.2.2.2.2.1,d.2.2.2.2.2.2.2.2.1,())).set x.1 (e.1,e.2.1,2,e.2.2.2.1,e.2.2.2.2.1,e.2.2.2.2.2.1,e.2.2.2.2.2.2.1,e.2.2.2.2.2.2.2.1,e.2.2.2.2.2.2.2.2.1,())).set x.1 (f.1,f.2.1,f.2.2.1,f.2.2.2.1,f.2.2.2.2.1,f.2.2.2.2.2.1,x.2.1,f.2.2.2.2.2.2.2.1,f.2.2.2.2.2.2.2.2.1,()),x.2.2.2.2.2.2.1,x.2.2.2.2.2.2.2.1,()) j _ some) (0,x.2.2.2.2.1,())).bind fun p=>((((x.2.2.2.2.2.1.set x.1 (c.1,c.2.1,c.2.2.1,c.2.2.2.1,v.1,c.2.2.2.2.2.1,c.2.2.2.2.2.2.1,c.2.2.2.2.2.2.2.1,c.2.2.2.2.2.2.2.2.1,())).set x.1 (d.1,d.2.1,d.2.2.1,d.2.2.2.1,d.2.2.2.2.1,v.2.1,d.2.2.2.2.2.2.1,d.2.2.2.2.2.2.2.1,d.2.2.2.2.2.2.2.2.1,())).set x.1 (e.1,e.2.1,2,e.2.2.2.1,e.2.2.2.2.1,e.2.2.2.2.2.1,e.2.2.2.2.2.2.1,e.2.2.2.2.2.2.2.1,e.2.2.2.2.2.2.2.2.1,())).set x.1 (f.1,f.2.1,f.2.2.1,f.2.2.2.1,f.2.2.2.2.1,f.2.2.2.2.2.1,x.2.1,f.2.2.2.2.2.2.2.1,f.2.2.2.2.2.2.2.2.1,()))[x.1]?.bind fun j=>((((x.2.2.2.2.2.1.set x.1 (c.1,c.2.1,c.2.2.1,c.2.2.2.1,v.1,c.2.2.2.2.2.1,c.2.2.2.2.2.2.1,c.2.2.2.2.2.2.2.1,c.2.2.2.2.2.2.2.2.1,())).set x.1 (d.1,d.2.1,d.2.2.1,d.2.2.2.1,d.2.2.2.2.1,v.2.1,d.2.2.2.2.2.2.1,d.2.2.2.2.2.2.2.1,d.2.2.2.2.2.2.2.2.1,())).set x.1 (e.1,e.2.1,2,e.2.2.2.1,e.2.2.2.2.1,e.2.2.2.2.2.1,e.2.2.2.2.2.2.1,e.2.2.2.2.2.2.2.1,e.2.2.2.2.2.2.2.2.1,())).set x.1 (f.1,f.2.1,f.2.2.1,f.2.2.2.1,f.2.2.2.2.1,f.2.2.2.2.2.1,x.2.1,f.2.2.2.2.2.2.2.1,f.2.2.2.2.2.2.2.2.1,()))[x.1]?.bind fun k=>(AC (fun l=>BV (x.1,x.2.1,x.1,(k.2.2.2.2.2.2.2.2.1.length:Int),x.2.2.1,x.2.2.2.1,(((x.2.2.2.2.2.1.set x.1 (c.1,c.2.1,c.2.2.1,c.2.2.2.1,v.1,c.2.2.2.2.2.1,c.2.2.2.2.2.2.1,c.2.2.2.2.2.2.2.1,c.2.2.2.2.2.2.2.2.1,())).set x.1 (d.1,d.2.1,d.2.2.1,d.2.2.2.1,d.2.2.2.2.1,v.2.1,d.2.2.2.2.2.2.1,d.2.2.2.2.2.2.2.1,d.2.2.2.2.2.2.2.2.1,())).set x.1 (e.1,e.2.1,2,e.2.2.2.1,e.2.2.2.2.1,e.2.2.2.2.2.1,e.2.2.2.2.2.2.1,e.2.2.2.2.2.2.2.1,e.2.2.2.2.2.2.2.2.1,())).set x.1 (f.1,f.2.1,f.2.2.1,f.2.2.2.1,f.2.2.2.2.1,f.2.2.2.2.2.1,x.2.1,f.2.2.2.2.2.2.2.1,f.2.2.2.2.2.2.2.2.1,()),x.2.2.2.2.2.2.1,x.2.2.2.2.2.2.2.1,()) l _ some) (0,p.1,())).bind fun p=>some (x.2.2.1,x.2.2.2.1,p.1,(((x.2.2.2.2.2.1.set x.1 (c.1,c.2.1,c.2.2.1,c.2.2.2.1,v.1,c.2.2.2.2.2.1,c.2.2.2.2.2.2.1,c.2.2.2.2.2.2.2.1,c.2.2.2.2.2.2.2.2.1,())).set x.1 (d.1,d.2.1,d.2.2.1,d.2.2.2.1,d.2.2.2.2.1,v.2.1,d.2.2.2.2.2.2.1,d.2.2.2.2.2.2.2.1,d.2.2.2.2.2.2.2.2.1,())).set x.1 (e.1,e.2.1,2,e.2.2.2.1,e.2.2.2.2.1,e.2.2.2.2.2.1,e.2.2.2.2.2.2.1,e.2.2.2.2.2.2.2.1,e.2.2.2.2.2.2.2.2.1,())).set x.1 (f.1,f.2.1,f.2.2.1,f.2.2.2.1,f.2.2.2.2.1,f.2.2.2.2.2.1,x.2.1,f.2.2.2.2.2.2.2.1,f.2.2.2.2.2.2.2.2.1,()),x.2.2.2.2.2.2.1,x.2.2.2.2.2.2.2.1,())
def Uh:Ent:=⟨214,⟨(.ptr 0 0 1 (.ptrI 2 0 (.slot .i .nil))),(.cells 6 (.slot .bool (.own 1 (.own 2 (.own 3 (.own 4 (.slot .i .nil)))))) (.tree false 0 (.slice Af) (.tree false 0 Ad (.lst false A0 (.lst false A0 .nil)))))⟩,⟨.nil,(.cells 6 (.slot .bool (.own 1 (.own 2 (.own 3 (.own 4 (.slot .i .nil)))))) (.tree false 1 (.slice Af) (.tree false 1 Ad (.lst false A0 (.lst false A0 .nil)))))⟩,Db⟩
theorem bg:CfgOK Go.Proofs.Tryz.prog bh:=hcB (all_cons mB (all_cons Yn (all_cons bj all_nil)))
theorem xm:B9 Go.Proofs.Tryz.prog bh (lpc Go.Proofs.Tryz.f214 1):=lkA bg bc mv BV mo [] JR
theorem xn:B9 Go.Proofs.Tryz.prog bh (lpc Go.Proofs.Tryz.f214 0):=lkA bg bf mw BW mp [0,1,2] JS
theorem my:Ai Go.Proofs.Tryz.prog Uh:=okC bg Go.Proofs.Tryz.func214 xn xm
def xg:Cfg:={ti:=Aw,ents:=[Pa,Uh,WN,Um,SI,Uj],ann:=[],lent:=5,pre:=[(some (0,3)),(some (0,4))]}
def DW (x:Nat×Bool×Int×A7):Option (Int×Bool×Int×A7):=x.2.2.2.2.1[x.1]?.bind fun v=>x.2.2.2.2.1[x.1]?.bind fun a=>x.2.2.2.2.1[x.1]?.bind fun b=>(DC ((x.2.2.2.1,()),(v.1,v.2.1,v.2.2.1,v.2.2.2.1,v.2.2.2.2.1,v.2.2.2.2.2.1,v.2.2.2.2.2.2.1,a.2.2.2.2.2.2.2.1,b.2.2.2.2.2.2.2.2.1,()),())).bind fun v=>bif v.1 != 0 then(B5 (x.1,v.1,x.2.1,x.2.2.1,x.2.2.2.1,x.2.2.2.2.1,x.2.2.2.2.2.1,x.2.2.2.2.2.2.1,())).bind fun v=>some (v.1,v.2.1,v.2.2.1,v.2.2.2.1,v.2.2.2.2.1,v.2.2.2.2.2.2.2.1,v.2.2.2.2.2.2.2.2.1,())else bif x.2.2.1==999 then some (6,x.2.1,x.2.2.1,x.2.2.2.1,x.2.2.2.2.1,x.2.2.2.2.2.1,x.2.2.2.2.2.2.1,())else x.2.2.2.2.1[x.1]?.bind fun v=>x.2.2.2.2.1[x.1]?.bind fun c=>x.2.2.2.2.1[x.1]?.bind fun d=>(DN ((x.2.2.2.1,()),(v.1,v.2.1,v.2.2.1,v.2.2.2.1,v.2.2.2.2.1,v.2.2.2.2.2.1,v.2.2.2.2.2.2.1,c.2.2.2.2.2.2.2.1,d.2.2.2.2.2.2.2.2.1,()),IntKind.i64.wrap (x.2.2.1+1),())).bind fun v=>bif x.2.1 then bif decide (v.1>=v.2.1)then(B5 (x.1,5,x.2.1,x.2.2.1,x.2.2.2.1,x.2.2.2.2.1,x.2.2.2.2.2.1,x.2.2.2.2.2.2.1,())).bind fun v=>some (v.1,v.2.1,v.2.2.1,v.2.2.2.1,v.2.2.2.2.1,v.2.2.2.2.2.2.2.1,v.2.2.2.2.2.2.2.2.1,())else x.2.2.2.2.1[x.1]?.bind fun v=>x.2.2.2.2.1[x.1]?.bind fun e=>x.2.2.2.2.1[x.1]?.bind fun f=>(DP ((x.2.2.2.1,()),(v.1,v.2.1,v.2.2.1,v.2.2.2.1,v.2.2.2.2.1,v.2.2.2.2.2.1,v.2.2.2.2.2.2.1,e.2.2.2.2.2.2.2.1,f.2.2.2.2.2.2.2.2.1,()),())).bind fun v=>bif v.1 then(B5 (x.1,5,x.2.1,x.2.2.1,x.2.2.2.1,x.2.2.2.2.1,x.2.2.2.2.2.1,x.2.2.2.2.2.2.1,())).bind fun v=>some (v.1,v.2.1,v.2.2.1,v.2.2.2.1,v.2.2.2.2.1,v.2.2.2.2.2.2.2.1,v.2.2.2.2.2.2.2.2.1,())else(Db (x.1,IntKind.i64.wrap (x.2.2.1+1),x.2.1,IntKind.i64.wrap (x.2.2.1+1),x.2.2.2.1,x.2.2.2.2.1,x.2.2.2.2.2.1,x.2.2.2.2.2.2.1,())).bind fun v=>(D3 (x.1,v.1,v.2.1,v.2.2.1,v.2.2.2.1,v.2.2.2.2.1,v.2.2.2.2.2.1,())).bind fun v=>some (0,v.1,v.2.1,v.2.2.1,v.2.2.2.1,v.2.2.2.2.2.2.1,v.2.2.2.2.2.2.2.1,())else x.2.2.2.2.1[x.1]?.bind fun v=>x.2.2.2.2.1[x.1]?.bind fun e=>x.2.2.2.2.1[x.1]?.bind fun f=>(DP ((x.2.2.2.1,()),(v.1,v.2.1,v.2.2.1,v.2.2.2.1,v.2.2.2.2.1,v.2.2.2.2.2.1,v.2.2.2.2.2.2.1,e.2.2.2.2.2.2.2.1,f.2.2.2.2.2.2.2.2.1,()),())).bind fun v=>bif v.1 then(B5 (x.1,5,x.2.1,x.2.2.1,x.2.2.2.1,x.2.2.2.2.1,x.2.2.2.2.2.1,x.2.2.2.2.2.2.1,())).bind fun v=>some (v.1,v.2.1,v.2.2.1,v.2.2.2.1,v.2.2.2.2.1,v.2.2.2.2.2.2.2.1,v.2.2.2.2.2.2.2.2.1,())else(Db (x.1,IntKind.i64.wrap (x.2.2.1+1),x.2.1,IntKind.i64.wrap (x.2.2.1+1),x.2.2.2.1,x.2.2.2.2.1,x.2.2.2.2.2.1,x.2.2.2.2.2.2.1,())).bind fun v=>(D3 (x.1,v.1,v.2.1,v.2.2.1,v.2.2.2.1,v.2.2.2.2.1,v.2.2.2.2.2.1,())).bind fun v=>some (0,v.1,v.2.1,v.2.2.1,v.2.2.2.1,v.2.2.2.2.2.2.1,v.2.2.2.2.2.2.2.1,())
def Ug:Ent:=⟨148,⟨(.ptr 0 0 0 (.ptrI 2 0 .nil)),(.cells 6 (.slot .bool (.own 1 (.own 2 (.own 3 (.own 4 (.slot .i .nil)))))) (.tree false 0 (.slice Af) (.tree false 0 Ad (.lst false A0 (.lst false A0 .nil)))))⟩,⟨(.agg (.slot .i (.const (AV.nils) .nil)) .nil),(.cells 6 (.slot .bool (.own 1 (.own 2 (.own 5 (.own 6 (.slot .i .nil)))))) (.tree false 1 (.slice Af) (.tree false 1 Ad (.gone (.gone (.lst false A0 (.lst false A0 .nil)))))))⟩,DW⟩
theorem mm:Ai Go.Proofs.Tryz.prog Ug:=okA (C:=xg) (hcB (all_cons PL (all_cons my (all_cons bM (all_cons nc (all_cons bj (all_cons mC all_nil))))))) Go.Proofs.Tryz.func148
def qz:Cfg:={ti:=Aw,ents:=[XY,XA,UA,Un,Ug,Pa,XW,VS,XV],ann:=[],lent:=5,pre:=[(some (0,2)),(some (0,3)),(some (0,4))]}
def F8 (x:Int×Int×Int×Int×Int×Int×Bool×Int×A7):Option (Int×Bool×Int×List (List A2)×List A3×List A1×List A1×List Int×Unit):=bif x.1==1 then(EA (x.1,x.2.1,x.2.2.1,x.2.2.2.1,x.2.2.2.2.1,x.2.2.2.2.2.1,x.2.2.2.2.2.2.1,x.2.2.2.2.2.2.2.1,x.2.2.2.2.2.2.2.2.1,x.2.2.2.2.2.2.2.2.2.1,x.2.2.2.2.2.2.2.2.2.2.1,x.2.2.2.2.2.2.2.2.2.2.2.1,())).bind fun v=>some (v.1,v.2.1,v.2.2.1,v.2.2.2.1,v.2.2.2.2.2.2.1,v.2.2.2.2.1,v.2.2.2.2.2.1,[],())else(CY ((x.2.2.2.2.2.2.1,(x.2.2.2.2.2.2.2.2.1,()),x.2.2.2.2.2.2.2.2.2.1,x.2.2.2.2.2.2.2.2.2.2.1,x.2.2.2.2.2.2.2.2.2.2.2.1,x.2.2.2.2.2.2.2.1,()),x.2.1,())).bind fun v=>bif !v.1 then some (6,x.2.2.2.2.2.2.1,x.2.2.2.2.2.2.2.1,x.2.2.2.2.2.2.2.2.1,x.2.2.2.2.2.2.2.2.2.1,x.2.2.2.2.2.2.2.2.2.2.1,x.2.2.2.2.2.2.2.2.2.2.2.1,[],())else(CX ((x.2.2.2.2.2.2.1,(x.2.2.2.2.2.2.2.2.1,()),x.2.2.2.2.2.2.2.2.2.1,x.2.2.2.2.2.2.2.2.2.2.1,x.2.2.2.2.2.2.2.2.2.2.2.1,x.2.2.2.2.2.2.2.1,()),x.2.1,())).bind fun v=>if 0<=v.1/\v.1<(x.2.2.2.2.2.2.2.2.2.1.length:Int)then(BP (x.2.2.2.2.2.2.2.2.2.2.2.1,())).bind fun a=>(BB (a.1,x.1,x.2.1,x.2.2.1,x.2.2.2.1,x.2.2.2.2.1,x.2.2.2.2.2.1,())).bind fun b=>bif b.1==2 then(F9 (0+v.1.toNat,b.2.2.2.1,b.2.2.2.1,x.2.2.2.2.2.2.1,x.2.2.2.2.2.2.2.1,x.2.2.2.2.2.2.2.2.1,x.2.2.2.2.2.2.2.2.2.1,x.2.2.2.2.2.2.2.2.2.2.1,b.2.2.2.2.2.2.1,())).bind fun v=>some (v.1,v.2.1,v.2.2.1,v.2.2.2.1,v.2.2.2.2.1,v.2.2.2.2.2.1,v.2.2.2.2.2.2.1,v.2.2.2.2.2.2.2.1,())else bif b.1==4 then(F9 (0+v.1.toNat,b.2.2.2.1,b.2.2.2.2.1,x.2.2.2.2.2.2.1,x.2.2.2.2.2.2.2.1,x.2.2.2.2.2.2.2.2.1,x.2.2.2.2.2.2.2.2.2.1,x.2.2.2.2.2.2.2.2.2.2.1,b.2.2.2.2.2.2.1,())).bind fun v=>some (v.1,v.2.1,v.2.2.1,v.2.2.2.1,v.2.2.2.2.1,v.2.2.2.2.2.1,v.2.2.2.2.2.2.1,v.2.2.2.2.2.2.2.1,())else bif b.1==3 then(Ez (0+v.1.toNat,b.2.2.2.1,b.2.2.2.2.2.1,x.2.2.2.2.2.2.1,x.2.2.2.2.2.2.2.1,x.2.2.2.2.2.2.2.2.1,x.2.2.2.2.2.2.2.2.2.1,x.2.2.2.2.2.2.2.2.2.2.1,b.2.2.2.2.2.2.1,())).bind fun v=>some (v.1,v.2.1,v.2.2.1,v.2.2.2.1,v.2.2.2.2.1,v.2.2.2.2.2.1,v.2.2.2.2.2.2.1,[],())else bif b.1==5 then(DW (0+v.1.toNat,x.2.2.2.2.2.2.1,x.2.2.2.2.2.2.2.1,x.2.2.2.2.2.2.2.2.1,x.2.2.2.2.2.2.2.2.2.1,x.2.2.2.2.2.2.2.2.2.2.1,b.2.2.2.2.2.2.1,())).bind fun v=>some (v.1,v.2.1,v.2.2.1,v.2.2.2.1,v.2.2.2.2.1,v.2.2.2.2.2.1,v.2.2.2.2.2.2.1,[],())else(B5 (0+v.1.toNat,0,x.2.2.2.2.2.2.1,x.2.2.2.2.2.2.2.1,x.2.2.2.2.2.2.2.2.1,x.2.2.2.2.2.2.2.2.2.1,x.2.2.2.2.2.2.2.2.2.2.1,b.2.2.2.2.2.2.1,())).bind fun v=>some (v.1,v.2.1,v.2.2.1,v.2.2.2.1,v.2.2.2.2.1,v.2.2.2.2.2.2.2.1,v.2.2.2.2.2.2.2.2.1,[],())else none
def Uf:Ent:=⟨67,⟨(.ptr 0 0 0 (.agg (si 6 .nil) .nil)),(.cells 6 (.slot .bool (.own 1 (.own 2 (.own 3 (.own 4 (.slot .i .nil)))))) (.tree false 0 (.slice Af) (.tree false 0 Ad (.lst false A0 (.lst false A0 .nil)))))⟩,⟨(.agg (.slot .i (.own 8 .nil)) .nil),(.cells 6 (.slot .bool (.own 1 (.own 5 (.own 6 (.own 7 (.slot .i .nil)))))) (.tree false 1 (.slice Af) (.gone (.gone (.gone (.tree false 1 Ad (.lst false A0 (.lst false A0 (.lst false .i .nil)))))))))⟩,F8⟩
theorem ml:Ai Go.Proofs.Tryz.prog Uf:=okA (C:=qz) (hcB (all_cons tB (all_cons Sy (all_cons oU (all_cons np (all_cons mm (all_cons PL (all_cons qo (all_cons Z5 (all_cons Z4 all_nil)))))))))) Go.Proofs.Tryz.func67
abbrev Aji:=List Int×List Int×Unit
abbrev Ajf:=Int×Unit
abbrev Ajg:=Unit ⊕ Unit
def Iz (i:Aji)(v:Ajf)(R:Type)(K:Ajf ⊕ Ajg->Option R):Option R:=bif decide (v.1<(i.1.length:Int))then(lAt i.1 v.1).bind fun a=>(lAt i.2.1 v.1).bind fun b=>bif a != b then K (.inr (.inl ()))else K (.inl (IntKind.i64.wrap (v.1+1),()))else K (.inr (.inr ()))
theorem RN:Bg Iz:=fun i v R K=>Ae (Ac fun _=>Ac fun _=>Ae (Aa) (Aa)) (Aa)
def A5s:Tmpl:=⟨(.slot (.slice .i) (.slot (.slice .i) (jk 3 (.slot .i (jk 20 .nil))))),.nil⟩
def Aje:Exs Aji Ajg:=xs .ret (fun i p=>⟨jn 4 (.b (false)::jn 21 ([])),[]⟩)<|x1 (.exit 0) fun i p=>⟨jn 26 ([]),[]⟩
def Ajh:=((.i (.i (.v .n))):Pk A5s.ty _ _)
def Avs:Cfg:={ti:=Aw,ents:=[],ann:=[(4,Ao A5s 0 (spP Ajh) Iz Aje.E)],lent:=0}
def L7 (x:List Int×List Int×Unit):Option (Bool×Unit):=bif (x.1.length:Int) != (x.2.1.length:Int)then some (false,())else(AC (fun v=>Iz (x.1,x.2.1,()) v _ some) (0,())).bind fun p=>Az p (fun p=>some (false,())) fun p=>some (true,())
def m7:Ent:=⟨24,⟨(.slot (.slice .i) (.slot (.slice .i) .nil)),.nil⟩,⟨(.slot .bool .nil),.nil⟩,L7⟩
theorem Ajj:CfgOK Go.Proofs.Tryz.prog Avs:=hcB all_nil
theorem Avr:B9 Go.Proofs.Tryz.prog Avs (lpc Go.Proofs.Tryz.f24 0):=lkA Ajj A5s Ajh Iz Aje [4] RN
theorem A5t:Ai Go.Proofs.Tryz.prog m7:=okB Ajj Go.Proofs.Tryz.func24 Avr
def M7 (x:A6×A6×Unit):Option (Bool×Unit):=bif x.1.1 != x.2.1.1 then some (false,())else bif x.1.2.1 != x.2.1.2.1 then some (false,())else bif x.1.2.2.1 != x.2.1.2.2.1 then some (false,())else bif x.1.2.2.2.1 != x.2.1.2.2.2.1 then some (false,())else bif x.1.2.2.2.2.1 != x.2.1.2.2.2.2.1 then some (false,())else bif x.1.2.2.2.2.2.1 != x.2.1.2.2.2.2.2.1 then some (false,())else some (true,())
def Ue:Ent:=⟨84,⟨(.slot YOp (.slot YOp .nil)),.nil⟩,⟨(.slot .bool .nil),.nil⟩,M7⟩
theorem lY:Ai Go.Proofs.Tryz.prog Ue:=okA (hcA 0 all_nil) Go.Proofs.Tryz.func84
abbrev lW:=List A6×List A6×Unit
abbrev lT:=Int×Unit
abbrev lU:=Unit ⊕ Unit
def Hv (i:lW)(v:lT)(R:Type)(K:lT ⊕ lU->Option R):Option R:=bif decide (v.1<(i.1.length:Int))then(lAt i.1 v.1).bind fun a=>(lAt i.2.1 v.1).bind fun b=>(M7 ((a.1,a.2.1,a.2.2.1,a.2.2.2.1,a.2.2.2.2.1,a.2.2.2.2.2.1,()),(b.1,b.2.1,b.2.2.1,b.2.2.2.1,b.2.2.2.2.1,b.2.2.2.2.2.1,()),())).bind fun c=>bif !c.1 then K (.inr (.inl ()))else K (.inl (IntKind.i64.wrap (v.1+1),()))else K (.inr (.inr ()))
theorem Qd:Bg Hv:=fun i v R K=>Ae (Ac fun _=>Ac fun _=>Ac fun _=>Ae (Aa) (Aa)) (Aa)
def aZ:Tmpl:=⟨(.slot (.slice YOp) (.slot (.slice YOp) (jk 3 (.slot .i (jk 21 .nil))))),.nil⟩
def lS:Exs lW lU:=xs .ret (fun i p=>⟨jn 4 (.b (false)::jn 22 ([])),[]⟩)<|x1 (.exit 0) fun i p=>⟨jn 27 ([]),[]⟩
def lV:=((.i (.i (.v .n))):Pk aZ.ty _ _)
def x3:Cfg:={ti:=Aw,ents:=[Ue],ann:=[(4,Ao aZ 0 (spP lV) Hv lS.E)],lent:=0}
def K2 (x:List A6×List A6×Unit):Option (Bool×Unit):=bif (x.1.length:Int) != (x.2.1.length:Int)then some (false,())else(AC (fun v=>Hv (x.1,x.2.1,()) v _ some) (0,())).bind fun p=>Az p (fun p=>some (false,())) fun p=>some (true,())
def VO:Ent:=⟨34,⟨(.slot (.slice YOp) (.slot (.slice YOp) .nil)),.nil⟩,⟨(.slot .bool .nil),.nil⟩,K2⟩
theorem lX:CfgOK Go.Proofs.Tryz.prog x3:=hcB (all_cons lY all_nil)
theorem wZ:B9 Go.Proofs.Tryz.prog x3 (lpc Go.Proofs.Tryz.f34 0):=lkA lX aZ lV Hv lS [4] Qd
theorem iG:Ai Go.Proofs.Tryz.prog VO:=okB lX Go.Proofs.Tryz.func34 wZ
abbrev Ai4:=List Int×Unit
abbrev Ai1:=Int×Int×Unit
abbrev Ai2:=Int×Unit ⊕ Int×Unit
def Hn (i:Ai4)(v:Ai1)(R:Type)(K:Ai1 ⊕ Ai2->Option R):Option R:=bif decide (v.2.1<(i.1.length:Int))then(lAt i.1 v.2.1).bind fun a=>bif a != v.1 then K (.inr (.inl (v.1,())))else K (.inl (IntKind.i64.wrap (v.1+1),IntKind.i64.wrap (v.2.1+1),()))else K (.inr (.inr (v.1,())))
theorem QO:Bg Hn:=fun i v R K=>Ae (Ac fun _=>Ae (Aa) (Aa)) (Aa)
def A5c:Tmpl:=⟨(.slot (.slice .i) (.slot .i (jk 3 (.slot .i (jk 15 .nil))))),.nil⟩
def Ai0:Exs Ai4 Ai2:=xs .ret (fun i p=>⟨jn 1 (.n (p.1)::jn 2 (.n (-1)::jn 16 ([]))),[]⟩)<|x1 (.exit 0) fun i p=>⟨jn 1 (.n (p.1)::jn 19 ([])),[]⟩
def Ai3:=((.i (.v (.v .n))):Pk A5c.ty _ _)
def Avb:Cfg:={ti:=Aw,ents:=[],ann:=[(2,Ao A5c 0 (spP Ai3) Hn Ai0.E)],lent:=0}
def K9 (x:List Int×Int×Unit):Option (Int×Unit):=(AC (fun v=>Hn (x.1,()) v _ some) (x.2.1,0,())).bind fun p=>Az p (fun p=>some (-1,())) fun p=>some (p.1,())
def iz:Ent:=⟨28,⟨(.slot (.slice .i) (.slot .i .nil)),.nil⟩,⟨(.slot .i .nil),.nil⟩,K9⟩
theorem Ai5:CfgOK Go.Proofs.Tryz.prog Avb:=hcB all_nil
theorem Ava:B9 Go.Proofs.Tryz.prog Avb (lpc Go.Proofs.Tryz.f28 0):=lkA Ai5 A5c Ai3 Hn Ai0 [1,4] QO
theorem A5d:Ai Go.Proofs.Tryz.prog iz:=okB Ai5 Go.Proofs.Tryz.func28 Ava
abbrev zP:=List (List A6)×Unit
abbrev zM:=Int×Int×Unit
abbrev zN:=Int×Unit ⊕ Int×Unit
def Oz (i:zP)(v:zM)(R:Type)(K:zM ⊕ zN->Option R):Option R:=bif decide (v.2.1<(i.1.length:Int))then(lAt i.1 v.2.1).bind fun a=>(LK (a,v.1,())).bind fun b=>bif decide (b.1<0)then K (.inr (.inl (b.1,())))else K (.inl (b.1,IntKind.i64.wrap (v.2.1+1),()))else K (.inr (.inr (v.1,())))
theorem Xk:Bg Oz:=fun i v R K=>Ae (Ac fun _=>Ac fun _=>Ae (Aa) (Aa)) (Aa)
def lp:Tmpl:=⟨(.slot (.slice (.slice YOp)) (.slot .i (jk 3 (.slot .i (jk 21 .nil))))),.nil⟩
def zL:Exs zP zN:=xs .ret (fun i p=>⟨jn 1 (.n (p.1)::jn 2 (.n (-1)::jn 22 ([]))),[]⟩)<|x1 (.exit 0) fun i p=>⟨jn 1 (.n (p.1)::jn 25 ([])),[]⟩
def zO:=((.i (.v (.v .n))):Pk lp.ty _ _)
def A99:Cfg:={ti:=Aw,ents:=[ir],ann:=[(5,Ao lp 0 (spP zO) Oz zL.E)],lent:=0}
def Rs (x:List (List A6)×Int×Unit):Option (Int×Unit):=bif decide (IntKind.i64.wrap (x.2.1-(x.1.length:Int))<0)then some (-1,())else(AC (fun v=>Oz (x.1,()) v _ some) (IntKind.i64.wrap (x.2.1-(x.1.length:Int)),0,())).bind fun p=>Az p (fun p=>some (-1,())) fun p=>some (p.1,())
def lq:Ent:=⟨20,⟨(.slot (.slice (.slice YOp)) (.slot .i .nil)),.nil⟩,⟨(.slot .i .nil),.nil⟩,Rs⟩
theorem zQ:CfgOK Go.Proofs.Tryz.prog A99:=hcB (all_cons Aaj all_nil)
theorem A98:B9 Go.Proofs.Tryz.prog A99 (lpc Go.Proofs.Tryz.f20 0):=lkA zQ lp zO Oz zL [1,4] Xk
theorem rV:Ai Go.Proofs.Tryz.prog lq:=okB zQ Go.Proofs.Tryz.func20 A98
abbrev zJ:=List (List A6)×Unit
abbrev zG:=Int×List (List A6)×Unit
abbrev zH:=List (List A6)×Unit
def KU (i:zJ)(v:zG)(R:Type)(K:zG ⊕ zH->Option R):Option R:=bif decide (v.1<(i.1.length:Int))then(lAt i.1 v.1).bind fun a=>(Jj (a,())).bind fun b=>if 0<=v.1/\v.1<(v.2.1.length:Int)then v.2.1[0+v.1.toNat]?.bind fun c=>K (.inl (IntKind.i64.wrap (v.1+1),v.2.1.set (0+v.1.toNat) b.1,()))else none else K (.inr (v.2.1,()))
theorem Xh:Bg KU:=fun i v R K=>Ae (Ac fun _=>Ac fun _=>Aq (Ac fun _=>Aa)) (Aa)
def ln:Tmpl:=⟨(.slot (.slice (.slice YOp)) (jk 2 (.own 0 (.slot .i (jk 18 .nil))))),(.tree false 1 (.slice YOp) .nil)⟩
def zF:Exs zJ zH:=x1 (.exit 0) fun i p=>⟨jn 3 (AV.own 0 none none::jn 19 ([])),[some (Cont.tree false 1 (.slice YOp) p.1 none)]⟩
def zI:=((.i (.v (.v .n))):Pk ln.ty _ _)
def A97:Cfg:={ti:=Aw,ents:=[kN],ann:=[(3,Ao ln 0 (spP zI) KU zF.E)],lent:=0}
def Kt (x:List (List A6)×Unit):Option (List (List A6)×Unit):=if 0<=(x.1.length:Int)/\(x.1.length:Int)<=(x.1.length:Int)/\(x.1.length:Int)<=(↑1466015503701:Int)then(AC (fun v=>KU (x.1,()) v _ some) (0,List.replicate ((x.1.length:Int).toNat) [],())).bind fun p=>some (p.1,())else none
def et:Ent:=⟨22,⟨(.slot (.slice (.slice YOp)) .nil),.nil⟩,⟨(.own 0 .nil),(.tree false 1 (.slice YOp) .nil)⟩,Kt⟩
theorem zK:CfgOK Go.Proofs.Tryz.prog A97:=hcB (all_cons A8a all_nil)
theorem A96:B9 Go.Proofs.Tryz.prog A97 (lpc Go.Proofs.Tryz.f22 0):=lkA zK ln zI KU zF [3] Xh
theorem rU:Ai Go.Proofs.Tryz.prog et:=okB zK Go.Proofs.Tryz.func22 A96
abbrev zE:=List A6×Unit
abbrev zB:=Int×Unit
abbrev zC:=Unit ⊕ Unit ⊕ Unit ⊕ Unit ⊕ Unit ⊕ Unit ⊕ Unit ⊕ Unit ⊕ Unit
def GN (i:zE)(v:zB)(R:Type)(K:zB ⊕ zC->Option R):Option R:=bif decide (v.1<(i.1.length:Int))then(lAt i.1 v.1).bind fun a=>bif a.1==5 then(lAt i.1 v.1).bind fun b=>(Ea ((b.1,b.2.1,b.2.2.1,b.2.2.2.1,b.2.2.2.2.1,b.2.2.2.2.2.1,()),())).bind fun c=>bif !c.1 then K (.inr (.inl ()))else(lAt i.1 v.1).bind fun d=>(lAt i.1 0).bind fun e=>bif d.2.1 != e.2.1 then K (.inr (.inr (.inl ())))else(lAt i.1 v.1).bind fun f=>bif !(f.1==1)==(v.1==0)then K (.inr (.inr (.inr (.inl ()))))else bif !true==(v.1==IntKind.i64.wrap ((i.1.length:Int)-1))then K (.inr (.inr (.inr (.inr (.inl ())))))else K (.inl (IntKind.i64.wrap (v.1+1),()))else(lAt i.1 v.1).bind fun b=>(lAt i.1 v.1).bind fun c=>(Ea ((c.1,c.2.1,c.2.2.1,c.2.2.2.1,c.2.2.2.2.1,c.2.2.2.2.2.1,()),())).bind fun d=>bif !d.1 then K (.inr (.inr (.inr (.inr (.inr (.inl ()))))))else(lAt i.1 v.1).bind fun e=>(lAt i.1 0).bind fun f=>bif e.2.1 != f.2.1 then K (.inr (.inr (.inr (.inr (.inr (.inr (.inl ())))))))else(lAt i.1 v.1).bind fun g=>bif !(g.1==1)==(v.1==0)then K (.inr (.inr (.inr (.inr (.inr (.inr (.inr (.inl ()))))))))else bif !(b.1==6)==(v.1==IntKind.i64.wrap ((i.1.length:Int)-1))then K (.inr (.inr (.inr (.inr (.inr (.inr (.inr (.inr (.inl ())))))))))else K (.inl (IntKind.i64.wrap (v.1+1),()))else K (.inr (.inr (.inr (.inr (.inr (.inr (.inr (.inr (.inr ())))))))))
theorem Q0:Bg GN:=fun i v R K=>Ae (Ac fun _=>Ae (Ac fun _=>Ac fun _=>Ae (Aa) (Ac fun _=>Ac fun _=>Ae (Aa) (Ac fun _=>Ae (Aa) (Ae (Aa) (Aa))))) (Ac fun _=>Ac fun _=>Ac fun _=>Ae (Aa) (Ac fun _=>Ac fun _=>Ae (Aa) (Ac fun _=>Ae (Aa) (Ae (Aa) (Aa)))))) (Aa)
def ll:Tmpl:=⟨(.slot (.slice YOp) (jk 2 (.slot .i (jk 62 .nil)))),.nil⟩
def zA:Exs zE zC:=xs .ret (fun i p=>⟨AV.pv (.slice YOp) i.1::jn 1 (.b (false)::jn 63 ([])),[]⟩)<|xs .ret (fun i p=>⟨AV.pv (.slice YOp) i.1::jn 1 (.b (false)::jn 63 ([])),[]⟩)<|xs .ret (fun i p=>⟨AV.pv (.slice YOp) i.1::jn 1 (.b (false)::jn 63 ([])),[]⟩)<|xs .ret (fun i p=>⟨AV.pv (.slice YOp) i.1::jn 1 (.b (false)::jn 63 ([])),[]⟩)<|xs .ret (fun i p=>⟨AV.pv (.slice YOp) i.1::jn 1 (.b (false)::jn 63 ([])),[]⟩)<|xs .ret (fun i p=>⟨AV.pv (.slice YOp) i.1::jn 1 (.b (false)::jn 63 ([])),[]⟩)<|xs .ret (fun i p=>⟨AV.pv (.slice YOp) i.1::jn 1 (.b (false)::jn 63 ([])),[]⟩)<|xs .ret (fun i p=>⟨AV.pv (.slice YOp) i.1::jn 1 (.b (false)::jn 63 ([])),[]⟩)<|x1 (.exit 0) fun i p=>⟨AV.pv (.slice YOp) i.1::jn 65 ([]),[]⟩
def zD:=((.i (.v .n)):Pk ll.ty _ _)
def lm:Cfg:={ti:=Aw,ents:=[XD,Nb],ann:=[(2,Ao ll 0 (spP zD) GN zA.E)],lent:=0}
def JZ (x:List A6×Unit):Option (Bool×Unit):=(AC (fun v=>GN (x.1,()) v _ some) (0,())).bind fun p=>Az p (fun p=>some (false,())) fun p=>Az p (fun p=>some (false,())) fun p=>Az p (fun p=>some (false,())) fun p=>Az p (fun p=>some (false,())) fun p=>Az p (fun p=>some (false,())) fun p=>Az p (fun p=>some (false,())) fun p=>Az p (fun p=>some (false,())) fun p=>Az p (fun p=>some (false,())) fun p=>(Ak ((x.1.length:Int),2,12,())).bind fun v=>some (v.1,())
def cf:Ent:=⟨88,⟨(.slot (.slice YOp) .nil),.nil⟩,⟨(.slot .bool .nil),.nil⟩,JZ⟩
theorem cB:CfgOK Go.Proofs.Tryz.prog lm:=hcB (all_cons kO (all_cons KM all_nil))
theorem A95:B9 Go.Proofs.Tryz.prog lm (lpc Go.Proofs.Tryz.f88 0):=lkA cB ll zD GN zA [0,2] Q0
theorem rT:Ai Go.Proofs.Tryz.prog cf:=okB cB Go.Proofs.Tryz.func88 A95
abbrev zy:=List (List A6)×Int×Unit
abbrev zq:=Int×Unit
abbrev zt:=Unit ⊕ Unit
def Ia (i:zy)(v:zq)(R:Type)(K:zq ⊕ zt->Option R):Option R:=bif decide (v.1<i.2.1)then(lAt i.1 v.1).bind fun a=>(lAt a 0).bind fun b=>(lAt i.1 i.2.1).bind fun c=>(lAt c 0).bind fun d=>bif b.2.1==d.2.1 then K (.inr (.inl ()))else K (.inl (IntKind.i64.wrap (v.1+1),()))else K (.inr (.inr ()))
theorem RX:Bg Ia:=fun i v R K=>Ae (Ac fun _=>Ac fun _=>Ac fun _=>Ac fun _=>Ae (Aa) (Aa)) (Aa)
def lh:Tmpl:=⟨(.slot (.slice (.slice YOp)) (jk 2 (si 2 (jk 35 .nil)))),.nil⟩
def zo:Exs zy zt:=xs .ret (fun i p=>⟨AV.pv (.slice (.slice YOp)) i.1::jn 1 (.b (false)::.n (i.2.1)::jn 36 ([])),[]⟩)<|x1 (.exit 2) fun i p=>⟨AV.pv (.slice (.slice YOp)) i.1::jn 2 (.n (i.2.1)::jn 36 ([])),[]⟩
def zw:=((.i (.i (.v .n))):Pk lh.ty _ _)
abbrev zz:=List (List A6)×Unit
abbrev zr:=Int×Unit
abbrev zu:=Unit ⊕ Unit ⊕ Unit
def Fm (i:zz)(v:zr)(R:Type)(K:zr ⊕ zu->Option R):Option R:=bif decide (v.1<(i.1.length:Int))then(lAt i.1 v.1).bind fun a=>(JZ (a,())).bind fun b=>bif !b.1 then K (.inr (.inl ()))else(AC (fun c=>Ia (i.1,v.1,()) c _ some) (0,())).bind fun p=>Az p (fun p=>K (.inr (.inr (.inl ())))) fun p=>K (.inl (IntKind.i64.wrap (v.1+1),()))else K (.inr (.inr (.inr ())))
theorem RY:Bg Fm:=fun i v R K=>Ae (Ac fun _=>Ac fun _=>Ae (Aa) (Ac fun _=>cQ (fun _=>Aa) (fun _=>Aa))) (Aa)
def li:Tmpl:=⟨(.slot (.slice (.slice YOp)) (jk 2 (.slot .i (jk 36 .nil)))),.nil⟩
def zp:Exs zz zu:=xs .ret (fun i p=>⟨AV.pv (.slice (.slice YOp)) i.1::jn 1 (.b (false)::jn 37 ([])),[]⟩)<|xs .ret (fun i p=>⟨AV.pv (.slice (.slice YOp)) i.1::jn 1 (.b (false)::jn 37 ([])),[]⟩)<|x1 (.exit 0) fun i p=>⟨AV.pv (.slice (.slice YOp)) i.1::jn 39 ([]),[]⟩
def zx:=((.i (.v .n)):Pk li.ty _ _)
def wF:Cfg:={ti:=Aw,ents:=[cf],ann:=[(7,Ao lh 0 (spP zw) Ia zo.E),(2,Ao li 0 (spP zx) Fm zp.E)],lent:=0}
def KB (x:List (List A6)×Unit):Option (Bool×Unit):=(AC (fun v=>Fm (x.1,()) v _ some) (0,())).bind fun p=>Az p (fun p=>some (false,())) fun p=>Az p (fun p=>some (false,())) fun p=>some (decide ((x.1.length:Int)<=6),())
def WB:Ent:=⟨80,⟨(.slot (.slice (.slice YOp)) .nil),.nil⟩,⟨(.slot .bool .nil),.nil⟩,KB⟩
theorem lj:CfgOK Go.Proofs.Tryz.prog wF:=hcB (all_cons rT all_nil)
theorem rb:B9 Go.Proofs.Tryz.prog wF (lpc Go.Proofs.Tryz.f80 1):=lkA lj lh zw Ia zo [0,2,3] RX
theorem A93:B9 Go.Proofs.Tryz.prog wF (lpc Go.Proofs.Tryz.f80 0):=lkB lj li zx Fm zp [0,2] RY rb
theorem qH:Ai Go.Proofs.Tryz.prog WB:=okC lj Go.Proofs.Tryz.func80 A93 rb
abbrev A92:=List (List A6)×Int×Bool×Int×Unit
abbrev A8z:=Bool×Int×Bool×Int×List (List A2)×List A6×List Int×A8
abbrev A90:=Bool×Bool×Int×List (List A2)×List A6×List Int×A8
def M8 (i:A92)(v:A8z)(R:Type)(K:A8z ⊕ A90->Option R):Option R:=bif decide (v.2.1<(i.1.length:Int))then if 0<=v.2.1/\v.2.1<(v.2.2.2.2.2.2.1.length:Int)then v.2.2.2.2.2.2.1[0+v.2.1.toNat]?.bind fun a=>(lAt i.1 v.2.1).bind fun b=>bif a==(b.length:Int)then K (.inl (v.1,IntKind.i64.wrap (v.2.1+1),v.2.2.1,v.2.2.2.1,v.2.2.2.2.1,v.2.2.2.2.2.1,v.2.2.2.2.2.2.1,v.2.2.2.2.2.2.2.1,v.2.2.2.2.2.2.2.2.1,v.2.2.2.2.2.2.2.2.2.1,()))else(lAt i.1 v.2.1).bind fun c=>if 0<=v.2.1/\v.2.1<(v.2.2.2.2.2.2.1.length:Int)then v.2.2.2.2.2.2.1[0+v.2.1.toNat]?.bind fun d=>(lAt c d).bind fun e=>(FP ((v.2.2.1,(v.2.2.2.2.1,()),v.2.2.2.2.2.2.2.1,v.2.2.2.2.2.2.2.2.1,v.2.2.2.2.2.2.2.2.2.1,v.2.2.2.1,()),(e.1,e.2.1,e.2.2.1,e.2.2.2.1,e.2.2.2.2.1,e.2.2.2.2.2.1,()),())).bind fun f=>if(v.2.2.2.2.2.1++[(e.1,e.2.1,e.2.2.1,e.2.2.2.1,e.2.2.2.2.1,e.2.2.2.2.2.1,())]).length<=733007751850 then bif f.2.2.1==0 then if 0<=v.2.1/\v.2.1<(v.2.2.2.2.2.2.1.length:Int)then v.2.2.2.2.2.2.1[0+v.2.1.toNat]?.bind fun g=>if 0<=v.2.1/\v.2.1<(v.2.2.2.2.2.2.1.length:Int)then v.2.2.2.2.2.2.1[0+v.2.1.toNat]?.bind fun h=>K (.inl (true,IntKind.i64.wrap (v.2.1+1),f.1,f.2.1,f.2.2.2.1,v.2.2.2.2.2.1++[(e.1,e.2.1,e.2.2.1,e.2.2.2.1,e.2.2.2.2.1,e.2.2.2.2.2.1,())],v.2.2.2.2.2.2.1.set (0+v.2.1.toNat) (IntKind.i64.wrap (g+1)),f.2.2.2.2.1,f.2.2.2.2.2.1,f.2.2.2.2.2.2.1,()))else none else none else bif f.2.2.1==1 then K (.inl (true,IntKind.i64.wrap (v.2.1+1),f.1,f.2.1,f.2.2.2.1,v.2.2.2.2.2.1++[(e.1,e.2.1,e.2.2.1,e.2.2.2.1,e.2.2.2.2.1,e.2.2.2.2.2.1,())],v.2.2.2.2.2.2.1,f.2.2.2.2.1,f.2.2.2.2.2.1,f.2.2.2.2.2.2.1,()))else(lAt i.1 v.2.1).bind fun g=>if 0<=v.2.1/\v.2.1<(v.2.2.2.2.2.2.1.length:Int)then v.2.2.2.2.2.2.1[0+v.2.1.toNat]?.bind fun h=>K (.inl (true,IntKind.i64.wrap (v.2.1+1),f.1,f.2.1,f.2.2.2.1,v.2.2.2.2.2.1++[(e.1,e.2.1,e.2.2.1,e.2.2.2.1,e.2.2.2.2.1,e.2.2.2.2.2.1,())],v.2.2.2.2.2.2.1.set (0+v.2.1.toNat) (g.length:Int),f.2.2.2.2.1,f.2.2.2.2.2.1,f.2.2.2.2.2.2.1,()))else none else none else none else none else K (.inr (v.1,v.2.2.1,v.2.2.2.1,v.2.2.2.2.1,v.2.2.2.2.2.1,v.2.2.2.2.2.2.1,v.2.2.2.2.2.2.2.1,v.2.2.2.2.2.2.2.2.1,v.2.2.2.2.2.2.2.2.2.1,()))
theorem d9:Bg M8:=fun i v R K=>Ae (Aq (Ac fun _=>Ac fun _=>Ae (Aa) (Ac fun _=>Aq (Ac fun _=>Ac fun _=>Ac fun _=>Aq (Ae (Aq (Ac fun _=>Aq (Ac fun _=>Aa))) (Ae (Aa) (Ac fun _=>Aq (Ac fun _=>Aa)))))))) (Aa)
def wE:Tmpl:=⟨(.junk (.slot (.slice (.slice YOp)) (jk 2 (.ptr 0 0 0 (.junk (.ptr 1 0 0 (.own 3 (.own 4 (.slot .i (.slot .bool (.slot .i (jk 83 .nil)))))))))))),(.cells 6 (.slot .bool (.const (AV.nils) (.const (AV.nils) (.const (AV.nils) (.const (AV.nils) (.slot .i .nil)))))) (.cells 6 (.slot .bool (.own 2 (.own 5 (.own 6 (.own 7 (.slot .i .nil)))))) (.tree false 1 (.slice Af) (.lst false YOp (.lst false .i (.lst false Ad (.lst false A0 (.lst false A0 .nil))))))))⟩
def A8y:Exs A92 A90:=x1 (.exit 2) fun i p=>⟨jn 1 (AV.pv (.slice (.slice YOp)) i.1::jn 2 (AV.ptr 0 none 0 0::jn 1 (AV.ptr 1 none 0 0::AV.own 3 none none::AV.own 4 none none::.n (i.2.1)::.b (p.1)::jn 84 ([])))),[some (Cont.cells 6 [[AV.pv .bool i.2.2.1,AV.nils,AV.nils,AV.nils,AV.nils,AV.pv .i i.2.2.2.1]]),some (Cont.cells 6 [[AV.pv .bool p.2.1,AV.own 2 none none,AV.own 5 none none,AV.own 6 none none,AV.own 7 none none,AV.pv .i p.2.2.1]]),some (Cont.tree false 1 (.slice Af) p.2.2.2.1 none),some (Cont.lst false YOp p.2.2.2.2.1),some (Cont.lst false .i p.2.2.2.2.2.1),some (Cont.lst false Ad p.2.2.2.2.2.2.1),some (Cont.lst false A0 p.2.2.2.2.2.2.2.1),some (Cont.lst false A0 p.2.2.2.2.2.2.2.2.1)]⟩
def A91:=((.i (.i (.v (.v (.i (.i (.v (.v (.v (.v (.v (.v (.v (.v .n)))))))))))))):Pk wE.ty _ _)
abbrev Ahg:=List (List A6)×Bool×Int×Unit
abbrev Aha:=Int×Bool×Int×List (List A2)×List A6×List Int×A8
abbrev Ahc:=Bool×Int×List (List A2)×List A6×List Int×A8 ⊕ Bool×Int×List (List A2)×List A6×List Int×A8
def LE (i:Ahg)(v:Aha)(R:Type)(K:Aha ⊕ Ahc->Option R):Option R:=bif decide (v.1<200)then(AC (fun a=>M8 (i.1,v.1,i.2.1,i.2.2.1,()) a _ some) (false,0,v.2.1,v.2.2.1,v.2.2.2.1,v.2.2.2.2.1,v.2.2.2.2.2.1,v.2.2.2.2.2.2.1,v.2.2.2.2.2.2.2.1,v.2.2.2.2.2.2.2.2.1,())).bind fun p=>bif !p.1 then K (.inr (.inl (p.2.1,p.2.2.1,p.2.2.2.1,p.2.2.2.2.1,p.2.2.2.2.2.1,p.2.2.2.2.2.2.1,p.2.2.2.2.2.2.2.1,p.2.2.2.2.2.2.2.2.1,())))else K (.inl (IntKind.i64.wrap (v.1+1),p.2.1,p.2.2.1,p.2.2.2.1,p.2.2.2.2.1,p.2.2.2.2.2.1,p.2.2.2.2.2.2.1,p.2.2.2.2.2.2.2.1,p.2.2.2.2.2.2.2.2.1,()))else K (.inr (.inr (v.2.1,v.2.2.1,v.2.2.2.1,v.2.2.2.2.1,v.2.2.2.2.2.1,v.2.2.2.2.2.2.1,v.2.2.2.2.2.2.2.1,v.2.2.2.2.2.2.2.2.1,())))
theorem io:Bg LE:=fun i v R K=>Ae (Ac fun _=>Ae (Aa) (Aa)) (Aa)
def A55:Tmpl:=⟨(.junk (.slot (.slice (.slice YOp)) (jk 2 (.ptr 0 0 0 (.junk (.ptr 1 0 0 (.own 3 (.own 4 (.slot .i (jk 85 .nil)))))))))),(.cells 6 (.slot .bool (.const (AV.nils) (.const (AV.nils) (.const (AV.nils) (.const (AV.nils) (.slot .i .nil)))))) (.cells 6 (.slot .bool (.own 2 (.own 5 (.own 6 (.own 7 (.slot .i .nil)))))) (.tree false 1 (.slice Af) (.lst false YOp (.lst false .i (.lst false Ad (.lst false A0 (.lst false A0 .nil))))))))⟩
def Ah8:Exs Ahg Ahc:=xs .ret (fun i p=>⟨jn 4 (AV.ptr 0 none 0 0::AV.own 3 none none::AV.ptr 1 none 0 0::AV.own 3 none none::jn 87 ([])),[some (Cont.cells 6 [[AV.pv .bool p.1,AV.own 2 none none,AV.own 5 none none,AV.own 6 none none,AV.own 7 none none,AV.pv (Ty.int IntKind.i64) p.2.1]]),some (Cont.cells 6 [[AV.pv .bool p.1,AV.own 2 none none,AV.own 5 none none,AV.own 6 none none,AV.own 7 none none,AV.pv .i p.2.1]]),some (Cont.tree false 1 (.slice Af) p.2.2.1 none),some (Cont.lst false YOp p.2.2.2.1),some (Cont.lst false .i p.2.2.2.2.1),some (Cont.lst false Ad p.2.2.2.2.2.1),some (Cont.lst false A0 p.2.2.2.2.2.2.1),some (Cont.lst false A0 p.2.2.2.2.2.2.2.1)]⟩)<|x1 (.exit 0) fun i p=>⟨jn 4 (AV.ptr 0 none 0 0::jn 1 (AV.ptr 1 none 0 0::AV.own 3 none none::jn 87 ([]))),[some (Cont.cells 6 [[AV.pv .bool i.2.1,AV.nils,AV.nils,AV.nils,AV.nils,AV.pv .i i.2.2.1]]),some (Cont.cells 6 [[AV.pv .bool p.1,AV.own 2 none none,AV.own 5 none none,AV.own 6 none none,AV.own 7 none none,AV.pv .i p.2.1]]),some (Cont.tree false 1 (.slice Af) p.2.2.1 none),some (Cont.lst false YOp p.2.2.2.1),some (Cont.lst false .i p.2.2.2.2.1),some (Cont.lst false Ad p.2.2.2.2.2.1),some (Cont.lst false A0 p.2.2.2.2.2.2.1),some (Cont.lst false A0 p.2.2.2.2.2.2.2.1)]⟩
def Ahe:=((.i (.v (.i (.i (.v (.v (.v (.v (.v (.v (.v (.v .n)))))))))))):Pk A55.ty _ _)
def qy:Cfg:={ti:=Aw,ents:=[ji,WB,VT],ann:=[(11,Ao wE 0 (spP A91) M8 A8y.E),(7,Ao A55 0 (spP Ahe) LE Ah8.E)],lent:=0}
def SB (x:Bool×List (List A6)×Unit):Option (Bool×Int×List (List A2)×List A6×A8):=(JY (x.1,())).bind fun v=>(KB (x.2.1,())).bind fun a=>bif !a.1 then some (v.1,v.2.1,v.2.2.1,[],[],[],[],())else if 0<=(x.2.1.length:Int)/\(x.2.1.length:Int)<=(x.2.1.length:Int)/\(x.2.1.length:Int)<=(↑4398046511104:Int)then(AC (fun v=>LE (x.2.1,false,0,()) v _ some) (0,v.1,v.2.1,v.2.2.1,[],List.replicate ((x.2.1.length:Int).toNat) 0,[],[],[],())).bind fun p=>Az p (fun p=>some (p.1,p.2.1,p.2.2.1,p.2.2.2.1,p.2.2.2.2.2.1,p.2.2.2.2.2.2.1,p.2.2.2.2.2.2.2.1,())) fun p=>some (p.1,p.2.1,p.2.2.1,p.2.2.2.1,p.2.2.2.2.2.1,p.2.2.2.2.2.2.1,p.2.2.2.2.2.2.2.1,())else none
def ra:Ent:=⟨38,⟨(.slot .bool (.slot (.slice (.slice YOp)) .nil)),.nil⟩,⟨(.agg (.slot .bool (.own 0 (.own 2 (.own 3 (.own 4 (.slot .i .nil)))))) (.own 1 .nil)),(.tree false 1 (.slice Af) (.lst false YOp (.lst false Ad (.lst false A0 (.lst false A0 .nil)))))⟩,SB⟩
theorem i1:CfgOK Go.Proofs.Tryz.prog qy:=hcB (all_cons A7v (all_cons qH (all_cons j7 all_nil)))
theorem A3d:B9 Go.Proofs.Tryz.prog qy (lpc Go.Proofs.Tryz.f38 1):=lkA i1 wE A91 M8 A8y [1,4,6,7,8,9,10] d9
theorem Av4:B9 Go.Proofs.Tryz.prog qy (lpc Go.Proofs.Tryz.f38 0):=lkB i1 A55 Ahe LE Ah8 [4,5,6,7] io A3d
theorem A57:Ai Go.Proofs.Tryz.prog ra:=okC i1 Go.Proofs.Tryz.func38 Av4 A3d
abbrev zm:=List A6×List A6×Int×Unit
abbrev zj:=Int×Unit
abbrev zk:=A6 ⊕ A6 ⊕ A6 ⊕ A6 ⊕ A6 ⊕ A6 ⊕ A6 ⊕ A6 ⊕ Unit
def GS (i:zm)(v:zj)(R:Type)(K:zj ⊕ zk->Option R):Option R:=bif decide (v.1<i.2.2.1)then(lAt i.2.1 v.1).bind fun a=>bif a.1==5 then(Fb ((a.1,a.2.1,a.2.2.1,a.2.2.2.1,a.2.2.2.2.1,a.2.2.2.2.2.1,()),())).bind fun b=>bif !b.1 then K (.inr (.inl (a.1,a.2.1,a.2.2.1,a.2.2.2.1,a.2.2.2.2.1,a.2.2.2.2.2.1,())))else(lAt i.1 0).bind fun c=>bif a.2.1 != c.2.1 then K (.inr (.inr (.inl (a.1,a.2.1,a.2.2.1,a.2.2.2.1,a.2.2.2.2.1,a.2.2.2.2.2.1,()))))else bif !(a.1==1)==(v.1==0)then K (.inr (.inr (.inr (.inl (a.1,a.2.1,a.2.2.1,a.2.2.2.1,a.2.2.2.2.1,a.2.2.2.2.2.1,())))))else bif !true==(v.1==IntKind.i64.wrap ((i.1.length:Int)-1))then K (.inr (.inr (.inr (.inr (.inl (a.1,a.2.1,a.2.2.1,a.2.2.2.1,a.2.2.2.2.1,a.2.2.2.2.2.1,()))))))else K (.inl (IntKind.i64.wrap (v.1+1),()))else(Fb ((a.1,a.2.1,a.2.2.1,a.2.2.2.1,a.2.2.2.2.1,a.2.2.2.2.2.1,()),())).bind fun b=>bif !b.1 then K (.inr (.inr (.inr (.inr (.inr (.inl (a.1,a.2.1,a.2.2.1,a.2.2.2.1,a.2.2.2.2.1,a.2.2.2.2.2.1,())))))))else(lAt i.1 0).bind fun c=>bif a.2.1 != c.2.1 then K (.inr (.inr (.inr (.inr (.inr (.inr (.inl (a.1,a.2.1,a.2.2.1,a.2.2.2.1,a.2.2.2.2.1,a.2.2.2.2.2.1,()))))))))else bif !(a.1==1)==(v.1==0)then K (.inr (.inr (.inr (.inr (.inr (.inr (.inr (.inl (a.1,a.2.1,a.2.2.1,a.2.2.2.1,a.2.2.2.2.1,a.2.2.2.2.2.1,())))))))))else bif !(a.1==6)==(v.1==IntKind.i64.wrap ((i.1.length:Int)-1))then K (.inr (.inr (.inr (.inr (.inr (.inr (.inr (.inr (.inl (a.1,a.2.1,a.2.2.1,a.2.2.2.1,a.2.2.2.2.1,a.2.2.2.2.2.1,()))))))))))else K (.inl (IntKind.i64.wrap (v.1+1),()))else K (.inr (.inr (.inr (.inr (.inr (.inr (.inr (.inr (.inr ())))))))))
theorem Q1:Bg GS:=fun i v R K=>Ae (Ac fun _=>Ae (Ac fun _=>Ae (Aa) (Ac fun _=>Ae (Aa) (Ae (Aa) (Ae (Aa) (Aa))))) (Ac fun _=>Ae (Aa) (Ac fun _=>Ae (Aa) (Ae (Aa) (Ae (Aa) (Aa)))))) (Aa)
def lg:Tmpl:=⟨(.slot (.slice YOp) (jk 9 (.slot (.slice YOp) (si 2 (jk 42 .nil))))),.nil⟩
def zi:Exs zm zk:=xs .ret (fun i p=>⟨jn 2 (.b (false)::jn 52 ([])),[some (Cont.cells 6 [[AV.pv .i p.1,AV.pv .i p.2.1,AV.pv .i p.2.2.1,AV.pv .i p.2.2.2.1,AV.pv .i p.2.2.2.2.1,AV.pv .i p.2.2.2.2.2.1]])]⟩)<|xs .ret (fun i p=>⟨jn 2 (.b (false)::jn 52 ([])),[some (Cont.cells 6 [[AV.pv .i p.1,AV.pv .i p.2.1,AV.pv .i p.2.2.1,AV.pv .i p.2.2.2.1,AV.pv .i p.2.2.2.2.1,AV.pv .i p.2.2.2.2.2.1]])]⟩)<|xs .ret (fun i p=>⟨jn 2 (.b (false)::jn 52 ([])),[some (Cont.cells 6 [[AV.pv .i p.1,AV.pv .i p.2.1,AV.pv .i p.2.2.1,AV.pv .i p.2.2.2.1,AV.pv .i p.2.2.2.2.1,AV.pv .i p.2.2.2.2.2.1]])]⟩)<|xs .ret (fun i p=>⟨jn 2 (.b (false)::jn 52 ([])),[some (Cont.cells 6 [[AV.pv .i p.1,AV.pv .i p.2.1,AV.pv .i p.2.2.1,AV.pv .i p.2.2.2.1,AV.pv .i p.2.2.2.2.1,AV.pv .i p.2.2.2.2.2.1]])]⟩)<|xs .ret (fun i p=>⟨jn 2 (.b (false)::jn 52 ([])),[some (Cont.cells 6 [[AV.pv .i p.1,AV.pv .i p.2.1,AV.pv .i p.2.2.1,AV.pv .i p.2.2.2.1,AV.pv .i p.2.2.2.2.1,AV.pv .i p.2.2.2.2.2.1]])]⟩)<|xs .ret (fun i p=>⟨jn 2 (.b (false)::jn 52 ([])),[some (Cont.cells 6 [[AV.pv .i p.1,AV.pv .i p.2.1,AV.pv .i p.2.2.1,AV.pv .i p.2.2.2.1,AV.pv .i p.2.2.2.2.1,AV.pv .i p.2.2.2.2.2.1]])]⟩)<|xs .ret (fun i p=>⟨jn 2 (.b (false)::jn 52 ([])),[some (Cont.cells 6 [[AV.pv .i p.1,AV.pv .i p.2.1,AV.pv .i p.2.2.1,AV.pv .i p.2.2.2.1,AV.pv .i p.2.2.2.2.1,AV.pv .i p.2.2.2.2.2.1]])]⟩)<|xs .ret (fun i p=>⟨jn 2 (.b (false)::jn 52 ([])),[some (Cont.cells 6 [[AV.pv .i p.1,AV.pv .i p.2.1,AV.pv .i p.2.2.1,AV.pv .i p.2.2.2.1,AV.pv .i p.2.2.2.2.1,AV.pv .i p.2.2.2.2.2.1]])]⟩)<|x1 (.exit 0) fun i p=>⟨jn 55 ([]),[]⟩
def zl:=((.i (.i (.i (.v .n)))):Pk lg.ty _ _)
def A8x:Cfg:={ti:=Aw,ents:=[XB,Y0],ann:=[(4,Ao lg 0 (spP zl) GS zi.E)],lent:=0}
def J5 (x:List A6×Unit):Option (Bool×Unit):=(BL ((x.1.length:Int),2,12,())).bind fun v=>bif !v.1 then some (false,())else(AC (fun v=>GS (x.1,x.1,(x.1.length:Int),()) v _ some) (0,())).bind fun p=>Az p (fun p=>some (false,())) fun p=>Az p (fun p=>some (false,())) fun p=>Az p (fun p=>some (false,())) fun p=>Az p (fun p=>some (false,())) fun p=>Az p (fun p=>some (false,())) fun p=>Az p (fun p=>some (false,())) fun p=>Az p (fun p=>some (false,())) fun p=>Az p (fun p=>some (false,())) fun p=>some (true,())
def Yb:Ent:=⟨90,⟨(.slot (.slice YOp) .nil),.nil⟩,⟨(.slot .bool .nil),.nil⟩,J5⟩
theorem zn:CfgOK Go.Proofs.Tryz.prog A8x:=hcB (all_cons OW (all_cons ud all_nil))
theorem A8w:B9 Go.Proofs.Tryz.prog A8x (lpc Go.Proofs.Tryz.f90 0):=lkA zn lg zl GS zi [2] Q1
theorem rS:Ai Go.Proofs.Tryz.prog Yb:=okB zn Go.Proofs.Tryz.func90 A8w
section
open Go.RowKit Go.Proofs Go.Maps Go.WideShapes
set_option maxHeartbeats 4000000 in
set_option maxRecDepth 100000 in
theorem A3c {S:List (den YOp)×Unit->Option (Bool×Unit)}(hg:Ai Go.Proofs.Tryz.prog ⟨90,⟨.slot (.slice YOp) .nil,.nil⟩,⟨.slot .bool .nil,.nil⟩,S⟩){I:Nat->Prop}{w:World}(hI:∀b,I b->b<w.heap.size){x:List (List (den YOp))}(hx:x.length<4611686018427387904){v:Value}(hr:AR I w (.slice (.slice YOp)) x [v]){r:Bool}(hS:gO S [] x=some r):
 Calls Go.Proofs.Tryz.prog 85 #[v] w fun e w'=>e=.returned (.bool (r&&decide ((x.length:Int)<=6)))/\Grow w w':=by
 have hr0:=hr
 simp only[AR]at hr
 obtain⟨A,c,hv,hlc,-⟩:=hr
 obtain rfl:v=.slice A x.length c:=by simpa using hv
 have hels:∀i (hi:i<x.length),∃b o,A=some ⟨b,o,none⟩/\b<w.heap.size/\∃u,AR I w (.slice YOp) x[i] [u]/\Gu w b (o+i) [u]:=by
  intro i hi
  have h2:=hr0
  rw[AR]at h2
  obtain⟨A',c',e1,e2,h3⟩:=h2
  obtain⟨b,o,e3,e4,h5⟩:=h3 (by omega)
  obtain⟨cs,e5,e6,e7⟩:=h5 i hi
  have e8:cs.length=1:=e5
  obtain⟨u,rfl⟩:=List.length_eq_one_iff.1 e8
  refine⟨b,o,?_,hI b e4,u,e6,by simpa[Ty.size]using e7⟩
  have:A=A'/\c=c':=by simpa using e1
  rw[this.1];exact e3
 clear hr0 hv
 have law3:Keyed Go.Proofs.Tryz.prog 3:=int_keyed Go.Proofs.Tryz.underlying3
 have hmm:=@run_makeMap Go.Proofs.Tryz.prog
 have u194:Go.Proofs.Tryz.prog.underlying 194=some (.map 3 4):=Go.Proofs.Tryz.underlying194
 have hz4:∀w,(zeroValue 4).run Go.Proofs.Tryz.prog w=.ok (.bool false) w:=Go.Proofs.Tryz.zeroValue4
 obtain⟨⟨gfn,hgf,hgn,hgb⟩,hgspec⟩:=id hg
 have eg:∀args w,(callFunc 90 args).run Go.Proofs.Tryz.prog w=.ok (.enter 90 args) w:=by
  cases hb:gfn.body with
  |none=>rw[hb]at hgb;cases hgb
  |some c=>exact enters_of hgf hgn hb
 clear hgspec hgf hgn hgb
 go_enter Go.Proofs.Tryz.func85,Go.Proofs.Tryz.ntmps85
 go_wp2
 go_loopw [9] (fun i wr=>∃k:Nat,k<=x.length/\i=.int .i64 k/\∃(known:List Int) (D:DataW Unit),gO S known (x.drop k)=some r/\Vx known D/\wr.ownsMap Go.Proofs.Tryz.prog 3 (plainElem Go.Proofs.Tryz.prog 4) w.heap.size k D/\Grow w wr)
  (fun i _=>x.length-(RowKit.intOf i).toNat)
 case atStart=>exact⟨0,Nat.zero_le _,rfl,[],.map [],hS,jZ,World.ownsMap_made _ _ _ _,⟨rfl,rfl,⟨rfl,Nat.le_refl _⟩,by show _<=(w.heap.push _).size;simp,fun b hb=>Below.heap_alloc w _ b hb⟩⟩
 case round=>
  obtain⟨k,hk,rfl,known,D,hG,hD,hown,hgr⟩:=hrel
  by_cases hlt:k<x.length
  ·rw[List.drop_eq_getElem_cons hlt]at hG
   obtain⟨b0,o0,rfl,hb0,u,hu,hcu⟩:=hels k hlt
   unfold gO at hG
   obtain⟨⟨bb,_⟩,hSb,hG⟩:=Option.bind_eq_some_iff.1 hG
   have hstab:Sw I w I wr:=fun b hb=>⟨hb,hgr.blk b (hI b hb)⟩
   have hcell:wr.cell? ⟨b0,o0+k,none⟩=some u:=by simpa using k9 hgr hb0 hcu 0 (by simp)
   have hcall:=jX (w:=wr) hg (fun b hb=>Nat.lt_of_lt_of_le (hI b hb) hgr.size) (hu.mono hstab) hSb
   cases bb with
   |false=>
    simp only[Bool.not_false,cond_true,Option.some.injEq]at hG
    subst hG
    go_wp2_with (go_at_call 90;refine hcall.mono ?_;rintro e w1 ⟨rfl,hg1⟩)
    go_ret
    exact⟨rfl,hgr.trans hg1⟩
   |true=>
    simp only[Bool.not_true,cond_false]at hG
    obtain⟨l,hl⟩:∃l,l=x[k]:=⟨_,rfl⟩
    rw[<-hl]at hu hG
    cases l with
    |nil=>cases hG
    |cons op l=>
     simp only at hG
     have hu':=hu
     rw[AR]at hu'
     obtain⟨A1,c1,e1,e2,h3⟩:=hu'
     obtain rfl:u=.slice A1 (op::l).length c1:=by simpa using e1
     obtain⟨b1,o1,rfl,hb1,h5⟩:=h3 (by simp)
     obtain⟨cs,e5,e6,e7⟩:=h5 0 (by simp)
     have e8:=VA YOp rfl e6
     simp only[List.getElem_cons_zero]at e8
     subst e8
     simp only[Nat.zero_mul,Nat.add_zero]at e7
     have hidw:w.cell? ⟨b1,o1+1,none⟩=some (.int .i64 op.2.1):=e7 1 (by rw[e5];decide)
     have hb1w:=hI b1 hb1
     have hlen:0<(op::l).length:=by simp
     obtain⟨m,hm⟩:∃m,m=(op::l).length:=⟨_,rfl⟩
     rw[<-hm]at hcell hlen hu hcall
     obtain⟨id,hid⟩:∃id,id=op.2.1:=⟨_,rfl⟩
     rw[<-hid]at hidw hG
     have hidc:∀W,Grow w W->W.cell? ⟨b1,o1+1,none⟩=some (.int .i64 id):=fun W G=>by
      rw[<-hidw];simp only[World.cell?];rw[G.blk b1 hb1w]
     split at hG
     case isFalse=>cases hG
     rename_i hwf
     have hkey:keyOf Go.Proofs.Tryz.prog 3 (.int .i64 id)=some (.int .i64 id):=keyOf_int_mk Go.Proofs.Tryz.underlying3 (WalkArith.wf_i64 (by omega))
     have hlook:∀W,Grow wr W->(Instr.lookup 194 (.map (some w.heap.size)) (.int .i64 id) false).run Go.Proofs.Tryz.prog W=.ok (.bool (known.contains id)) W:=fun W G=>by
      obtain⟨v,ps,hrun,hv⟩:=(ZM hown G).lookup law3 u194 (hz4 W) (plainElem_bool Go.Proofs.Tryz.underlying4 false) hkey
      obtain⟨b',rfl,hb'⟩:=Qz Go.Proofs.Tryz.underlying4 hv
      rw[hD.2]at hb'
      simp only[Prod.mk.injEq,DataW.lit.injEq,Lit.bool.injEq]at hb'
      rw[hb'.1];exact hrun
     clear hels hl hu e1 e2 h3 h5 e5 e6 e7 hmm hSb hid hm hidw
     cases hc:known.contains id with
     |true=>
      rw[hc]at hG hlook
      simp only[cond_true,Option.some.injEq]at hG
      subst hG
      go_wp2_with (go_at_call 90;refine hcall.mono ?_;rintro e w1 ⟨rfl,hg1⟩;have hlk:=hlook w1 hg1;have hic:=hidc w1 (hgr.trans hg1))
      go_ret
      exact⟨rfl,hgr.trans hg1⟩
     |false=>
      rw[hc]at hG hlook
      simp only[cond_false]at hG
      go_wp2_with (first
       |(go_at_call 90;refine hcall.mono ?_;rintro e w1 ⟨rfl,hg1⟩;have hlk:=hlook w1 hg1;have hic:=hidc w1 (hgr.trans hg1);have hown1:=ZM hown hg1)
       |(at_mapUpdate;go_loud (refine wpList_mapUpdate_in _ rfl _ _ _ 194 rfl 3 4 law3 u194 _ w.heap.size k _ rfl hown1 (by unfold maxLen;omega) _ _ _ rfl rfl hkey _ [] (plainElem_bool Go.Proofs.Tryz.underlying4 true) ?_);intro w2 hown2 hturn2))
      ·go_roundw
       case rel=>
        have h01:=hgr.trans hg1
        have ht:Grow w w2:=by
         obtain⟨es,clock,es',clock',q1,rfl⟩:=hturn2
         refine⟨h01.os,h01.tape,h01.output,Nat.le_trans h01.size (by simp[Go.ChangeMaps.setBlock]),fun b hb=>?_⟩
         rw[Go.ChangeMaps.heap_setBlock_other q1 _ (by omega)]
         exact h01.blk b hb
        exact⟨k+1,by omega,by go_num,id::known,_,hG,jY hD id,hown2,ht⟩
       case measure=>simp[RowKit.intOf];omega
  ·have hkx:k=x.length:=by omega
   subst hkx
   rw[List.drop_length]at hG
   obtain rfl:true=r:=by simpa[gO]using hG
   go_wp2
   go_ret
   exact⟨rfl,hgr⟩
theorem A8u {S:List (den YOp)×Unit->Option (Bool×Unit)}(hg:Ai Go.Proofs.Tryz.prog ⟨90,⟨.slot (.slice YOp) .nil,.nil⟩,⟨.slot .bool .nil,.nil⟩,S⟩):
 Ai Go.Proofs.Tryz.prog ⟨85,⟨.slot (.slice (.slice YOp)) .nil,.nil⟩,⟨.slot .bool .nil,.nil⟩,A3k S⟩:=by
 refine⟨⟨_,Go.Proofs.Tryz.func85,by kernel_rfl,by kernel_rfl⟩,fun x y hy E w vs hH hA=>?_⟩
 obtain⟨xs,u⟩:=x
 change List (List (den YOp))at xs
 change A3k S (xs,u)=some y at hy
 unfold A3k at hy
 split at hy
 case isFalse=>cases hy
 rename_i hx
 obtain⟨r,hr,hy⟩:=Option.map_eq_some_iff.1 hy
 subst hy
 change HeapOK E [] w at hH
 have hA':Ah E [] w [.pv (.slice (.slice YOp)) xs] vs:=hA
 simp only[Ah,Ag]at hA'
 obtain⟨v,us,rfl,h1,rfl⟩:=hA'
 refine(show Calls Go.Proofs.Tryz.prog 85 #[v] w _ from(A3c hg hH.I_lt hx h1 hr).mono ?_)
 rintro e w' ⟨rfl,hgr⟩
 refine⟨[_],E,rfl,rp (O6 hH) hgr,?_⟩
 exact Ah.cons (show Ag E [] w' (.b _) _ from by simp only[Ag,AR]) Ah.nil
end
def Lu (x:List (List (Int×Int×Int×Int×Int×Int×Unit))×Unit):Option (Bool×Unit):=A3k J5 x
def A8v:Cfg:={ti:=Aw,ents:=[Yb],ann:=[],lent:=0}
def cd:Ent:=⟨85,⟨(.slot (Ty.slice (Ty.slice YOp)) .nil),.nil⟩,⟨(.slot (Ty.bool) .nil),.nil⟩,Lu⟩
theorem rR:Ai Go.Proofs.Tryz.prog cd:=A8u rS
abbrev Ah0:=List (List A6)×Int×List (List A6)×Int×Bool×Int×Unit
abbrev Agu:=Int×Bool×Int×List (List A2)×List A6×List Int×A8
abbrev Agw:=Bool×Int×List (List A2)×List A6×List Int×A8
def Of (i:Ah0)(v:Agu)(R:Type)(K:Agu ⊕ Agw->Option R):Option R:=bif decide (v.1<i.2.2.2.1)then(lAt i.2.2.1 v.1).bind fun a=>if 0<=v.1/\v.1<(v.2.2.2.2.2.1.length:Int)then v.2.2.2.2.2.1[0+v.1.toNat]?.bind fun b=>bif b==(a.length:Int)then K (.inl (IntKind.i64.wrap (v.1+1),v.2.1,v.2.2.1,v.2.2.2.1,v.2.2.2.2.1,v.2.2.2.2.2.1,v.2.2.2.2.2.2.1,v.2.2.2.2.2.2.2.1,v.2.2.2.2.2.2.2.2.1,()))else if 0<=v.1/\v.1<(v.2.2.2.2.2.1.length:Int)then v.2.2.2.2.2.1[0+v.1.toNat]?.bind fun c=>(lAt a c).bind fun d=>if(v.2.2.2.2.1++[(d.1,d.2.1,d.2.2.1,d.2.2.2.1,d.2.2.2.2.1,d.2.2.2.2.2.1,())]).length<=733007751850 then(F8 (d.1,d.2.1,d.2.2.1,d.2.2.2.1,d.2.2.2.2.1,d.2.2.2.2.2.1,v.2.1,v.2.2.1,v.2.2.2.1,v.2.2.2.2.2.2.1,v.2.2.2.2.2.2.2.1,v.2.2.2.2.2.2.2.2.1,())).bind fun e=>bif e.1==0 then if 0<=v.1/\v.1<(v.2.2.2.2.2.1.length:Int)then v.2.2.2.2.2.1[0+v.1.toNat]?.bind fun f=>if 0<=v.1/\v.1<(v.2.2.2.2.2.1.length:Int)then v.2.2.2.2.2.1[0+v.1.toNat]?.bind fun g=>K (.inl (IntKind.i64.wrap (v.1+1),e.2.1,e.2.2.1,e.2.2.2.1,v.2.2.2.2.1++[(d.1,d.2.1,d.2.2.1,d.2.2.2.1,d.2.2.2.2.1,d.2.2.2.2.2.1,())],v.2.2.2.2.2.1.set (0+v.1.toNat) (IntKind.i64.wrap (f+1)),e.2.2.2.2.1,e.2.2.2.2.2.1,e.2.2.2.2.2.2.1,()))else none else none else bif e.1==1 then K (.inl (IntKind.i64.wrap (v.1+1),e.2.1,e.2.2.1,e.2.2.2.1,v.2.2.2.2.1++[(d.1,d.2.1,d.2.2.1,d.2.2.2.1,d.2.2.2.2.1,d.2.2.2.2.2.1,())],v.2.2.2.2.2.1,e.2.2.2.2.1,e.2.2.2.2.2.1,e.2.2.2.2.2.2.1,()))else if 0<=v.1/\v.1<(v.2.2.2.2.2.1.length:Int)then v.2.2.2.2.2.1[0+v.1.toNat]?.bind fun f=>K (.inl (IntKind.i64.wrap (v.1+1),e.2.1,e.2.2.1,e.2.2.2.1,v.2.2.2.2.1++[(d.1,d.2.1,d.2.2.1,d.2.2.2.1,d.2.2.2.2.1,d.2.2.2.2.2.1,())],v.2.2.2.2.2.1.set (0+v.1.toNat) (a.length:Int),e.2.2.2.2.1,e.2.2.2.2.2.1,e.2.2.2.2.2.2.1,()))else none else none else none else none else K (.inr (v.2.1,v.2.2.1,v.2.2.2.1,v.2.2.2.2.1,v.2.2.2.2.2.1,v.2.2.2.2.2.2.1,v.2.2.2.2.2.2.2.1,v.2.2.2.2.2.2.2.2.1,()))
theorem iw:Bg Of:=fun i v R K=>Ae (Ac fun _=>Aq (Ac fun _=>Ae (Aa) (Aq (Ac fun _=>Ac fun _=>Aq (Ac fun _=>Ae (Aq (Ac fun _=>Aq (Ac fun _=>Aa))) (Ae (Aa) (Aq (Ac fun _=>Aa)))))))) (Aa)
def A50:Tmpl:=⟨(.junk (.slot (.slice (.slice YOp)) (jk 2 (.ptr 0 0 0 (.junk (.ptr 1 0 0 (.own 3 (.own 4 (jk 13 (.slot .i (.junk (.slot (.slice (.slice YOp)) (si 2 (jk 44 .nil)))))))))))))),(.cells 6 (.slot .bool (.const (AV.nils) (.const (AV.nils) (.const (AV.nils) (.const (AV.nils) (.slot .i .nil)))))) (.cells 6 (.slot .bool (.own 2 (.own 5 (.own 6 (.own 7 (.slot .i .nil)))))) (.tree false 1 (.slice Af) (.lst false YOp (.lst false .i (.tree false 1 Ad (.lst false A0 (.lst false A0 .nil))))))))⟩
def Ags:Exs Ah0 Agw:=x1 (.exit 2) fun i p=>⟨jn 1 (AV.pv (.slice (.slice YOp)) i.1::jn 2 (AV.ptr 0 none 0 0::jn 1 (AV.ptr 1 none 0 0::AV.own 3 none none::AV.own 4 none none::jn 13 (.n (i.2.1)::jn 48 ([]))))),[some (Cont.cells 6 [[AV.pv .bool i.2.2.2.2.1,AV.nils,AV.nils,AV.nils,AV.nils,AV.pv .i i.2.2.2.2.2.1]]),some (Cont.cells 6 [[AV.pv .bool p.1,AV.own 2 none none,AV.own 5 none none,AV.own 6 none none,AV.own 7 none none,AV.pv .i p.2.1]]),some (Cont.tree false 1 (.slice Af) p.2.2.1 none),some (Cont.lst false YOp p.2.2.2.1),some (Cont.lst false .i p.2.2.2.2.1),some (Cont.tree false 1 Ad p.2.2.2.2.2.1 none),some (Cont.lst false A0 p.2.2.2.2.2.2.1),some (Cont.lst false A0 p.2.2.2.2.2.2.2.1)]⟩
def Agy:=((.i (.i (.i (.i (.v (.i (.i (.v (.v (.v (.v (.v (.v (.v (.v .n))))))))))))))):Pk A50.ty _ _)
abbrev Ah1:=List (List A6)×Bool×Int×Unit
abbrev Agv:=Int×Bool×Int×List (List A2)×List A6×List Int×A8
abbrev Agx:=Bool×Int×List (List A2)×List A6×List Int×A8
def Og (i:Ah1)(v:Agv)(R:Type)(K:Agv ⊕ Agx->Option R):Option R:=bif decide (v.1<200)then(AC (fun a=>Of (i.1,v.1,i.1,(i.1.length:Int),i.2.1,i.2.2.1,()) a _ some) (0,v.2.1,v.2.2.1,v.2.2.2.1,v.2.2.2.2.1,v.2.2.2.2.2.1,v.2.2.2.2.2.2.1,v.2.2.2.2.2.2.2.1,v.2.2.2.2.2.2.2.2.1,())).bind fun p=>K (.inl (IntKind.i64.wrap (v.1+1),p.1,p.2.1,p.2.2.1,p.2.2.2.1,p.2.2.2.2.1,p.2.2.2.2.2.1,p.2.2.2.2.2.2.1,p.2.2.2.2.2.2.2.1,()))else K (.inr (v.2.1,v.2.2.1,v.2.2.2.1,v.2.2.2.2.1,v.2.2.2.2.2.1,v.2.2.2.2.2.2.1,v.2.2.2.2.2.2.2.1,v.2.2.2.2.2.2.2.2.1,()))
theorem iy:Bg Og:=fun i v R K=>Ae (Ac fun _=>Aa) (Aa)
def A51:Tmpl:=⟨(.junk (.slot (.slice (.slice YOp)) (jk 2 (.ptr 0 0 0 (.junk (.ptr 1 0 0 (.own 3 (.own 4 (jk 13 (.slot .i (jk 48 .nil))))))))))),(.cells 6 (.slot .bool (.const (AV.nils) (.const (AV.nils) (.const (AV.nils) (.const (AV.nils) (.slot .i .nil)))))) (.cells 6 (.slot .bool (.own 2 (.own 5 (.own 6 (.own 7 (.slot .i .nil)))))) (.tree false 1 (.slice Af) (.lst false YOp (.lst false .i (.tree false 1 Ad (.lst false A0 (.lst false A0 .nil))))))))⟩
def Agt:Exs Ah1 Agx:=x1 (.exit 0) fun i p=>⟨jn 4 (AV.ptr 0 none 0 0::jn 1 (AV.ptr 1 none 0 0::AV.own 3 none none::jn 63 ([]))),[some (Cont.cells 6 [[AV.pv .bool i.2.1,AV.nils,AV.nils,AV.nils,AV.nils,AV.pv .i i.2.2.1]]),some (Cont.cells 6 [[AV.pv .bool p.1,AV.own 2 none none,AV.own 5 none none,AV.own 6 none none,AV.own 7 none none,AV.pv .i p.2.1]]),some (Cont.tree false 1 (.slice Af) p.2.2.1 none),some (Cont.lst false YOp p.2.2.2.1),some (Cont.lst false .i p.2.2.2.2.1),some (Cont.tree false 1 Ad p.2.2.2.2.2.1 none),some (Cont.lst false A0 p.2.2.2.2.2.2.1),some (Cont.lst false A0 p.2.2.2.2.2.2.2.1)]⟩
def Agz:=((.i (.v (.i (.i (.v (.v (.v (.v (.v (.v (.v (.v .n)))))))))))):Pk A51.ty _ _)
def Acj:Cfg:={ti:=Aw,ents:=[Uf,Y1,cd],ann:=[(8,Ao A50 0 (spP Agy) Of Ags.E),(6,Ao A51 0 (spP Agz) Og Agt.E)],lent:=0}
def Rv (x:Bool×List (List A6)×Unit):Option (Bool×Int×List (List A2)×List A3×List A1×List A1×List A6×Unit):=(K4 (x.1,())).bind fun v=>(Lu (x.2.1,())).bind fun a=>bif !a.1 then some (v.1,v.2.1,v.2.2.1,[],[],[],[],())else if 0<=(x.2.1.length:Int)/\(x.2.1.length:Int)<=(x.2.1.length:Int)/\(x.2.1.length:Int)<=(↑4398046511104:Int)then(AC (fun v=>Og (x.2.1,false,0,()) v _ some) (0,v.1,v.2.1,v.2.2.1,[],List.replicate ((x.2.1.length:Int).toNat) 0,[],[],[],())).bind fun p=>some (p.1,p.2.1,p.2.2.1,p.2.2.2.2.2.1,p.2.2.2.2.2.2.1,p.2.2.2.2.2.2.2.1,p.2.2.2.1,())else none
def lf:Ent:=⟨39,⟨(.slot .bool (.slot (.slice (.slice YOp)) .nil)),.nil⟩,⟨(.agg (.slot .bool (.own 0 (.own 1 (.own 2 (.own 3 (.slot .i .nil)))))) (.own 4 .nil)),(.tree false 1 (.slice Af) (.tree false 1 Ad (.lst false A0 (.lst false A0 (.lst false YOp .nil)))))⟩,Rv⟩
theorem A53:CfgOK Go.Proofs.Tryz.prog Acj:=hcB (all_cons ml (all_cons ug (all_cons rR all_nil)))
theorem A8t:B9 Go.Proofs.Tryz.prog Acj (lpc Go.Proofs.Tryz.f39 1):=lkA A53 A50 Agy Of Ags [1,4,6,7,8,22] iw
theorem Av2:B9 Go.Proofs.Tryz.prog Acj (lpc Go.Proofs.Tryz.f39 0):=lkB A53 A51 Agz Og Agt [4,6,7] iy A8t
theorem A52:Ai Go.Proofs.Tryz.prog lf:=okC A53 Go.Proofs.Tryz.func39 Av2 A8t
abbrev cy:=List (List A6)×List (List A6)×Unit
abbrev cv:=Int×Unit
abbrev cw:=Unit ⊕ Unit
def KV (i:cy)(v:cv)(R:Type)(K:cv ⊕ cw->Option R):Option R:=bif decide (v.1<(i.1.length:Int))then(lAt i.1 v.1).bind fun a=>(lAt i.2.1 v.1).bind fun b=>(K2 (a,b,())).bind fun c=>bif !c.1 then K (.inr (.inl ()))else K (.inl (IntKind.i64.wrap (v.1+1),()))else K (.inr (.inr ()))
theorem Xl:Bg KV:=fun i v R K=>Ae (Ac fun _=>Ac fun _=>Ac fun _=>Ae (Aa) (Aa)) (Aa)
def W5:Tmpl:=⟨(.slot (.slice (.slice YOp)) (.slot (.slice (.slice YOp)) (jk 3 (.slot .i (jk 21 .nil))))),.nil⟩
def cu:Exs cy cw:=xs .ret (fun i p=>⟨jn 4 (.b (false)::jn 22 ([])),[]⟩)<|x1 (.exit 0) fun i p=>⟨jn 27 ([]),[]⟩
def cx:=((.i (.i (.v .n))):Pk W5.ty _ _)
def le:Cfg:={ti:=Aw,ents:=[VO],ann:=[(4,Ao W5 0 (spP cx) KV cu.E)],lent:=0}
def Pp (x:List (List A6)×List (List A6)×Unit):Option (Bool×Unit):=bif (x.1.length:Int) != (x.2.1.length:Int)then some (false,())else(AC (fun v=>KV (x.1,x.2.1,()) v _ some) (0,())).bind fun p=>Az p (fun p=>some (false,())) fun p=>some (true,())
def lc:Ent:=⟨25,⟨(.slot (.slice (.slice YOp)) (.slot (.slice (.slice YOp)) .nil)),.nil⟩,⟨(.slot .bool .nil),.nil⟩,Pp⟩
theorem cA:CfgOK Go.Proofs.Tryz.prog le:=hcB (all_cons iG all_nil)
theorem la:B9 Go.Proofs.Tryz.prog le (lpc Go.Proofs.Tryz.f25 0):=lkA cA W5 cx KV cu [4] Xl
theorem rQ:Ai Go.Proofs.Tryz.prog lc:=okB cA Go.Proofs.Tryz.func25 la
abbrev zg:=Nat×Unit
abbrev zd:=Int×Int×List (List A6)×Unit
abbrev ze:=Int×List (List A6)×Unit
def J8 (i:zg)(v:zd)(R:Type)(K:zd ⊕ ze->Option R):Option R:=v.2.2.1[i.1]?.bind fun a=>bif decide (v.2.1<(a.length:Int))then v.2.2.1[i.1]?.bind fun b=>if 0<=v.2.1/\v.2.1<(b.length:Int)then v.2.2.1[i.1]?.bind fun c=>c[0+v.2.1.toNat]?.bind fun d=>(v.2.2.1.set i.1 (c.set (0+v.2.1.toNat) (v.1,d.2.1,d.2.2.1,d.2.2.2.1,d.2.2.2.2.1,d.2.2.2.2.2.1,())))[i.1]?.bind fun e=>if 0<=v.2.1/\v.2.1<(e.length:Int)then(v.2.2.1.set i.1 (c.set (0+v.2.1.toNat) (v.1,d.2.1,d.2.2.1,d.2.2.2.1,d.2.2.2.2.1,d.2.2.2.2.2.1,())))[i.1]?.bind fun f=>f[0+v.2.1.toNat]?.bind fun g=>((v.2.2.1.set i.1 (c.set (0+v.2.1.toNat) (v.1,d.2.1,d.2.2.1,d.2.2.2.1,d.2.2.2.2.1,d.2.2.2.2.2.1,()))).set i.1 (f.set (0+v.2.1.toNat) (g.1,IntKind.i64.wrap (v.1+1),g.2.2.1,g.2.2.2.1,g.2.2.2.2.1,g.2.2.2.2.2.1,())))[i.1]?.bind fun h=>if 0<=v.2.1/\v.2.1<(h.length:Int)then((v.2.2.1.set i.1 (c.set (0+v.2.1.toNat) (v.1,d.2.1,d.2.2.1,d.2.2.2.1,d.2.2.2.2.1,d.2.2.2.2.2.1,()))).set i.1 (f.set (0+v.2.1.toNat) (g.1,IntKind.i64.wrap (v.1+1),g.2.2.1,g.2.2.2.1,g.2.2.2.2.1,g.2.2.2.2.2.1,())))[i.1]?.bind fun j=>j[0+v.2.1.toNat]?.bind fun k=>(((v.2.2.1.set i.1 (c.set (0+v.2.1.toNat) (v.1,d.2.1,d.2.2.1,d.2.2.2.1,d.2.2.2.2.1,d.2.2.2.2.2.1,()))).set i.1 (f.set (0+v.2.1.toNat) (g.1,IntKind.i64.wrap (v.1+1),g.2.2.1,g.2.2.2.1,g.2.2.2.2.1,g.2.2.2.2.2.1,()))).set i.1 (j.set (0+v.2.1.toNat) (k.1,k.2.1,IntKind.i64.wrap (IntKind.i64.wrap (v.1+1)+1),k.2.2.2.1,k.2.2.2.2.1,k.2.2.2.2.2.1,())))[i.1]?.bind fun l=>if 0<=v.2.1/\v.2.1<(l.length:Int)then(((v.2.2.1.set i.1 (c.set (0+v.2.1.toNat) (v.1,d.2.1,d.2.2.1,d.2.2.2.1,d.2.2.2.2.1,d.2.2.2.2.2.1,()))).set i.1 (f.set (0+v.2.1.toNat) (g.1,IntKind.i64.wrap (v.1+1),g.2.2.1,g.2.2.2.1,g.2.2.2.2.1,g.2.2.2.2.2.1,()))).set i.1 (j.set (0+v.2.1.toNat) (k.1,k.2.1,IntKind.i64.wrap (IntKind.i64.wrap (v.1+1)+1),k.2.2.2.1,k.2.2.2.2.1,k.2.2.2.2.2.1,())))[i.1]?.bind fun m=>m[0+v.2.1.toNat]?.bind fun n=>((((v.2.2.1.set i.1 (c.set (0+v.2.1.toNat) (v.1,d.2.1,d.2.2.1,d.2.2.2.1,d.2.2.2.2.1,d.2.2.2.2.2.1,()))).set i.1 (f.set (0+v.2.1.toNat) (g.1,IntKind.i64.wrap (v.1+1),g.2.2.1,g.2.2.2.1,g.2.2.2.2.1,g.2.2.2.2.2.1,()))).set i.1 (j.set (0+v.2.1.toNat) (k.1,k.2.1,IntKind.i64.wrap (IntKind.i64.wrap (v.1+1)+1),k.2.2.2.1,k.2.2.2.2.1,k.2.2.2.2.2.1,()))).set i.1 (m.set (0+v.2.1.toNat) (n.1,n.2.1,n.2.2.1,IntKind.i64.wrap (IntKind.i64.wrap (IntKind.i64.wrap (v.1+1)+1)+1),n.2.2.2.2.1,n.2.2.2.2.2.1,())))[i.1]?.bind fun o=>if 0<=v.2.1/\v.2.1<(o.length:Int)then((((v.2.2.1.set i.1 (c.set (0+v.2.1.toNat) (v.1,d.2.1,d.2.2.1,d.2.2.2.1,d.2.2.2.2.1,d.2.2.2.2.2.1,()))).set i.1 (f.set (0+v.2.1.toNat) (g.1,IntKind.i64.wrap (v.1+1),g.2.2.1,g.2.2.2.1,g.2.2.2.2.1,g.2.2.2.2.2.1,()))).set i.1 (j.set (0+v.2.1.toNat) (k.1,k.2.1,IntKind.i64.wrap (IntKind.i64.wrap (v.1+1)+1),k.2.2.2.1,k.2.2.2.2.1,k.2.2.2.2.2.1,()))).set i.1 (m.set (0+v.2.1.toNat) (n.1,n.2.1,n.2.2.1,IntKind.i64.wrap (IntKind.i64.wrap (IntKind.i64.wrap (v.1+1)+1)+1),n.2.2.2.2.1,n.2.2.2.2.2.1,())))[i.1]?.bind fun q=>q[0+v.2.1.toNat]?.bind fun r=>(((((v.2.2.1.set i.1 (c.set (0+v.2.1.toNat) (v.1,d.2.1,d.2.2.1,d.2.2.2.1,d.2.2.2.2.1,d.2.2.2.2.2.1,()))).set i.1 (f.set (0+v.2.1.toNat) (g.1,IntKind.i64.wrap (v.1+1),g.2.2.1,g.2.2.2.1,g.2.2.2.2.1,g.2.2.2.2.2.1,()))).set i.1 (j.set (0+v.2.1.toNat) (k.1,k.2.1,IntKind.i64.wrap (IntKind.i64.wrap (v.1+1)+1),k.2.2.2.1,k.2.2.2.2.1,k.2.2.2.2.2.1,()))).set i.1 (m.set (0+v.2.1.toNat) (n.1,n.2.1,n.2.2.1,IntKind.i64.wrap (IntKind.i64.wrap (IntKind.i64.wrap (v.1+1)+1)+1),n.2.2.2.2.1,n.2.2.2.2.2.1,()))).set i.1 (q.set (0+v.2.1.toNat) (r.1,r.2.1,r.2.2.1,r.2.2.2.1,IntKind.i64.wrap (IntKind.i64.wrap (IntKind.i64.wrap (IntKind.i64.wrap (v.1+1)+1)+1)+1),r.2.2.2.2.2.1,())))[i.1]?.bind fun s=>if 0<=v.2.1/\v.2.1<(s.length:Int)then(((((v.2.2.1.set i.1 (c.set (0+v.2.1.toNat) (v.1,d.2.1,d.2.2.1,d.2.2.2.1,d.2.2.2.2.1,d.2.2.2.2.2.1,()))).set i.1 (f.set (0+v.2.1.toNat) (g.1,IntKind.i64.wrap (v.1+1),g.2.2.1,g.2.2.2.1,g.2.2.2.2.1,g.2.2.2.2.2.1,()))).set i.1 (j.set (0+v.2.1.toNat) (k.1,k.2.1,IntKind.i64.wrap (IntKind.i64.wrap (v.1+1)+1),k.2.2.2.1,k.2.2.2.2.1,k.2.2.2.2.2.1,()))).set i.1 (m.set (0+v.2.1.toNat) (n.1,n.2.1,n.2.2.1,IntKind.i64.wrap (IntKind.i64.wrap (IntKind.i64.wrap (v.1+1)+1)+1),n.2.2.2.2.1,n.2.2.2.2.2.1,()))).set i.1 (q.set (0+v.2.1.toNat) (r.1,r.2.1,r.2.2.1,r.2.2.2.1,IntKind.i64.wrap (IntKind.i64.wrap (IntKind.i64.wrap (IntKind.i64.wrap (v.1+1)+1)+1)+1),r.2.2.2.2.2.1,())))[i.1]?.bind fun t=>t[0+v.2.1.toNat]?.bind fun u=>K (.inl (IntKind.i64.wrap (IntKind.i64.wrap (IntKind.i64.wrap (IntKind.i64.wrap (IntKind.i64.wrap (IntKind.i64.wrap (v.1+1)+1)+1)+1)+1)+1),IntKind.i64.wrap (v.2.1+1),(((((v.2.2.1.set i.1 (c.set (0+v.2.1.toNat) (v.1,d.2.1,d.2.2.1,d.2.2.2.1,d.2.2.2.2.1,d.2.2.2.2.2.1,()))).set i.1 (f.set (0+v.2.1.toNat) (g.1,IntKind.i64.wrap (v.1+1),g.2.2.1,g.2.2.2.1,g.2.2.2.2.1,g.2.2.2.2.2.1,()))).set i.1 (j.set (0+v.2.1.toNat) (k.1,k.2.1,IntKind.i64.wrap (IntKind.i64.wrap (v.1+1)+1),k.2.2.2.1,k.2.2.2.2.1,k.2.2.2.2.2.1,()))).set i.1 (m.set (0+v.2.1.toNat) (n.1,n.2.1,n.2.2.1,IntKind.i64.wrap (IntKind.i64.wrap (IntKind.i64.wrap (v.1+1)+1)+1),n.2.2.2.2.1,n.2.2.2.2.2.1,()))).set i.1 (q.set (0+v.2.1.toNat) (r.1,r.2.1,r.2.2.1,r.2.2.2.1,IntKind.i64.wrap (IntKind.i64.wrap (IntKind.i64.wrap (IntKind.i64.wrap (v.1+1)+1)+1)+1),r.2.2.2.2.2.1,()))).set i.1 (t.set (0+v.2.1.toNat) (u.1,u.2.1,u.2.2.1,u.2.2.2.1,u.2.2.2.2.1,IntKind.i64.wrap (IntKind.i64.wrap (IntKind.i64.wrap (IntKind.i64.wrap (IntKind.i64.wrap (v.1+1)+1)+1)+1)+1),())),()))else none else none else none else none else none else none else K (.inr (v.1,v.2.2.1,()))
theorem TF:Bg J8:=fun i v R K=>Ac fun _=>Ae (Ac fun _=>Aq (Ac fun _=>Ac fun _=>Ac fun _=>Aq (Ac fun _=>Ac fun _=>Ac fun _=>Aq (Ac fun _=>Ac fun _=>Ac fun _=>Aq (Ac fun _=>Ac fun _=>Ac fun _=>Aq (Ac fun _=>Ac fun _=>Ac fun _=>Aq (Ac fun _=>Ac fun _=>Aa))))))) (Aa)
def l9:Tmpl:=⟨(.nown 0 0 (.slot .i (jk 3 (.slot .i (jk 49 .nil))))),(.tree false 0 (.slice YOp) .nil)⟩
def zc:Exs zg ze:=x1 (.exit 0) fun i p=>⟨jn 1 (.n (p.1)::jn 53 ([])),[some (Cont.tree false 0 (.slice YOp) p.2.1 none)]⟩
def zf:=((.i (.v (.v (.v .n)))):Pk l9.ty _ _)
def A8s:Cfg:={ti:=Aw,ents:=[],ann:=[(2,Ao l9 1 (spP zf) J8 zc.E)],lent:=1}
def MY (x:Nat×Int×List (List A6)×Unit):Option (Int×List (List A6)×Unit):=(AC (fun v=>J8 (x.1,()) v _ some) (x.2.1,0,x.2.2.1,())).bind fun p=>some (p.1,p.2.1,())
def Ya:Ent:=⟨35,⟨(.nown 0 0 (.slot .i .nil)),(.tree false 0 (.slice YOp) .nil)⟩,⟨(.slot .i .nil),(.tree false 0 (.slice YOp) .nil)⟩,MY⟩
theorem zh:CfgOK Go.Proofs.Tryz.prog A8s:=hcB all_nil
theorem A8r:B9 Go.Proofs.Tryz.prog A8s (lpc Go.Proofs.Tryz.f35 0):=lkA zh l9 zf J8 zc [1] TF
theorem rP:Ai Go.Proofs.Tryz.prog Ya:=okB zh Go.Proofs.Tryz.func35 A8r
abbrev zb:=Unit
abbrev z7:=Int×Int×List (List A6)×Unit
abbrev z8:=Int×List (List A6)×Unit
def GA (i:zb)(v:z7)(R:Type)(K:z7 ⊕ z8->Option R):Option R:=bif decide (v.2.1<(v.2.2.1.length:Int))then if 0<=v.2.1/\v.2.1<(v.2.2.1.length:Int)then v.2.2.1[0+v.2.1.toNat]?.bind fun a=>(MY (0+v.2.1.toNat,v.1,v.2.2.1,())).bind fun b=>K (.inl (b.1,IntKind.i64.wrap (v.2.1+1),b.2.1,()))else none else K (.inr (v.1,v.2.2.1,()))
theorem Th:Bg GA:=fun i v R K=>Ae (Aq (Ac fun _=>Ac fun _=>Aa)) (Aa)
def l6:Tmpl:=⟨(.own 0 (.slot .i (jk 3 (.slot .i (jk 13 .nil))))),(.tree false 0 (.slice YOp) .nil)⟩
def z6:Exs zb z8:=x1 (.exit 0) fun i p=>⟨jn 1 (.n (p.1)::jn 17 ([])),[some (Cont.tree false 0 (.slice YOp) p.2.1 none)]⟩
def za:=((.v (.v (.v .n))):Pk l6.ty _ _)
def l8:Cfg:={ti:=Aw,ents:=[Ya],ann:=[(2,Ao l6 1 (spP za) GA z6.E)],lent:=1}
def M6 (x:Int×List (List A6)×Unit):Option (Int×List (List A6)×Unit):=(AC (fun v=>GA () v _ some) (x.1,0,x.2.1,())).bind fun p=>some (p.1,p.2.1,())
def l7:Ent:=⟨26,⟨(.own 0 (.slot .i .nil)),(.tree false 0 (.slice YOp) .nil)⟩,⟨(.slot .i .nil),(.tree false 0 (.slice YOp) .nil)⟩,M6⟩
theorem ct:CfgOK Go.Proofs.Tryz.prog l8:=hcB (all_cons rP all_nil)
theorem A8q:B9 Go.Proofs.Tryz.prog l8 (lpc Go.Proofs.Tryz.f26 0):=lkA ct l6 za GA z6 [1] Th
theorem rO:Ai Go.Proofs.Tryz.prog l7:=okB ct Go.Proofs.Tryz.func26 A8q
abbrev AFf:=List (List A6)×Bool×Int×A7
abbrev AFc:=Int×List Int×Unit
abbrev AFd:=List Int×Unit ⊕ List Int×Unit
def Qo (i:AFf)(v:AFc)(R:Type)(K:AFc ⊕ AFd->Option R):Option R:=bif decide (v.1<(i.1.length:Int))then(KB (i.1,())).bind fun a=>bif a.1 then(lAt i.1 v.1).bind fun b=>(lAt b 0).bind fun c=>(CJ ((i.2.1,(i.2.2.2.1,()),i.2.2.2.2.1,i.2.2.2.2.2.1,i.2.2.2.2.2.2.1,i.2.2.1,()),c.2.1,())).bind fun d=>(lAt i.1 v.1).bind fun e=>(lAt i.1 v.1).bind fun f=>(lAt e (IntKind.i64.wrap ((f.length:Int)-1))).bind fun g=>bif g.1==5 then bif decide (d.1>=0)then if 0<=d.1/\d.1<(i.2.2.2.2.1.length:Int)then i.2.2.2.2.1[0+d.1.toNat]?.bind fun h=>bif h.2.2.1==3 then(lAt i.1 v.1).bind fun j=>(lAt j 0).bind fun k=>if(v.2.1++[k.2.1]).length<=4398046511104 then K (.inl (IntKind.i64.wrap (v.1+1),v.2.1++[k.2.1],()))else none else K (.inl (IntKind.i64.wrap (v.1+1),v.2.1,()))else none else K (.inl (IntKind.i64.wrap (v.1+1),v.2.1,()))else K (.inl (IntKind.i64.wrap (v.1+1),v.2.1,()))else K (.inr (.inl (v.2.1,())))else K (.inr (.inr (v.2.1,())))
theorem A3l:Bg Qo:=fun i v R K=>Ae (Ac fun _=>Ae (Ac fun _=>Ac fun _=>Ac fun _=>Ac fun _=>Ac fun _=>Ac fun _=>Ae (Ae (Aq (Ac fun _=>Ae (Ac fun _=>Ac fun _=>Aq (Aa)) (Aa))) (Aa)) (Aa)) (Aa)) (Aa)
def Azq:Tmpl:=⟨(.slot (.slice (.slice YOp)) (jk 2 (.own 0 (.ptr 1 0 0 (.junk (.slot .i (jk 64 .nil))))))),(.lst false .i (.cells 6 (.slot .bool (.own 2 (.own 3 (.own 4 (.own 5 (.slot .i .nil)))))) (.tree false 1 (.slice Af) (.lst false Ad (.lst false A0 (.lst false A0 .nil))))))⟩
def AFb:Exs AFf AFd:=xs (.exit 0) (fun i p=>⟨jn 3 (AV.own 0 none none::jn 67 ([])),[some (Cont.lst false .i p.1),some (Cont.cells 6 [[AV.pv .bool i.2.1,AV.own 2 none none,AV.own 3 none none,AV.own 4 none none,AV.own 5 none none,AV.pv .i i.2.2.1]]),some (Cont.tree false 1 (.slice Af) i.2.2.2.1 none),some (Cont.lst false Ad i.2.2.2.2.1),some (Cont.lst false A0 i.2.2.2.2.2.1),some (Cont.lst false A0 i.2.2.2.2.2.2.1)]⟩)<|x1 (.exit 0) fun i p=>⟨jn 3 (AV.own 0 none none::jn 67 ([])),[some (Cont.lst false .i p.1),some (Cont.cells 6 [[AV.pv .bool i.2.1,AV.own 2 none none,AV.own 3 none none,AV.own 4 none none,AV.own 5 none none,AV.pv .i i.2.2.1]]),some (Cont.tree false 1 (.slice Af) i.2.2.2.1 none),some (Cont.lst false Ad i.2.2.2.2.1),some (Cont.lst false A0 i.2.2.2.2.2.1),some (Cont.lst false A0 i.2.2.2.2.2.2.1)]⟩
def AFe:=((.i (.v (.v (.i (.i (.i (.i (.i (.i .n))))))))):Pk Azq.ty _ _)
def AIc:Cfg:={ti:=Aw,ents:=[ra,WB,XE],ann:=[(4,Ao Azq 0 (spP AFe) Qo AFb.E)],lent:=0}
def cq (x:List (List A6)×Unit):Option (List Int×Unit):=(SB (true,x.1,())).bind fun v=>(AC (fun a=>Qo (x.1,v.1,v.2.1,v.2.2.1,v.2.2.2.2.1,v.2.2.2.2.2.1,v.2.2.2.2.2.2.1,()) a _ some) (0,[],())).bind fun p=>Az p (fun p=>some (p.1,())) fun p=>some (p.1,())
def A3a:Ent:=⟨21,⟨(.slot (.slice (.slice YOp)) .nil),.nil⟩,⟨(.own 0 .nil),(.lst false .i .nil)⟩,cq⟩
theorem AFg:CfgOK Go.Proofs.Tryz.prog AIc:=hcB (all_cons A57 (all_cons qH (all_cons iq all_nil)))
theorem AIb:B9 Go.Proofs.Tryz.prog AIc (lpc Go.Proofs.Tryz.f21 0):=lkA AFg Azq AFe Qo AFb [3] A3l
theorem Age:Ai Go.Proofs.Tryz.prog A3a:=okB AFg Go.Proofs.Tryz.func21 AIb
abbrev AFa:=Int×List A3×Int×Unit
abbrev AF7:=Int×List Int×Unit
abbrev AF8:=List Int×Unit
def K3 (i:AFa)(v:AF7)(R:Type)(K:AF7 ⊕ AF8->Option R):Option R:=bif decide (v.1<i.2.2.1)then(lAt i.2.1 v.1).bind fun a=>bif a.2.2.1==i.1 then if(v.2.1++[a.1]).length<=4398046511104 then K (.inl (IntKind.i64.wrap (v.1+1),v.2.1++[a.1],()))else none else K (.inl (IntKind.i64.wrap (v.1+1),v.2.1,()))else K (.inr (v.2.1,()))
theorem Xo:Bg K3:=fun i v R K=>Ae (Ac fun _=>Ae (Aq (Aa)) (Aa)) (Aa)
def Azp:Tmpl:=⟨(.junk (.slot .i (jk 3 (.own 0 (jk 4 (.slot (.slice Ad) (si 2 (jk 14 .nil)))))))),(.lst false .i .nil)⟩
def AF6:Exs AFa AF8:=x1 (.exit 0) fun i p=>⟨jn 5 (AV.own 0 none none::jn 21 ([])),[some (Cont.lst false .i p.1)]⟩
def AF9:=((.i (.i (.i (.v (.v .n))))):Pk Azp.ty _ _)
def A8o:Cfg:={ti:=Aw,ents:=[],ann:=[(3,Ao Azp 0 (spP AF9) K3 AF6.E)],lent:=0}
def O3 (x:A5×Int×Unit):Option (List Int×Unit):=(AC (fun v=>K3 (x.2.1,x.1.2.2.1,(x.1.2.2.1.length:Int),()) v _ some) (0,[],())).bind fun p=>some (p.1,())
def r8:Ent:=⟨160,⟨(.slot D9 (.slot .i .nil)),.nil⟩,⟨(.own 0 .nil),(.lst false .i .nil)⟩,O3⟩
theorem z5:CfgOK Go.Proofs.Tryz.prog A8o:=hcB all_nil
theorem AIa:B9 Go.Proofs.Tryz.prog A8o (lpc Go.Proofs.Tryz.f160 0):=lkA z5 Azp AF9 K3 AF6 [5] Xo
theorem Agc:Ai Go.Proofs.Tryz.prog r8:=okB z5 Go.Proofs.Tryz.func160 AIa
abbrev AF5:=List (List A6)×Int×List Int×Unit
abbrev AF2:=Int×List Int×Unit
abbrev AF3:=List Int×Unit
def XJ (i:AF5)(v:AF2)(R:Type)(K:AF2 ⊕ AF3->Option R):Option R:=bif decide (v.1<i.2.1)then(lAt i.1 v.1).bind fun a=>bif decide ((a.length:Int)>0)then(lAt a (IntKind.i64.wrap ((a.length:Int)-1))).bind fun b=>bif b.1==5 then(lAt a 0).bind fun c=>(E6 (i.2.2.1,c.2.1,())).bind fun d=>bif d.1 then(lAt a 0).bind fun e=>if(v.2.1++[e.2.1]).length<=4398046511104 then K (.inl (IntKind.i64.wrap (v.1+1),v.2.1++[e.2.1],()))else none else K (.inl (IntKind.i64.wrap (v.1+1),v.2.1,()))else K (.inl (IntKind.i64.wrap (v.1+1),v.2.1,()))else K (.inl (IntKind.i64.wrap (v.1+1),v.2.1,()))else K (.inr (v.2.1,()))
theorem Ab9:Bg XJ:=fun i v R K=>Ae (Ac fun _=>Ae (Ac fun _=>Ae (Ac fun _=>Ac fun _=>Ae (Ac fun _=>Aq (Aa)) (Aa)) (Aa)) (Aa)) (Aa)
def Azo:Tmpl:=⟨(jk 5 (.own 0 (.own 1 (jk 5 (.slot (.slice (.slice YOp)) (si 2 (jk 33 .nil))))))),(.lst false .i (.lst false .i .nil))⟩
def AF1:Exs AF5 AF3:=x1 (.exit 0) fun i p=>⟨jn 5 (AV.own 0 none none::jn 42 ([])),[some (Cont.lst false .i p.1),some (Cont.lst false .i i.2.2.1)]⟩
def AF4:=((.i (.i (.v (.v (.i .n))))):Pk Azo.ty _ _)
def A8n:Cfg:={ti:=Aw,ents:=[r8,VQ],ann:=[(3,Ao Azo 0 (spP AF4) XJ AF1.E)],lent:=0}
def pB (x:A5×List (List A6)×Unit):Option (List Int×Unit):=(O3 ((x.1.1,(x.1.2.1.1,()),x.1.2.2.1,x.1.2.2.2.1,x.1.2.2.2.2.1,x.1.2.2.2.2.2.1,()),3,())).bind fun v=>(AC (fun a=>XJ (x.2.1,(x.2.1.length:Int),v.1,()) a _ some) (0,[],())).bind fun p=>some (p.1,())
def A8m:Ent:=⟨81,⟨(.slot D9 (.slot (.slice (.slice YOp)) .nil)),.nil⟩,⟨(.own 0 .nil),(.lst false .i .nil)⟩,pB⟩
theorem yZ:CfgOK Go.Proofs.Tryz.prog A8n:=hcB (all_cons Agc (all_cons iH all_nil))
theorem AI9:B9 Go.Proofs.Tryz.prog A8n (lpc Go.Proofs.Tryz.f81 0):=lkA yZ Azo AF4 XJ AF1 [5] Ab9
theorem Ag6:Ai Go.Proofs.Tryz.prog A8m:=okB yZ Go.Proofs.Tryz.func81 AI9
def YN (x:List (List A6)×Unit):Option (List Int×Unit):=(Rv (true,x.1,())).bind fun v=>(pB ((v.1,(v.2.2.1,()),v.2.2.2.1,v.2.2.2.2.1,v.2.2.2.2.2.1,v.2.1,()),x.1,())).bind fun v=>some (v.1,())
def A8l:Ent:=⟨23,⟨(.slot (.slice (.slice YOp)) .nil),.nil⟩,⟨(.own 0 .nil),(.lst false .i .nil)⟩,YN⟩
theorem Ag1:Ai Go.Proofs.Tryz.prog A8l:=okA (hcA 0 (all_cons A52 (all_cons Ag6 all_nil))) Go.Proofs.Tryz.func23
abbrev yX:=Unit
abbrev yU:=Int×Int×List Int×Unit
abbrev yV:=Int×List Int×Unit
def KC (i:yX)(v:yU)(R:Type)(K:yU ⊕ yV->Option R):Option R:=bif decide (v.2.1<(v.2.2.1.length:Int))then if 0<=v.2.1/\v.2.1<(v.2.2.1.length:Int)then v.2.2.1[0+v.2.1.toNat]?.bind fun a=>K (.inl (IntKind.i64.wrap (v.1+1),IntKind.i64.wrap (v.2.1+1),v.2.2.1.set (0+v.2.1.toNat) v.1,()))else none else K (.inr (v.1,v.2.2.1,()))
theorem bV:Bg KC:=fun i v R K=>Ae (Aq (Ac fun _=>Aa)) (Aa)
def l5:Tmpl:=⟨(.own 0 (.slot .i (jk 3 (.slot .i (jk 13 .nil))))),(.lst false .i .nil)⟩
def yT:Exs yX yV:=x1 (.exit 0) fun i p=>⟨jn 1 (.n (p.1)::jn 17 ([])),[some (Cont.lst false .i p.2.1)]⟩
def yW:=((.v (.v (.v .n))):Pk l5.ty _ _)
def A8k:Cfg:={ti:=Aw,ents:=[],ann:=[(2,Ao l5 1 (spP yW) KC yT.E)],lent:=1}
def OA (x:Int×List Int×Unit):Option (Int×List Int×Unit):=(AC (fun v=>KC () v _ some) (x.1,0,x.2.1,())).bind fun p=>some (p.1,p.2.1,())
def wy:Ent:=⟨27,⟨(.own 0 (.slot .i .nil)),(.lst false .i .nil)⟩,⟨(.slot .i .nil),(.lst false .i .nil)⟩,OA⟩
theorem yY:CfgOK Go.Proofs.Tryz.prog A8k:=hcB all_nil
theorem A8j:B9 Go.Proofs.Tryz.prog A8k (lpc Go.Proofs.Tryz.f27 0):=lkA yY l5 yW KC yT [1] bV
theorem Ag0:Ai Go.Proofs.Tryz.prog wy:=okB yY Go.Proofs.Tryz.func27 A8j
def Ze (x:List (List A6)×Unit):Option (Bool×Unit):=(Rs (x.1,1048576,())).bind fun v=>bif decide (v.1<0)then some (true,())else(Kt (x.1,())).bind fun v=>(cq (v.1,())).bind fun v=>(Kt (x.1,())).bind fun a=>(YN (a.1,())).bind fun b=>(L7 (b.1,v.1,())).bind fun c=>bif !c.1 then some (false,())else(Kt (x.1,())).bind fun d=>(Pp (a.1,d.1,())).bind fun e=>bif !e.1 then some (false,())else(M6 (1,a.1,())).bind fun f=>bif decide (f.1<0)then some (false,())else(L7 (b.1,v.1,())).bind fun g=>bif !g.1 then some (false,())else(OA (1,b.1,())).bind fun h=>(K9 (h.2.1,1,())).bind fun j=>bif decide (j.1<0)then some (false,())else bif j.1 != h.1 then some (false,())else(Kt (x.1,())).bind fun k=>(YN (k.1,())).bind fun l=>(L7 (l.1,v.1,())).bind fun v=>bif !v.1 then some (false,())else(K9 (h.2.1,1,())).bind fun v=>bif decide (v.1<0)then some (false,())else bif v.1 != h.1 then some (false,())else some (true,())
def r7:Ent:=⟨4,⟨(.slot (.slice (.slice YOp)) .nil),.nil⟩,⟨(.slot .bool .nil),.nil⟩,Ze⟩
theorem Afx:Ai Go.Proofs.Tryz.prog r7:=okA (hcA 0 (all_cons rO (all_cons Ag0 (all_cons rV (all_cons rU (all_cons Age (all_cons Ag1 (all_cons A5t (all_cons rQ (all_cons A5d all_nil)))))))))) Go.Proofs.Tryz.func4
theorem laws_FnExactRefusedIDs_OK:Ai Go.Proofs.Tryz.prog r7:=Afx
end
end Go.Ab
