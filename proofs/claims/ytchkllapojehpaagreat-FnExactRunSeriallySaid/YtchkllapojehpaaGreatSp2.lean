import Derived.Test.YtchkllapojehpaaGreatSp1
set_option linter.all false
set_option maxRecDepth 100000
namespace Go.Ab
noncomputable section
def Acw:Cfg:={ti:=Aw,ents:=[WQ,WO],ann:=[],lent:=5,hid:=[((0,1),[0])]}
def D3 (x:Nat×Bool×Int×A7):Option (Bool×Int×List (List A2)×List A3×List A1×List A1×A9):=x.2.2.2.2.1[x.1]?.bind fun v=>(Fq (x.2.2.2.2.2.1,v.1,())).bind fun v=>x.2.2.2.2.1[x.1]?.bind fun a=>(Gr (x.2.2.2.2.2.2.1,a.1,())).bind fun b=>some (x.2.1,x.2.2.1,x.2.2.2.1,x.2.2.2.2.1,x.2.2.2.2.2.1,x.2.2.2.2.2.2.1,v.1,b.1,())
def WN:Ent:=⟨215,⟨(.ptr 0 0 0 (.ptrI 2 0 .nil)),(.cells 6 (.slot .bool (.own 1 (.own 2 (.own 3 (.own 4 (.slot .i .nil)))))) (.tree false 0 (.slice Af) (.tree false 0 Ad (.lst false A0 (.lst false A0 .nil)))))⟩,⟨.nil,(.cells 6 (.slot .bool (.own 1 (.own 2 (.own 5 (.own 6 (.slot .i .nil)))))) (.tree false 0 (.slice Af) (.tree false 0 Ad (.lst false A0 (.lst false A0 (.lst false A0 (.lst false A0 .nil)))))))⟩,D3⟩
theorem bM:Ai Go.Proofs.Tryz.prog WN:=okA (C:=Acw) (hcB (all_cons ib (all_cons p0 all_nil))) Go.Proofs.Tryz.func215
def B5 (x:Nat×Int×Bool×Int×A7):Option (Int×Bool×Int×List (List A2)×List A3×List A1×List A1×A9):=x.2.2.2.2.2.1[x.1]?.bind fun v=>(D3 (x.1,x.2.2.1,x.2.2.2.1,x.2.2.2.2.1,x.2.2.2.2.2.1.set x.1 (v.1,v.2.1,3,v.2.2.2.1,v.2.2.2.2.1,v.2.2.2.2.2.1,v.2.2.2.2.2.2.1,v.2.2.2.2.2.2.2.1,v.2.2.2.2.2.2.2.2.1,()),x.2.2.2.2.2.2.1,x.2.2.2.2.2.2.2.1,())).bind fun v=>some (x.2.1,v.1,v.2.1,v.2.2.1,v.2.2.2.1,v.2.2.2.2.1,v.2.2.2.2.2.1,v.2.2.2.2.2.2.1,v.2.2.2.2.2.2.2.1,())
def Pa:Ent:=⟨149,⟨(.ptr 0 0 0 (.ptrI 2 0 (.slot .i .nil))),(.cells 6 (.slot .bool (.own 1 (.own 2 (.own 3 (.own 4 (.slot .i .nil)))))) (.tree false 0 (.slice Af) (.tree false 0 Ad (.lst false A0 (.lst false A0 .nil)))))⟩,⟨(.agg (.slot .i (.const (AV.nils) .nil)) .nil),(.cells 6 (.slot .bool (.own 1 (.own 2 (.own 5 (.own 6 (.slot .i .nil)))))) (.tree false 0 (.slice Af) (.tree false 1 Ad (.lst false A0 (.lst false A0 (.lst false A0 (.lst false A0 .nil)))))))⟩,B5⟩
theorem PL:Ai Go.Proofs.Tryz.prog Pa:=okA (hcA 5 (all_cons bM all_nil)) Go.Proofs.Tryz.func149
abbrev Yu:=List A1×Unit×B3
abbrev Yr:=Int×Int×Unit
abbrev Ys:=Int×Unit
def AB (i:Yu)(v:Yr)(R:Type)(K:Yr ⊕ Ys->Option R):Option R:=bif decide (v.1<v.2.1)then(lAt i.1 (IntKind.i64.wrap (Int.fdiv (IntKind.u64.wrap (IntKind.i64.wrap (v.1+v.2.1))) (2 ^ min (Int.toNat 1) (IntKind.bits IntKind.u64))))).bind fun a=>(BI ((a.1,a.2.1,()),(i.2.2.2.1,i.2.2.2.2.1,()),())).bind fun b=>bif decide (b.1<0)then K (.inl (IntKind.i64.wrap (IntKind.i64.wrap (Int.fdiv (IntKind.u64.wrap (IntKind.i64.wrap (v.1+v.2.1))) (2 ^ min (Int.toNat 1) (IntKind.bits IntKind.u64)))+1),v.2.1,()))else K (.inl (v.1,IntKind.i64.wrap (Int.fdiv (IntKind.u64.wrap (IntKind.i64.wrap (v.1+v.2.1))) (2 ^ min (Int.toNat 1) (IntKind.bits IntKind.u64))),()))else K (.inr (v.1,()))
theorem EC:Bg AB:=fun i v R K=>Ae (Ac fun _=>Ac fun _=>Ae (Aa) (Aa)) (Aa)
def SL:Tmpl:=⟨(.slot (.slice A0) (.junk (.slot (.fn 265 .unit) (.junk (.ptr 0 0 0 (jk 3 (si 3 (jk 38 .nil)))))))),(.cells 2 (si 2 .nil) .nil)⟩
def Yq:Exs Yu Ys:=x1 (.exit 0) fun i p=>⟨AV.pv (.slice A0) i.1::jn 1 (AV.pv (.fn 265 .unit) i.2.1::jn 1 (AV.ptr 0 none 0 0::jn 3 (.n (i.2.2.1)::.n (p.1)::jn 39 ([])))),[some (Cont.cells 2 [[AV.pv .i i.2.2.2.1,AV.pv .i i.2.2.2.2.1]])]⟩
def Yt:=((.i (.i (.i (.v (.v (.i (.i .n))))))):Pk SL.ty _ _)
def fi:Cfg:={ti:=Aw,ents:=[SE],ann:=[(3,Ao SL 0 (spP Yt) AB Yq.E)],lent:=0}
def AY (x:List A1×A1×Unit×Unit):Option (Int×Bool×Unit):=(AC (fun v=>AB (x.1,x.2.2.1,(x.1.length:Int),x.2.1.1,x.2.1.2.1,()) v _ some) (0,(x.1.length:Int),())).bind fun p=>bif decide (p.1<(x.1.length:Int))then(lAt x.1 p.1).bind fun v=>(BI ((v.1,v.2.1,()),(x.2.1.1,x.2.1.2.1,()),())).bind fun v=>some (p.1,v.1==0,())else some (p.1,false,())
def WM:Ent:=⟨272,⟨(.slot (.slice A0) (.slot A0 (.slot (.fn 265 .unit) .nil))),.nil⟩,⟨(.slot .i (.slot .bool .nil)),.nil⟩,AY⟩
theorem Yv:CfgOK Go.Proofs.Tryz.prog fi:=hcB (all_cons dr all_nil)
theorem fh:B9 Go.Proofs.Tryz.prog fi (lpc Go.Proofs.Tryz.f272 0):=lkA Yv SL Yt AB Yq [0,2,4,8,9] EC
theorem oZ:Ai Go.Proofs.Tryz.prog WM:=okB Yv Go.Proofs.Tryz.func272 fh
def Ch (x:List A1×Unit):Option (List A1×Unit):=bif x.1.length==0 then Sz (some ([],())) (if x.1.length<=2199023255552 then some (x.1,())else none)else if x.1.length<=2199023255552 then some (x.1,())else none
def SK:Ent:=⟨187,⟨(.slot (.slice A0) .nil),.nil⟩,⟨(.own 0 .nil),(.lst false A0 .nil)⟩,Ch⟩
theorem i9:Ai Go.Proofs.Tryz.prog SK:=okA (hcA 0 all_nil) Go.Proofs.Tryz.func187
def fg:Go.Shelf.Ren:=⟨fun|22=>273|29=>288|30=>289|n=>n,fun|24=>90|9=>204|n=>n,fun|n=>n⟩
theorem Acv:InsL Go.Proofs.Tryz.prog fg true 2 where
 mixed:=by kernel_rfl
 f22:=⟨ "slices.Insert[[]loop.example/g01924/impl.ReadMark,loop.example/g01924/impl.ReadMark]",by decide,Go.Proofs.Tryz.func273.trans (congrArg some (by kernel_rfl))⟩
 f29:=⟨_,Go.Proofs.Tryz.func288,by kernel_rfl,by kernel_rfl,by kernel_rfl,by kernel_rfl⟩
 a9:=Go.Proofs.Tryz.isAgg204
 z9:=Go.Proofs.Tryz.sizeOf204
 t0:=Go.Proofs.Tryz.underlying0
 a0:=Go.Proofs.Tryz.isAgg0
 z0:=Go.Proofs.Tryz.sizeOf0
 v0:=Go.Proofs.Tryz.zeroValue0
 t3:=Go.Proofs.Tryz.underlying3
 a3:=Go.Proofs.Tryz.isAgg3
 z3:=Go.Proofs.Tryz.sizeOf3
 v3:=Go.Proofs.Tryz.zeroValue3
 t4:=Go.Proofs.Tryz.underlying4
 a4:=Go.Proofs.Tryz.isAgg4
 z4:=Go.Proofs.Tryz.sizeOf4
 v4:=Go.Proofs.Tryz.zeroValue4
 t24:=Go.Proofs.Tryz.underlying90
 a24:=Go.Proofs.Tryz.isAgg90
 z24:=Go.Proofs.Tryz.sizeOf90
 v24:=Go.Proofs.Tryz.zeroValue90
def Cp (x:Int×List (Int×Int×Unit)×List (Int×Int×Unit)×Unit):Option (List (Int×Int×Unit)×Unit):=Pi (α:=Int×Int×Unit) 2199023255552 x
def A6n:Cfg:={ti:=Aw,ents:=[],ann:=[],lent:=2}
def WL:Ent:=⟨273,⟨(.own 0 (.slot Ty.i (.own 1 .nil))),(.lst false A0 (.lst false A0 .nil))⟩,⟨(.own 2 .nil),(.gone (.gone (.lst false A0 .nil)))⟩,Cp⟩
theorem oY:Ai Go.Proofs.Tryz.prog WL:=Qe (ρ:=fg) (t:=A0) YQ Acv rfl (by decide) rfl
def qC:Cfg:={ti:=Aw,ents:=[WL,WM,SK],ann:=[],lent:=1,hid:=[((7,1),[0]),((7,13),[0]),((7,14),[0]),((7,15),[0])]}
def CW (x:Nat×Int×Int×Int×Int×Int×Int×List A3×Unit):Option (Bool×List A3×Unit):=x.2.2.2.2.2.2.2.1[x.1]?.bind fun v=>x.2.2.2.2.2.2.2.1[x.1]?.bind fun v=>bif (v.2.2.2.2.2.2.2.1.length:Int)==60 then some (false,x.2.2.2.2.2.2.2.1,())else x.2.2.2.2.2.2.2.1[x.1]?.bind fun v=>x.2.2.2.2.2.2.2.1[x.1]?.bind fun v=>(AY (v.2.2.2.2.2.2.2.1,(x.2.1,x.2.2.2.2.1,()),(),())).bind fun v=>bif !v.2.1 then x.2.2.2.2.2.2.2.1[x.1]?.bind fun a=>x.2.2.2.2.2.2.2.1[x.1]?.bind fun b=>(Ch (b.2.2.2.2.2.2.2.1,())).bind fun c=>(Cp (v.1,c.1,[(x.2.1,x.2.2.2.2.1,())],())).bind fun v=>x.2.2.2.2.2.2.2.1[x.1]?.bind fun d=>(x.2.2.2.2.2.2.2.1.set x.1 (d.1,d.2.1,d.2.2.1,d.2.2.2.1,d.2.2.2.2.1,d.2.2.2.2.2.1,d.2.2.2.2.2.2.1,v.1,d.2.2.2.2.2.2.2.2.1,()))[x.1]?.bind fun e=>(x.2.2.2.2.2.2.2.1.set x.1 (d.1,d.2.1,d.2.2.1,d.2.2.2.1,d.2.2.2.2.1,d.2.2.2.2.2.1,d.2.2.2.2.2.2.1,v.1,d.2.2.2.2.2.2.2.2.1,()))[x.1]?.bind fun f=>(x.2.2.2.2.2.2.2.1.set x.1 (d.1,d.2.1,d.2.2.1,d.2.2.2.1,d.2.2.2.2.1,d.2.2.2.2.2.1,d.2.2.2.2.2.2.1,v.1,d.2.2.2.2.2.2.2.2.1,()))[x.1]?.bind fun g=>((x.2.2.2.2.2.2.2.1.set x.1 (d.1,d.2.1,d.2.2.1,d.2.2.2.1,d.2.2.2.2.1,d.2.2.2.2.2.1,d.2.2.2.2.2.2.1,v.1,d.2.2.2.2.2.2.2.2.1,())).set x.1 (g.1,g.2.1,g.2.2.1,g.2.2.2.1,mx e.2.2.2.2.1 x.2.2.2.2.1,g.2.2.2.2.2.1,g.2.2.2.2.2.2.1,g.2.2.2.2.2.2.2.1,g.2.2.2.2.2.2.2.2.1,()))[x.1]?.bind fun h=>some (true,((x.2.2.2.2.2.2.2.1.set x.1 (d.1,d.2.1,d.2.2.1,d.2.2.2.1,d.2.2.2.2.1,d.2.2.2.2.2.1,d.2.2.2.2.2.2.1,v.1,d.2.2.2.2.2.2.2.2.1,())).set x.1 (g.1,g.2.1,g.2.2.1,g.2.2.2.1,mx e.2.2.2.2.1 x.2.2.2.2.1,g.2.2.2.2.2.1,g.2.2.2.2.2.2.1,g.2.2.2.2.2.2.2.1,g.2.2.2.2.2.2.2.2.1,())).set x.1 (h.1,h.2.1,h.2.2.1,h.2.2.2.1,h.2.2.2.2.1,mn f.2.2.2.2.2.1 x.2.2.2.2.2.2.1,h.2.2.2.2.2.2.1,h.2.2.2.2.2.2.2.1,h.2.2.2.2.2.2.2.2.1,()),())else x.2.2.2.2.2.2.2.1[x.1]?.bind fun v=>x.2.2.2.2.2.2.2.1[x.1]?.bind fun a=>x.2.2.2.2.2.2.2.1[x.1]?.bind fun b=>(x.2.2.2.2.2.2.2.1.set x.1 (b.1,b.2.1,b.2.2.1,b.2.2.2.1,mx v.2.2.2.2.1 x.2.2.2.2.1,b.2.2.2.2.2.1,b.2.2.2.2.2.2.1,b.2.2.2.2.2.2.2.1,b.2.2.2.2.2.2.2.2.1,()))[x.1]?.bind fun c=>some (true,(x.2.2.2.2.2.2.2.1.set x.1 (b.1,b.2.1,b.2.2.1,b.2.2.2.1,mx v.2.2.2.2.1 x.2.2.2.2.1,b.2.2.2.2.2.1,b.2.2.2.2.2.2.1,b.2.2.2.2.2.2.2.1,b.2.2.2.2.2.2.2.2.1,())).set x.1 (c.1,c.2.1,c.2.2.1,c.2.2.2.1,c.2.2.2.2.1,mn a.2.2.2.2.2.1 x.2.2.2.2.2.2.1,c.2.2.2.2.2.2.1,c.2.2.2.2.2.2.2.1,c.2.2.2.2.2.2.2.2.1,()),())
def WK:Ent:=⟨242,⟨(.ptrI 0 0 (.slot .i (.agg (si 5 .nil) .nil))),(.tree false 0 Ad .nil)⟩,⟨(.slot .bool .nil),(.tree false 1 Ad .nil)⟩,CW⟩
theorem oX:Ai Go.Proofs.Tryz.prog WK:=okA (C:=qC) (hcB (all_cons oY (all_cons oZ (all_cons i9 all_nil)))) Go.Proofs.Tryz.func242
def Acu:Cfg:={ti:=Aw,ents:=[Pa,WK,XR,XQ],ann:=[],lent:=5,pre:=[(some (0,3)),(some (0,4))]}
def Fa (x:Nat×Int×Bool×Int×A7):Option (Int×Int×Bool×Int×A7):=x.2.2.2.2.2.1[x.1]?.bind fun v=>x.2.2.2.2.2.1[x.1]?.bind fun a=>x.2.2.2.2.2.1[x.1]?.bind fun b=>(GT ((v.1,v.2.1,v.2.2.1,v.2.2.2.1,v.2.2.2.2.1,v.2.2.2.2.2.1,v.2.2.2.2.2.2.1,a.2.2.2.2.2.2.2.1,b.2.2.2.2.2.2.2.2.1,()),x.2.1,())).bind fun v=>bif decide (v.1>=0)then x.2.2.2.2.2.1[x.1]?.bind fun c=>x.2.2.2.2.2.1[x.1]?.bind fun d=>if 0<=v.1/\v.1<(d.2.2.2.2.2.2.2.2.1.length:Int)then x.2.2.2.2.2.1[x.1]?.bind fun e=>e.2.2.2.2.2.2.2.2.1[0+v.1.toNat]?.bind fun v=>some (v.2.1,0,x.2.2.1,x.2.2.2.1,x.2.2.2.2.1,x.2.2.2.2.2.1,x.2.2.2.2.2.2.1,x.2.2.2.2.2.2.2.1,())else none else x.2.2.2.2.2.1[x.1]?.bind fun v=>x.2.2.2.2.2.1[x.1]?.bind fun c=>x.2.2.2.2.2.1[x.1]?.bind fun d=>(Fp ((x.2.2.2.2.1,()),(v.1,v.2.1,v.2.2.1,v.2.2.2.1,v.2.2.2.2.1,v.2.2.2.2.2.1,v.2.2.2.2.2.2.1,c.2.2.2.2.2.2.2.1,d.2.2.2.2.2.2.2.2.1,()),x.2.1,())).bind fun v=>bif v.2.2.2.2.2.1 != 0 then(B5 (x.1,v.2.2.2.2.2.1,x.2.2.1,x.2.2.2.1,x.2.2.2.2.1,x.2.2.2.2.2.1,x.2.2.2.2.2.2.1,x.2.2.2.2.2.2.2.1,())).bind fun e=>some (0,v.2.2.2.2.2.1,e.2.1,e.2.2.1,e.2.2.2.1,e.2.2.2.2.1,e.2.2.2.2.2.2.2.1,e.2.2.2.2.2.2.2.2.1,())else(CW (x.1,x.2.1,v.1,v.2.1,v.2.2.1,v.2.2.2.1,v.2.2.2.2.1,x.2.2.2.2.2.1,())).bind fun e=>bif !e.1 then some (0,6,x.2.2.1,x.2.2.2.1,x.2.2.2.2.1,e.2.1,x.2.2.2.2.2.2.1,x.2.2.2.2.2.2.2.1,())else some (v.2.1,0,x.2.2.1,x.2.2.2.1,x.2.2.2.2.1,e.2.1,x.2.2.2.2.2.2.1,x.2.2.2.2.2.2.2.1,())
def UB:Ent:=⟨203,⟨(.ptr 0 0 0 (.ptrI 2 0 (.slot .i .nil))),(.cells 6 (.slot .bool (.own 1 (.own 2 (.own 3 (.own 4 (.slot .i .nil)))))) (.tree false 0 (.slice Af) (.tree false 0 Ad (.lst false A0 (.lst false A0 .nil)))))⟩,⟨(si 2 .nil),(.cells 6 (.slot .bool (.own 1 (.own 2 (.own 5 (.own 6 (.slot .i .nil)))))) (.tree false 0 (.slice Af) (.tree false 1 Ad (.gone (.gone (.lst false A0 (.lst false A0 .nil)))))))⟩,Fa⟩
theorem i8:Ai Go.Proofs.Tryz.prog UB:=okA (C:=Acu) (hcB (all_cons PL (all_cons oX (all_cons sV (all_cons sS all_nil))))) Go.Proofs.Tryz.func203
abbrev oV:=Nat×B3
abbrev oQ:=Int×Bool×Int×List (List A2)×List A3×List A1×List A1×List Int×Unit
abbrev oS:=Bool×Int×List (List A2)×List A3×Int×List Int×A9 ⊕ Bool×Int×List (List A2)×List A3×List A1×List A1×List Int×Unit
def C6 (i:oV)(v:oQ)(R:Type)(K:oQ ⊕ oS->Option R):Option R:=bif decide (v.1<=i.2.1)then(Fa (i.1,v.1,v.2.1,v.2.2.1,v.2.2.2.1,v.2.2.2.2.1,v.2.2.2.2.2.1,v.2.2.2.2.2.2.1,())).bind fun a=>bif a.2.1 != 0 then K (.inr (.inl (a.2.2.1,a.2.2.2.1,a.2.2.2.2.1,a.2.2.2.2.2.1,a.2.1,v.2.2.2.2.2.2.2.1,a.2.2.2.2.2.2.1,a.2.2.2.2.2.2.2.1,())))else if(v.2.2.2.2.2.2.2.1++[a.1]).length<=4398046511104 then K (.inl (IntKind.i64.wrap (v.1+1),a.2.2.1,a.2.2.2.1,a.2.2.2.2.1,a.2.2.2.2.2.1,a.2.2.2.2.2.2.1,a.2.2.2.2.2.2.2.1,v.2.2.2.2.2.2.2.1++[a.1],()))else none else K (.inr (.inr (v.2.1,v.2.2.1,v.2.2.2.1,v.2.2.2.2.1,v.2.2.2.2.2.1,v.2.2.2.2.2.2.1,v.2.2.2.2.2.2.2.1,())))
theorem K6:Bg C6:=fun i v R K=>Ae (Ac fun _=>Ae (Aa) (Aq (Aa))) (Aa)
def bL:Tmpl:=⟨(.ptr 0 0 0 (.ptrI 2 0 (.junk (.slot .i (jk 4 (.ptr 7 0 0 (.ptr 8 0 0 (.slot .i (jk 27 .nil))))))))),(.cells 6 (.slot .bool (.own 1 (.own 2 (.own 5 (.own 6 (.slot .i .nil)))))) (.tree false 0 (.slice Af) (.tree false 1 Ad (.gone (.gone (.lst false A0 (.lst false A0 (.cells 2 (.slot .i (.const (AV.nils) .nil)) (.cells 2 (.slot .i (.own 9 .nil)) (.lst false .i .nil))))))))))⟩
def oP:Exs oV oS:=xs .ret (fun i p=>⟨jn 8 (AV.ptr 7 none 0 0::AV.ptr 8 none 0 0::jn 28 ([])),[some (Cont.cells 6 [[AV.pv .bool p.1,AV.own 1 none none,AV.own 2 none none,AV.own 15 none none,AV.own 16 none none,AV.pv .i p.2.1]]),some (Cont.tree false 0 (.slice Af) p.2.2.1 none),some (Cont.tree false 2 Ad p.2.2.2.1 none),some Cont.dead,some Cont.dead,some Cont.dead,some Cont.dead,some (Cont.cells 2 [[AV.pv .i p.2.2.2.2.1,AV.nils]]),some (Cont.cells 2 [[AV.pv .i i.2.2.2.1,AV.own 9 none none]]),some (Cont.lst false .i p.2.2.2.2.2.1),none,none,none,none,none,some (Cont.lst false A0 p.2.2.2.2.2.2.1),some (Cont.lst false A0 p.2.2.2.2.2.2.2.1)]⟩)<|x1 (.exit 0) fun i p=>⟨jn 8 (AV.ptr 7 none 0 0::AV.ptr 8 none 0 0::jn 28 ([])),[some (Cont.cells 6 [[AV.pv .bool p.1,AV.own 1 none none,AV.own 2 none none,AV.own 5 none none,AV.own 6 none none,AV.pv .i p.2.1]]),some (Cont.tree false 0 (.slice Af) p.2.2.1 none),some (Cont.tree false 1 Ad p.2.2.2.1 none),some Cont.dead,some Cont.dead,some (Cont.lst false A0 p.2.2.2.2.1),some (Cont.lst false A0 p.2.2.2.2.2.1),some (Cont.cells 2 [[AV.pv .i i.2.2.1,AV.nils]]),some (Cont.cells 2 [[AV.pv .i i.2.2.2.1,AV.own 9 none none]]),some (Cont.lst false .i p.2.2.2.2.2.2.1)]⟩
def oT:=((.i (.i (.v (.v (.v (.v (.v (.v (.v (.i (.i (.v .n)))))))))))):Pk bL.ty _ _)
def y4:Cfg:={ti:=Aw,ents:=[UB],ann:=[(3,Ao bL 5 (spP oT) C6 oP.E)],lent:=5,pre:=[(some (0,3)),(some (0,4))]}
def F9 (x:Nat×Int×Int×Bool×Int×A7):Option (Int×Bool×Int×List (List A2)×List A3×List A1×List A1×List Int×Unit):=(AC (fun v=>C6 (x.1,x.2.2.1,0,0,()) v _ some) (x.2.1,x.2.2.2.1,x.2.2.2.2.1,x.2.2.2.2.2.1,x.2.2.2.2.2.2.1,x.2.2.2.2.2.2.2.1,x.2.2.2.2.2.2.2.2.1,[],())).bind fun p=>Az p (fun p=>some (p.2.2.2.2.1,p.1,p.2.1,p.2.2.1,p.2.2.2.1,p.2.2.2.2.2.2.1,p.2.2.2.2.2.2.2.1,[],())) fun p=>some (0,p.1,p.2.1,p.2.2.1,p.2.2.2.1,p.2.2.2.2.1,p.2.2.2.2.2.1,p.2.2.2.2.2.2.1,())
def UA:Ent:=⟨146,⟨(.ptr 0 0 0 (.ptrI 2 0 (si 2 .nil))),(.cells 6 (.slot .bool (.own 1 (.own 2 (.own 3 (.own 4 (.slot .i .nil)))))) (.tree false 0 (.slice Af) (.tree false 0 Ad (.lst false A0 (.lst false A0 .nil)))))⟩,⟨(.agg (.slot .i (.own 7 .nil)) .nil),(.cells 6 (.slot .bool (.own 1 (.own 2 (.own 5 (.own 6 (.slot .i .nil)))))) (.tree false 0 (.slice Af) (.tree false 1 Ad (.gone (.gone (.lst false A0 (.lst false A0 (.lst false .i .nil))))))))⟩,F9⟩
theorem oW:CfgOK Go.Proofs.Tryz.prog y4:=hcB (all_cons i8 all_nil)
theorem xZ:B9 Go.Proofs.Tryz.prog y4 (lpc Go.Proofs.Tryz.f146 0):=lkA oW bL oT C6 oP [8,9] K6
theorem oU:Ai Go.Proofs.Tryz.prog UA:=okB oW Go.Proofs.Tryz.func146 xZ
def FY (x:A1×Option Int×Unit):Option (Bool×Unit):=x.2.1.bind fun v=>some (x.1.1==v,())
def WJ:Ent:=⟨244,⟨(.slot A0 (.slot (.iref .i) .nil)),.nil⟩,⟨(.slot .bool .nil),.nil⟩,FY⟩
theorem oO:Ai Go.Proofs.Tryz.prog WJ:=okA (hcA 0 all_nil) Go.Proofs.Tryz.func244
abbrev oL:=List A1×(Option Int×Unit)×Int×Unit
abbrev oI:=Int×Unit
abbrev oJ:=Int×Unit ⊕ Unit
def B7 (i:oL)(v:oI)(R:Type)(K:oI ⊕ oJ->Option R):Option R:=bif decide (v.1<i.2.2.1)then(lAt i.1 v.1).bind fun a=>(FY ((a.1,a.2.1,()),i.2.1.1,())).bind fun b=>bif b.1 then K (.inr (.inl (v.1,())))else K (.inl (IntKind.i64.wrap (v.1+1),()))else K (.inr (.inr ()))
theorem G5:Bg B7:=fun i v R K=>Ae (Ac fun _=>Ac fun _=>Ae (Aa) (Aa)) (Aa)
def bK:Tmpl:=⟨(.slot (.slice A0) (.slot (.fn 244 (.prod (.iref .i) .unit)) (jk 5 (si 2 (jk 10 .nil))))),.nil⟩
def oH:Exs oL oJ:=xs .ret (fun i p=>⟨jn 4 (.n (p.1)::jn 14 ([])),[]⟩)<|x1 (.exit 0) fun i p=>⟨jn 19 ([]),[]⟩
def oK:=((.i (.i (.i (.v .n)))):Pk bK.ty _ _)
def xY:Cfg:={ti:=Aw,ents:=[WJ],ann:=[(2,Ao bK 0 (spP oK) B7 oH.E)],lent:=0}
def BG (x:List A1×(Option Int×Unit)×Unit):Option (Int×Unit):=(AC (fun v=>B7 (x.1,x.2.1,(x.1.length:Int),()) v _ some) (0,())).bind fun p=>Az p (fun p=>some (p.1,())) fun p=>some (-1,())
def ff:Ent:=⟨194,⟨(.slot (.slice A0) (.slot (.fn 244 (.prod (.iref .i) .unit)) .nil)),.nil⟩,⟨(.slot .i .nil),.nil⟩,BG⟩
theorem oM:CfgOK Go.Proofs.Tryz.prog xY:=hcB (all_cons oO all_nil)
theorem xX:B9 Go.Proofs.Tryz.prog xY (lpc Go.Proofs.Tryz.f194 0):=lkA oM bK oK B7 oH [4] G5
theorem i7:Ai Go.Proofs.Tryz.prog ff:=okB oM Go.Proofs.Tryz.func194 xX
def FD (x:List A1×Int×Unit):Option (Int×Unit):=(BG (x.1,(some x.2.1,()),())).bind fun v=>bif decide (v.1<0)then some (0,())else(lAt x.1 v.1).bind fun v=>some (v.2.1,())
def Uz:Ent:=⟨205,⟨(.slot (.slice A0) (.slot .i .nil)),.nil⟩,⟨(.slot .i .nil),.nil⟩,FD⟩
theorem Yp:Ai Go.Proofs.Tryz.prog Uz:=okA (hcA 0 (all_cons i7 all_nil)) Go.Proofs.Tryz.func205
def D2 (x:A4×Int×Unit):Option (Option A2×Unit):=(lAt x.1.1 x.2.1).bind fun v=>(lAt v (IntKind.i64.wrap ((v.length:Int)-1))).bind fun v=>some (some v,())
def Uy:Ent:=⟨243,⟨(.slot Bp (.slot .i .nil)),.nil⟩,⟨(.slot (.iref Af) .nil),.nil⟩,D2⟩
theorem Wa:Ai Go.Proofs.Tryz.prog Uy:=okA (hcA 0 all_nil) Go.Proofs.Tryz.func243
def DV (x:A4×List A1×A3×Int×Unit):Option (Int×Unit):=(FD (x.2.1,x.2.2.2.1,())).bind fun v=>(D2 ((x.1.1,()),x.2.2.2.1,())).bind fun a=>bif v.1 != 0 then bif x.2.2.1.2.1==1 then bif v.1 != x.2.2.1.1 then some (1,())else bif x.2.2.1.2.1==2 then bif v.1 != x.2.2.1.1 then some (2,())else a.1.bind fun v=>bif decide (v.2.2.1>x.2.2.1.2.2.2.1)then some (2,())else bif x.2.2.1.2.1==4 then a.1.bind fun v=>bif decide (v.2.2.2.1>x.2.2.1.2.2.2.1)then some (3,())else some (0,())else some (0,())else bif x.2.2.1.2.1==4 then a.1.bind fun v=>bif decide (v.2.2.2.1>x.2.2.1.2.2.2.1)then some (3,())else some (0,())else some (0,())else bif x.2.2.1.2.1==2 then bif v.1 != x.2.2.1.1 then some (2,())else a.1.bind fun v=>bif decide (v.2.2.1>x.2.2.1.2.2.2.1)then some (2,())else bif x.2.2.1.2.1==4 then a.1.bind fun v=>bif decide (v.2.2.2.1>x.2.2.1.2.2.2.1)then some (3,())else some (0,())else some (0,())else bif x.2.2.1.2.1==4 then a.1.bind fun v=>bif decide (v.2.2.2.1>x.2.2.1.2.2.2.1)then some (3,())else some (0,())else some (0,())else bif x.2.2.1.2.1==1 then bif x.2.2.1.2.1==2 then a.1.bind fun v=>bif decide (v.2.2.1>x.2.2.1.2.2.2.1)then some (2,())else bif x.2.2.1.2.1==4 then a.1.bind fun v=>bif decide (v.2.2.2.1>x.2.2.1.2.2.2.1)then some (3,())else some (0,())else some (0,())else bif x.2.2.1.2.1==4 then a.1.bind fun v=>bif decide (v.2.2.2.1>x.2.2.1.2.2.2.1)then some (3,())else some (0,())else some (0,())else bif x.2.2.1.2.1==2 then a.1.bind fun v=>bif decide (v.2.2.1>x.2.2.1.2.2.2.1)then some (2,())else bif x.2.2.1.2.1==4 then a.1.bind fun v=>bif decide (v.2.2.2.1>x.2.2.1.2.2.2.1)then some (3,())else some (0,())else some (0,())else bif x.2.2.1.2.1==4 then a.1.bind fun v=>bif decide (v.2.2.2.1>x.2.2.1.2.2.2.1)then some (3,())else some (0,())else some (0,())
def WI:Ent:=⟨204,⟨(.slot Bp (.slot (.slice A0) (.slot Ad (.slot .i .nil)))),.nil⟩,⟨(.slot .i .nil),.nil⟩,DV⟩
theorem oG:Ai Go.Proofs.Tryz.prog WI:=okA (hcA 0 (all_cons Yp (all_cons Wa all_nil))) Go.Proofs.Tryz.func204
abbrev oE:=List A1×List A1×Int×Unit
abbrev oB:=Int×Unit
abbrev oC:=Int×Int×Unit ⊕ Int×Int×Unit ⊕ Int×Int×Unit ⊕ Int×Int×Unit ⊕ Unit
def Eg (i:oE)(v:oB)(R:Type)(K:oB ⊕ oC->Option R):Option R:=bif decide (v.1<i.2.2.1)then(lAt i.2.1 v.1).bind fun a=>(BC (a.1,())).bind fun b=>bif !b.1 then K (.inr (.inl (a.1,a.2.1,())))else(BC (a.2.1,())).bind fun c=>bif !c.1 then K (.inr (.inr (.inl (a.1,a.2.1,()))))else bif a.1==a.2.1 then K (.inr (.inr (.inr (.inl (a.1,a.2.1,())))))else bif decide (v.1>0)then(lAt i.1 (IntKind.i64.wrap (v.1-1))).bind fun d=>bif decide (d.1>=a.1)then K (.inr (.inr (.inr (.inr (.inl (a.1,a.2.1,()))))))else K (.inl (IntKind.i64.wrap (v.1+1),()))else K (.inl (IntKind.i64.wrap (v.1+1),()))else K (.inr (.inr (.inr (.inr (.inr ())))))
theorem Mw:Bg Eg:=fun i v R K=>Ae (Ac fun _=>Ac fun _=>Ae (Aa) (Ac fun _=>Ae (Aa) (Ae (Aa) (Ae (Ac fun _=>Ae (Aa) (Aa)) (Aa))))) (Aa)
def bI:Tmpl:=⟨(.slot (.slice A0) (jk 4 (.slot (.slice A0) (si 2 (jk 37 .nil))))),.nil⟩
def oA:Exs oE oC:=xs .ret (fun i p=>⟨jn 2 (.b (false)::jn 42 ([])),[some (Cont.cells 2 [[AV.pv .i p.1,AV.pv .i p.2.1]])]⟩)<|xs .ret (fun i p=>⟨jn 2 (.b (false)::jn 42 ([])),[some (Cont.cells 2 [[AV.pv .i p.1,AV.pv .i p.2.1]])]⟩)<|xs .ret (fun i p=>⟨jn 2 (.b (false)::jn 42 ([])),[some (Cont.cells 2 [[AV.pv .i p.1,AV.pv .i p.2.1]])]⟩)<|xs .ret (fun i p=>⟨jn 2 (.b (false)::jn 42 ([])),[some (Cont.cells 2 [[AV.pv .i p.1,AV.pv .i p.2.1]])]⟩)<|x1 (.exit 0) fun i p=>⟨jn 45 ([]),[]⟩
def oD:=((.i (.i (.i (.v .n)))):Pk bI.ty _ _)
def xW:Cfg:={ti:=Aw,ents:=[RA],ann:=[(2,Ao bI 0 (spP oD) Eg oA.E)],lent:=0}
def Dn (x:List A1×Unit):Option (Bool×Unit):=(AC (fun v=>Eg (x.1,x.1,(x.1.length:Int),()) v _ some) (0,())).bind fun p=>Az p (fun p=>some (false,())) fun p=>Az p (fun p=>some (false,())) fun p=>Az p (fun p=>some (false,())) fun p=>Az p (fun p=>some (false,())) fun p=>some (true,())
def WH:Ent:=⟨129,⟨(.slot (.slice A0) .nil),.nil⟩,⟨(.slot .bool .nil),.nil⟩,Dn⟩
theorem oF:CfgOK Go.Proofs.Tryz.prog xW:=hcB (all_cons Qt all_nil)
theorem xV:B9 Go.Proofs.Tryz.prog xW (lpc Go.Proofs.Tryz.f129 0):=lkA oF bI oD Eg oA [2] Mw
theorem bJ:Ai Go.Proofs.Tryz.prog WH:=okB oF Go.Proofs.Tryz.func129 xV
def FC (x:A1×Int×Unit):Option (Int×Unit):=(BO (x.1.1,x.2.1,())).bind fun v=>some (v.1,())
def Ux:Ent:=⟨247,⟨(.slot A0 (.slot .i .nil)),.nil⟩,⟨(.slot .i .nil),.nil⟩,FC⟩
theorem oz:Ai Go.Proofs.Tryz.prog Ux:=okA (hcA 0 (all_cons TH all_nil)) Go.Proofs.Tryz.func247
abbrev oy:=List A1×Int×Unit×Int×Unit
abbrev ou:=Int×Int×Unit
abbrev ov:=Int×Unit
def AE (i:oy)(v:ou)(R:Type)(K:ou ⊕ ov->Option R):Option R:=bif decide (v.1<v.2.1)then(lAt i.1 (IntKind.i64.wrap (Int.fdiv (IntKind.u64.wrap (IntKind.i64.wrap (v.1+v.2.1))) (2 ^ min (Int.toNat 1) (IntKind.bits IntKind.u64))))).bind fun a=>(FC ((a.1,a.2.1,()),i.2.1,())).bind fun b=>bif decide (b.1<0)then K (.inl (IntKind.i64.wrap (IntKind.i64.wrap (Int.fdiv (IntKind.u64.wrap (IntKind.i64.wrap (v.1+v.2.1))) (2 ^ min (Int.toNat 1) (IntKind.bits IntKind.u64)))+1),v.2.1,()))else K (.inl (v.1,IntKind.i64.wrap (Int.fdiv (IntKind.u64.wrap (IntKind.i64.wrap (v.1+v.2.1))) (2 ^ min (Int.toNat 1) (IntKind.bits IntKind.u64))),()))else K (.inr (v.1,()))
theorem Fg:Bg AE:=fun i v R K=>Ae (Ac fun _=>Ac fun _=>Ae (Aa) (Aa)) (Aa)
def bH:Tmpl:=⟨(.slot (.slice A0) (.slot .i (.slot (.fn 247 .unit) (jk 5 (si 3 (jk 38 .nil)))))),.nil⟩
def ot:Exs oy ov:=x1 (.exit 0) fun i p=>⟨AV.pv (.slice A0) i.1::.n (i.2.1)::AV.pv (.fn 247 .unit) i.2.2.1::jn 5 (.n (i.2.2.2.1)::.n (p.1)::jn 39 ([])),[]⟩
def ow:=((.i (.i (.i (.i (.v (.v .n)))))):Pk bH.ty _ _)
def fe:Cfg:={ti:=Aw,ents:=[Ux],ann:=[(3,Ao bH 0 (spP ow) AE ot.E)],lent:=0}
def Be (x:List A1×Int×Unit×Unit):Option (Int×Bool×Unit):=(AC (fun v=>AE (x.1,x.2.1,x.2.2.1,(x.1.length:Int),()) v _ some) (0,(x.1.length:Int),())).bind fun p=>bif decide (p.1<(x.1.length:Int))then(lAt x.1 p.1).bind fun v=>(FC ((v.1,v.2.1,()),x.2.1,())).bind fun v=>some (p.1,v.1==0,())else some (p.1,false,())
def fc:Ent:=⟨246,⟨(.slot (.slice A0) (.slot .i (.slot (.fn 247 .unit) .nil))),.nil⟩,⟨(.slot .i (.slot .bool .nil)),.nil⟩,Be⟩
theorem Yo:CfgOK Go.Proofs.Tryz.prog fe:=hcB (all_cons oz all_nil)
theorem xU:B9 Go.Proofs.Tryz.prog fe (lpc Go.Proofs.Tryz.f246 0):=lkA Yo bH ow AE ot [0,1,2,8,9] Fg
theorem ox:Ai Go.Proofs.Tryz.prog fc:=okB Yo Go.Proofs.Tryz.func246 xU
def fb:Go.Shelf.Ren:=⟨fun|22=>248|29=>275|30=>276|n=>n,fun|24=>38|9=>144|n=>n,fun|n=>n⟩
theorem Acr:InsL Go.Proofs.Tryz.prog fb true 2 where
 mixed:=by kernel_rfl
 f22:=⟨ "slices.Insert[[]loop.example/g01924/impl.Wait,loop.example/g01924/impl.Wait]",by decide,Go.Proofs.Tryz.func248.trans (congrArg some (by kernel_rfl))⟩
 f29:=⟨_,Go.Proofs.Tryz.func275,by kernel_rfl,by kernel_rfl,by kernel_rfl,by kernel_rfl⟩
 a9:=Go.Proofs.Tryz.isAgg144
 z9:=Go.Proofs.Tryz.sizeOf144
 t0:=Go.Proofs.Tryz.underlying0
 a0:=Go.Proofs.Tryz.isAgg0
 z0:=Go.Proofs.Tryz.sizeOf0
 v0:=Go.Proofs.Tryz.zeroValue0
 t3:=Go.Proofs.Tryz.underlying3
 a3:=Go.Proofs.Tryz.isAgg3
 z3:=Go.Proofs.Tryz.sizeOf3
 v3:=Go.Proofs.Tryz.zeroValue3
 t4:=Go.Proofs.Tryz.underlying4
 a4:=Go.Proofs.Tryz.isAgg4
 z4:=Go.Proofs.Tryz.sizeOf4
 v4:=Go.Proofs.Tryz.zeroValue4
 t24:=Go.Proofs.Tryz.underlying38
 a24:=Go.Proofs.Tryz.isAgg38
 z24:=Go.Proofs.Tryz.sizeOf38
 v24:=Go.Proofs.Tryz.zeroValue38
def EH (x:Int×List (Int×Int×Unit)×List (Int×Int×Unit)×Unit):Option (List (Int×Int×Unit)×Unit):=Pi (α:=Int×Int×Unit) 2199023255552 x
def ABw:Cfg:={ti:=Aw,ents:=[],ann:=[],lent:=2}
def ZE:Ent:=⟨248,⟨(.own 0 (.slot Ty.i (.own 1 .nil))),(.lst false A0 (.lst false A0 .nil))⟩,⟨(.own 2 .nil),(.gone (.gone (.lst false A0 .nil)))⟩,EH⟩
theorem oq:Ai Go.Proofs.Tryz.prog ZE:=Qe (ρ:=fb) (t:=A0) YS Acr rfl (by decide) rfl
def FB (x:List A1×Int×Int×Unit):Option (Bool×List A1×Unit):=(BP (x.1,())).bind fun v=>(Dn (x.1,())).bind fun a=>bif !a.1 then some (false,v.1,())else(BC (x.2.1,())).bind fun b=>bif !b.1 then some (false,v.1,())else(BC (x.2.2.1,())).bind fun c=>bif !c.1 then some (false,v.1,())else bif x.2.1==x.2.2.1 then some (false,v.1,())else(Be (x.1,x.2.1,(),())).bind fun d=>bif !d.2.1 then(EH (d.1,v.1,[(x.2.1,x.2.2.1,())],())).bind fun v=>some (true,v.1,())else if 0<=d.1/\d.1<(v.1.length:Int)then v.1[0+d.1.toNat]?.bind fun e=>some (true,v.1.set (0+d.1.toNat) (e.1,x.2.2.1,()),())else none
def WG:Ent:=⟨207,⟨(.slot (.slice A0) (si 2 .nil)),.nil⟩,⟨(.own 0 (.slot .bool .nil)),(.lst false A0 .nil)⟩,FB⟩
theorem bG:Ai Go.Proofs.Tryz.prog WG:=okA (hcA 0 (all_cons oq (all_cons Z4 (all_cons bJ (all_cons Qt (all_cons ox all_nil)))))) Go.Proofs.Tryz.func207
def FX (x:A1×Option (List Int)×Unit):Option (Bool×Unit):=x.2.1.bind fun v=>x.2.1.bind fun a=>(lAt v (IntKind.i64.wrap ((a.length:Int)-1))).bind fun v=>some (x.1.1==v,())
def Uw:Ent:=⟨274,⟨(.slot A0 (.slot (.iref (.slice .i)) .nil)),.nil⟩,⟨(.slot .bool .nil),.nil⟩,FX⟩
theorem i6:Ai Go.Proofs.Tryz.prog Uw:=okA (hcA 0 all_nil) Go.Proofs.Tryz.func274
abbrev om:=List A1×(Option (List Int)×Unit)×Int×Unit
abbrev oi:=Int×Unit
abbrev oj:=Int×Unit ⊕ Unit
def B6 (i:om)(v:oi)(R:Type)(K:oi ⊕ oj->Option R):Option R:=bif decide (v.1<i.2.2.1)then(lAt i.1 v.1).bind fun a=>(FX ((a.1,a.2.1,()),i.2.1.1,())).bind fun b=>bif b.1 then K (.inr (.inl (v.1,())))else K (.inl (IntKind.i64.wrap (v.1+1),()))else K (.inr (.inr ()))
theorem G4:Bg B6:=fun i v R K=>Ae (Ac fun _=>Ac fun _=>Ae (Aa) (Aa)) (Aa)
def bE:Tmpl:=⟨(.slot (.slice A0) (.slot (.fn 274 (.prod (.iref (.slice .i)) .unit)) (jk 5 (si 2 (jk 10 .nil))))),.nil⟩
def oh:Exs om oj:=xs .ret (fun i p=>⟨jn 4 (.n (p.1)::jn 14 ([])),[]⟩)<|x1 (.exit 0) fun i p=>⟨jn 19 ([]),[]⟩
def ol:=((.i (.i (.i (.v .n)))):Pk bE.ty _ _)
def xT:Cfg:={ti:=Aw,ents:=[Uw],ann:=[(2,Ao bE 0 (spP ol) B6 oh.E)],lent:=0}
def BF (x:List A1×(Option (List Int)×Unit)×Unit):Option (Int×Unit):=(AC (fun v=>B6 (x.1,x.2.1,(x.1.length:Int),()) v _ some) (0,())).bind fun p=>Az p (fun p=>some (p.1,())) fun p=>some (-1,())
def Uv:Ent:=⟨195,⟨(.slot (.slice A0) (.slot (.fn 274 (.prod (.iref (.slice .i)) .unit)) .nil)),.nil⟩,⟨(.slot .i .nil),.nil⟩,BF⟩
theorem oo:CfgOK Go.Proofs.Tryz.prog xT:=hcB (all_cons i6 all_nil)
theorem xS:B9 Go.Proofs.Tryz.prog xT (lpc Go.Proofs.Tryz.f195 0):=lkA oo bE ol B6 oh [4] G4
theorem bF:Ai Go.Proofs.Tryz.prog Uv:=okB oo Go.Proofs.Tryz.func195 xS
abbrev oe:=List Int×Int×Int×Unit
abbrev oa:=Int×Unit
abbrev ob:=Int×Unit ⊕ Unit
def Cm (i:oe)(v:oa)(R:Type)(K:oa ⊕ ob->Option R):Option R:=bif decide (v.1<i.2.2.1)then(lAt i.1 v.1).bind fun a=>bif i.2.1==a then K (.inr (.inl (v.1,())))else K (.inl (IntKind.i64.wrap (v.1+1),()))else K (.inr (.inr ()))
theorem KJ:Bg Cm:=fun i v R K=>Ae (Ac fun _=>Ae (Aa) (Aa)) (Aa)
def bD:Tmpl:=⟨(.slot (.slice .i) (.slot .i (jk 5 (si 2 (jk 10 .nil))))),.nil⟩
def o9:Exs oe ob:=xs .ret (fun i p=>⟨jn 4 (.n (p.1)::jn 14 ([])),[]⟩)<|x1 (.exit 0) fun i p=>⟨jn 19 ([]),[]⟩
def oc:=((.i (.i (.i (.v .n)))):Pk bD.ty _ _)
def xR:Cfg:={ti:=Aw,ents:=[],ann:=[(2,Ao bD 0 (spP oc) Cm o9.E)],lent:=0}
def Hw (x:List Int×Int×Unit):Option (Int×Unit):=(AC (fun v=>Cm (x.1,x.2.1,(x.1.length:Int),()) v _ some) (0,())).bind fun p=>Az p (fun p=>some (p.1,())) fun p=>some (-1,())
def ZD:Ent:=⟨221,⟨(.slot (.slice .i) (.slot .i .nil)),.nil⟩,⟨(.slot .i .nil),.nil⟩,Hw⟩
theorem og:CfgOK Go.Proofs.Tryz.prog xR:=hcB all_nil
theorem xQ:B9 Go.Proofs.Tryz.prog xR (lpc Go.Proofs.Tryz.f221 0):=lkA og bD oc Cm o9 [4] KJ
theorem od:Ai Go.Proofs.Tryz.prog ZD:=okB og Go.Proofs.Tryz.func221 xQ
def E6 (x:List Int×Int×Unit):Option (Bool×Unit):=(Hw (x.1,x.2.1,())).bind fun v=>some (decide (v.1>=0),())
def VQ:Ent:=⟨161,⟨(.slot (.slice .i) (.slot .i .nil)),.nil⟩,⟨(.slot .bool .nil),.nil⟩,E6⟩
theorem iH:Ai Go.Proofs.Tryz.prog VQ:=okA (hcA 0 (all_cons od all_nil)) Go.Proofs.Tryz.func161
abbrev o7:=List A1×Unit
abbrev nW:=List Int×Unit
abbrev nX:=List Int×Unit ⊕ List Int×List Int×Unit
def DA (i:o7)(v:nW)(R:Type)(K:nW ⊕ nX->Option R):Option R:=(BF (i.1,(some v.1,()),())).bind fun a=>bif decide (a.1<0)then K (.inr (.inl (v.1,())))else(lAt i.1 a.1).bind fun b=>(E6 (v.1,b.2.1,())).bind fun c=>(lAt i.1 a.1).bind fun d=>if(v.1++[d.2.1]).length<=4398046511104 then bif c.1 then K (.inr (.inr ([d.2.1],v.1++[d.2.1],())))else K (.inl (v.1++[d.2.1],()))else none
theorem M5:Bg DA:=fun i v R K=>Ac fun _=>Ae (Aa) (Ac fun _=>Ac fun _=>Ac fun _=>Aq (Ae (Aa) (Aa)))
def bC:Tmpl:=⟨(.slot (.slice A0) (jk 4 (.ptr 0 0 0 (jk 35 .nil)))),(.cells 1 (.own 1 .nil) (.lst false .i .nil))⟩
def nV:Exs o7 nX:=xs .ret (fun i p=>⟨jn 4 (AV.own 1 none none::jn 36 ([])),[some (Cont.cells 1 [[AV.own 1 none none]]),some (Cont.lst false .i p.1)]⟩)<|x1 .ret fun i p=>⟨jn 4 (AV.own 3 none none::jn 36 ([])),[some (Cont.cells 1 [[AV.own 3 none none]]),some Cont.dead,some (Cont.lst false .i p.1),some (Cont.lst false .i p.2.1)]⟩
def nY:=((.i (.v .n)):Pk bC.ty _ _)
def xP:Cfg:={ti:=Aw,ents:=[WH,RA,Uv,VQ],ann:=[(4,Ao bC 0 (spP nY) DA nV.E)],lent:=0}
def IA (x:List A1×Int×Unit):Option (List Int×Unit):=(Dn (x.1,())).bind fun v=>bif !v.1 then some ([],())else(BC (x.2.1,())).bind fun v=>bif !v.1 then some ([],())else(AC (fun v=>DA (x.1,()) v _ some) ([x.2.1],())).bind fun p=>Az p (fun p=>some (p.1,())) fun p=>some (p.2.1,())
def fa:Ent:=⟨245,⟨(.slot (.slice A0) (.slot .i .nil)),.nil⟩,⟨(.own 0 .nil),(.lst false .i .nil)⟩,IA⟩
theorem o8:CfgOK Go.Proofs.Tryz.prog xP:=hcB (all_cons bJ (all_cons Qt (all_cons bF (all_cons iH all_nil))))
theorem xO:B9 Go.Proofs.Tryz.prog xP (lpc Go.Proofs.Tryz.f245 0):=lkA o8 bC nY DA nV [4] M5
theorem nZ:Ai Go.Proofs.Tryz.prog fa:=okB o8 Go.Proofs.Tryz.func245 xO
def F5 (x:List A1×Int×Int×Unit):Option (Bool×Unit):=(FB (x.1,x.2.1,x.2.2.1,())).bind fun v=>bif !v.1 then some (false,())else(IA (v.2.1,x.2.1,())).bind fun v=>if 0<=IntKind.i64.wrap ((v.1.length:Int)-1)/\IntKind.i64.wrap ((v.1.length:Int)-1)<(v.1.length:Int)then v.1[0+(IntKind.i64.wrap ((v.1.length:Int)-1)).toNat]?.bind fun v=>some (v==x.2.1,())else none
def Uu:Ent:=⟨206,⟨(.slot (.slice A0) (si 2 .nil)),.nil⟩,⟨(.slot .bool .nil),.nil⟩,F5⟩
theorem nU:Ai Go.Proofs.Tryz.prog Uu:=okA (hcA 0 (all_cons bG (all_cons nZ all_nil))) Go.Proofs.Tryz.func206
def F6 (x:Int×Unit):Option (Bool×Unit):=bif x.1==1 then some (true,())else some (x.1==2,())
def WF:Ent:=⟨208,⟨(.slot .i .nil),.nil⟩,⟨(.slot .bool .nil),.nil⟩,F6⟩
theorem nT:Ai Go.Proofs.Tryz.prog WF:=okA (hcA 0 all_nil) Go.Proofs.Tryz.func208
abbrev nR:=List A1×List A1×Int×Unit
abbrev nN:=Int×Unit
abbrev nO:=Int×Int×Unit ⊕ Int×Int×Unit ⊕ Int×Int×Unit ⊕ Unit
def Eh (i:nR)(v:nN)(R:Type)(K:nN ⊕ nO->Option R):Option R:=bif decide (v.1<i.2.2.1)then(lAt i.2.1 v.1).bind fun a=>(Dl (a.1,())).bind fun b=>bif !b.1 then K (.inr (.inl (a.1,a.2.1,())))else(BC (a.2.1,())).bind fun c=>bif !c.1 then K (.inr (.inr (.inl (a.1,a.2.1,()))))else bif decide (v.1>0)then(lAt i.1 (IntKind.i64.wrap (v.1-1))).bind fun d=>bif decide (d.1>=a.1)then K (.inr (.inr (.inr (.inl (a.1,a.2.1,())))))else K (.inl (IntKind.i64.wrap (v.1+1),()))else K (.inl (IntKind.i64.wrap (v.1+1),()))else K (.inr (.inr (.inr (.inr ()))))
theorem Mx:Bg Eh:=fun i v R K=>Ae (Ac fun _=>Ac fun _=>Ae (Aa) (Ac fun _=>Ae (Aa) (Ae (Ac fun _=>Ae (Aa) (Aa)) (Aa)))) (Aa)
def bA:Tmpl:=⟨(.slot (.slice A0) (jk 4 (.slot (.slice A0) (si 2 (jk 30 .nil))))),.nil⟩
def nM:Exs nR nO:=xs .ret (fun i p=>⟨jn 2 (.b (false)::jn 35 ([])),[some (Cont.cells 2 [[AV.pv .i p.1,AV.pv .i p.2.1]])]⟩)<|xs .ret (fun i p=>⟨jn 2 (.b (false)::jn 35 ([])),[some (Cont.cells 2 [[AV.pv .i p.1,AV.pv .i p.2.1]])]⟩)<|xs .ret (fun i p=>⟨jn 2 (.b (false)::jn 35 ([])),[some (Cont.cells 2 [[AV.pv .i p.1,AV.pv .i p.2.1]])]⟩)<|x1 (.exit 0) fun i p=>⟨jn 38 ([]),[]⟩
def nP:=((.i (.i (.i (.v .n)))):Pk bA.ty _ _)
def xN:Cfg:={ti:=Aw,ents:=[Rz,RA],ann:=[(2,Ao bA 0 (spP nP) Eh nM.E)],lent:=0}
def Eu (x:List A1×Unit):Option (Bool×Unit):=(AC (fun v=>Eh (x.1,x.1,(x.1.length:Int),()) v _ some) (0,())).bind fun p=>Az p (fun p=>some (false,())) fun p=>Az p (fun p=>some (false,())) fun p=>Az p (fun p=>some (false,())) fun p=>some (true,())
def eZ:Ent:=⟨128,⟨(.slot (.slice A0) .nil),.nil⟩,⟨(.slot .bool .nil),.nil⟩,Eu⟩
theorem nS:CfgOK Go.Proofs.Tryz.prog xN:=hcB (all_cons TJ (all_cons Qt all_nil))
theorem xM:B9 Go.Proofs.Tryz.prog xN (lpc Go.Proofs.Tryz.f128 0):=lkA nS bA nP Eh nM [2] Mx
theorem nQ:Ai Go.Proofs.Tryz.prog eZ:=okB nS Go.Proofs.Tryz.func128 xM
def Dp (x:A1×Int×Unit):Option (Int×Unit):=(BO (x.1.1,x.2.1,())).bind fun v=>some (v.1,())
def VP:Ent:=⟨250,⟨(.slot A0 (.slot .i .nil)),.nil⟩,⟨(.slot .i .nil),.nil⟩,Dp⟩
theorem nL:Ai Go.Proofs.Tryz.prog VP:=okA (hcA 0 (all_cons TH all_nil)) Go.Proofs.Tryz.func250
abbrev nJ:=List A1×Int×Unit×Int×Unit
abbrev nF:=Int×Int×Unit
abbrev nG:=Int×Unit
def AA (i:nJ)(v:nF)(R:Type)(K:nF ⊕ nG->Option R):Option R:=bif decide (v.1<v.2.1)then(lAt i.1 (IntKind.i64.wrap (Int.fdiv (IntKind.u64.wrap (IntKind.i64.wrap (v.1+v.2.1))) (2 ^ min (Int.toNat 1) (IntKind.bits IntKind.u64))))).bind fun a=>(Dp ((a.1,a.2.1,()),i.2.1,())).bind fun b=>bif decide (b.1<0)then K (.inl (IntKind.i64.wrap (IntKind.i64.wrap (Int.fdiv (IntKind.u64.wrap (IntKind.i64.wrap (v.1+v.2.1))) (2 ^ min (Int.toNat 1) (IntKind.bits IntKind.u64)))+1),v.2.1,()))else K (.inl (v.1,IntKind.i64.wrap (Int.fdiv (IntKind.u64.wrap (IntKind.i64.wrap (v.1+v.2.1))) (2 ^ min (Int.toNat 1) (IntKind.bits IntKind.u64))),()))else K (.inr (v.1,()))
theorem En:Bg AA:=fun i v R K=>Ae (Ac fun _=>Ac fun _=>Ae (Aa) (Aa)) (Aa)
def bz:Tmpl:=⟨(.slot (.slice A0) (.slot .i (.slot (.fn 250 .unit) (jk 5 (si 3 (jk 38 .nil)))))),.nil⟩
def nE:Exs nJ nG:=x1 (.exit 0) fun i p=>⟨AV.pv (.slice A0) i.1::.n (i.2.1)::AV.pv (.fn 250 .unit) i.2.2.1::jn 5 (.n (i.2.2.2.1)::.n (p.1)::jn 39 ([])),[]⟩
def nH:=((.i (.i (.i (.i (.v (.v .n)))))):Pk bz.ty _ _)
def xL:Cfg:={ti:=Aw,ents:=[VP],ann:=[(3,Ao bz 0 (spP nH) AA nE.E)],lent:=0}
def AQ (x:List A1×Int×Unit×Unit):Option (Int×Bool×Unit):=(AC (fun v=>AA (x.1,x.2.1,x.2.2.1,(x.1.length:Int),()) v _ some) (0,(x.1.length:Int),())).bind fun p=>bif decide (p.1<(x.1.length:Int))then(lAt x.1 p.1).bind fun v=>(Dp ((v.1,v.2.1,()),x.2.1,())).bind fun v=>some (p.1,v.1==0,())else some (p.1,false,())
def ZC:Ent:=⟨249,⟨(.slot (.slice A0) (.slot .i (.slot (.fn 250 .unit) .nil))),.nil⟩,⟨(.slot .i (.slot .bool .nil)),.nil⟩,AQ⟩
theorem nK:CfgOK Go.Proofs.Tryz.prog xL:=hcB (all_cons nL all_nil)
theorem xK:B9 Go.Proofs.Tryz.prog xL (lpc Go.Proofs.Tryz.f249 0):=lkA nK bz nH AA nE [0,1,2,8,9] En
theorem nI:Ai Go.Proofs.Tryz.prog ZC:=okB nK Go.Proofs.Tryz.func249 xK
def eY:Go.Shelf.Ren:=⟨fun|22=>251|29=>277|30=>278|n=>n,fun|24=>37|9=>142|n=>n,fun|n=>n⟩
theorem Acp:InsL Go.Proofs.Tryz.prog eY true 2 where
 mixed:=by kernel_rfl
 f22:=⟨ "slices.Insert[[]loop.example/g01924/impl.Lock,loop.example/g01924/impl.Lock]",by decide,Go.Proofs.Tryz.func251.trans (congrArg some (by kernel_rfl))⟩
 f29:=⟨_,Go.Proofs.Tryz.func277,by kernel_rfl,by kernel_rfl,by kernel_rfl,by kernel_rfl⟩
 a9:=Go.Proofs.Tryz.isAgg142
 z9:=Go.Proofs.Tryz.sizeOf142
 t0:=Go.Proofs.Tryz.underlying0
 a0:=Go.Proofs.Tryz.isAgg0
 z0:=Go.Proofs.Tryz.sizeOf0
 v0:=Go.Proofs.Tryz.zeroValue0
 t3:=Go.Proofs.Tryz.underlying3
 a3:=Go.Proofs.Tryz.isAgg3
 z3:=Go.Proofs.Tryz.sizeOf3
 v3:=Go.Proofs.Tryz.zeroValue3
 t4:=Go.Proofs.Tryz.underlying4
 a4:=Go.Proofs.Tryz.isAgg4
 z4:=Go.Proofs.Tryz.sizeOf4
 v4:=Go.Proofs.Tryz.zeroValue4
 t24:=Go.Proofs.Tryz.underlying37
 a24:=Go.Proofs.Tryz.isAgg37
 z24:=Go.Proofs.Tryz.sizeOf37
 v24:=Go.Proofs.Tryz.zeroValue37
def EI (x:Int×List (Int×Int×Unit)×List (Int×Int×Unit)×Unit):Option (List (Int×Int×Unit)×Unit):=Pi (α:=Int×Int×Unit) 2199023255552 x
def ABv:Cfg:={ti:=Aw,ents:=[],ann:=[],lent:=2}
def ZB:Ent:=⟨251,⟨(.own 0 (.slot Ty.i (.own 1 .nil))),(.lst false A0 (.lst false A0 .nil))⟩,⟨(.own 2 .nil),(.gone (.gone (.lst false A0 .nil)))⟩,EI⟩
theorem nD:Ai Go.Proofs.Tryz.prog ZB:=Qe (ρ:=eY) (t:=A0) YT Acp rfl (by decide) rfl
def Es (x:List A1×Int×Int×Unit):Option (Bool×List A1×Unit):=(Cg (x.1,())).bind fun v=>(Eu (x.1,())).bind fun a=>bif !a.1 then some (false,v.1,())else(Dl (x.2.1,())).bind fun b=>bif !b.1 then some (false,v.1,())else(BC (x.2.2.1,())).bind fun c=>bif !c.1 then some (false,v.1,())else(AQ (x.1,x.2.1,(),())).bind fun d=>bif d.2.1 then(lAt x.1 d.1).bind fun e=>some (e.2.1==x.2.2.1,v.1,())else(EI (d.1,v.1,[(x.2.1,x.2.2.1,())],())).bind fun v=>some (true,v.1,())
def Ut:Ent:=⟨209,⟨(.slot (.slice A0) (si 2 .nil)),.nil⟩,⟨(.own 0 (.slot .bool .nil)),(.lst false A0 .nil)⟩,Es⟩
theorem nC:Ai Go.Proofs.Tryz.prog Ut:=okA (hcA 0 (all_cons nD (all_cons iO (all_cons nQ (all_cons TJ (all_cons Qt (all_cons nI all_nil))))))) Go.Proofs.Tryz.func209
def Cu (x:A1×Int×Unit):Option (Int×Unit):=(BO (x.1.1,x.2.1,())).bind fun v=>some (v.1,())
def Us:Ent:=⟨253,⟨(.slot A0 (.slot .i .nil)),.nil⟩,⟨(.slot .i .nil),.nil⟩,Cu⟩
theorem nB:Ai Go.Proofs.Tryz.prog Us:=okA (hcA 0 (all_cons TH all_nil)) Go.Proofs.Tryz.func253
abbrev nz:=List A1×Int×Unit×Int×Unit
abbrev nv:=Int×Int×Unit
abbrev nw:=Int×Unit
def Ar (i:nz)(v:nv)(R:Type)(K:nv ⊕ nw->Option R):Option R:=bif decide (v.1<v.2.1)then(lAt i.1 (IntKind.i64.wrap (Int.fdiv (IntKind.u64.wrap (IntKind.i64.wrap (v.1+v.2.1))) (2 ^ min (Int.toNat 1) (IntKind.bits IntKind.u64))))).bind fun a=>(Cu ((a.1,a.2.1,()),i.2.1,())).bind fun b=>bif decide (b.1<0)then K (.inl (IntKind.i64.wrap (IntKind.i64.wrap (Int.fdiv (IntKind.u64.wrap (IntKind.i64.wrap (v.1+v.2.1))) (2 ^ min (Int.toNat 1) (IntKind.bits IntKind.u64)))+1),v.2.1,()))else K (.inl (v.1,IntKind.i64.wrap (Int.fdiv (IntKind.u64.wrap (IntKind.i64.wrap (v.1+v.2.1))) (2 ^ min (Int.toNat 1) (IntKind.bits IntKind.u64))),()))else K (.inr (v.1,()))
theorem DI:Bg Ar:=fun i v R K=>Ae (Ac fun _=>Ac fun _=>Ae (Aa) (Aa)) (Aa)
def bx:Tmpl:=⟨(.slot (.slice A0) (.slot .i (.slot (.fn 253 .unit) (jk 5 (si 3 (jk 38 .nil)))))),.nil⟩
def nt:Exs nz nw:=x1 (.exit 0) fun i p=>⟨AV.pv (.slice A0) i.1::.n (i.2.1)::AV.pv (.fn 253 .unit) i.2.2.1::jn 5 (.n (i.2.2.2.1)::.n (p.1)::jn 39 ([])),[]⟩
def nx:=((.i (.i (.i (.i (.v (.v .n)))))):Pk bx.ty _ _)
def qB:Cfg:={ti:=Aw,ents:=[Us],ann:=[(3,Ao bx 0 (spP nx) Ar nt.E)],lent:=0}
def AI (x:List A1×Int×Unit×Unit):Option (Int×Bool×Unit):=(AC (fun v=>Ar (x.1,x.2.1,x.2.2.1,(x.1.length:Int),()) v _ some) (0,(x.1.length:Int),())).bind fun p=>bif decide (p.1<(x.1.length:Int))then(lAt x.1 p.1).bind fun v=>(Cu ((v.1,v.2.1,()),x.2.1,())).bind fun v=>some (p.1,v.1==0,())else some (p.1,false,())
def Ur:Ent:=⟨252,⟨(.slot (.slice A0) (.slot .i (.slot (.fn 253 .unit) .nil))),.nil⟩,⟨(.slot .i (.slot .bool .nil)),.nil⟩,AI⟩
theorem nA:CfgOK Go.Proofs.Tryz.prog qB:=hcB (all_cons nB all_nil)
theorem xJ:B9 Go.Proofs.Tryz.prog qB (lpc Go.Proofs.Tryz.f252 0):=lkA nA bx nx Ar nt [0,1,2,8,9] DI
theorem ny:Ai Go.Proofs.Tryz.prog Ur:=okB nA Go.Proofs.Tryz.func252 xJ
def CK (x:List A1×Unit):Option (List A1×Unit):=bif x.1.length==0 then Sz (some ([],())) (if x.1.length<=2199023255552 then some (x.1,())else none)else if x.1.length<=2199023255552 then some (x.1,())else none
def Uq:Ent:=⟨188,⟨(.slot (.slice A0) .nil),.nil⟩,⟨(.own 0 .nil),(.lst false A0 .nil)⟩,CK⟩
theorem ns:Ai Go.Proofs.Tryz.prog Uq:=okA (hcA 0 all_nil) Go.Proofs.Tryz.func188
def BE (x:Int×List (List A2)×Unit):Option (Option (Nat×Nat)×List (List A2)×Unit):=if 0<=x.1/\x.1<(x.2.1.length:Int)then x.2.1[0+x.1.toNat]?.bind fun v=>x.2.1[0+x.1.toNat]?.bind fun v=>x.2.1[0+x.1.toNat]?.bind fun a=>if 0<=IntKind.i64.wrap ((v.length:Int)-1)/\IntKind.i64.wrap ((v.length:Int)-1)<(a.length:Int)then some (some (0+x.1.toNat,0+(IntKind.i64.wrap ((v.length:Int)-1)).toNat),x.2.1,())else none else none
def Qx:Ent:=⟨243,⟨(.agg (.own 0 .nil) (.slot .i .nil)),(.tree false 0 (.slice Af) .nil)⟩,⟨(.mptr 0 0 0 .nil),(.tree false 0 (.slice Af) .nil)⟩,BE⟩
theorem Yn:Ai Go.Proofs.Tryz.prog Qx:=okA (hcA 1 all_nil) Go.Proofs.Tryz.func243
def eX:Go.Shelf.Ren:=⟨fun|22=>254|29=>279|30=>280|n=>n,fun|24=>91|9=>147|n=>n,fun|n=>n⟩
theorem Aco:InsL Go.Proofs.Tryz.prog eX true 2 where
 mixed:=by kernel_rfl
 f22:=⟨ "slices.Insert[[]loop.example/g01924/impl.Write,loop.example/g01924/impl.Write]",by decide,Go.Proofs.Tryz.func254.trans (congrArg some (by kernel_rfl))⟩
 f29:=⟨_,Go.Proofs.Tryz.func279,by kernel_rfl,by kernel_rfl,by kernel_rfl,by kernel_rfl⟩
 a9:=Go.Proofs.Tryz.isAgg147
 z9:=Go.Proofs.Tryz.sizeOf147
 t0:=Go.Proofs.Tryz.underlying0
 a0:=Go.Proofs.Tryz.isAgg0
 z0:=Go.Proofs.Tryz.sizeOf0
 v0:=Go.Proofs.Tryz.zeroValue0
 t3:=Go.Proofs.Tryz.underlying3
 a3:=Go.Proofs.Tryz.isAgg3
 z3:=Go.Proofs.Tryz.sizeOf3
 v3:=Go.Proofs.Tryz.zeroValue3
 t4:=Go.Proofs.Tryz.underlying4
 a4:=Go.Proofs.Tryz.isAgg4
 z4:=Go.Proofs.Tryz.sizeOf4
 v4:=Go.Proofs.Tryz.zeroValue4
 t24:=Go.Proofs.Tryz.underlying91
 a24:=Go.Proofs.Tryz.isAgg91
 z24:=Go.Proofs.Tryz.sizeOf91
 v24:=Go.Proofs.Tryz.zeroValue91
def Em (x:Int×List (Int×Int×Unit)×List (Int×Int×Unit)×Unit):Option (List (Int×Int×Unit)×Unit):=Pi (α:=Int×Int×Unit) 2199023255552 x
def A6c:Cfg:={ti:=Aw,ents:=[],ann:=[],lent:=2}
def Up:Ent:=⟨254,⟨(.own 0 (.slot Ty.i (.own 1 .nil))),(.lst false A0 (.lst false A0 .nil))⟩,⟨(.own 2 .nil),(.gone (.gone (.lst false A0 .nil)))⟩,Em⟩
theorem nr:Ai Go.Proofs.Tryz.prog Up:=Qe (ρ:=eX) (t:=A0) YR Aco rfl (by decide) rfl
def qA:Cfg:={ti:=Aw,ents:=[Qx,Up,Ur,Uq],ann:=[],lent:=2,hid:=[((6,0),[1]),((6,1),[1]),((6,2),[1]),((6,3),[1]),((6,4),[1])],tak:=[254]}
def Bw (x:Nat×Int×Int×List A3×List (List A2)×Unit):Option (List A3×List (List A2)×Unit):=x.2.2.2.1[x.1]?.bind fun v=>x.2.2.2.1[x.1]?.bind fun v=>(AI (v.2.2.2.2.2.2.2.2.1,x.2.1,(),())).bind fun v=>x.2.2.2.1[x.1]?.bind fun a=>x.2.2.2.1[x.1]?.bind fun b=>(CK (b.2.2.2.2.2.2.2.2.1,())).bind fun c=>x.2.2.2.1[x.1]?.bind fun d=>bif v.2.1 then(x.2.2.2.1.set x.1 (d.1,d.2.1,d.2.2.1,d.2.2.2.1,d.2.2.2.2.1,d.2.2.2.2.2.1,d.2.2.2.2.2.2.1,d.2.2.2.2.2.2.2.1,c.1,()))[x.1]?.bind fun e=>(x.2.2.2.1.set x.1 (d.1,d.2.1,d.2.2.1,d.2.2.2.1,d.2.2.2.2.1,d.2.2.2.2.2.1,d.2.2.2.2.2.2.1,d.2.2.2.2.2.2.2.1,c.1,()))[x.1]?.bind fun f=>if 0<=v.1/\v.1<(f.2.2.2.2.2.2.2.2.1.length:Int)then(x.2.2.2.1.set x.1 (d.1,d.2.1,d.2.2.1,d.2.2.2.1,d.2.2.2.2.1,d.2.2.2.2.2.1,d.2.2.2.2.2.2.1,d.2.2.2.2.2.2.2.1,c.1,()))[x.1]?.bind fun g=>g.2.2.2.2.2.2.2.2.1[0+v.1.toNat]?.bind fun h=>((x.2.2.2.1.set x.1 (d.1,d.2.1,d.2.2.1,d.2.2.2.1,d.2.2.2.2.1,d.2.2.2.2.2.1,d.2.2.2.2.2.2.1,d.2.2.2.2.2.2.2.1,c.1,())).set x.1 (g.1,g.2.1,g.2.2.1,g.2.2.2.1,g.2.2.2.2.1,g.2.2.2.2.2.1,g.2.2.2.2.2.2.1,g.2.2.2.2.2.2.2.1,g.2.2.2.2.2.2.2.2.1.set (0+v.1.toNat) (h.1,x.2.2.1,()),()))[x.1]?.bind fun j=>(BE (x.2.1,x.2.2.2.2.1,())).bind fun k=>k.1.bind fun l=>k.2.1[l.1]?.bind fun m=>m[l.2]?.bind fun n=>((x.2.2.2.1.set x.1 (d.1,d.2.1,d.2.2.1,d.2.2.2.1,d.2.2.2.2.1,d.2.2.2.2.2.1,d.2.2.2.2.2.2.1,d.2.2.2.2.2.2.2.1,c.1,())).set x.1 (g.1,g.2.1,g.2.2.1,g.2.2.2.1,g.2.2.2.2.1,g.2.2.2.2.2.1,g.2.2.2.2.2.2.1,g.2.2.2.2.2.2.2.1,g.2.2.2.2.2.2.2.2.1.set (0+v.1.toNat) (h.1,x.2.2.1,()),()))[x.1]?.bind fun o=>some (((x.2.2.2.1.set x.1 (d.1,d.2.1,d.2.2.1,d.2.2.2.1,d.2.2.2.2.1,d.2.2.2.2.2.1,d.2.2.2.2.2.2.1,d.2.2.2.2.2.2.2.1,c.1,())).set x.1 (g.1,g.2.1,g.2.2.1,g.2.2.2.1,g.2.2.2.2.1,g.2.2.2.2.2.1,g.2.2.2.2.2.2.1,g.2.2.2.2.2.2.2.1,g.2.2.2.2.2.2.2.2.1.set (0+v.1.toNat) (h.1,x.2.2.1,()),())).set x.1 (o.1,o.2.1,o.2.2.1,o.2.2.2.1,mx j.2.2.2.2.1 n.2.2.2.1,o.2.2.2.2.2.1,o.2.2.2.2.2.2.1,o.2.2.2.2.2.2.2.1,o.2.2.2.2.2.2.2.2.1,()),k.2.1,())else none else(x.2.2.2.1.set x.1 (d.1,d.2.1,d.2.2.1,d.2.2.2.1,d.2.2.2.2.1,d.2.2.2.2.2.1,d.2.2.2.2.2.2.1,d.2.2.2.2.2.2.2.1,c.1,()))[x.1]?.bind fun e=>(x.2.2.2.1.set x.1 (d.1,d.2.1,d.2.2.1,d.2.2.2.1,d.2.2.2.2.1,d.2.2.2.2.2.1,d.2.2.2.2.2.2.1,d.2.2.2.2.2.2.2.1,c.1,()))[x.1]?.bind fun f=>(Em (v.1,f.2.2.2.2.2.2.2.2.1,[(x.2.1,x.2.2.1,())],())).bind fun v=>(x.2.2.2.1.set x.1 (d.1,d.2.1,d.2.2.1,d.2.2.2.1,d.2.2.2.2.1,d.2.2.2.2.2.1,d.2.2.2.2.2.2.1,d.2.2.2.2.2.2.2.1,c.1,()))[x.1]?.bind fun g=>if 9<=9/\true=true/\x.1=x.1/\8<=8/\8<9 then((x.2.2.2.1.set x.1 (d.1,d.2.1,d.2.2.1,d.2.2.2.1,d.2.2.2.2.1,d.2.2.2.2.2.1,d.2.2.2.2.2.2.1,d.2.2.2.2.2.2.2.1,c.1,())).set x.1 (g.1,g.2.1,g.2.2.1,g.2.2.2.1,g.2.2.2.2.1,g.2.2.2.2.2.1,g.2.2.2.2.2.2.1,g.2.2.2.2.2.2.2.1,v.1,()))[x.1]?.bind fun h=>(BE (x.2.1,x.2.2.2.2.1,())).bind fun j=>j.1.bind fun k=>j.2.1[k.1]?.bind fun l=>l[k.2]?.bind fun m=>((x.2.2.2.1.set x.1 (d.1,d.2.1,d.2.2.1,d.2.2.2.1,d.2.2.2.2.1,d.2.2.2.2.2.1,d.2.2.2.2.2.2.1,d.2.2.2.2.2.2.2.1,c.1,())).set x.1 (g.1,g.2.1,g.2.2.1,g.2.2.2.1,g.2.2.2.2.1,g.2.2.2.2.2.1,g.2.2.2.2.2.2.1,g.2.2.2.2.2.2.2.1,v.1,()))[x.1]?.bind fun n=>some (((x.2.2.2.1.set x.1 (d.1,d.2.1,d.2.2.1,d.2.2.2.1,d.2.2.2.2.1,d.2.2.2.2.2.1,d.2.2.2.2.2.2.1,d.2.2.2.2.2.2.2.1,c.1,())).set x.1 (g.1,g.2.1,g.2.2.1,g.2.2.2.1,g.2.2.2.2.1,g.2.2.2.2.2.1,g.2.2.2.2.2.2.1,g.2.2.2.2.2.2.2.1,v.1,())).set x.1 (n.1,n.2.1,n.2.2.1,n.2.2.2.1,mx h.2.2.2.2.1 m.2.2.2.1,n.2.2.2.2.2.1,n.2.2.2.2.2.2.1,n.2.2.2.2.2.2.2.1,n.2.2.2.2.2.2.2.2.1,()),j.2.1,())else none
def Uo:Ent:=⟨210,⟨(.ptrI 0 0 (.agg (.own 1 .nil) (si 2 .nil))),(.tree false 0 Ad (.tree false 0 (.slice Af) .nil))⟩,⟨.nil,(.tree false 1 Ad (.tree false 0 (.slice Af) .nil))⟩,Bw⟩
theorem nq:Ai Go.Proofs.Tryz.prog Uo:=okA (C:=qA) (hcB (all_cons Yn (all_cons nr (all_cons ny (all_cons ns all_nil))))) Go.Proofs.Tryz.func210
def Acn:Cfg:={ti:=Aw,ents:=[Pa,Uo,WI,Uz,Uu,WG,WF,Ut],ann:=[],lent:=5,hid:=[((5,13),[0]),((10,13),[0])],pre:=[(some (0,3)),(some (0,4))]}
def Ez (x:Nat×Int×Int×Bool×Int×A7):Option (Int×Bool×Int×A7):=x.2.2.2.2.2.2.1[x.1]?.bind fun v=>x.2.2.2.2.2.2.1[x.1]?.bind fun a=>x.2.2.2.2.2.2.1[x.1]?.bind fun b=>(DV ((x.2.2.2.2.2.1,()),x.2.2.2.2.2.2.2.1,(v.1,v.2.1,v.2.2.1,v.2.2.2.1,v.2.2.2.2.1,v.2.2.2.2.2.1,v.2.2.2.2.2.2.1,a.2.2.2.2.2.2.2.1,b.2.2.2.2.2.2.2.2.1,()),x.2.1,())).bind fun v=>(FD (x.2.2.2.2.2.2.2.1,x.2.1,())).bind fun c=>bif v.1==1 then x.2.2.2.2.2.2.1[x.1]?.bind fun d=>(F5 (x.2.2.2.2.2.2.2.2.1,d.1,c.1,())).bind fun e=>bif e.1 then(B5 (x.1,4,x.2.2.2.1,x.2.2.2.2.1,x.2.2.2.2.2.1,x.2.2.2.2.2.2.1,x.2.2.2.2.2.2.2.1,x.2.2.2.2.2.2.2.2.1,())).bind fun v=>some (v.1,v.2.1,v.2.2.1,v.2.2.2.1,v.2.2.2.2.1,v.2.2.2.2.2.2.2.1,v.2.2.2.2.2.2.2.2.1,())else bif v.1==1 then x.2.2.2.2.2.2.1[x.1]?.bind fun f=>(FB (x.2.2.2.2.2.2.2.2.1,f.1,c.1,())).bind fun g=>some (v.1,x.2.2.2.1,x.2.2.2.2.1,x.2.2.2.2.2.1,x.2.2.2.2.2.2.1,x.2.2.2.2.2.2.2.1,g.2.1,())else bif v.1 != 0 then(B5 (x.1,v.1,x.2.2.2.1,x.2.2.2.2.1,x.2.2.2.2.2.1,x.2.2.2.2.2.2.1,x.2.2.2.2.2.2.2.1,x.2.2.2.2.2.2.2.2.1,())).bind fun v=>some (v.1,v.2.1,v.2.2.1,v.2.2.2.1,v.2.2.2.2.1,v.2.2.2.2.2.2.2.1,v.2.2.2.2.2.2.2.2.1,())else x.2.2.2.2.2.2.1[x.1]?.bind fun v=>(F6 (v.2.1,())).bind fun v=>bif v.1 then x.2.2.2.2.2.2.1[x.1]?.bind fun v=>(Es (x.2.2.2.2.2.2.2.1,x.2.1,v.1,())).bind fun v=>(Bw (x.1,x.2.1,x.2.2.1,x.2.2.2.2.2.2.1,x.2.2.2.2.2.1,())).bind fun f=>some (0,x.2.2.2.1,x.2.2.2.2.1,f.2.1,f.1,v.2.1,x.2.2.2.2.2.2.2.2.1,())else(Bw (x.1,x.2.1,x.2.2.1,x.2.2.2.2.2.2.1,x.2.2.2.2.2.1,())).bind fun v=>some (0,x.2.2.2.1,x.2.2.2.2.1,v.2.1,v.1,x.2.2.2.2.2.2.2.1,x.2.2.2.2.2.2.2.2.1,())else bif v.1==1 then x.2.2.2.2.2.2.1[x.1]?.bind fun d=>(FB (x.2.2.2.2.2.2.2.2.1,d.1,c.1,())).bind fun e=>some (v.1,x.2.2.2.1,x.2.2.2.2.1,x.2.2.2.2.2.1,x.2.2.2.2.2.2.1,x.2.2.2.2.2.2.2.1,e.2.1,())else bif v.1 != 0 then(B5 (x.1,v.1,x.2.2.2.1,x.2.2.2.2.1,x.2.2.2.2.2.1,x.2.2.2.2.2.2.1,x.2.2.2.2.2.2.2.1,x.2.2.2.2.2.2.2.2.1,())).bind fun v=>some (v.1,v.2.1,v.2.2.1,v.2.2.2.1,v.2.2.2.2.1,v.2.2.2.2.2.2.2.1,v.2.2.2.2.2.2.2.2.1,())else x.2.2.2.2.2.2.1[x.1]?.bind fun v=>(F6 (v.2.1,())).bind fun v=>bif v.1 then x.2.2.2.2.2.2.1[x.1]?.bind fun v=>(Es (x.2.2.2.2.2.2.2.1,x.2.1,v.1,())).bind fun v=>(Bw (x.1,x.2.1,x.2.2.1,x.2.2.2.2.2.2.1,x.2.2.2.2.2.1,())).bind fun d=>some (0,x.2.2.2.1,x.2.2.2.2.1,d.2.1,d.1,v.2.1,x.2.2.2.2.2.2.2.2.1,())else(Bw (x.1,x.2.1,x.2.2.1,x.2.2.2.2.2.2.1,x.2.2.2.2.2.1,())).bind fun v=>some (0,x.2.2.2.1,x.2.2.2.2.1,v.2.1,v.1,x.2.2.2.2.2.2.2.1,x.2.2.2.2.2.2.2.2.1,())
def Un:Ent:=⟨147,⟨(.ptr 0 0 0 (.ptrI 2 0 (si 2 .nil))),(.cells 6 (.slot .bool (.own 1 (.own 2 (.own 3 (.own 4 (.slot .i .nil)))))) (.tree false 0 (.slice Af) (.tree false 0 Ad (.lst false A0 (.lst false A0 .nil)))))⟩,⟨(.agg (.slot .i (.const (AV.nils) .nil)) .nil),(.cells 6 (.slot .bool (.own 1 (.own 2 (.own 5 (.own 6 (.slot .i .nil)))))) (.tree false 0 (.slice Af) (.tree false 1 Ad (.gone (.gone (.lst false A0 (.lst false A0 .nil)))))))⟩,Ez⟩
theorem np:Ai Go.Proofs.Tryz.prog Un:=okA (C:=Acn) (hcB (all_cons PL (all_cons nq (all_cons oG (all_cons Yp (all_cons nU (all_cons bG (all_cons nT (all_cons nC all_nil))))))))) Go.Proofs.Tryz.func147
def BR (x:A1×Option A4×Option A3×Unit):Option (Bool×Unit):=x.2.1.bind fun v=>(D2 ((v.1,()),x.1.1,())).bind fun v=>v.1.bind fun v=>x.2.2.1.bind fun a=>some (decide (v.2.2.1>a.2.2.2.1),())
def WE:Ent:=⟨256,⟨(.slot A0 (.slot (.iref Bp) (.slot (.iref Ad) .nil))),.nil⟩,⟨(.slot .bool .nil),.nil⟩,BR⟩
theorem nn:Ai Go.Proofs.Tryz.prog WE:=okA (hcA 0 (all_cons Wa all_nil)) Go.Proofs.Tryz.func256
abbrev nk:=List A1×(Option A4×Option A3×Unit)×Int×Unit
abbrev ng:=Int×Unit
abbrev nh:=Int×Unit ⊕ Unit
def AG (i:nk)(v:ng)(R:Type)(K:ng ⊕ nh->Option R):Option R:=bif decide (v.1<i.2.2.1)then(lAt i.1 v.1).bind fun a=>(BR ((a.1,a.2.1,()),i.2.1.1,i.2.1.2.1,())).bind fun b=>bif b.1 then K (.inr (.inl (v.1,())))else K (.inl (IntKind.i64.wrap (v.1+1),()))else K (.inr (.inr ()))
theorem EJ:Bg AG:=fun i v R K=>Ae (Ac fun _=>Ac fun _=>Ae (Aa) (Aa)) (Aa)
def bv:Tmpl:=⟨(.slot (.slice A0) (.slot (.fn 256 (.prod (.iref Bp) (.prod (.iref Ad) .unit))) (jk 5 (si 2 (jk 10 .nil))))),.nil⟩
def nf:Exs nk nh:=xs .ret (fun i p=>⟨jn 4 (.n (p.1)::jn 14 ([])),[]⟩)<|x1 (.exit 0) fun i p=>⟨jn 19 ([]),[]⟩
def ni:=((.i (.i (.i (.v .n)))):Pk bv.ty _ _)
def xC:Cfg:={ti:=Aw,ents:=[WE],ann:=[(2,Ao bv 0 (spP ni) AG nf.E)],lent:=0}
def Bj (x:List A1×(Option A4×Option A3×Unit)×Unit):Option (Int×Unit):=(AC (fun v=>AG (x.1,x.2.1,(x.1.length:Int),()) v _ some) (0,())).bind fun p=>Az p (fun p=>some (p.1,())) fun p=>some (-1,())
def ZA:Ent:=⟨269,⟨(.slot (.slice A0) (.slot (.fn 256 (.prod (.iref Bp) (.prod (.iref Ad) .unit))) .nil)),.nil⟩,⟨(.slot .i .nil),.nil⟩,Bj⟩
theorem nl:CfgOK Go.Proofs.Tryz.prog xC:=hcB (all_cons nn all_nil)
theorem xB:B9 Go.Proofs.Tryz.prog xC (lpc Go.Proofs.Tryz.f269 0):=lkA nl bv ni AG nf [4] EJ
theorem nj:Ai Go.Proofs.Tryz.prog ZA:=okB nl Go.Proofs.Tryz.func269 xB
def Bh (x:List A1×(Option A4×Option A3×Unit)×Unit):Option (Bool×Unit):=(Bj (x.1,x.2.1,())).bind fun v=>some (decide (v.1>=0),())
def eW:Ent:=⟨255,⟨(.slot (.slice A0) (.slot (.fn 256 (.prod (.iref Bp) (.prod (.iref Ad) .unit))) .nil)),.nil⟩,⟨(.slot .bool .nil),.nil⟩,Bh⟩
theorem ne:Ai Go.Proofs.Tryz.prog eW:=okA (hcA 0 (all_cons nj all_nil)) Go.Proofs.Tryz.func255
def DC (x:A4×A3×Unit):Option (Int×Unit):=(Bh (x.2.1.2.2.2.2.2.2.2.2.1,(some (x.1.1,()),some (x.2.1.1,x.2.1.2.1,x.2.1.2.2.1,x.2.1.2.2.2.1,x.2.1.2.2.2.2.1,x.2.1.2.2.2.2.2.1,x.2.1.2.2.2.2.2.2.1,x.2.1.2.2.2.2.2.2.2.1,x.2.1.2.2.2.2.2.2.2.2.1,()),()),())).bind fun v=>bif !v.1 then some (0,())else bif x.2.1.2.1==2 then some (2,())else bif x.2.1.2.1==4 then some (3,())else some (0,())
def Um:Ent:=⟨211,⟨(.slot Bp (.slot Ad .nil)),.nil⟩,⟨(.slot .i .nil),.nil⟩,DC⟩
theorem nc:Ai Go.Proofs.Tryz.prog Um:=okA (hcA 0 (all_cons ne all_nil)) Go.Proofs.Tryz.func211
abbrev na:=List A1×Int×List (List A2)×A3
abbrev n3:=Int×Int×Unit
abbrev n6:=Int×Unit
def C3 (i:na)(v:n3)(R:Type)(K:n3 ⊕ n6->Option R):Option R:=bif decide (v.2.1<i.2.1)then(lAt i.1 v.2.1).bind fun a=>K (.inl (mx v.1 a.2.1,IntKind.i64.wrap (v.2.1+1),()))else K (.inr (v.1,()))
theorem Jh:Bg C3:=fun i v R K=>Ae (Ac fun _=>Aa) (Aa)
def bp:Tmpl:=⟨(jk 2 (.ptr 0 0 0 (.ptr 1 0 0 (.junk (.slot .i (jk 5 (.slot (.slice A0) (si 2 (jk 26 .nil))))))))),(.cells 1 (.slot (.slice (.slice Af)) .nil) (.cells 9 (si 7 (.slot (.slice A0) (.slot (.slice A0) .nil))) .nil))⟩
def mY:Exs na n6:=x1 (.exit 0) fun i p=>⟨jn 2 (AV.ptr 0 none 0 0::AV.ptr 1 none 0 0::jn 1 (.n (p.1)::jn 34 ([]))),[some (Cont.cells 1 [[AV.pv (.slice (.slice Af)) i.2.2.1]]),some (Cont.cells 9 [[AV.pv .i i.2.2.2.1,AV.pv .i i.2.2.2.2.1,AV.pv .i i.2.2.2.2.2.1,AV.pv .i i.2.2.2.2.2.2.1,AV.pv .i i.2.2.2.2.2.2.2.1,AV.pv .i i.2.2.2.2.2.2.2.2.1,AV.pv .i i.2.2.2.2.2.2.2.2.2.1,AV.pv (.slice A0) i.2.2.2.2.2.2.2.2.2.2.1,AV.pv (.slice A0) i.2.2.2.2.2.2.2.2.2.2.2.1]])]⟩
def n8:=((.v (.i (.i (.v (.i (.i (.i (.i (.i (.i (.i (.i (.i (.i .n)))))))))))))):Pk bp.ty _ _)
abbrev n9:=List A1×Int×List (List A2)×Unit
abbrev mZ:=Int×Int×Unit
abbrev n5:=Int×Unit
def Bx (i:n9)(v:mZ)(R:Type)(K:mZ ⊕ n5->Option R):Option R:=bif decide (v.2.1<i.2.1)then(lAt i.1 v.2.1).bind fun a=>(D2 ((i.2.2.1,()),a.1,())).bind fun b=>b.1.bind fun c=>K (.inl (mx v.1 c.2.2.2.1,IntKind.i64.wrap (v.2.1+1),()))else K (.inr (v.1,()))
theorem Jg:Bg Bx:=fun i v R K=>Ae (Ac fun _=>Ac fun _=>Ac fun _=>Aa) (Aa)
def bn:Tmpl:=⟨(jk 2 (.ptr 0 0 0 (jk 2 (.slot .i (jk 17 (.slot (.slice A0) (si 2 (jk 14 .nil)))))))),(.cells 1 (.slot (.slice (.slice Af)) .nil) .nil)⟩
def mX:Exs n9 n5:=x1 (.exit 2) fun i p=>⟨jn 5 (.n (p.1)::jn 34 ([])),[some (Cont.cells 1 [[AV.pv (.slice (.slice Af)) i.2.2.1]])]⟩
def n7:=((.v (.i (.i (.v (.i .n))))):Pk bn.ty _ _)
def jN:Cfg:={ti:=Aw,ents:=[Uy],ann:=[(3,Ao bp 0 (spP n8) C3 mY.E),(8,Ao bn 0 (spP n7) Bx mX.E)],lent:=0}
def DB (x:A4×A3×Unit):Option (Int×Unit):=(AC (fun v=>C3 (x.2.1.2.2.2.2.2.2.2.1,(x.2.1.2.2.2.2.2.2.2.1.length:Int),x.1.1,x.2.1.1,x.2.1.2.1,x.2.1.2.2.1,x.2.1.2.2.2.1,x.2.1.2.2.2.2.1,x.2.1.2.2.2.2.2.1,x.2.1.2.2.2.2.2.2.1,x.2.1.2.2.2.2.2.2.2.1,x.2.1.2.2.2.2.2.2.2.2.1,()) v _ some) (0,0,())).bind fun p=>(AC (fun v=>Bx (x.2.1.2.2.2.2.2.2.2.2.1,(x.2.1.2.2.2.2.2.2.2.2.1.length:Int),x.1.1,()) v _ some) (p.1,0,())).bind fun p=>some (p.1,())
def WD:Ent:=⟨257,⟨(.slot Bp (.slot Ad .nil)),.nil⟩,⟨(.slot .i .nil),.nil⟩,DB⟩
theorem bq:CfgOK Go.Proofs.Tryz.prog jN:=hcB (all_cons Wa all_nil)
theorem xz:B9 Go.Proofs.Tryz.prog jN (lpc Go.Proofs.Tryz.f257 1):=lkA bq bn n7 Bx mX [5] Jg
theorem xA:B9 Go.Proofs.Tryz.prog jN (lpc Go.Proofs.Tryz.f257 0):=lkA bq bp n8 C3 mY [2,3,5] Jh
theorem i5:Ai Go.Proofs.Tryz.prog WD:=okC bq Go.Proofs.Tryz.func257 xA xz
def GC (x:A2×Option Int×Unit):Option (Bool×Unit):=x.2.1.bind fun v=>some (x.1.2.2.1==v,())
def Ul:Ent:=⟨286,⟨(.slot Af (.slot (.iref .i) .nil)),.nil⟩,⟨(.slot .bool .nil),.nil⟩,GC⟩
theorem mW:Ai Go.Proofs.Tryz.prog Ul:=okA (hcA 0 all_nil) Go.Proofs.Tryz.func286
abbrev mV:=List A2×(Option Int×Unit)×Int×Unit
abbrev mR:=Int×Unit
abbrev mS:=Int×Unit ⊕ Unit
def AF (i:mV)(v:mR)(R:Type)(K:mR ⊕ mS->Option R):Option R:=bif decide (v.1<i.2.2.1)then(lAt i.1 v.1).bind fun a=>(GC ((a.1,a.2.1,a.2.2.1,a.2.2.2.1,a.2.2.2.2.1,()),i.2.1.1,())).bind fun b=>bif b.1 then K (.inr (.inl (v.1,())))else K (.inl (IntKind.i64.wrap (v.1+1),()))else K (.inr (.inr ()))
theorem FG:Bg AF:=fun i v R K=>Ae (Ac fun _=>Ac fun _=>Ae (Aa) (Aa)) (Aa)
def bm:Tmpl:=⟨(.slot (.slice Af) (.slot (.fn 286 (.prod (.iref .i) .unit)) (jk 5 (si 2 (jk 10 .nil))))),.nil⟩
def mQ:Exs mV mS:=xs .ret (fun i p=>⟨jn 4 (.n (p.1)::jn 14 ([])),[]⟩)<|x1 (.exit 0) fun i p=>⟨jn 19 ([]),[]⟩
def mT:=((.i (.i (.i (.v .n)))):Pk bm.ty _ _)
def eV:Cfg:={ti:=Aw,ents:=[Ul],ann:=[(2,Ao bm 0 (spP mT) AF mQ.E)],lent:=0}
def Cb (x:List A2×(Option Int×Unit)×Unit):Option (Int×Unit):=(AC (fun v=>AF (x.1,x.2.1,(x.1.length:Int),()) v _ some) (0,())).bind fun p=>Az p (fun p=>some (p.1,())) fun p=>some (-1,())
def eU:Ent:=⟨285,⟨(.slot (.slice Af) (.slot (.fn 286 (.prod (.iref .i) .unit)) .nil)),.nil⟩,⟨(.slot .i .nil),.nil⟩,Cb⟩
theorem Ym:CfgOK Go.Proofs.Tryz.prog eV:=hcB (all_cons mW all_nil)
theorem xy:B9 Go.Proofs.Tryz.prog eV (lpc Go.Proofs.Tryz.f285 0):=lkA Ym bm mT AF mQ [4] FG
theorem mU:Ai Go.Proofs.Tryz.prog eU:=okB Ym Go.Proofs.Tryz.func285 xy
def Er (x:List A2×Int×Unit):Option (Int×Unit):=(Cb (x.1,(some x.2.1,()),())).bind fun v=>some (v.1,())
def Zz:Ent:=⟨267,⟨(.slot (.slice Af) (.slot .i .nil)),.nil⟩,⟨(.slot .i .nil),.nil⟩,Er⟩
theorem bl:Ai Go.Proofs.Tryz.prog Zz:=okA (hcA 0 (all_cons mU all_nil)) Go.Proofs.Tryz.func267
def F7 (x:A4×A1×Unit):Option (Option A2×Unit):=(lAt x.1.1 x.2.1.1).bind fun v=>(Er (v,x.2.1.2.1,())).bind fun a=>bif decide (a.1<0)then some (none,())else(lAt v a.1).bind fun v=>some (some v,())
def SJ:Ent:=⟨236,⟨(.slot Bp (.slot A0 .nil)),.nil⟩,⟨(.slot (.iref Af) .nil),.nil⟩,F7⟩
theorem i4:Ai Go.Proofs.Tryz.prog SJ:=okA (hcA 0 (all_cons bl all_nil)) Go.Proofs.Tryz.func236
abbrev mP:=List A1×Int×List (List A2)×Unit
abbrev mL:=Int×Int×Unit
abbrev mM:=Int×Unit
def BQ (i:mP)(v:mL)(R:Type)(K:mL ⊕ mM->Option R):Option R:=bif decide (v.2.1<i.2.1)then(lAt i.1 v.2.1).bind fun a=>(F7 ((i.2.2.1,()),(a.1,a.2.1,()),())).bind fun b=>b.1.bind fun c=>K (.inl (mn v.1 c.2.2.2.2.1,IntKind.i64.wrap (v.2.1+1),()))else K (.inr (v.1,()))
theorem IX:Bg BQ:=fun i v R K=>Ae (Ac fun _=>Ac fun _=>Ac fun _=>Aa) (Aa)
def bk:Tmpl:=⟨(jk 2 (.ptr 0 0 0 (jk 2 (.slot .i (jk 3 (.slot (.slice A0) (si 2 (jk 13 .nil)))))))),(.cells 1 (.slot (.slice (.slice Af)) .nil) .nil)⟩
def mK:Exs mP mM:=x1 (.exit 0) fun i p=>⟨jn 5 (.n (p.1)::jn 19 ([])),[some (Cont.cells 1 [[AV.pv (.slice (.slice Af)) i.2.2.1]])]⟩
def mN:=((.v (.i (.i (.v (.i .n))))):Pk bk.ty _ _)
def eT:Cfg:={ti:=Aw,ents:=[SJ],ann:=[(3,Ao bk 0 (spP mN) BQ mK.E)],lent:=0}
def Dm (x:A4×A3×Unit):Option (Int×Unit):=(AC (fun v=>BQ (x.2.1.2.2.2.2.2.2.2.1,(x.2.1.2.2.2.2.2.2.2.1.length:Int),x.1.1,()) v _ some) (1000,0,())).bind fun p=>some (p.1,())
def Zy:Ent:=⟨258,⟨(.slot Bp (.slot Ad .nil)),.nil⟩,⟨(.slot .i .nil),.nil⟩,Dm⟩
theorem Yl:CfgOK Go.Proofs.Tryz.prog eT:=hcB (all_cons i4 all_nil)
theorem xq:B9 Go.Proofs.Tryz.prog eT (lpc Go.Proofs.Tryz.f258 0):=lkA Yl bk mN BQ mK [5] IX
theorem mO:Ai Go.Proofs.Tryz.prog Zy:=okB Yl Go.Proofs.Tryz.func258 xq
def DN (x:A4×A3×Int×Unit):Option A1:=(DB ((x.1.1,()),(x.2.1.1,x.2.1.2.1,x.2.1.2.2.1,x.2.1.2.2.2.1,x.2.1.2.2.2.2.1,x.2.1.2.2.2.2.2.1,x.2.1.2.2.2.2.2.2.1,x.2.1.2.2.2.2.2.2.2.1,x.2.1.2.2.2.2.2.2.2.2.1,()),())).bind fun v=>(Dm ((x.1.1,()),(x.2.1.1,x.2.1.2.1,x.2.1.2.2.1,x.2.1.2.2.2.1,x.2.1.2.2.2.2.1,x.2.1.2.2.2.2.2.1,x.2.1.2.2.2.2.2.2.1,x.2.1.2.2.2.2.2.2.2.1,x.2.1.2.2.2.2.2.2.2.2.1,()),())).bind fun a=>some (mx x.2.1.2.2.2.2.1 v.1,mn (mn x.2.1.2.2.2.2.2.1 a.1) x.2.2.1,())
def SI:Ent:=⟨212,⟨(.slot Bp (.slot Ad (.slot .i .nil))),.nil⟩,⟨(si 2 .nil),.nil⟩,DN⟩
theorem bj:Ai Go.Proofs.Tryz.prog SI:=okA (hcA 0 (all_cons i5 (all_cons mO all_nil))) Go.Proofs.Tryz.func212
def Cs (x:A1×Option A4×Unit):Option (Bool×Unit):=x.2.1.bind fun v=>(lAt v.1 x.1.1).bind fun v=>some ((v.length:Int)==50,())
def Uk:Ent:=⟨259,⟨(.slot A0 (.slot (.iref Bp) .nil)),.nil⟩,⟨(.slot .bool .nil),.nil⟩,Cs⟩
theorem mJ:Ai Go.Proofs.Tryz.prog Uk:=okA (hcA 0 all_nil) Go.Proofs.Tryz.func259
abbrev mH:=List A1×(Option A4×Unit)×Int×Unit
abbrev mE:=Int×Unit
abbrev mF:=Int×Unit ⊕ Unit
def AL (i:mH)(v:mE)(R:Type)(K:mE ⊕ mF->Option R):Option R:=bif decide (v.1<i.2.2.1)then(lAt i.1 v.1).bind fun a=>(Cs ((a.1,a.2.1,()),i.2.1.1,())).bind fun b=>bif b.1 then K (.inr (.inl (v.1,())))else K (.inl (IntKind.i64.wrap (v.1+1),()))else K (.inr (.inr ()))
theorem Fz:Bg AL:=fun i v R K=>Ae (Ac fun _=>Ac fun _=>Ae (Aa) (Aa)) (Aa)
def bi:Tmpl:=⟨(.slot (.slice A0) (.slot (.fn 259 (.prod (.iref Bp) .unit)) (jk 5 (si 2 (jk 10 .nil))))),.nil⟩
def mD:Exs mH mF:=xs .ret (fun i p=>⟨jn 4 (.n (p.1)::jn 14 ([])),[]⟩)<|x1 (.exit 0) fun i p=>⟨jn 19 ([]),[]⟩
def mG:=((.i (.i (.i (.v .n)))):Pk bi.ty _ _)
def jL:Cfg:={ti:=Aw,ents:=[Uk],ann:=[(2,Ao bi 0 (spP mG) AL mD.E)],lent:=0}
def Bn (x:List A1×(Option A4×Unit)×Unit):Option (Int×Unit):=(AC (fun v=>AL (x.1,x.2.1,(x.1.length:Int),()) v _ some) (0,())).bind fun p=>Az p (fun p=>some (p.1,())) fun p=>some (-1,())
def Zx:Ent:=⟨269,⟨(.slot (.slice A0) (.slot (.fn 259 (.prod (.iref Bp) .unit)) .nil)),.nil⟩,⟨(.slot .i .nil),.nil⟩,Bn⟩
theorem mI:CfgOK Go.Proofs.Tryz.prog jL:=hcB (all_cons mJ all_nil)
theorem xp:B9 Go.Proofs.Tryz.prog jL (lpc Go.Proofs.Tryz.f269 0):=lkA mI bi mG AL mD [4] Fz
theorem i3:Ai Go.Proofs.Tryz.prog Zx:=okB mI Go.Proofs.Tryz.func269 xp
def Bl (x:List A1×(Option A4×Unit)×Unit):Option (Bool×Unit):=(Bn (x.1,x.2.1,())).bind fun v=>some (decide (v.1>=0),())
def SH:Ent:=⟨255,⟨(.slot (.slice A0) (.slot (.fn 259 (.prod (.iref Bp) .unit)) .nil)),.nil⟩,⟨(.slot .bool .nil),.nil⟩,Bl⟩
theorem Yk:Ai Go.Proofs.Tryz.prog SH:=okA (hcA 0 (all_cons i3 all_nil)) Go.Proofs.Tryz.func255
def DP (x:A4×A3×Unit):Option (Bool×Unit):=(Bl (x.2.1.2.2.2.2.2.2.2.2.1,(some (x.1.1,()),()),())).bind fun v=>some (v.1,())
def Uj:Ent:=⟨213,⟨(.slot Bp (.slot Ad .nil)),.nil⟩,⟨(.slot .bool .nil),.nil⟩,DP⟩
theorem mC:Ai Go.Proofs.Tryz.prog Uj:=okA (hcA 0 (all_cons Yk all_nil)) Go.Proofs.Tryz.func213
def Fo (x:Int×Int×List (List A2)×Unit):Option (Option (Nat×Nat)×List (List A2)×Unit):=if 0<=x.1/\x.1<(x.2.2.1.length:Int)then x.2.2.1[0+x.1.toNat]?.bind fun v=>x.2.2.1[0+x.1.toNat]?.bind fun v=>(Er (v,x.2.1,())).bind fun v=>bif decide (v.1<0)then some (none,x.2.2.1,())else x.2.2.1[0+x.1.toNat]?.bind fun a=>if 0<=v.1/\v.1<(a.length:Int)then some (some (0+x.1.toNat,0+v.1.toNat),x.2.2.1,())else none else none
def Ui:Ent:=⟨236,⟨(.agg (.own 0 .nil) (.agg (si 2 .nil) .nil)),(.tree false 0 (.slice Af) .nil)⟩,⟨(.mptr 0 0 0 .nil),(.tree false 0 (.slice Af) .nil)⟩,Fo⟩
theorem mB:Ai Go.Proofs.Tryz.prog Ui:=okA (hcA 1 (all_cons bl all_nil)) Go.Proofs.Tryz.func236
abbrev mA:=Nat×Int×Nat×Int×Bool×Int×A8
abbrev mr:=Int×List (List A2)×Unit
abbrev mu:=List (List A2)×Unit
def BW (i:mA)(v:mr)(R:Type)(K:mr ⊕ mu->Option R):Option R:=bif decide (v.1<i.2.2.2.1)then i.2.2.2.2.2.2.1[i.2.2.1]?.bind fun a=>if 0<=v.1/\v.1<(a.2.2.2.2.2.2.2.1.length:Int)then i.2.2.2.2.2.2.1[i.2.2.1]?.bind fun b=>b.2.2.2.2.2.2.2.1[0+v.1.toNat]?.bind fun c=>(Fo (c.1,c.2.1,v.2.1,())).bind fun d=>d.1.bind fun e=>d.2.1[e.1]?.bind fun f=>f[e.2]?.bind fun g=>d.1.bind fun h=>d.2.1[h.1]?.bind fun j=>j[h.2]?.bind fun k=>K (.inl (IntKind.i64.wrap (v.1+1),d.2.1.set h.1 (j.set h.2 (k.1,k.2.1,k.2.2.1,mx g.2.2.2.1 i.2.1,k.2.2.2.2.1,())),()))else none else K (.inr (v.2.1,()))
theorem JS:Bg BW:=fun i v R K=>Ae (Ac fun _=>Aq (Ac fun _=>Ac fun _=>Ac fun _=>Ac fun _=>Ac fun _=>Ac fun _=>Ac fun _=>Ac fun _=>Ac fun _=>Aa)) (Aa)
def bf:Tmpl:=⟨(.ptr 0 0 1 (.ptrI 2 0 (.slot .i (jk 35 (.nown 2 7 (si 2 (jk 66 .nil))))))),(.cells 6 (.slot .bool (.own 1 (.own 2 (.own 3 (.own 4 (.slot .i .nil)))))) (.tree false 0 (.slice Af) (.tree false 1 Ad (.lst false A0 (.lst false A0 .nil)))))⟩
def mp:Exs mA mu:=x1 (.exit 0) fun i p=>⟨AV.ptr 0 none 0 1::AV.ptr 2 none i.1 0::.n (i.2.1)::jn 104 ([]),[some (Cont.cells 6 [[AV.pv .bool i.2.2.2.2.1,AV.own 1 none none,AV.own 2 none none,AV.own 3 none none,AV.own 4 none none,AV.pv .i i.2.2.2.2.2.1]]),some (Cont.tree false 0 (.slice Af) p.1 none),some (Cont.tree false 1 Ad i.2.2.2.2.2.2.1 none),some (Cont.lst false A0 i.2.2.2.2.2.2.2.1),some (Cont.lst false A0 i.2.2.2.2.2.2.2.2.1)]⟩
def mw:=((.i (.i (.i (.i (.v (.i (.i (.v (.i (.i (.i .n))))))))))):Pk bf.ty _ _)
abbrev mz:=Nat×Int×Nat×Int×Bool×Int×A8
abbrev mq:=Int×List (List A2)×Unit
abbrev mt:=List (List A2)×Unit
def BV (i:mz)(v:mq)(R:Type)(K:mq ⊕ mt->Option R):Option R:=bif decide (v.1<i.2.2.2.1)then i.2.2.2.2.2.2.1[i.2.2.1]?.bind fun a=>if 0<=v.1/\v.1<(a.2.2.2.2.2.2.2.2.1.length:Int)then i.2.2.2.2.2.2.1[i.2.2.1]?.bind fun b=>b.2.2.2.2.2.2.2.2.1[0+v.1.toNat]?.bind fun c=>(BE (c.1,v.2.1,())).bind fun d=>i.2.2.2.2.2.2.1[i.1]?.bind fun e=>d.1.bind fun f=>d.2.1[f.1]?.bind fun g=>g[f.2]?.bind fun h=>if 0<=c.1/\c.1<(↑((d.2.1.set f.1 (g.set f.2 (h.1,h.2.1,h.2.2.1,h.2.2.2.1,e.2.2.2.2.2.1,()))).length):Int)then(d.2.1.set f.1 (g.set f.2 (h.1,h.2.1,h.2.2.1,h.2.2.2.1,e.2.2.2.2.2.1,())))[0+c.1.toNat]?.bind fun j=>i.2.2.2.2.2.2.1[i.1]?.bind fun k=>(d.2.1.set f.1 (g.set f.2 (h.1,h.2.1,h.2.2.1,h.2.2.2.1,e.2.2.2.2.2.1,())))[0+c.1.toNat]?.bind fun l=>if(l++[(k.1,c.2.1,i.2.1,i.2.1,1000,())]).length<=879609302220 then if 0<=c.1/\c.1<(↑((d.2.1.set f.1 (g.set f.2 (h.1,h.2.1,h.2.2.1,h.2.2.2.1,e.2.2.2.2.2.1,()))).length):Int)then(d.2.1.set f.1 (g.set f.2 (h.1,h.2.1,h.2.2.1,h.2.2.2.1,e.2.2.2.2.2.1,())))[0+c.1.toNat]?.bind fun m=>if 1<=1/\true=true/\0+c.1.toNat=0+c.1.toNat/\0<=0/\0<1 then K (.inl (IntKind.i64.wrap (v.1+1),(d.2.1.set f.1 (g.set f.2 (h.1,h.2.1,h.2.2.1,h.2.2.2.1,e.2.2.2.2.2.1,()))).set (0+c.1.toNat) (l++[(k.1,c.2.1,i.2.1,i.2.1,1000,())]),()))else none else none else none else none else none else K (.inr (v.2.1,()))
theorem JR:Bg BV:=fun i v R K=>Ae (Ac fun _=>Aq (Ac fun _=>Ac fun _=>Ac fun _=>Ac fun _=>Ac fun _=>Ac fun _=>Ac fun _=>Aq (Ac fun _=>Ac fun _=>Ac fun _=>Aq (Aq (Ac fun _=>Aq (Aa)))))) (Aa)
def bc:Tmpl:=⟨(.ptr 0 0 1 (.ptrI 2 0 (.slot .i (jk 59 (.nown 2 8 (si 2 (jk 42 .nil))))))),(.cells 6 (.slot .bool (.own 1 (.own 2 (.own 3 (.own 4 (.slot .i .nil)))))) (.tree false 1 (.slice Af) (.tree false 1 Ad (.lst false A0 (.lst false A0 .nil)))))⟩
def mo:Exs mz mt:=x1 (.exit 2) fun i p=>⟨jn 107 ([]),[some (Cont.cells 6 [[AV.pv .bool i.2.2.2.2.1,AV.own 1 none none,AV.own 2 none none,AV.own 3 none none,AV.own 4 none none,AV.pv .i i.2.2.2.2.2.1]]),some (Cont.tree false 1 (.slice Af) p.1 none),some (Cont.tree false 1 Ad i.2.2.2.2.2.2.1 none),some (Cont.lst false A0 i.2.2.2.2.2.2.2.1),some (Cont.lst false A0 i.2.2.2.2.2.2.2.2.1)]⟩
def mv:=((.i (.i (.i (.i (.v (.i (.i (.v (.i (.i (.i .n))))))))))):Pk bc.ty _ _)
def bh:Cfg:={ti:=Aw,ents:=[Ui,Qx,SI],ann:=[(3,Ao bf 5 (spP mw) BW mp.E),(9,Ao bc 5 (spP mv) BV mo.E)],lent:=5,hid:=[((0,1),[2]),((0,12),[2]),((12,0),[1]),((12,1),[1]),((12,2),[1]),((12,3),[1]),((12,4),[1]),((12,5),[1])]}
def Db (x:Nat×Int×Bool×Int×A7):Option (Bool×Int×A7):=x.2.2.2.2.2.1[x.1]?.bind fun v=>x.2.2.2.2.2.1[x.1]?.bind fun a=>x.2.2.2.2.2.1[x.1]?.bind fun b=>(DN ((x.2.2.2.2.1,()),(v.1,v.2.1,v.2.2.1,v.2.2.2.1,v.2.2.2.2.1,v.2.2.2.2.2.1,v.2.2.2.2.2.2.1,a.2.2.2.2.2.2.2.1,b.2.2.2.2.2.2.2.2.1,()),x.2.1,())).bind fun v=>x.2.2.2.2.2.1[x.1]?.bind fun c=>(x.2.2.2.2.2.1.set x.1 (c.1,c.2.1,c.2.2.1,c.2.2.2.1,v.1,c.2.2.2.2.2.1,c.2.2.2.2.2.2.1,c.2.2.2.2.2.2.2.1,c.2.2.2.2.2.2.2.2.1,()))[x.1]?.bind fun d=>((x.2.2.2.2.2.1.set x.1 (c.1,c.2.1,c.2.2.1,c.2.2.2.1,v.1,c.2.2.2.2.2.1,c.2.2.2.2.2.2.1,c.2.2.2.2.2.2.2.1,c.2.2.2.2.2.2.2.2.1,())).set x.1 (d.1,d.2.1,d.2.2.1,d.2.2.2.1,d.2.2.2.2.1,v.2.1,d.2.2.2.2.2.2.1,d.2.2.2.2.2.2.2.1,d.2.2.2.2.2.2.2.2.1,()))[x.1]?.bind fun e=>(((x.2.2.2.2.2.1.set x.1 (c.1,c.2.1,c.2.2.1,c.2.2.2.1,v.1,c.2.2.2.2.2.1,c.2.2.2.2.2.2.1,c.2.2.2.2.2.2.2.1,c.2.2.2.2.2.2.2.2.1,())).set x.1 (d.1,d.2.1,d.2.2.1,d.2.2.2.1,d.2.2.2.2.1,v.2.1,d.2.2.2.2.2.2.1,d.2.2.2.2.2.2.2.1,d.2.2.2.2.2.2.2.2.1,())).set x.1 (e.1,e.2.1,2,e.2.2.2.1,e.2.2.2.2.1,e.2.2.2.2.2.1,e.2.2.2.2.2.2.1,e.2.2.2.2.2.2.2.1,e.2.2.2.2.2.2.2.2.1,()))[x.1]?.bind fun f=>((((x.2.2.2.2.2.1.set x.1 (c.1,c.2.1,c.2.2.1,c.2.2.2.1,v.1,c.2.2.2.2.2.1,c.2.2.2.2.2.2.1,c.2.2.2.2.2.2.2.1,c.2.2.2.2.2.2.2.2.1,())).set x.1 (d.1,d.2.1,d.2.2.1,d.2.2.2.1,d.2.2.2.2.1,v.2.1,d.2.2.2.2.2.2.1,d.2.2.2.2.2.2.2.1,d.2.2.2.2.2.2.2.2.1,())).set x.1 (e.1,e.2.1,2,e.2.2.2.1,e.2.2.2.2.1,e.2.2.2.2.2.1,e.2.2.2.2.2.2.1,e.2.2.2.2.2.2.2.1,e.2.2.2.2.2.2.2.2.1,())).set x.1 (f.1,f.2.1,f.2.2.1,f.2.2.2.1,f.2.2.2.2.1,f.2.2.2.2.2.1,x.2.1,f.2.2.2.2.2.2.2.1,f.2.2.2.2.2.2.2.2.1,()))[x.1]?.bind fun g=>((((x.2.2.2.2.2.1.set x.1 (c.1,c.2.1,c.2.2.1,c.2.2.2.1,v.1,c.2.2.2.2.2.1,c.2.2.2.2.2.2.1,c.2.2.2.2.2.2.2.1,c.2.2.2.2.2.2.2.2.1,())).set x.1 (d.1,d.2.1,d.2.2.1,d.2.2.2.1,d.2.2.2.2.1,v.2.1,d.2.2.2.2.2.2.1,d.2.2.2.2.2.2.2.1,d.2.2.2.2.2.2.2.2.1,())).set x.1 (e.1,e.2.1,2,e.2.2.2.1,e.2.2.2.2.1,e.2.2.2.2.2.1,e.2.2.2.2.2.2.1,e.2.2.2.2.2.2.2.1,e.2.2.2.2.2.2.2.2.1,())).set x.1 (f.1,f.2.1,f.2.2.1,f.2.2.2.1,f.2.2.2.2.1,f.2.2.2.2.2.1,x.2.1,f.2.2.2.2.2.2.2.1,f.2.2.2.2.2.2.2.2.1,()))[x.1]?.bind fun h=>(AC (fun j=>BW (x.1,x.2.1,x.1,(h.2.2.2.2.2.2.2.1.length:Int),x.2.2.1,x.2.2.2.1,(((x.2.2.2.2.2.1.set x.1 (c.1,c.2.1,c.2.2.1,c.2.2.2.1,v.1,c.2.2.2.2.2.1,c.2.2.2.2.2.2.1,c.2.2.2.2.2.2.2.1,c.2.2.2.2.2.2.2.2.1,())).set x.1 (d.1,d.2.1,d.2.2.1,d.2.2.2.1,d.2.2.2.2.1,v.2.1,d.2.2.2.2.2.2.1,d.2.2.2.2.2.2.2.1,d.2.2.2.2.2.2.2.2.1,())).set x.1 (e.1,e.2.1,2,e.2.2.2.1,e.2.2.2.2.1,e.2.2.2.2.2.1,e.2.2.2.2.2.2.1,e.2.2.2.2.2.2.2.1,e.2.2.2.2.2.2.2.2.1,())).set x.1 (f.1,f.2.1,f.2.2.1,f.2.2.2.1,f.2.2.2.2.1,f.2.2.2.2.2.1,x.2.1,f.2.2.2.2.2.2.2.1,f.2.2.2.2.2.2.2.2.1,()),x.2.2.2.2.2.2.1,x.2.2.2.2.2.2.2.1,()) j _ some) (0,x.2.2.2.2.1,())).bind fun p=>((((x.2.2.2.2.2.1.set x.1 (c.1,c.2.1,c.2.2.1,c.2.2.2.1,v.1,c.2.2.2.2.2.1,c.2.2.2.2.2.2.1,c.2.2.2.2.2.2.2.1,c.2.2.2.2.2.2.2.2.1,())).set x.1 (d.1,d.2.1,d.2.2.1,d.2.2.2.1,d.2.2.2.2.1,v.2.1,d.2.2.2.2.2.2.1,d.2.2.2.2.2.2.2.1,d.2.2.2.2.2.2.2.2.1,())).set x.1 (e.1,e.2.1,2,e.2.2.2.1,e.2.2.2.2.1,e.2.2.2.2.2.1,e.2.2.2.2.2.2.1,e.2.2.2.2.2.2.2.1,e.2.2.2.2.2.2.2.2.1,())).set x.1 (f.1,f.2.1,f.2.2.1,f.2.2.2.1,f.2.2.2.2.1,f.2.2.2.2.2.1,x.2.1,f.2.2.2.2.2.2.2.1,f.2.2.2.2.2.2.2.2.1,()))[x.1]?.bind fun j=>((((x.2.2.2.2.2.1.set x.1 (c.1,c.2.1,c.2.2.1,c.2.2.2.1,v.1,c.2.2.2.2.2.1,c.2.2.2.2.2.2.1,c.2.2.2.2.2.2.2.1,c.2.2.2.2.2.2.2.2.1,())).set x.1 (d.1,d.2.1,d.2.2.1,d.2.2.2.1,d.2.2.2.2.1,v.2.1,d.2.2.2.2.2.2.1,d.2.2.2.2.2.2.2.1,d.2.2.2.2.2.2.2.2.1,())).set x.1 (e.1,e.2.1,2,e.2.2.2.1,e.2.2.2.2.1,e.2.2.2.2.2.1,e.2.2.2.2.2.2.1,e.2.2.2.2.2.2.2.1,e.2.2.2.2.2.2.2.2.1,())).set x.1 (f.1,f.2.1,f.2.2.1,f.2.2.2.1,f.2.2.2.2.1,f.2.2.2.2.2.1,x.2.1,f.2.2.2.2.2.2.2.1,f.2.2.2.2.2.2.2.2.1,()))[x.1]?.bind fun k=>(AC (fun l=>BV (x.1,x.2.1,x.1,(k.2.2.2.2.2.2.2.2.1.length:Int),x.2.2.1,x.2.2.2.1,(((x.2.2.2.2.2.1.set x.1 (c.1,c.2.1,c.2.2.1,c.2.2.2.1,v.1,c.2.2.2.2.2.1,c.2.2.2.2.2.2.1,c.2.2.2.2.2.2.2.1,c.2.2.2.2.2.2.2.2.1,())).set x.1 (d.1,d.2.1,d.2.2.1,d.2.2.2.1,d.2.2.2.2.1,v.2.1,d.2.2.2.2.2.2.1,d.2.2.2.2.2.2.2.1,d.2.2.2.2.2.2.2.2.1,())).set x.1 (e.1,e.2.1,2,e.2.2.2.1,e.2.2.2.2.1,e.2.2.2.2.2.1,e.2.2.2.2.2.2.1,e.2.2.2.2.2.2.2.1,e.2.2.2.2.2.2.2.2.1,())).set x.1 (f.1,f.2.1,f.2.2.1,f.2.2.2.1,f.2.2.2.2.1,f.2.2.2.2.2.1,x.2.1,f.2.2.2.2.2.2.2.1,f.2.2.2.2.2.2.2.2.1,()),x.2.2.2.2.2.2.1,x.2.2.2.2.2.2.2.1,()) l _ some) (0,p.1,())).bind fun p=>some (x.2.2.1,x.2.2.2.1,p.1,(((x.2.2.2.2.2.1.set x.1 (c.1,c.2.1,c.2.2.1,c.2.2.2.1,v.1,c.2.2.2.2.2.1,c.2.2.2.2.2.2.1,c.2.2.2.2.2.2.2.1,c.2.2.2.2.2.2.2.2.1,())).set x.1 (d.1,d.2.1,d.2.2.1,d.2.2.2.1,d.2.2.2.2.1,v.2.1,d.2.2.2.2.2.2.1,d.2.2.2.2.2.2.2.1,d.2.2.2.2.2.2.2.2.1,())).set x.1 (e.1,e.2.1,2,e.2.2.2.1,e.2.2.2.2.1,e.2.2.2.2.2.1,e.2.2.2.2.2.2.1,e.2.2.2.2.2.2.2.1,e.2.2.2.2.2.2.2.2.1,())).set x.1 (f.1,f.2.1,f.2.2.1,f.2.2.2.1,f.2.2.2.2.1,f.2.2.2.2.2.1,x.2.1,f.2.2.2.2.2.2.2.1,f.2.2.2.2.2.2.2.2.1,()),x.2.2.2.2.2.2.1,x.2.2.2.2.2.2.2.1,())
def Uh:Ent:=⟨214,⟨(.ptr 0 0 1 (.ptrI 2 0 (.slot .i .nil))),(.cells 6 (.slot .bool (.own 1 (.own 2 (.own 3 (.own 4 (.slot .i .nil)))))) (.tree false 0 (.slice Af) (.tree false 0 Ad (.lst false A0 (.lst false A0 .nil)))))⟩,⟨.nil,(.cells 6 (.slot .bool (.own 1 (.own 2 (.own 3 (.own 4 (.slot .i .nil)))))) (.tree false 1 (.slice Af) (.tree false 1 Ad (.lst false A0 (.lst false A0 .nil)))))⟩,Db⟩
theorem bg:CfgOK Go.Proofs.Tryz.prog bh:=hcB (all_cons mB (all_cons Yn (all_cons bj all_nil)))
theorem xm:B9 Go.Proofs.Tryz.prog bh (lpc Go.Proofs.Tryz.f214 1):=lkA bg bc mv BV mo [] JR
theorem xn:B9 Go.Proofs.Tryz.prog bh (lpc Go.Proofs.Tryz.f214 0):=lkA bg bf mw BW mp [0,1,2] JS
theorem my:Ai Go.Proofs.Tryz.prog Uh:=okC bg Go.Proofs.Tryz.func214 xn xm
def xg:Cfg:={ti:=Aw,ents:=[Pa,Uh,WN,Um,SI,Uj],ann:=[],lent:=5,pre:=[(some (0,3)),(some (0,4))]}
def DW (x:Nat×Bool×Int×A7):Option (Int×Bool×Int×A7):=x.2.2.2.2.1[x.1]?.bind fun v=>x.2.2.2.2.1[x.1]?.bind fun a=>x.2.2.2.2.1[x.1]?.bind fun b=>(DC ((x.2.2.2.1,()),(v.1,v.2.1,v.2.2.1,v.2.2.2.1,v.2.2.2.2.1,v.2.2.2.2.2.1,v.2.2.2.2.2.2.1,a.2.2.2.2.2.2.2.1,b.2.2.2.2.2.2.2.2.1,()),())).bind fun v=>bif v.1 != 0 then(B5 (x.1,v.1,x.2.1,x.2.2.1,x.2.2.2.1,x.2.2.2.2.1,x.2.2.2.2.2.1,x.2.2.2.2.2.2.1,())).bind fun v=>some (v.1,v.2.1,v.2.2.1,v.2.2.2.1,v.2.2.2.2.1,v.2.2.2.2.2.2.2.1,v.2.2.2.2.2.2.2.2.1,())else bif x.2.2.1==999 then some (6,x.2.1,x.2.2.1,x.2.2.2.1,x.2.2.2.2.1,x.2.2.2.2.2.1,x.2.2.2.2.2.2.1,())else x.2.2.2.2.1[x.1]?.bind fun v=>x.2.2.2.2.1[x.1]?.bind fun c=>x.2.2.2.2.1[x.1]?.bind fun d=>(DN ((x.2.2.2.1,()),(v.1,v.2.1,v.2.2.1,v.2.2.2.1,v.2.2.2.2.1,v.2.2.2.2.2.1,v.2.2.2.2.2.2.1,c.2.2.2.2.2.2.2.1,d.2.2.2.2.2.2.2.2.1,()),IntKind.i64.wrap (x.2.2.1+1),())).bind fun v=>bif x.2.1 then bif decide (v.1>=v.2.1)then(B5 (x.1,5,x.2.1,x.2.2.1,x.2.2.2.1,x.2.2.2.2.1,x.2.2.2.2.2.1,x.2.2.2.2.2.2.1,())).bind fun v=>some (v.1,v.2.1,v.2.2.1,v.2.2.2.1,v.2.2.2.2.1,v.2.2.2.2.2.2.2.1,v.2.2.2.2.2.2.2.2.1,())else x.2.2.2.2.1[x.1]?.bind fun v=>x.2.2.2.2.1[x.1]?.bind fun e=>x.2.2.2.2.1[x.1]?.bind fun f=>(DP ((x.2.2.2.1,()),(v.1,v.2.1,v.2.2.1,v.2.2.2.1,v.2.2.2.2.1,v.2.2.2.2.2.1,v.2.2.2.2.2.2.1,e.2.2.2.2.2.2.2.1,f.2.2.2.2.2.2.2.2.1,()),())).bind fun v=>bif v.1 then(B5 (x.1,5,x.2.1,x.2.2.1,x.2.2.2.1,x.2.2.2.2.1,x.2.2.2.2.2.1,x.2.2.2.2.2.2.1,())).bind fun v=>some (v.1,v.2.1,v.2.2.1,v.2.2.2.1,v.2.2.2.2.1,v.2.2.2.2.2.2.2.1,v.2.2.2.2.2.2.2.2.1,())else(Db (x.1,IntKind.i64.wrap (x.2.2.1+1),x.2.1,IntKind.i64.wrap (x.2.2.1+1),x.2.2.2.1,x.2.2.2.2.1,x.2.2.2.2.2.1,x.2.2.2.2.2.2.1,())).bind fun v=>(D3 (x.1,v.1,v.2.1,v.2.2.1,v.2.2.2.1,v.2.2.2.2.1,v.2.2.2.2.2.1,())).bind fun v=>some (0,v.1,v.2.1,v.2.2.1,v.2.2.2.1,v.2.2.2.2.2.2.1,v.2.2.2.2.2.2.2.1,())else x.2.2.2.2.1[x.1]?.bind fun v=>x.2.2.2.2.1[x.1]?.bind fun e=>x.2.2.2.2.1[x.1]?.bind fun f=>(DP ((x.2.2.2.1,()),(v.1,v.2.1,v.2.2.1,v.2.2.2.1,v.2.2.2.2.1,v.2.2.2.2.2.1,v.2.2.2.2.2.2.1,e.2.2.2.2.2.2.2.1,f.2.2.2.2.2.2.2.2.1,()),())).bind fun v=>bif v.1 then(B5 (x.1,5,x.2.1,x.2.2.1,x.2.2.2.1,x.2.2.2.2.1,x.2.2.2.2.2.1,x.2.2.2.2.2.2.1,())).bind fun v=>some (v.1,v.2.1,v.2.2.1,v.2.2.2.1,v.2.2.2.2.1,v.2.2.2.2.2.2.2.1,v.2.2.2.2.2.2.2.2.1,())else(Db (x.1,IntKind.i64.wrap (x.2.2.1+1),x.2.1,IntKind.i64.wrap (x.2.2.1+1),x.2.2.2.1,x.2.2.2.2.1,x.2.2.2.2.2.1,x.2.2.2.2.2.2.1,())).bind fun v=>(D3 (x.1,v.1,v.2.1,v.2.2.1,v.2.2.2.1,v.2.2.2.2.1,v.2.2.2.2.2.1,())).bind fun v=>some (0,v.1,v.2.1,v.2.2.1,v.2.2.2.1,v.2.2.2.2.2.2.1,v.2.2.2.2.2.2.2.1,())
def Ug:Ent:=⟨148,⟨(.ptr 0 0 0 (.ptrI 2 0 .nil)),(.cells 6 (.slot .bool (.own 1 (.own 2 (.own 3 (.own 4 (.slot .i .nil)))))) (.tree false 0 (.slice Af) (.tree false 0 Ad (.lst false A0 (.lst false A0 .nil)))))⟩,⟨(.agg (.slot .i (.const (AV.nils) .nil)) .nil),(.cells 6 (.slot .bool (.own 1 (.own 2 (.own 5 (.own 6 (.slot .i .nil)))))) (.tree false 1 (.slice Af) (.tree false 1 Ad (.gone (.gone (.lst false A0 (.lst false A0 .nil)))))))⟩,DW⟩
theorem mm:Ai Go.Proofs.Tryz.prog Ug:=okA (C:=xg) (hcB (all_cons PL (all_cons my (all_cons bM (all_cons nc (all_cons bj (all_cons mC all_nil))))))) Go.Proofs.Tryz.func148
def qz:Cfg:={ti:=Aw,ents:=[XY,XA,UA,Un,Ug,Pa,XW,VS,XV],ann:=[],lent:=5,pre:=[(some (0,2)),(some (0,3)),(some (0,4))]}
def F8 (x:Int×Int×Int×Int×Int×Int×Bool×Int×A7):Option (Int×Bool×Int×List (List A2)×List A3×List A1×List A1×List Int×Unit):=bif x.1==1 then(EA (x.1,x.2.1,x.2.2.1,x.2.2.2.1,x.2.2.2.2.1,x.2.2.2.2.2.1,x.2.2.2.2.2.2.1,x.2.2.2.2.2.2.2.1,x.2.2.2.2.2.2.2.2.1,x.2.2.2.2.2.2.2.2.2.1,x.2.2.2.2.2.2.2.2.2.2.1,x.2.2.2.2.2.2.2.2.2.2.2.1,())).bind fun v=>some (v.1,v.2.1,v.2.2.1,v.2.2.2.1,v.2.2.2.2.2.2.1,v.2.2.2.2.1,v.2.2.2.2.2.1,[],())else(CY ((x.2.2.2.2.2.2.1,(x.2.2.2.2.2.2.2.2.1,()),x.2.2.2.2.2.2.2.2.2.1,x.2.2.2.2.2.2.2.2.2.2.1,x.2.2.2.2.2.2.2.2.2.2.2.1,x.2.2.2.2.2.2.2.1,()),x.2.1,())).bind fun v=>bif !v.1 then some (6,x.2.2.2.2.2.2.1,x.2.2.2.2.2.2.2.1,x.2.2.2.2.2.2.2.2.1,x.2.2.2.2.2.2.2.2.2.1,x.2.2.2.2.2.2.2.2.2.2.1,x.2.2.2.2.2.2.2.2.2.2.2.1,[],())else(CX ((x.2.2.2.2.2.2.1,(x.2.2.2.2.2.2.2.2.1,()),x.2.2.2.2.2.2.2.2.2.1,x.2.2.2.2.2.2.2.2.2.2.1,x.2.2.2.2.2.2.2.2.2.2.2.1,x.2.2.2.2.2.2.2.1,()),x.2.1,())).bind fun v=>if 0<=v.1/\v.1<(x.2.2.2.2.2.2.2.2.2.1.length:Int)then(BP (x.2.2.2.2.2.2.2.2.2.2.2.1,())).bind fun a=>(BB (a.1,x.1,x.2.1,x.2.2.1,x.2.2.2.1,x.2.2.2.2.1,x.2.2.2.2.2.1,())).bind fun b=>bif b.1==2 then(F9 (0+v.1.toNat,b.2.2.2.1,b.2.2.2.1,x.2.2.2.2.2.2.1,x.2.2.2.2.2.2.2.1,x.2.2.2.2.2.2.2.2.1,x.2.2.2.2.2.2.2.2.2.1,x.2.2.2.2.2.2.2.2.2.2.1,b.2.2.2.2.2.2.1,())).bind fun v=>some (v.1,v.2.1,v.2.2.1,v.2.2.2.1,v.2.2.2.2.1,v.2.2.2.2.2.1,v.2.2.2.2.2.2.1,v.2.2.2.2.2.2.2.1,())else bif b.1==4 then(F9 (0+v.1.toNat,b.2.2.2.1,b.2.2.2.2.1,x.2.2.2.2.2.2.1,x.2.2.2.2.2.2.2.1,x.2.2.2.2.2.2.2.2.1,x.2.2.2.2.2.2.2.2.2.1,x.2.2.2.2.2.2.2.2.2.2.1,b.2.2.2.2.2.2.1,())).bind fun v=>some (v.1,v.2.1,v.2.2.1,v.2.2.2.1,v.2.2.2.2.1,v.2.2.2.2.2.1,v.2.2.2.2.2.2.1,v.2.2.2.2.2.2.2.1,())else bif b.1==3 then(Ez (0+v.1.toNat,b.2.2.2.1,b.2.2.2.2.2.1,x.2.2.2.2.2.2.1,x.2.2.2.2.2.2.2.1,x.2.2.2.2.2.2.2.2.1,x.2.2.2.2.2.2.2.2.2.1,x.2.2.2.2.2.2.2.2.2.2.1,b.2.2.2.2.2.2.1,())).bind fun v=>some (v.1,v.2.1,v.2.2.1,v.2.2.2.1,v.2.2.2.2.1,v.2.2.2.2.2.1,v.2.2.2.2.2.2.1,[],())else bif b.1==5 then(DW (0+v.1.toNat,x.2.2.2.2.2.2.1,x.2.2.2.2.2.2.2.1,x.2.2.2.2.2.2.2.2.1,x.2.2.2.2.2.2.2.2.2.1,x.2.2.2.2.2.2.2.2.2.2.1,b.2.2.2.2.2.2.1,())).bind fun v=>some (v.1,v.2.1,v.2.2.1,v.2.2.2.1,v.2.2.2.2.1,v.2.2.2.2.2.1,v.2.2.2.2.2.2.1,[],())else(B5 (0+v.1.toNat,0,x.2.2.2.2.2.2.1,x.2.2.2.2.2.2.2.1,x.2.2.2.2.2.2.2.2.1,x.2.2.2.2.2.2.2.2.2.1,x.2.2.2.2.2.2.2.2.2.2.1,b.2.2.2.2.2.2.1,())).bind fun v=>some (v.1,v.2.1,v.2.2.1,v.2.2.2.1,v.2.2.2.2.1,v.2.2.2.2.2.2.2.1,v.2.2.2.2.2.2.2.2.1,[],())else none
def Uf:Ent:=⟨67,⟨(.ptr 0 0 0 (.agg (si 6 .nil) .nil)),(.cells 6 (.slot .bool (.own 1 (.own 2 (.own 3 (.own 4 (.slot .i .nil)))))) (.tree false 0 (.slice Af) (.tree false 0 Ad (.lst false A0 (.lst false A0 .nil)))))⟩,⟨(.agg (.slot .i (.own 8 .nil)) .nil),(.cells 6 (.slot .bool (.own 1 (.own 5 (.own 6 (.own 7 (.slot .i .nil)))))) (.tree false 1 (.slice Af) (.gone (.gone (.gone (.tree false 1 Ad (.lst false A0 (.lst false A0 (.lst false .i .nil)))))))))⟩,F8⟩
theorem ml:Ai Go.Proofs.Tryz.prog Uf:=okA (C:=qz) (hcB (all_cons tB (all_cons Sy (all_cons oU (all_cons np (all_cons mm (all_cons PL (all_cons qo (all_cons Z5 (all_cons Z4 all_nil)))))))))) Go.Proofs.Tryz.func67
def Ih (x:A2×A2×Unit):Option (Bool×Unit):=bif x.1.1 != x.2.1.1 then some (false,())else bif x.1.2.1 != x.2.1.2.1 then some (false,())else bif x.1.2.2.1 != x.2.1.2.2.1 then some (false,())else bif x.1.2.2.2.1 != x.2.1.2.2.2.1 then some (false,())else bif x.1.2.2.2.2.1 != x.2.1.2.2.2.2.1 then some (false,())else some (true,())
def cj:Ent:=⟨262,⟨(.slot Af (.slot Af .nil)),.nil⟩,⟨(.slot .bool .nil),.nil⟩,Ih⟩
theorem sA:Ai Go.Proofs.Tryz.prog cj:=okA (hcA 0 all_nil) Go.Proofs.Tryz.func262
abbrev A2u:=List A2×List A2×Unit
abbrev A2r:=Int×Unit
abbrev A2s:=Unit ⊕ Unit
def EE (i:A2u)(v:A2r)(R:Type)(K:A2r ⊕ A2s->Option R):Option R:=bif decide (v.1<(i.1.length:Int))then(lAt i.1 v.1).bind fun a=>(lAt i.2.1 v.1).bind fun b=>(Ih ((a.1,a.2.1,a.2.2.1,a.2.2.2.1,a.2.2.2.2.1,()),(b.1,b.2.1,b.2.2.1,b.2.2.2.1,b.2.2.2.2.1,()),())).bind fun c=>bif !c.1 then K (.inr (.inl ()))else K (.inl (IntKind.i64.wrap (v.1+1),()))else K (.inr (.inr ()))
theorem Nn:Bg EE:=fun i v R K=>Ae (Ac fun _=>Ac fun _=>Ac fun _=>Ae (Aa) (Aa)) (Aa)
def mi:Tmpl:=⟨(.slot (.slice Af) (.slot (.slice Af) (jk 3 (.slot .i (jk 21 .nil))))),.nil⟩
def A2q:Exs A2u A2s:=xs .ret (fun i p=>⟨jn 4 (.b (false)::jn 22 ([])),[]⟩)<|x1 (.exit 0) fun i p=>⟨jn 27 ([]),[]⟩
def A2t:=((.i (.i (.v .n))):Pk mi.ty _ _)
def Aac:Cfg:={ti:=Aw,ents:=[cj],ann:=[(4,Ao mi 0 (spP A2t) EE A2q.E)],lent:=0}
def HQ (x:List A2×List A2×Unit):Option (Bool×Unit):=bif (x.1.length:Int) != (x.2.1.length:Int)then some (false,())else(AC (fun v=>EE (x.1,x.2.1,()) v _ some) (0,())).bind fun p=>Az p (fun p=>some (false,())) fun p=>some (true,())
def Yj:Ent:=⟨216,⟨(.slot (.slice Af) (.slot (.slice Af) .nil)),.nil⟩,⟨(.slot .bool .nil),.nil⟩,HQ⟩
theorem A2v:CfgOK Go.Proofs.Tryz.prog Aac:=hcB (all_cons sA all_nil)
theorem Aab:B9 Go.Proofs.Tryz.prog Aac (lpc Go.Proofs.Tryz.f216 0):=lkA A2v mi A2t EE A2q [4] Nn
theorem mj:Ai Go.Proofs.Tryz.prog Yj:=okB A2v Go.Proofs.Tryz.func216 Aab
abbrev A2o:=List (List A2)×List (List A2)×Unit
abbrev A2l:=Int×Unit
abbrev A2m:=Unit ⊕ Unit
def E3 (i:A2o)(v:A2l)(R:Type)(K:A2l ⊕ A2m->Option R):Option R:=bif decide (v.1<(i.1.length:Int))then(lAt i.1 v.1).bind fun a=>(lAt i.2.1 v.1).bind fun b=>(HQ (a,b,())).bind fun c=>bif !c.1 then K (.inr (.inl ()))else K (.inl (IntKind.i64.wrap (v.1+1),()))else K (.inr (.inr ()))
theorem N1:Bg E3:=fun i v R K=>Ae (Ac fun _=>Ac fun _=>Ac fun _=>Ae (Aa) (Aa)) (Aa)
def mh:Tmpl:=⟨(.slot (.slice (.slice Af)) (.slot (.slice (.slice Af)) (jk 3 (.slot .i (jk 21 .nil))))),.nil⟩
def A2k:Exs A2o A2m:=xs .ret (fun i p=>⟨jn 4 (.b (false)::jn 22 ([])),[]⟩)<|x1 (.exit 0) fun i p=>⟨jn 27 ([]),[]⟩
def A2n:=((.i (.i (.v .n))):Pk mh.ty _ _)
def Aaa:Cfg:={ti:=Aw,ents:=[Yj],ann:=[(4,Ao mh 0 (spP A2n) E3 A2k.E)],lent:=0}
def He (x:List (List A2)×List (List A2)×Unit):Option (Bool×Unit):=bif (x.1.length:Int) != (x.2.1.length:Int)then some (false,())else(AC (fun v=>E3 (x.1,x.2.1,()) v _ some) (0,())).bind fun p=>Az p (fun p=>some (false,())) fun p=>some (true,())
def eR:Ent:=⟨150,⟨(.slot (.slice (.slice Af)) (.slot (.slice (.slice Af)) .nil)),.nil⟩,⟨(.slot .bool .nil),.nil⟩,He⟩
theorem A2p:CfgOK Go.Proofs.Tryz.prog Aaa:=hcB (all_cons mj all_nil)
theorem Aa9:B9 Go.Proofs.Tryz.prog Aaa (lpc Go.Proofs.Tryz.f150 0):=lkA A2p mh A2n E3 A2k [4] N1
theorem i2:Ai Go.Proofs.Tryz.prog eR:=okB A2p Go.Proofs.Tryz.func150 Aa9
def Jv (x:A4×A4×Unit):Option (Bool×Unit):=(He (x.1.1,x.2.1.1,())).bind fun v=>bif !v.1 then some (false,())else some (true,())
def eP:Ent:=⟨68,⟨(.slot Bp (.slot Bp .nil)),.nil⟩,⟨(.slot .bool .nil),.nil⟩,Jv⟩
theorem sy:Ai Go.Proofs.Tryz.prog eP:=okA (hcA 0 (all_cons i2 all_nil)) Go.Proofs.Tryz.func68
def HS (x:A1×A1×Unit):Option (Bool×Unit):=bif x.1.1 != x.2.1.1 then some (false,())else bif x.1.2.1 != x.2.1.2.1 then some (false,())else some (true,())
def Yi:Ent:=⟨263,⟨(.slot A0 (.slot A0 .nil)),.nil⟩,⟨(.slot .bool .nil),.nil⟩,HS⟩
theorem sx:Ai Go.Proofs.Tryz.prog Yi:=okA (hcA 0 all_nil) Go.Proofs.Tryz.func263
abbrev A2j:=A9
abbrev A2g:=Int×Unit
abbrev A2h:=Unit ⊕ Unit
def E4 (i:A2j)(v:A2g)(R:Type)(K:A2g ⊕ A2h->Option R):Option R:=bif decide (v.1<(i.1.length:Int))then(lAt i.1 v.1).bind fun a=>(lAt i.2.1 v.1).bind fun b=>(HS ((a.1,a.2.1,()),(b.1,b.2.1,()),())).bind fun c=>bif !c.1 then K (.inr (.inl ()))else K (.inl (IntKind.i64.wrap (v.1+1),()))else K (.inr (.inr ()))
theorem N2:Bg E4:=fun i v R K=>Ae (Ac fun _=>Ac fun _=>Ac fun _=>Ae (Aa) (Aa)) (Aa)
def me:Tmpl:=⟨(.slot (.slice A0) (.slot (.slice A0) (jk 3 (.slot .i (jk 21 .nil))))),.nil⟩
def A2f:Exs A2j A2h:=xs .ret (fun i p=>⟨jn 4 (.b (false)::jn 22 ([])),[]⟩)<|x1 (.exit 0) fun i p=>⟨jn 27 ([]),[]⟩
def A2i:=((.i (.i (.v .n))):Pk me.ty _ _)
def mg:Cfg:={ti:=Aw,ents:=[Yi],ann:=[(4,Ao me 0 (spP A2i) E4 A2f.E)],lent:=0}
def Hf (x:A9):Option (Bool×Unit):=bif (x.1.length:Int) != (x.2.1.length:Int)then some (false,())else(AC (fun v=>E4 (x.1,x.2.1,()) v _ some) (0,())).bind fun p=>Az p (fun p=>some (false,())) fun p=>some (true,())
def mf:Ent:=⟨217,⟨(.slot (.slice A0) (.slot (.slice A0) .nil)),.nil⟩,⟨(.slot .bool .nil),.nil⟩,Hf⟩
theorem cP:CfgOK Go.Proofs.Tryz.prog mg:=hcB (all_cons sx all_nil)
theorem Aa8:B9 Go.Proofs.Tryz.prog mg (lpc Go.Proofs.Tryz.f217 0):=lkA cP me A2i E4 A2f [4] N2
theorem sw:Ai Go.Proofs.Tryz.prog mf:=okB cP Go.Proofs.Tryz.func217 Aa8
def Jt (x:A1×A1×Unit):Option (Bool×Unit):=bif x.1.1 != x.2.1.1 then some (false,())else bif x.1.2.1 != x.2.1.2.1 then some (false,())else some (true,())
def ci:Ent:=⟨264,⟨(.slot A0 (.slot A0 .nil)),.nil⟩,⟨(.slot .bool .nil),.nil⟩,Jt⟩
theorem sv:Ai Go.Proofs.Tryz.prog ci:=okA (hcA 0 all_nil) Go.Proofs.Tryz.func264
abbrev A2d:=A9
abbrev A2a:=Int×Unit
abbrev A2b:=Unit ⊕ Unit
def FI (i:A2d)(v:A2a)(R:Type)(K:A2a ⊕ A2b->Option R):Option R:=bif decide (v.1<(i.1.length:Int))then(lAt i.1 v.1).bind fun a=>(lAt i.2.1 v.1).bind fun b=>(Jt ((a.1,a.2.1,()),(b.1,b.2.1,()),())).bind fun c=>bif !c.1 then K (.inr (.inl ()))else K (.inl (IntKind.i64.wrap (v.1+1),()))else K (.inr (.inr ()))
theorem OB:Bg FI:=fun i v R K=>Ae (Ac fun _=>Ac fun _=>Ac fun _=>Ae (Aa) (Aa)) (Aa)
def mc:Tmpl:=⟨(.slot (.slice A0) (.slot (.slice A0) (jk 3 (.slot .i (jk 21 .nil))))),.nil⟩
def A29:Exs A2d A2b:=xs .ret (fun i p=>⟨jn 4 (.b (false)::jn 22 ([])),[]⟩)<|x1 (.exit 0) fun i p=>⟨jn 27 ([]),[]⟩
def A2c:=((.i (.i (.v .n))):Pk mc.ty _ _)
def Aa5:Cfg:={ti:=Aw,ents:=[ci],ann:=[(4,Ao mc 0 (spP A2c) FI A29.E)],lent:=0}
def IQ (x:A9):Option (Bool×Unit):=bif (x.1.length:Int) != (x.2.1.length:Int)then some (false,())else(AC (fun v=>FI (x.1,x.2.1,()) v _ some) (0,())).bind fun p=>Az p (fun p=>some (false,())) fun p=>some (true,())
def eN:Ent:=⟨218,⟨(.slot (.slice A0) (.slot (.slice A0) .nil)),.nil⟩,⟨(.slot .bool .nil),.nil⟩,IQ⟩
theorem A2e:CfgOK Go.Proofs.Tryz.prog Aa5:=hcB (all_cons sv all_nil)
theorem Aa4:B9 Go.Proofs.Tryz.prog Aa5 (lpc Go.Proofs.Tryz.f218 0):=lkA A2e mc A2c FI A29 [4] OB
theorem md:Ai Go.Proofs.Tryz.prog eN:=okB A2e Go.Proofs.Tryz.func218 Aa4
def Gq (x:A3×A3×Unit):Option (Bool×Unit):=bif x.1.1 != x.2.1.1 then some (false,())else bif x.1.2.1 != x.2.1.2.1 then some (false,())else bif x.1.2.2.1 != x.2.1.2.2.1 then some (false,())else bif x.1.2.2.2.1 != x.2.1.2.2.2.1 then some (false,())else bif x.1.2.2.2.2.1 != x.2.1.2.2.2.2.1 then some (false,())else bif x.1.2.2.2.2.2.1 != x.2.1.2.2.2.2.2.1 then some (false,())else bif x.1.2.2.2.2.2.2.1 != x.2.1.2.2.2.2.2.2.1 then some (false,())else(Hf (x.1.2.2.2.2.2.2.2.1,x.2.1.2.2.2.2.2.2.2.1,())).bind fun v=>bif !v.1 then some (false,())else(IQ (x.1.2.2.2.2.2.2.2.2.1,x.2.1.2.2.2.2.2.2.2.2.1,())).bind fun v=>bif !v.1 then some (false,())else some (true,())
def Yh:Ent:=⟨151,⟨(.slot Ad (.slot Ad .nil)),.nil⟩,⟨(.slot .bool .nil),.nil⟩,Gq⟩
theorem su:Ai Go.Proofs.Tryz.prog Yh:=okA (hcA 0 (all_cons sw (all_cons md all_nil))) Go.Proofs.Tryz.func151
abbrev A28:=List A3×List A3×Unit
abbrev A25:=Int×Unit
abbrev A26:=Unit ⊕ Unit
def D8 (i:A28)(v:A25)(R:Type)(K:A25 ⊕ A26->Option R):Option R:=bif decide (v.1<(i.1.length:Int))then(lAt i.1 v.1).bind fun a=>(lAt i.2.1 v.1).bind fun b=>(Gq ((a.1,a.2.1,a.2.2.1,a.2.2.2.1,a.2.2.2.2.1,a.2.2.2.2.2.1,a.2.2.2.2.2.2.1,a.2.2.2.2.2.2.2.1,a.2.2.2.2.2.2.2.2.1,()),(b.1,b.2.1,b.2.2.1,b.2.2.2.1,b.2.2.2.2.1,b.2.2.2.2.2.1,b.2.2.2.2.2.2.1,b.2.2.2.2.2.2.2.1,b.2.2.2.2.2.2.2.2.1,()),())).bind fun c=>bif !c.1 then K (.inr (.inl ()))else K (.inl (IntKind.i64.wrap (v.1+1),()))else K (.inr (.inr ()))
theorem Ls:Bg D8:=fun i v R K=>Ae (Ac fun _=>Ac fun _=>Ac fun _=>Ae (Aa) (Aa)) (Aa)
def ma:Tmpl:=⟨(.slot (.slice Ad) (.slot (.slice Ad) (jk 3 (.slot .i (jk 21 .nil))))),.nil⟩
def A24:Exs A28 A26:=xs .ret (fun i p=>⟨jn 4 (.b (false)::jn 22 ([])),[]⟩)<|x1 (.exit 0) fun i p=>⟨jn 27 ([]),[]⟩
def A27:=((.i (.i (.v .n))):Pk ma.ty _ _)
def mb:Cfg:={ti:=Aw,ents:=[Yh],ann:=[(4,Ao ma 0 (spP A27) D8 A24.E)],lent:=0}
def G1 (x:List A3×List A3×Unit):Option (Bool×Unit):=bif (x.1.length:Int) != (x.2.1.length:Int)then some (false,())else(AC (fun v=>D8 (x.1,x.2.1,()) v _ some) (0,())).bind fun p=>Az p (fun p=>some (false,())) fun p=>some (true,())
def eL:Ent:=⟨69,⟨(.slot (.slice Ad) (.slot (.slice Ad) .nil)),.nil⟩,⟨(.slot .bool .nil),.nil⟩,G1⟩
theorem cO:CfgOK Go.Proofs.Tryz.prog mb:=hcB (all_cons su all_nil)
theorem Aa3:B9 Go.Proofs.Tryz.prog mb (lpc Go.Proofs.Tryz.f69 0):=lkA cO ma A27 D8 A24 [4] Ls
theorem ss:Ai Go.Proofs.Tryz.prog eL:=okB cO Go.Proofs.Tryz.func69 Aa3
def K8 (x:A1×A1×Unit):Option (Bool×Unit):=bif x.1.1 != x.2.1.1 then some (false,())else bif x.1.2.1 != x.2.1.2.1 then some (false,())else some (true,())
def ch:Ent:=⟨152,⟨(.slot A0 (.slot A0 .nil)),.nil⟩,⟨(.slot .bool .nil),.nil⟩,K8⟩
theorem sr:Ai Go.Proofs.Tryz.prog ch:=okA (hcA 0 all_nil) Go.Proofs.Tryz.func152
abbrev A22:=A9
abbrev A1z:=Int×Unit
abbrev A20:=Unit ⊕ Unit
def Gg (i:A22)(v:A1z)(R:Type)(K:A1z ⊕ A20->Option R):Option R:=bif decide (v.1<(i.1.length:Int))then(lAt i.1 v.1).bind fun a=>(lAt i.2.1 v.1).bind fun b=>(K8 ((a.1,a.2.1,()),(b.1,b.2.1,()),())).bind fun c=>bif !c.1 then K (.inr (.inl ()))else K (.inl (IntKind.i64.wrap (v.1+1),()))else K (.inr (.inr ()))
theorem OZ:Bg Gg:=fun i v R K=>Ae (Ac fun _=>Ac fun _=>Ac fun _=>Ae (Aa) (Aa)) (Aa)
def m9:Tmpl:=⟨(.slot (.slice A0) (.slot (.slice A0) (jk 3 (.slot .i (jk 21 .nil))))),.nil⟩
def A1y:Exs A22 A20:=xs .ret (fun i p=>⟨jn 4 (.b (false)::jn 22 ([])),[]⟩)<|x1 (.exit 0) fun i p=>⟨jn 27 ([]),[]⟩
def A21:=((.i (.i (.v .n))):Pk m9.ty _ _)
def Aa2:Cfg:={ti:=Aw,ents:=[ch],ann:=[(4,Ao m9 0 (spP A21) Gg A1y.E)],lent:=0}
def Jw (x:A9):Option (Bool×Unit):=bif (x.1.length:Int) != (x.2.1.length:Int)then some (false,())else(AC (fun v=>Gg (x.1,x.2.1,()) v _ some) (0,())).bind fun p=>Az p (fun p=>some (false,())) fun p=>some (true,())
def eK:Ent:=⟨70,⟨(.slot (.slice A0) (.slot (.slice A0) .nil)),.nil⟩,⟨(.slot .bool .nil),.nil⟩,Jw⟩
theorem A23:CfgOK Go.Proofs.Tryz.prog Aa2:=hcB (all_cons sr all_nil)
theorem Aa1:B9 Go.Proofs.Tryz.prog Aa2 (lpc Go.Proofs.Tryz.f70 0):=lkA A23 m9 A21 Gg A1y [4] OZ
theorem sq:Ai Go.Proofs.Tryz.prog eK:=okB A23 Go.Proofs.Tryz.func70 Aa1
def K7 (x:A1×A1×Unit):Option (Bool×Unit):=bif x.1.1 != x.2.1.1 then some (false,())else bif x.1.2.1 != x.2.1.2.1 then some (false,())else some (true,())
def cg:Ent:=⟨153,⟨(.slot A0 (.slot A0 .nil)),.nil⟩,⟨(.slot .bool .nil),.nil⟩,K7⟩
theorem so:Ai Go.Proofs.Tryz.prog cg:=okA (hcA 0 all_nil) Go.Proofs.Tryz.func153
abbrev A1w:=A9
abbrev A1t:=Int×Unit
abbrev A1u:=Unit ⊕ Unit
def Gf (i:A1w)(v:A1t)(R:Type)(K:A1t ⊕ A1u->Option R):Option R:=bif decide (v.1<(i.1.length:Int))then(lAt i.1 v.1).bind fun a=>(lAt i.2.1 v.1).bind fun b=>(K7 ((a.1,a.2.1,()),(b.1,b.2.1,()),())).bind fun c=>bif !c.1 then K (.inr (.inl ()))else K (.inl (IntKind.i64.wrap (v.1+1),()))else K (.inr (.inr ()))
theorem OY:Bg Gf:=fun i v R K=>Ae (Ac fun _=>Ac fun _=>Ac fun _=>Ae (Aa) (Aa)) (Aa)
def m8:Tmpl:=⟨(.slot (.slice A0) (.slot (.slice A0) (jk 3 (.slot .i (jk 21 .nil))))),.nil⟩
def A1s:Exs A1w A1u:=xs .ret (fun i p=>⟨jn 4 (.b (false)::jn 22 ([])),[]⟩)<|x1 (.exit 0) fun i p=>⟨jn 27 ([]),[]⟩
def A1v:=((.i (.i (.v .n))):Pk m8.ty _ _)
def Aa0:Cfg:={ti:=Aw,ents:=[cg],ann:=[(4,Ao m8 0 (spP A1v) Gf A1s.E)],lent:=0}
def Ju (x:A9):Option (Bool×Unit):=bif (x.1.length:Int) != (x.2.1.length:Int)then some (false,())else(AC (fun v=>Gf (x.1,x.2.1,()) v _ some) (0,())).bind fun p=>Az p (fun p=>some (false,())) fun p=>some (true,())
def eJ:Ent:=⟨71,⟨(.slot (.slice A0) (.slot (.slice A0) .nil)),.nil⟩,⟨(.slot .bool .nil),.nil⟩,Ju⟩
theorem A1x:CfgOK Go.Proofs.Tryz.prog Aa0:=hcB (all_cons so all_nil)
theorem A9z:B9 Go.Proofs.Tryz.prog Aa0 (lpc Go.Proofs.Tryz.f71 0):=lkA A1x m8 A1v Gf A1s [4] OY
theorem sn:Ai Go.Proofs.Tryz.prog eJ:=okB A1x Go.Proofs.Tryz.func71 A9z
def FM (x:A5×A5×Unit):Option (Bool×Unit):=bif !x.1.1==x.2.1.1 then some (false,())else(Jv ((x.1.2.1.1,()),(x.2.1.2.1.1,()),())).bind fun v=>bif !v.1 then some (false,())else(G1 (x.1.2.2.1,x.2.1.2.2.1,())).bind fun v=>bif !v.1 then some (false,())else(Jw (x.1.2.2.2.1,x.2.1.2.2.2.1,())).bind fun v=>bif !v.1 then some (false,())else(Ju (x.1.2.2.2.2.1,x.2.1.2.2.2.2.1,())).bind fun v=>bif !v.1 then some (false,())else bif x.1.2.2.2.2.2.1 != x.2.1.2.2.2.2.2.1 then some (false,())else some (true,())
def eI:Ent:=⟨14,⟨(.slot D9 (.slot D9 .nil)),.nil⟩,⟨(.slot .bool .nil),.nil⟩,FM⟩
theorem sm:Ai Go.Proofs.Tryz.prog eI:=okA (hcA 0 (all_cons sy (all_cons ss (all_cons sq (all_cons sn all_nil))))) Go.Proofs.Tryz.func14
def M7 (x:A6×A6×Unit):Option (Bool×Unit):=bif x.1.1 != x.2.1.1 then some (false,())else bif x.1.2.1 != x.2.1.2.1 then some (false,())else bif x.1.2.2.1 != x.2.1.2.2.1 then some (false,())else bif x.1.2.2.2.1 != x.2.1.2.2.2.1 then some (false,())else bif x.1.2.2.2.2.1 != x.2.1.2.2.2.2.1 then some (false,())else bif x.1.2.2.2.2.2.1 != x.2.1.2.2.2.2.2.1 then some (false,())else some (true,())
def Ue:Ent:=⟨84,⟨(.slot YOp (.slot YOp .nil)),.nil⟩,⟨(.slot .bool .nil),.nil⟩,M7⟩
theorem lY:Ai Go.Proofs.Tryz.prog Ue:=okA (hcA 0 all_nil) Go.Proofs.Tryz.func84
abbrev lW:=List A6×List A6×Unit
abbrev lT:=Int×Unit
abbrev lU:=Unit ⊕ Unit
def Hv (i:lW)(v:lT)(R:Type)(K:lT ⊕ lU->Option R):Option R:=bif decide (v.1<(i.1.length:Int))then(lAt i.1 v.1).bind fun a=>(lAt i.2.1 v.1).bind fun b=>(M7 ((a.1,a.2.1,a.2.2.1,a.2.2.2.1,a.2.2.2.2.1,a.2.2.2.2.2.1,()),(b.1,b.2.1,b.2.2.1,b.2.2.2.1,b.2.2.2.2.1,b.2.2.2.2.2.1,()),())).bind fun c=>bif !c.1 then K (.inr (.inl ()))else K (.inl (IntKind.i64.wrap (v.1+1),()))else K (.inr (.inr ()))
theorem Qd:Bg Hv:=fun i v R K=>Ae (Ac fun _=>Ac fun _=>Ac fun _=>Ae (Aa) (Aa)) (Aa)
def aZ:Tmpl:=⟨(.slot (.slice YOp) (.slot (.slice YOp) (jk 3 (.slot .i (jk 21 .nil))))),.nil⟩
def lS:Exs lW lU:=xs .ret (fun i p=>⟨jn 4 (.b (false)::jn 22 ([])),[]⟩)<|x1 (.exit 0) fun i p=>⟨jn 27 ([]),[]⟩
def lV:=((.i (.i (.v .n))):Pk aZ.ty _ _)
def x3:Cfg:={ti:=Aw,ents:=[Ue],ann:=[(4,Ao aZ 0 (spP lV) Hv lS.E)],lent:=0}
def K2 (x:List A6×List A6×Unit):Option (Bool×Unit):=bif (x.1.length:Int) != (x.2.1.length:Int)then some (false,())else(AC (fun v=>Hv (x.1,x.2.1,()) v _ some) (0,())).bind fun p=>Az p (fun p=>some (false,())) fun p=>some (true,())
def VO:Ent:=⟨34,⟨(.slot (.slice YOp) (.slot (.slice YOp) .nil)),.nil⟩,⟨(.slot .bool .nil),.nil⟩,K2⟩
theorem lX:CfgOK Go.Proofs.Tryz.prog x3:=hcB (all_cons lY all_nil)
theorem wZ:B9 Go.Proofs.Tryz.prog x3 (lpc Go.Proofs.Tryz.f34 0):=lkA lX aZ lV Hv lS [4] Qd
theorem iG:Ai Go.Proofs.Tryz.prog VO:=okB lX Go.Proofs.Tryz.func34 wZ
abbrev A1q:=Nat×Unit
abbrev A1n:=Int×Int×List (List A2)×Unit
abbrev A1o:=Int×List (List A2)×Unit
def D7 (i:A1q)(v:A1n)(R:Type)(K:A1n ⊕ A1o->Option R):Option R:=v.2.2.1[i.1]?.bind fun a=>bif decide (v.2.1<(a.length:Int))then v.2.2.1[i.1]?.bind fun b=>if 0<=v.2.1/\v.2.1<(b.length:Int)then v.2.2.1[i.1]?.bind fun c=>c[0+v.2.1.toNat]?.bind fun d=>(v.2.2.1.set i.1 (c.set (0+v.2.1.toNat) (v.1,d.2.1,d.2.2.1,d.2.2.2.1,d.2.2.2.2.1,())))[i.1]?.bind fun e=>if 0<=v.2.1/\v.2.1<(e.length:Int)then(v.2.2.1.set i.1 (c.set (0+v.2.1.toNat) (v.1,d.2.1,d.2.2.1,d.2.2.2.1,d.2.2.2.2.1,())))[i.1]?.bind fun f=>f[0+v.2.1.toNat]?.bind fun g=>((v.2.2.1.set i.1 (c.set (0+v.2.1.toNat) (v.1,d.2.1,d.2.2.1,d.2.2.2.1,d.2.2.2.2.1,()))).set i.1 (f.set (0+v.2.1.toNat) (g.1,IntKind.i64.wrap (v.1+1),g.2.2.1,g.2.2.2.1,g.2.2.2.2.1,())))[i.1]?.bind fun h=>if 0<=v.2.1/\v.2.1<(h.length:Int)then((v.2.2.1.set i.1 (c.set (0+v.2.1.toNat) (v.1,d.2.1,d.2.2.1,d.2.2.2.1,d.2.2.2.2.1,()))).set i.1 (f.set (0+v.2.1.toNat) (g.1,IntKind.i64.wrap (v.1+1),g.2.2.1,g.2.2.2.1,g.2.2.2.2.1,())))[i.1]?.bind fun j=>j[0+v.2.1.toNat]?.bind fun k=>(((v.2.2.1.set i.1 (c.set (0+v.2.1.toNat) (v.1,d.2.1,d.2.2.1,d.2.2.2.1,d.2.2.2.2.1,()))).set i.1 (f.set (0+v.2.1.toNat) (g.1,IntKind.i64.wrap (v.1+1),g.2.2.1,g.2.2.2.1,g.2.2.2.2.1,()))).set i.1 (j.set (0+v.2.1.toNat) (k.1,k.2.1,IntKind.i64.wrap (IntKind.i64.wrap (v.1+1)+1),k.2.2.2.1,k.2.2.2.2.1,())))[i.1]?.bind fun l=>if 0<=v.2.1/\v.2.1<(l.length:Int)then(((v.2.2.1.set i.1 (c.set (0+v.2.1.toNat) (v.1,d.2.1,d.2.2.1,d.2.2.2.1,d.2.2.2.2.1,()))).set i.1 (f.set (0+v.2.1.toNat) (g.1,IntKind.i64.wrap (v.1+1),g.2.2.1,g.2.2.2.1,g.2.2.2.2.1,()))).set i.1 (j.set (0+v.2.1.toNat) (k.1,k.2.1,IntKind.i64.wrap (IntKind.i64.wrap (v.1+1)+1),k.2.2.2.1,k.2.2.2.2.1,())))[i.1]?.bind fun m=>m[0+v.2.1.toNat]?.bind fun n=>((((v.2.2.1.set i.1 (c.set (0+v.2.1.toNat) (v.1,d.2.1,d.2.2.1,d.2.2.2.1,d.2.2.2.2.1,()))).set i.1 (f.set (0+v.2.1.toNat) (g.1,IntKind.i64.wrap (v.1+1),g.2.2.1,g.2.2.2.1,g.2.2.2.2.1,()))).set i.1 (j.set (0+v.2.1.toNat) (k.1,k.2.1,IntKind.i64.wrap (IntKind.i64.wrap (v.1+1)+1),k.2.2.2.1,k.2.2.2.2.1,()))).set i.1 (m.set (0+v.2.1.toNat) (n.1,n.2.1,n.2.2.1,IntKind.i64.wrap (IntKind.i64.wrap (IntKind.i64.wrap (v.1+1)+1)+1),n.2.2.2.2.1,())))[i.1]?.bind fun o=>if 0<=v.2.1/\v.2.1<(o.length:Int)then((((v.2.2.1.set i.1 (c.set (0+v.2.1.toNat) (v.1,d.2.1,d.2.2.1,d.2.2.2.1,d.2.2.2.2.1,()))).set i.1 (f.set (0+v.2.1.toNat) (g.1,IntKind.i64.wrap (v.1+1),g.2.2.1,g.2.2.2.1,g.2.2.2.2.1,()))).set i.1 (j.set (0+v.2.1.toNat) (k.1,k.2.1,IntKind.i64.wrap (IntKind.i64.wrap (v.1+1)+1),k.2.2.2.1,k.2.2.2.2.1,()))).set i.1 (m.set (0+v.2.1.toNat) (n.1,n.2.1,n.2.2.1,IntKind.i64.wrap (IntKind.i64.wrap (IntKind.i64.wrap (v.1+1)+1)+1),n.2.2.2.2.1,())))[i.1]?.bind fun q=>q[0+v.2.1.toNat]?.bind fun r=>K (.inl (IntKind.i64.wrap (IntKind.i64.wrap (IntKind.i64.wrap (IntKind.i64.wrap (IntKind.i64.wrap (v.1+1)+1)+1)+1)+1),IntKind.i64.wrap (v.2.1+1),((((v.2.2.1.set i.1 (c.set (0+v.2.1.toNat) (v.1,d.2.1,d.2.2.1,d.2.2.2.1,d.2.2.2.2.1,()))).set i.1 (f.set (0+v.2.1.toNat) (g.1,IntKind.i64.wrap (v.1+1),g.2.2.1,g.2.2.2.1,g.2.2.2.2.1,()))).set i.1 (j.set (0+v.2.1.toNat) (k.1,k.2.1,IntKind.i64.wrap (IntKind.i64.wrap (v.1+1)+1),k.2.2.2.1,k.2.2.2.2.1,()))).set i.1 (m.set (0+v.2.1.toNat) (n.1,n.2.1,n.2.2.1,IntKind.i64.wrap (IntKind.i64.wrap (IntKind.i64.wrap (v.1+1)+1)+1),n.2.2.2.2.1,()))).set i.1 (q.set (0+v.2.1.toNat) (r.1,r.2.1,r.2.2.1,r.2.2.2.1,IntKind.i64.wrap (IntKind.i64.wrap (IntKind.i64.wrap (IntKind.i64.wrap (v.1+1)+1)+1)+1),())),()))else none else none else none else none else none else K (.inr (v.1,v.2.2.1,()))
theorem Lr:Bg D7:=fun i v R K=>Ac fun _=>Ae (Ac fun _=>Aq (Ac fun _=>Ac fun _=>Ac fun _=>Aq (Ac fun _=>Ac fun _=>Ac fun _=>Aq (Ac fun _=>Ac fun _=>Ac fun _=>Aq (Ac fun _=>Ac fun _=>Ac fun _=>Aq (Ac fun _=>Ac fun _=>Aa)))))) (Aa)
def lO:Tmpl:=⟨(.nown 0 0 (.slot .i (jk 3 (.slot .i (jk 42 .nil))))),(.tree false 0 (.slice Af) .nil)⟩
def A1m:Exs A1q A1o:=x1 (.exit 0) fun i p=>⟨jn 1 (.n (p.1)::jn 46 ([])),[some (Cont.tree false 0 (.slice Af) p.2.1 none)]⟩
def A1p:=((.i (.v (.v (.v .n)))):Pk lO.ty _ _)
def A9w:Cfg:={ti:=Aw,ents:=[],ann:=[(2,Ao lO 1 (spP A1p) D7 A1m.E)],lent:=1}
def G0 (x:Nat×Int×List (List A2)×Unit):Option (Int×List (List A2)×Unit):=(AC (fun v=>D7 (x.1,()) v _ some) (x.2.1,0,x.2.2.1,())).bind fun p=>some (p.1,p.2.1,())
def VN:Ent:=⟨219,⟨(.nown 0 0 (.slot .i .nil)),(.tree false 0 (.slice Af) .nil)⟩,⟨(.slot .i .nil),(.tree false 0 (.slice Af) .nil)⟩,G0⟩
theorem A1r:CfgOK Go.Proofs.Tryz.prog A9w:=hcB all_nil
theorem A9v:B9 Go.Proofs.Tryz.prog A9w (lpc Go.Proofs.Tryz.f219 0):=lkA A1r lO A1p D7 A1m [1] Lr
theorem lP:Ai Go.Proofs.Tryz.prog VN:=okB A1r Go.Proofs.Tryz.func219 A9v
abbrev A1k:=Unit
abbrev A1h:=Int×Int×List (List A2)×Unit
abbrev A1i:=Int×List (List A2)×Unit
def BZ (i:A1k)(v:A1h)(R:Type)(K:A1h ⊕ A1i->Option R):Option R:=bif decide (v.2.1<(v.2.2.1.length:Int))then if 0<=v.2.1/\v.2.1<(v.2.2.1.length:Int)then v.2.2.1[0+v.2.1.toNat]?.bind fun a=>(G0 (0+v.2.1.toNat,v.1,v.2.2.1,())).bind fun b=>K (.inl (b.1,IntKind.i64.wrap (v.2.1+1),b.2.1,()))else none else K (.inr (v.1,v.2.2.1,()))
theorem L5:Bg BZ:=fun i v R K=>Ae (Aq (Ac fun _=>Ac fun _=>Aa)) (Aa)
def lN:Tmpl:=⟨(.own 0 (.slot .i (jk 3 (.slot .i (jk 13 .nil))))),(.tree false 0 (.slice Af) .nil)⟩
def A1g:Exs A1k A1i:=x1 (.exit 0) fun i p=>⟨jn 1 (.n (p.1)::jn 17 ([])),[some (Cont.tree false 0 (.slice Af) p.2.1 none)]⟩
def A1j:=((.v (.v (.v .n))):Pk lN.ty _ _)
def A2y:Cfg:={ti:=Aw,ents:=[VN],ann:=[(2,Ao lN 1 (spP A1j) BZ A1g.E)],lent:=1}
def FE (x:Int×List (List A2)×Unit):Option (Int×List (List A2)×Unit):=(AC (fun v=>BZ () v _ some) (x.1,0,x.2.1,())).bind fun p=>some (p.1,p.2.1,())
def eC:Ent:=⟨154,⟨(.own 0 (.slot .i .nil)),(.tree false 0 (.slice Af) .nil)⟩,⟨(.slot .i .nil),(.tree false 0 (.slice Af) .nil)⟩,FE⟩
theorem A1l:CfgOK Go.Proofs.Tryz.prog A2y:=hcB (all_cons lP all_nil)
theorem A9u:B9 Go.Proofs.Tryz.prog A2y (lpc Go.Proofs.Tryz.f154 0):=lkA A1l lN A1j BZ A1g [1] L5
theorem sl:Ai Go.Proofs.Tryz.prog eC:=okB A1l Go.Proofs.Tryz.func154 A9u
def Hb (x:Int×List (List A2)×Unit):Option (Int×List (List A2)×Unit):=(FE (x.1,x.2.1,())).bind fun v=>some (v.1,v.2.1,())
def eB:Ent:=⟨72,⟨(.agg (.own 0 .nil) (.slot .i .nil)),(.tree false 0 (.slice Af) .nil)⟩,⟨(.slot .i .nil),(.tree false 0 (.slice Af) .nil)⟩,Hb⟩
theorem sk:Ai Go.Proofs.Tryz.prog eB:=okA (hcA 1 (all_cons sl all_nil)) Go.Proofs.Tryz.func72
abbrev A1e:=Nat×Unit
abbrev A1b:=Int×Int×List A3×Unit
abbrev A1c:=Int×List A3×Unit
def CM (i:A1e)(v:A1b)(R:Type)(K:A1b ⊕ A1c->Option R):Option R:=v.2.2.1[i.1]?.bind fun a=>bif decide (v.2.1<(a.2.2.2.2.2.2.2.1.length:Int))then v.2.2.1[i.1]?.bind fun b=>if 0<=v.2.1/\v.2.1<(b.2.2.2.2.2.2.2.1.length:Int)then v.2.2.1[i.1]?.bind fun c=>c.2.2.2.2.2.2.2.1[0+v.2.1.toNat]?.bind fun d=>(v.2.2.1.set i.1 (c.1,c.2.1,c.2.2.1,c.2.2.2.1,c.2.2.2.2.1,c.2.2.2.2.2.1,c.2.2.2.2.2.2.1,c.2.2.2.2.2.2.2.1.set (0+v.2.1.toNat) (v.1,d.2.1,()),c.2.2.2.2.2.2.2.2.1,()))[i.1]?.bind fun e=>if 0<=v.2.1/\v.2.1<(e.2.2.2.2.2.2.2.1.length:Int)then(v.2.2.1.set i.1 (c.1,c.2.1,c.2.2.1,c.2.2.2.1,c.2.2.2.2.1,c.2.2.2.2.2.1,c.2.2.2.2.2.2.1,c.2.2.2.2.2.2.2.1.set (0+v.2.1.toNat) (v.1,d.2.1,()),c.2.2.2.2.2.2.2.2.1,()))[i.1]?.bind fun f=>f.2.2.2.2.2.2.2.1[0+v.2.1.toNat]?.bind fun g=>K (.inl (IntKind.i64.wrap (IntKind.i64.wrap (v.1+1)+1),IntKind.i64.wrap (v.2.1+1),(v.2.2.1.set i.1 (c.1,c.2.1,c.2.2.1,c.2.2.2.1,c.2.2.2.2.1,c.2.2.2.2.2.1,c.2.2.2.2.2.2.1,c.2.2.2.2.2.2.2.1.set (0+v.2.1.toNat) (v.1,d.2.1,()),c.2.2.2.2.2.2.2.2.1,())).set i.1 (f.1,f.2.1,f.2.2.1,f.2.2.2.1,f.2.2.2.2.1,f.2.2.2.2.2.1,f.2.2.2.2.2.2.1,f.2.2.2.2.2.2.2.1.set (0+v.2.1.toNat) (g.1,IntKind.i64.wrap (v.1+1),()),f.2.2.2.2.2.2.2.2.1,()),()))else none else none else K (.inr (v.1,v.2.2.1,()))
theorem L6:Bg CM:=fun i v R K=>Ac fun _=>Ae (Ac fun _=>Aq (Ac fun _=>Ac fun _=>Ac fun _=>Aq (Ac fun _=>Ac fun _=>Aa))) (Aa)
def lM:Tmpl:=⟨(.nown 0 7 (.slot .i (jk 3 (.slot .i (jk 21 .nil))))),(.tree false 0 Ad .nil)⟩
def A1a:Exs A1e A1c:=x1 (.exit 0) fun i p=>⟨jn 1 (.n (p.1)::jn 25 ([])),[some (Cont.tree false 0 Ad p.2.1 none)]⟩
def A1d:=((.i (.v (.v (.v .n)))):Pk lM.ty _ _)
def rH:Cfg:={ti:=Aw,ents:=[],ann:=[(2,Ao lM 1 (spP A1d) CM A1a.E)],lent:=1}
def FF (x:Nat×Int×List A3×Unit):Option (Int×List A3×Unit):=(AC (fun v=>CM (x.1,()) v _ some) (x.2.1,0,x.2.2.1,())).bind fun p=>some (p.1,p.2.1,())
def Yg:Ent:=⟨155,⟨(.nown 0 7 (.slot .i .nil)),(.tree false 0 Ad .nil)⟩,⟨(.slot .i .nil),(.tree false 0 Ad .nil)⟩,FF⟩
theorem A1f:CfgOK Go.Proofs.Tryz.prog rH:=hcB all_nil
theorem A9s:B9 Go.Proofs.Tryz.prog rH (lpc Go.Proofs.Tryz.f155 0):=lkA A1f lM A1d CM A1a [1] L6
theorem sj:Ai Go.Proofs.Tryz.prog Yg:=okB A1f Go.Proofs.Tryz.func155 A9s
abbrev A18:=Nat×Unit
abbrev A15:=Int×Int×List A3×Unit
abbrev A16:=Int×List A3×Unit
def Dx (i:A18)(v:A15)(R:Type)(K:A15 ⊕ A16->Option R):Option R:=v.2.2.1[i.1]?.bind fun a=>bif decide (v.2.1<(a.2.2.2.2.2.2.2.2.1.length:Int))then v.2.2.1[i.1]?.bind fun b=>if 0<=v.2.1/\v.2.1<(b.2.2.2.2.2.2.2.2.1.length:Int)then v.2.2.1[i.1]?.bind fun c=>c.2.2.2.2.2.2.2.2.1[0+v.2.1.toNat]?.bind fun d=>(v.2.2.1.set i.1 (c.1,c.2.1,c.2.2.1,c.2.2.2.1,c.2.2.2.2.1,c.2.2.2.2.2.1,c.2.2.2.2.2.2.1,c.2.2.2.2.2.2.2.1,c.2.2.2.2.2.2.2.2.1.set (0+v.2.1.toNat) (v.1,d.2.1,()),()))[i.1]?.bind fun e=>if 0<=v.2.1/\v.2.1<(e.2.2.2.2.2.2.2.2.1.length:Int)then(v.2.2.1.set i.1 (c.1,c.2.1,c.2.2.1,c.2.2.2.1,c.2.2.2.2.1,c.2.2.2.2.2.1,c.2.2.2.2.2.2.1,c.2.2.2.2.2.2.2.1,c.2.2.2.2.2.2.2.2.1.set (0+v.2.1.toNat) (v.1,d.2.1,()),()))[i.1]?.bind fun f=>f.2.2.2.2.2.2.2.2.1[0+v.2.1.toNat]?.bind fun g=>K (.inl (IntKind.i64.wrap (IntKind.i64.wrap (v.1+1)+1),IntKind.i64.wrap (v.2.1+1),(v.2.2.1.set i.1 (c.1,c.2.1,c.2.2.1,c.2.2.2.1,c.2.2.2.2.1,c.2.2.2.2.2.1,c.2.2.2.2.2.2.1,c.2.2.2.2.2.2.2.1,c.2.2.2.2.2.2.2.2.1.set (0+v.2.1.toNat) (v.1,d.2.1,()),())).set i.1 (f.1,f.2.1,f.2.2.1,f.2.2.2.1,f.2.2.2.2.1,f.2.2.2.2.2.1,f.2.2.2.2.2.2.1,f.2.2.2.2.2.2.2.1,f.2.2.2.2.2.2.2.2.1.set (0+v.2.1.toNat) (g.1,IntKind.i64.wrap (v.1+1),()),()),()))else none else none else K (.inr (v.1,v.2.2.1,()))
theorem Me:Bg Dx:=fun i v R K=>Ac fun _=>Ae (Ac fun _=>Aq (Ac fun _=>Ac fun _=>Ac fun _=>Aq (Ac fun _=>Ac fun _=>Aa))) (Aa)
def lL:Tmpl:=⟨(.nown 0 8 (.slot .i (jk 3 (.slot .i (jk 21 .nil))))),(.tree false 0 Ad .nil)⟩
def A14:Exs A18 A16:=x1 (.exit 0) fun i p=>⟨jn 1 (.n (p.1)::jn 25 ([])),[some (Cont.tree false 0 Ad p.2.1 none)]⟩
def A17:=((.i (.v (.v (.v .n)))):Pk lL.ty _ _)
def A9r:Cfg:={ti:=Aw,ents:=[],ann:=[(2,Ao lL 1 (spP A17) Dx A14.E)],lent:=1}
def GF (x:Nat×Int×List A3×Unit):Option (Int×List A3×Unit):=(AC (fun v=>Dx (x.1,()) v _ some) (x.2.1,0,x.2.2.1,())).bind fun p=>some (p.1,p.2.1,())
def Yf:Ent:=⟨156,⟨(.nown 0 8 (.slot .i .nil)),(.tree false 0 Ad .nil)⟩,⟨(.slot .i .nil),(.tree false 0 Ad .nil)⟩,GF⟩
theorem A19:CfgOK Go.Proofs.Tryz.prog A9r:=hcB all_nil
theorem A9q:B9 Go.Proofs.Tryz.prog A9r (lpc Go.Proofs.Tryz.f156 0):=lkA A19 lL A17 Dx A14 [1] Me
theorem sg:Ai Go.Proofs.Tryz.prog Yf:=okB A19 Go.Proofs.Tryz.func156 A9q
abbrev cM:=Unit
abbrev cJ:=Int×Int×List A3×Unit
abbrev cK:=Int×List A3×Unit
def Bt (i:cM)(v:cJ)(R:Type)(K:cJ ⊕ cK->Option R):Option R:=bif decide (v.2.1<(v.2.2.1.length:Int))then if 0<=v.2.1/\v.2.1<(v.2.2.1.length:Int)then v.2.2.1[0+v.2.1.toNat]?.bind fun a=>if 0<=v.2.1/\v.2.1<(↑((v.2.2.1.set (0+v.2.1.toNat) (v.1,a.2.1,a.2.2.1,a.2.2.2.1,a.2.2.2.2.1,a.2.2.2.2.2.1,a.2.2.2.2.2.2.1,a.2.2.2.2.2.2.2.1,a.2.2.2.2.2.2.2.2.1,())).length):Int)then(v.2.2.1.set (0+v.2.1.toNat) (v.1,a.2.1,a.2.2.1,a.2.2.2.1,a.2.2.2.2.1,a.2.2.2.2.2.1,a.2.2.2.2.2.2.1,a.2.2.2.2.2.2.2.1,a.2.2.2.2.2.2.2.2.1,()))[0+v.2.1.toNat]?.bind fun b=>if 0<=v.2.1/\v.2.1<(↑(((v.2.2.1.set (0+v.2.1.toNat) (v.1,a.2.1,a.2.2.1,a.2.2.2.1,a.2.2.2.2.1,a.2.2.2.2.2.1,a.2.2.2.2.2.2.1,a.2.2.2.2.2.2.2.1,a.2.2.2.2.2.2.2.2.1,())).set (0+v.2.1.toNat) (b.1,IntKind.i64.wrap (v.1+1),b.2.2.1,b.2.2.2.1,b.2.2.2.2.1,b.2.2.2.2.2.1,b.2.2.2.2.2.2.1,b.2.2.2.2.2.2.2.1,b.2.2.2.2.2.2.2.2.1,())).length):Int)then((v.2.2.1.set (0+v.2.1.toNat) (v.1,a.2.1,a.2.2.1,a.2.2.2.1,a.2.2.2.2.1,a.2.2.2.2.2.1,a.2.2.2.2.2.2.1,a.2.2.2.2.2.2.2.1,a.2.2.2.2.2.2.2.2.1,())).set (0+v.2.1.toNat) (b.1,IntKind.i64.wrap (v.1+1),b.2.2.1,b.2.2.2.1,b.2.2.2.2.1,b.2.2.2.2.2.1,b.2.2.2.2.2.2.1,b.2.2.2.2.2.2.2.1,b.2.2.2.2.2.2.2.2.1,()))[0+v.2.1.toNat]?.bind fun c=>if 0<=v.2.1/\v.2.1<(↑((((v.2.2.1.set (0+v.2.1.toNat) (v.1,a.2.1,a.2.2.1,a.2.2.2.1,a.2.2.2.2.1,a.2.2.2.2.2.1,a.2.2.2.2.2.2.1,a.2.2.2.2.2.2.2.1,a.2.2.2.2.2.2.2.2.1,())).set (0+v.2.1.toNat) (b.1,IntKind.i64.wrap (v.1+1),b.2.2.1,b.2.2.2.1,b.2.2.2.2.1,b.2.2.2.2.2.1,b.2.2.2.2.2.2.1,b.2.2.2.2.2.2.2.1,b.2.2.2.2.2.2.2.2.1,())).set (0+v.2.1.toNat) (c.1,c.2.1,IntKind.i64.wrap (IntKind.i64.wrap (v.1+1)+1),c.2.2.2.1,c.2.2.2.2.1,c.2.2.2.2.2.1,c.2.2.2.2.2.2.1,c.2.2.2.2.2.2.2.1,c.2.2.2.2.2.2.2.2.1,())).length):Int)then(((v.2.2.1.set (0+v.2.1.toNat) (v.1,a.2.1,a.2.2.1,a.2.2.2.1,a.2.2.2.2.1,a.2.2.2.2.2.1,a.2.2.2.2.2.2.1,a.2.2.2.2.2.2.2.1,a.2.2.2.2.2.2.2.2.1,())).set (0+v.2.1.toNat) (b.1,IntKind.i64.wrap (v.1+1),b.2.2.1,b.2.2.2.1,b.2.2.2.2.1,b.2.2.2.2.2.1,b.2.2.2.2.2.2.1,b.2.2.2.2.2.2.2.1,b.2.2.2.2.2.2.2.2.1,())).set (0+v.2.1.toNat) (c.1,c.2.1,IntKind.i64.wrap (IntKind.i64.wrap (v.1+1)+1),c.2.2.2.1,c.2.2.2.2.1,c.2.2.2.2.2.1,c.2.2.2.2.2.2.1,c.2.2.2.2.2.2.2.1,c.2.2.2.2.2.2.2.2.1,()))[0+v.2.1.toNat]?.bind fun d=>if 0<=v.2.1/\v.2.1<(↑(((((v.2.2.1.set (0+v.2.1.toNat) (v.1,a.2.1,a.2.2.1,a.2.2.2.1,a.2.2.2.2.1,a.2.2.2.2.2.1,a.2.2.2.2.2.2.1,a.2.2.2.2.2.2.2.1,a.2.2.2.2.2.2.2.2.1,())).set (0+v.2.1.toNat) (b.1,IntKind.i64.wrap (v.1+1),b.2.2.1,b.2.2.2.1,b.2.2.2.2.1,b.2.2.2.2.2.1,b.2.2.2.2.2.2.1,b.2.2.2.2.2.2.2.1,b.2.2.2.2.2.2.2.2.1,())).set (0+v.2.1.toNat) (c.1,c.2.1,IntKind.i64.wrap (IntKind.i64.wrap (v.1+1)+1),c.2.2.2.1,c.2.2.2.2.1,c.2.2.2.2.2.1,c.2.2.2.2.2.2.1,c.2.2.2.2.2.2.2.1,c.2.2.2.2.2.2.2.2.1,())).set (0+v.2.1.toNat) (d.1,d.2.1,d.2.2.1,IntKind.i64.wrap (IntKind.i64.wrap (IntKind.i64.wrap (v.1+1)+1)+1),d.2.2.2.2.1,d.2.2.2.2.2.1,d.2.2.2.2.2.2.1,d.2.2.2.2.2.2.2.1,d.2.2.2.2.2.2.2.2.1,())).length):Int)then((((v.2.2.1.set (0+v.2.1.toNat) (v.1,a.2.1,a.2.2.1,a.2.2.2.1,a.2.2.2.2.1,a.2.2.2.2.2.1,a.2.2.2.2.2.2.1,a.2.2.2.2.2.2.2.1,a.2.2.2.2.2.2.2.2.1,())).set (0+v.2.1.toNat) (b.1,IntKind.i64.wrap (v.1+1),b.2.2.1,b.2.2.2.1,b.2.2.2.2.1,b.2.2.2.2.2.1,b.2.2.2.2.2.2.1,b.2.2.2.2.2.2.2.1,b.2.2.2.2.2.2.2.2.1,())).set (0+v.2.1.toNat) (c.1,c.2.1,IntKind.i64.wrap (IntKind.i64.wrap (v.1+1)+1),c.2.2.2.1,c.2.2.2.2.1,c.2.2.2.2.2.1,c.2.2.2.2.2.2.1,c.2.2.2.2.2.2.2.1,c.2.2.2.2.2.2.2.2.1,())).set (0+v.2.1.toNat) (d.1,d.2.1,d.2.2.1,IntKind.i64.wrap (IntKind.i64.wrap (IntKind.i64.wrap (v.1+1)+1)+1),d.2.2.2.2.1,d.2.2.2.2.2.1,d.2.2.2.2.2.2.1,d.2.2.2.2.2.2.2.1,d.2.2.2.2.2.2.2.2.1,()))[0+v.2.1.toNat]?.bind fun e=>if 0<=v.2.1/\v.2.1<(↑((((((v.2.2.1.set (0+v.2.1.toNat) (v.1,a.2.1,a.2.2.1,a.2.2.2.1,a.2.2.2.2.1,a.2.2.2.2.2.1,a.2.2.2.2.2.2.1,a.2.2.2.2.2.2.2.1,a.2.2.2.2.2.2.2.2.1,())).set (0+v.2.1.toNat) (b.1,IntKind.i64.wrap (v.1+1),b.2.2.1,b.2.2.2.1,b.2.2.2.2.1,b.2.2.2.2.2.1,b.2.2.2.2.2.2.1,b.2.2.2.2.2.2.2.1,b.2.2.2.2.2.2.2.2.1,())).set (0+v.2.1.toNat) (c.1,c.2.1,IntKind.i64.wrap (IntKind.i64.wrap (v.1+1)+1),c.2.2.2.1,c.2.2.2.2.1,c.2.2.2.2.2.1,c.2.2.2.2.2.2.1,c.2.2.2.2.2.2.2.1,c.2.2.2.2.2.2.2.2.1,())).set (0+v.2.1.toNat) (d.1,d.2.1,d.2.2.1,IntKind.i64.wrap (IntKind.i64.wrap (IntKind.i64.wrap (v.1+1)+1)+1),d.2.2.2.2.1,d.2.2.2.2.2.1,d.2.2.2.2.2.2.1,d.2.2.2.2.2.2.2.1,d.2.2.2.2.2.2.2.2.1,())).set (0+v.2.1.toNat) (e.1,e.2.1,e.2.2.1,e.2.2.2.1,IntKind.i64.wrap (IntKind.i64.wrap (IntKind.i64.wrap (IntKind.i64.wrap (v.1+1)+1)+1)+1),e.2.2.2.2.2.1,e.2.2.2.2.2.2.1,e.2.2.2.2.2.2.2.1,e.2.2.2.2.2.2.2.2.1,())).length):Int)then(((((v.2.2.1.set (0+v.2.1.toNat) (v.1,a.2.1,a.2.2.1,a.2.2.2.1,a.2.2.2.2.1,a.2.2.2.2.2.1,a.2.2.2.2.2.2.1,a.2.2.2.2.2.2.2.1,a.2.2.2.2.2.2.2.2.1,())).set (0+v.2.1.toNat) (b.1,IntKind.i64.wrap (v.1+1),b.2.2.1,b.2.2.2.1,b.2.2.2.2.1,b.2.2.2.2.2.1,b.2.2.2.2.2.2.1,b.2.2.2.2.2.2.2.1,b.2.2.2.2.2.2.2.2.1,())).set (0+v.2.1.toNat) (c.1,c.2.1,IntKind.i64.wrap (IntKind.i64.wrap (v.1+1)+1),c.2.2.2.1,c.2.2.2.2.1,c.2.2.2.2.2.1,c.2.2.2.2.2.2.1,c.2.2.2.2.2.2.2.1,c.2.2.2.2.2.2.2.2.1,())).set (0+v.2.1.toNat) (d.1,d.2.1,d.2.2.1,IntKind.i64.wrap (IntKind.i64.wrap (IntKind.i64.wrap (v.1+1)+1)+1),d.2.2.2.2.1,d.2.2.2.2.2.1,d.2.2.2.2.2.2.1,d.2.2.2.2.2.2.2.1,d.2.2.2.2.2.2.2.2.1,())).set (0+v.2.1.toNat) (e.1,e.2.1,e.2.2.1,e.2.2.2.1,IntKind.i64.wrap (IntKind.i64.wrap (IntKind.i64.wrap (IntKind.i64.wrap (v.1+1)+1)+1)+1),e.2.2.2.2.2.1,e.2.2.2.2.2.2.1,e.2.2.2.2.2.2.2.1,e.2.2.2.2.2.2.2.2.1,()))[0+v.2.1.toNat]?.bind fun f=>if 0<=v.2.1/\v.2.1<(↑(((((((v.2.2.1.set (0+v.2.1.toNat) (v.1,a.2.1,a.2.2.1,a.2.2.2.1,a.2.2.2.2.1,a.2.2.2.2.2.1,a.2.2.2.2.2.2.1,a.2.2.2.2.2.2.2.1,a.2.2.2.2.2.2.2.2.1,())).set (0+v.2.1.toNat) (b.1,IntKind.i64.wrap (v.1+1),b.2.2.1,b.2.2.2.1,b.2.2.2.2.1,b.2.2.2.2.2.1,b.2.2.2.2.2.2.1,b.2.2.2.2.2.2.2.1,b.2.2.2.2.2.2.2.2.1,())).set (0+v.2.1.toNat) (c.1,c.2.1,IntKind.i64.wrap (IntKind.i64.wrap (v.1+1)+1),c.2.2.2.1,c.2.2.2.2.1,c.2.2.2.2.2.1,c.2.2.2.2.2.2.1,c.2.2.2.2.2.2.2.1,c.2.2.2.2.2.2.2.2.1,())).set (0+v.2.1.toNat) (d.1,d.2.1,d.2.2.1,IntKind.i64.wrap (IntKind.i64.wrap (IntKind.i64.wrap (v.1+1)+1)+1),d.2.2.2.2.1,d.2.2.2.2.2.1,d.2.2.2.2.2.2.1,d.2.2.2.2.2.2.2.1,d.2.2.2.2.2.2.2.2.1,())).set (0+v.2.1.toNat) (e.1,e.2.1,e.2.2.1,e.2.2.2.1,IntKind.i64.wrap (IntKind.i64.wrap (IntKind.i64.wrap (IntKind.i64.wrap (v.1+1)+1)+1)+1),e.2.2.2.2.2.1,e.2.2.2.2.2.2.1,e.2.2.2.2.2.2.2.1,e.2.2.2.2.2.2.2.2.1,())).set (0+v.2.1.toNat) (f.1,f.2.1,f.2.2.1,f.2.2.2.1,f.2.2.2.2.1,IntKind.i64.wrap (IntKind.i64.wrap (IntKind.i64.wrap (IntKind.i64.wrap (IntKind.i64.wrap (v.1+1)+1)+1)+1)+1),f.2.2.2.2.2.2.1,f.2.2.2.2.2.2.2.1,f.2.2.2.2.2.2.2.2.1,())).length):Int)then((((((v.2.2.1.set (0+v.2.1.toNat) (v.1,a.2.1,a.2.2.1,a.2.2.2.1,a.2.2.2.2.1,a.2.2.2.2.2.1,a.2.2.2.2.2.2.1,a.2.2.2.2.2.2.2.1,a.2.2.2.2.2.2.2.2.1,())).set (0+v.2.1.toNat) (b.1,IntKind.i64.wrap (v.1+1),b.2.2.1,b.2.2.2.1,b.2.2.2.2.1,b.2.2.2.2.2.1,b.2.2.2.2.2.2.1,b.2.2.2.2.2.2.2.1,b.2.2.2.2.2.2.2.2.1,())).set (0+v.2.1.toNat) (c.1,c.2.1,IntKind.i64.wrap (IntKind.i64.wrap (v.1+1)+1),c.2.2.2.1,c.2.2.2.2.1,c.2.2.2.2.2.1,c.2.2.2.2.2.2.1,c.2.2.2.2.2.2.2.1,c.2.2.2.2.2.2.2.2.1,())).set (0+v.2.1.toNat) (d.1,d.2.1,d.2.2.1,IntKind.i64.wrap (IntKind.i64.wrap (IntKind.i64.wrap (v.1+1)+1)+1),d.2.2.2.2.1,d.2.2.2.2.2.1,d.2.2.2.2.2.2.1,d.2.2.2.2.2.2.2.1,d.2.2.2.2.2.2.2.2.1,())).set (0+v.2.1.toNat) (e.1,e.2.1,e.2.2.1,e.2.2.2.1,IntKind.i64.wrap (IntKind.i64.wrap (IntKind.i64.wrap (IntKind.i64.wrap (v.1+1)+1)+1)+1),e.2.2.2.2.2.1,e.2.2.2.2.2.2.1,e.2.2.2.2.2.2.2.1,e.2.2.2.2.2.2.2.2.1,())).set (0+v.2.1.toNat) (f.1,f.2.1,f.2.2.1,f.2.2.2.1,f.2.2.2.2.1,IntKind.i64.wrap (IntKind.i64.wrap (IntKind.i64.wrap (IntKind.i64.wrap (IntKind.i64.wrap (v.1+1)+1)+1)+1)+1),f.2.2.2.2.2.2.1,f.2.2.2.2.2.2.2.1,f.2.2.2.2.2.2.2.2.1,()))[0+v.2.1.toNat]?.bind fun g=>if 0<=v.2.1/\v.2.1<(↑((((((((v.2.2.1.set (0+v.2.1.toNat) (v.1,a.2.1,a.2.2.1,a.2.2.2.1,a.2.2.2.2.1,a.2.2.2.2.2.1,a.2.2.2.2.2.2.1,a.2.2.2.2.2.2.2.1,a.2.2.2.2.2.2.2.2.1,())).set (0+v.2.1.toNat) (b.1,IntKind.i64.wrap (v.1+1),b.2.2.1,b.2.2.2.1,b.2.2.2.2.1,b.2.2.2.2.2.1,b.2.2.2.2.2.2.1,b.2.2.2.2.2.2.2.1,b.2.2.2.2.2.2.2.2.1,())).set (0+v.2.1.toNat) (c.1,c.2.1,IntKind.i64.wrap (IntKind.i64.wrap (v.1+1)+1),c.2.2.2.1,c.2.2.2.2.1,c.2.2.2.2.2.1,c.2.2.2.2.2.2.1,c.2.2.2.2.2.2.2.1,c.2.2.2.2.2.2.2.2.1,())).set (0+v.2.1.toNat) (d.1,d.2.1,d.2.2.1,IntKind.i64.wrap (IntKind.i64.wrap (IntKind.i64.wrap (v.1+1)+1)+1),d.2.2.2.2.1,d.2.2.2.2.2.1,d.2.2.2.2.2.2.1,d.2.2.2.2.2.2.2.1,d.2.2.2.2.2.2.2.2.1,())).set (0+v.2.1.toNat) (e.1,e.2.1,e.2.2.1,e.2.2.2.1,IntKind.i64.wrap (IntKind.i64.wrap (IntKind.i64.wrap (IntKind.i64.wrap (v.1+1)+1)+1)+1),e.2.2.2.2.2.1,e.2.2.2.2.2.2.1,e.2.2.2.2.2.2.2.1,e.2.2.2.2.2.2.2.2.1,())).set (0+v.2.1.toNat) (f.1,f.2.1,f.2.2.1,f.2.2.2.1,f.2.2.2.2.1,IntKind.i64.wrap (IntKind.i64.wrap (IntKind.i64.wrap (IntKind.i64.wrap (IntKind.i64.wrap (v.1+1)+1)+1)+1)+1),f.2.2.2.2.2.2.1,f.2.2.2.2.2.2.2.1,f.2.2.2.2.2.2.2.2.1,())).set (0+v.2.1.toNat) (g.1,g.2.1,g.2.2.1,g.2.2.2.1,g.2.2.2.2.1,g.2.2.2.2.2.1,IntKind.i64.wrap (IntKind.i64.wrap (IntKind.i64.wrap (IntKind.i64.wrap (IntKind.i64.wrap (IntKind.i64.wrap (v.1+1)+1)+1)+1)+1)+1),g.2.2.2.2.2.2.2.1,g.2.2.2.2.2.2.2.2.1,())).length):Int)then(((((((v.2.2.1.set (0+v.2.1.toNat) (v.1,a.2.1,a.2.2.1,a.2.2.2.1,a.2.2.2.2.1,a.2.2.2.2.2.1,a.2.2.2.2.2.2.1,a.2.2.2.2.2.2.2.1,a.2.2.2.2.2.2.2.2.1,())).set (0+v.2.1.toNat) (b.1,IntKind.i64.wrap (v.1+1),b.2.2.1,b.2.2.2.1,b.2.2.2.2.1,b.2.2.2.2.2.1,b.2.2.2.2.2.2.1,b.2.2.2.2.2.2.2.1,b.2.2.2.2.2.2.2.2.1,())).set (0+v.2.1.toNat) (c.1,c.2.1,IntKind.i64.wrap (IntKind.i64.wrap (v.1+1)+1),c.2.2.2.1,c.2.2.2.2.1,c.2.2.2.2.2.1,c.2.2.2.2.2.2.1,c.2.2.2.2.2.2.2.1,c.2.2.2.2.2.2.2.2.1,())).set (0+v.2.1.toNat) (d.1,d.2.1,d.2.2.1,IntKind.i64.wrap (IntKind.i64.wrap (IntKind.i64.wrap (v.1+1)+1)+1),d.2.2.2.2.1,d.2.2.2.2.2.1,d.2.2.2.2.2.2.1,d.2.2.2.2.2.2.2.1,d.2.2.2.2.2.2.2.2.1,())).set (0+v.2.1.toNat) (e.1,e.2.1,e.2.2.1,e.2.2.2.1,IntKind.i64.wrap (IntKind.i64.wrap (IntKind.i64.wrap (IntKind.i64.wrap (v.1+1)+1)+1)+1),e.2.2.2.2.2.1,e.2.2.2.2.2.2.1,e.2.2.2.2.2.2.2.1,e.2.2.2.2.2.2.2.2.1,())).set (0+v.2.1.toNat) (f.1,f.2.1,f.2.2.1,f.2.2.2.1,f.2.2.2.2.1,IntKind.i64.wrap (IntKind.i64.wrap (IntKind.i64.wrap (IntKind.i64.wrap (IntKind.i64.wrap (v.1+1)+1)+1)+1)+1),f.2.2.2.2.2.2.1,f.2.2.2.2.2.2.2.1,f.2.2.2.2.2.2.2.2.1,())).set (0+v.2.1.toNat) (g.1,g.2.1,g.2.2.1,g.2.2.2.1,g.2.2.2.2.1,g.2.2.2.2.2.1,IntKind.i64.wrap (IntKind.i64.wrap (IntKind.i64.wrap (IntKind.i64.wrap (IntKind.i64.wrap (IntKind.i64.wrap (v.1+1)+1)+1)+1)+1)+1),g.2.2.2.2.2.2.2.1,g.2.2.2.2.2.2.2.2.1,()))[0+v.2.1.toNat]?.bind fun h=>(FF (0+v.2.1.toNat,IntKind.i64.wrap (IntKind.i64.wrap (IntKind.i64.wrap (IntKind.i64.wrap (IntKind.i64.wrap (IntKind.i64.wrap (IntKind.i64.wrap (v.1+1)+1)+1)+1)+1)+1)+1),((((((v.2.2.1.set (0+v.2.1.toNat) (v.1,a.2.1,a.2.2.1,a.2.2.2.1,a.2.2.2.2.1,a.2.2.2.2.2.1,a.2.2.2.2.2.2.1,a.2.2.2.2.2.2.2.1,a.2.2.2.2.2.2.2.2.1,())).set (0+v.2.1.toNat) (b.1,IntKind.i64.wrap (v.1+1),b.2.2.1,b.2.2.2.1,b.2.2.2.2.1,b.2.2.2.2.2.1,b.2.2.2.2.2.2.1,b.2.2.2.2.2.2.2.1,b.2.2.2.2.2.2.2.2.1,())).set (0+v.2.1.toNat) (c.1,c.2.1,IntKind.i64.wrap (IntKind.i64.wrap (v.1+1)+1),c.2.2.2.1,c.2.2.2.2.1,c.2.2.2.2.2.1,c.2.2.2.2.2.2.1,c.2.2.2.2.2.2.2.1,c.2.2.2.2.2.2.2.2.1,())).set (0+v.2.1.toNat) (d.1,d.2.1,d.2.2.1,IntKind.i64.wrap (IntKind.i64.wrap (IntKind.i64.wrap (v.1+1)+1)+1),d.2.2.2.2.1,d.2.2.2.2.2.1,d.2.2.2.2.2.2.1,d.2.2.2.2.2.2.2.1,d.2.2.2.2.2.2.2.2.1,())).set (0+v.2.1.toNat) (e.1,e.2.1,e.2.2.1,e.2.2.2.1,IntKind.i64.wrap (IntKind.i64.wrap (IntKind.i64.wrap (IntKind.i64.wrap (v.1+1)+1)+1)+1),e.2.2.2.2.2.1,e.2.2.2.2.2.2.1,e.2.2.2.2.2.2.2.1,e.2.2.2.2.2.2.2.2.1,())).set (0+v.2.1.toNat) (f.1,f.2.1,f.2.2.1,f.2.2.2.1,f.2.2.2.2.1,IntKind.i64.wrap (IntKind.i64.wrap (IntKind.i64.wrap (IntKind.i64.wrap (IntKind.i64.wrap (v.1+1)+1)+1)+1)+1),f.2.2.2.2.2.2.1,f.2.2.2.2.2.2.2.1,f.2.2.2.2.2.2.2.2.1,())).set (0+v.2.1.toNat) (g.1,g.2.1,g.2.2.1,g.2.2.2.1,g.2.2.2.2.1,g.2.2.2.2.2.1,IntKind.i64.wrap (IntKind.i64.wrap (IntKind.i64.wrap (IntKind.i64.wrap (IntKind.i64.wrap (IntKind.i64.wrap (v.1+1)+1)+1)+1)+1)+1),g.2.2.2.2.2.2.2.1,g.2.2.2.2.2.2.2.2.1,()),())).bind fun j=>if 0<=v.2.1/\v.2.1<(j.2.1.length:Int)then j.2.1[0+v.2.1.toNat]?.bind fun k=>(GF (0+v.2.1.toNat,j.1,j.2.1,())).bind fun l=>K (.inl (l.1,IntKind.i64.wrap (v.2.1+1),l.2.1,()))else none else none else none else none else none else none else none else none else none else K (.inr (v.1,v.2.2.1,()))
theorem K1:Bg Bt:=fun i v R K=>Ae (Aq (Ac fun _=>Aq (Ac fun _=>Aq (Ac fun _=>Aq (Ac fun _=>Aq (Ac fun _=>Aq (Ac fun _=>Aq (Ac fun _=>Aq (Ac fun _=>Ac fun _=>Aq (Ac fun _=>Ac fun _=>Aa)))))))))) (Aa)
def W7:Tmpl:=⟨(.own 0 (.slot .i (jk 3 (.slot .i (jk 70 .nil))))),(.tree false 1 Ad .nil)⟩
def cI:Exs cM cK:=x1 (.exit 0) fun i p=>⟨jn 1 (.n (p.1)::jn 74 ([])),[some (Cont.tree false 1 Ad p.2.1 none)]⟩
def cL:=((.v (.v (.v .n))):Pk W7.ty _ _)
def lK:Cfg:={ti:=Aw,ents:=[Yg,Yf],ann:=[(2,Ao W7 1 (spP cL) Bt cI.E)],lent:=1}
def Et (x:Int×List A3×Unit):Option (Int×List A3×Unit):=(AC (fun v=>Bt () v _ some) (x.1,0,x.2.1,())).bind fun p=>some (p.1,p.2.1,())
def lJ:Ent:=⟨73,⟨(.own 0 (.slot .i .nil)),(.tree false 0 Ad .nil)⟩,⟨(.slot .i .nil),(.tree false 1 Ad .nil)⟩,Et⟩
theorem cN:CfgOK Go.Proofs.Tryz.prog lK:=hcB (all_cons sj (all_cons sg all_nil))
theorem lI:B9 Go.Proofs.Tryz.prog lK (lpc Go.Proofs.Tryz.f73 0):=lkA cN W7 cL Bt cI [1] K1
theorem sf:Ai Go.Proofs.Tryz.prog lJ:=okB cN Go.Proofs.Tryz.func73 lI
abbrev A12:=Unit
abbrev A0z:=Int×Int×List A1×Unit
abbrev A10:=Int×List A1×Unit
def DZ (i:A12)(v:A0z)(R:Type)(K:A0z ⊕ A10->Option R):Option R:=bif decide (v.2.1<(v.2.2.1.length:Int))then if 0<=v.2.1/\v.2.1<(v.2.2.1.length:Int)then v.2.2.1[0+v.2.1.toNat]?.bind fun a=>if 0<=v.2.1/\v.2.1<(↑((v.2.2.1.set (0+v.2.1.toNat) (v.1,a.2.1,())).length):Int)then(v.2.2.1.set (0+v.2.1.toNat) (v.1,a.2.1,()))[0+v.2.1.toNat]?.bind fun b=>K (.inl (IntKind.i64.wrap (IntKind.i64.wrap (v.1+1)+1),IntKind.i64.wrap (v.2.1+1),(v.2.2.1.set (0+v.2.1.toNat) (v.1,a.2.1,())).set (0+v.2.1.toNat) (b.1,IntKind.i64.wrap (v.1+1),()),()))else none else none else K (.inr (v.1,v.2.2.1,()))
theorem N0:Bg DZ:=fun i v R K=>Ae (Aq (Ac fun _=>Aq (Ac fun _=>Aa))) (Aa)
def lG:Tmpl:=⟨(.own 0 (.slot .i (jk 3 (.slot .i (jk 21 .nil))))),(.lst false A0 .nil)⟩
def A0y:Exs A12 A10:=x1 (.exit 0) fun i p=>⟨jn 1 (.n (p.1)::jn 25 ([])),[some (Cont.lst false A0 p.2.1)]⟩
def A11:=((.v (.v (.v .n))):Pk lG.ty _ _)
def A9p:Cfg:={ti:=Aw,ents:=[],ann:=[(2,Ao lG 1 (spP A11) DZ A0y.E)],lent:=1}
def Hc (x:Int×List A1×Unit):Option (Int×List A1×Unit):=(AC (fun v=>DZ () v _ some) (x.1,0,x.2.1,())).bind fun p=>some (p.1,p.2.1,())
def lH:Ent:=⟨74,⟨(.own 0 (.slot .i .nil)),(.lst false A0 .nil)⟩,⟨(.slot .i .nil),(.lst false A0 .nil)⟩,Hc⟩
theorem A13:CfgOK Go.Proofs.Tryz.prog A9p:=hcB all_nil
theorem A9o:B9 Go.Proofs.Tryz.prog A9p (lpc Go.Proofs.Tryz.f74 0):=lkA A13 lG A11 DZ A0y [1] N0
theorem sd:Ai Go.Proofs.Tryz.prog lH:=okB A13 Go.Proofs.Tryz.func74 A9o
abbrev A0w:=Unit
abbrev A0t:=Int×Int×List A1×Unit
abbrev A0u:=Int×List A1×Unit
def DY (i:A0w)(v:A0t)(R:Type)(K:A0t ⊕ A0u->Option R):Option R:=bif decide (v.2.1<(v.2.2.1.length:Int))then if 0<=v.2.1/\v.2.1<(v.2.2.1.length:Int)then v.2.2.1[0+v.2.1.toNat]?.bind fun a=>if 0<=v.2.1/\v.2.1<(↑((v.2.2.1.set (0+v.2.1.toNat) (v.1,a.2.1,())).length):Int)then(v.2.2.1.set (0+v.2.1.toNat) (v.1,a.2.1,()))[0+v.2.1.toNat]?.bind fun b=>K (.inl (IntKind.i64.wrap (IntKind.i64.wrap (v.1+1)+1),IntKind.i64.wrap (v.2.1+1),(v.2.2.1.set (0+v.2.1.toNat) (v.1,a.2.1,())).set (0+v.2.1.toNat) (b.1,IntKind.i64.wrap (v.1+1),()),()))else none else none else K (.inr (v.1,v.2.2.1,()))
theorem MX:Bg DY:=fun i v R K=>Ae (Aq (Ac fun _=>Aq (Ac fun _=>Aa))) (Aa)
def lF:Tmpl:=⟨(.own 0 (.slot .i (jk 3 (.slot .i (jk 21 .nil))))),(.lst false A0 .nil)⟩
def A0s:Exs A0w A0u:=x1 (.exit 0) fun i p=>⟨jn 1 (.n (p.1)::jn 25 ([])),[some (Cont.lst false A0 p.2.1)]⟩
def A0v:=((.v (.v (.v .n))):Pk lF.ty _ _)
def A9n:Cfg:={ti:=Aw,ents:=[],ann:=[(2,Ao lF 1 (spP A0v) DY A0s.E)],lent:=1}
def Ha (x:Int×List A1×Unit):Option (Int×List A1×Unit):=(AC (fun v=>DY () v _ some) (x.1,0,x.2.1,())).bind fun p=>some (p.1,p.2.1,())
def eA:Ent:=⟨75,⟨(.own 0 (.slot .i .nil)),(.lst false A0 .nil)⟩,⟨(.slot .i .nil),(.lst false A0 .nil)⟩,Ha⟩
theorem A0x:CfgOK Go.Proofs.Tryz.prog A9n:=hcB all_nil
theorem A9m:B9 Go.Proofs.Tryz.prog A9n (lpc Go.Proofs.Tryz.f75 0):=lkA A0x lF A0v DY A0s [1] MX
theorem s9:Ai Go.Proofs.Tryz.prog eA:=okB A0x Go.Proofs.Tryz.func75 A9m
def Gb (x:Bool×Int×Int×A7):Option (Int×A7):=(Hb (x.2.2.1,x.2.2.2.1,())).bind fun v=>(Et (v.1,x.2.2.2.2.1,())).bind fun a=>(Hc (a.1,x.2.2.2.2.2.1,())).bind fun b=>(Ha (b.1,x.2.2.2.2.2.2.1,())).bind fun c=>some (c.1,v.2.1,a.2.1,b.2.1,c.2.1,())
def lE:Ent:=⟨16,⟨(.agg (.slot .bool (.own 0 (.own 1 (.own 2 (.own 3 (.slot .i .nil)))))) (.slot .i .nil)),(.tree false 0 (.slice Af) (.tree false 0 Ad (.lst false A0 (.lst false A0 .nil))))⟩,⟨(.slot .i .nil),(.tree false 0 (.slice Af) (.tree false 1 Ad (.lst false A0 (.lst false A0 .nil))))⟩,Gb⟩
theorem s8:Ai Go.Proofs.Tryz.prog lE:=okA (hcA 4 (all_cons sk (all_cons sf (all_cons sd (all_cons s9 all_nil))))) Go.Proofs.Tryz.func16
abbrev A0p:=List A2×Unit
abbrev A0m:=Int×Int×Unit
abbrev A0n:=Int×Unit ⊕ Int×Unit ⊕ Int×Unit ⊕ Int×Unit ⊕ Int×Unit ⊕ Int×Unit
def Dy (i:A0p)(v:A0m)(R:Type)(K:A0m ⊕ A0n->Option R):Option R:=bif decide (v.2.1<(i.1.length:Int))then(lAt i.1 v.2.1).bind fun a=>bif a.1 != v.1 then K (.inr (.inl (v.1,())))else(lAt i.1 v.2.1).bind fun b=>bif b.2.1 != IntKind.i64.wrap (v.1+1)then K (.inr (.inr (.inl (IntKind.i64.wrap (v.1+1),()))))else(lAt i.1 v.2.1).bind fun c=>bif c.2.2.1 != IntKind.i64.wrap (IntKind.i64.wrap (v.1+1)+1)then K (.inr (.inr (.inr (.inl (IntKind.i64.wrap (IntKind.i64.wrap (v.1+1)+1),())))))else(lAt i.1 v.2.1).bind fun d=>bif d.2.2.2.1 != IntKind.i64.wrap (IntKind.i64.wrap (IntKind.i64.wrap (v.1+1)+1)+1)then K (.inr (.inr (.inr (.inr (.inl (IntKind.i64.wrap (IntKind.i64.wrap (IntKind.i64.wrap (v.1+1)+1)+1),()))))))else(lAt i.1 v.2.1).bind fun e=>bif e.2.2.2.2.1 != IntKind.i64.wrap (IntKind.i64.wrap (IntKind.i64.wrap (IntKind.i64.wrap (v.1+1)+1)+1)+1)then K (.inr (.inr (.inr (.inr (.inr (.inl (IntKind.i64.wrap (IntKind.i64.wrap (IntKind.i64.wrap (IntKind.i64.wrap (v.1+1)+1)+1)+1),())))))))else K (.inl (IntKind.i64.wrap (IntKind.i64.wrap (IntKind.i64.wrap (IntKind.i64.wrap (IntKind.i64.wrap (v.1+1)+1)+1)+1)+1),IntKind.i64.wrap (v.2.1+1),()))else K (.inr (.inr (.inr (.inr (.inr (.inr (v.1,())))))))
theorem Mf:Bg Dy:=fun i v R K=>Ae (Ac fun _=>Ae (Aa) (Ac fun _=>Ae (Aa) (Ac fun _=>Ae (Aa) (Ac fun _=>Ae (Aa) (Ac fun _=>Ae (Aa) (Aa)))))) (Aa)
def lC:Tmpl:=⟨(.slot (.slice Af) (.slot .i (jk 3 (.slot .i (jk 52 .nil))))),.nil⟩
def A0l:Exs A0p A0n:=xs .ret (fun i p=>⟨jn 1 (.n (p.1)::jn 2 (.n (-1)::jn 53 ([]))),[]⟩)<|xs .ret (fun i p=>⟨jn 1 (.n (p.1)::jn 2 (.n (-1)::jn 53 ([]))),[]⟩)<|xs .ret (fun i p=>⟨jn 1 (.n (p.1)::jn 2 (.n (-1)::jn 53 ([]))),[]⟩)<|xs .ret (fun i p=>⟨jn 1 (.n (p.1)::jn 2 (.n (-1)::jn 53 ([]))),[]⟩)<|xs .ret (fun i p=>⟨jn 1 (.n (p.1)::jn 2 (.n (-1)::jn 53 ([]))),[]⟩)<|x1 (.exit 0) fun i p=>⟨jn 1 (.n (p.1)::jn 56 ([])),[]⟩
def A0o:=((.i (.v (.v .n))):Pk lC.ty _ _)
def A9k:Cfg:={ti:=Aw,ents:=[],ann:=[(2,Ao lC 0 (spP A0o) Dy A0l.E)],lent:=0}
def GG (x:List A2×Int×Unit):Option (Int×Unit):=(AC (fun v=>Dy (x.1,()) v _ some) (x.2.1,0,())).bind fun p=>Az p (fun p=>some (-1,())) fun p=>Az p (fun p=>some (-1,())) fun p=>Az p (fun p=>some (-1,())) fun p=>Az p (fun p=>some (-1,())) fun p=>Az p (fun p=>some (-1,())) fun p=>some (p.1,())
def Ye:Ent:=⟨220,⟨(.slot (.slice Af) (.slot .i .nil)),.nil⟩,⟨(.slot .i .nil),.nil⟩,GG⟩
theorem A0q:CfgOK Go.Proofs.Tryz.prog A9k:=hcB all_nil
theorem A9j:B9 Go.Proofs.Tryz.prog A9k (lpc Go.Proofs.Tryz.f220 0):=lkA A0q lC A0o Dy A0l [1,4] Mf
theorem s7:Ai Go.Proofs.Tryz.prog Ye:=okB A0q Go.Proofs.Tryz.func220 A9j
abbrev cG:=List (List A2)×Unit
abbrev cD:=Int×Int×Unit
abbrev cE:=Int×Unit ⊕ Int×Unit
def Cd (i:cG)(v:cD)(R:Type)(K:cD ⊕ cE->Option R):Option R:=bif decide (v.2.1<(i.1.length:Int))then(lAt i.1 v.2.1).bind fun a=>(GG (a,v.1,())).bind fun b=>bif decide (b.1<0)then K (.inr (.inl (b.1,())))else K (.inl (b.1,IntKind.i64.wrap (v.2.1+1),()))else K (.inr (.inr (v.1,())))
theorem LL:Bg Cd:=fun i v R K=>Ae (Ac fun _=>Ac fun _=>Ae (Aa) (Aa)) (Aa)
def W6:Tmpl:=⟨(.slot (.slice (.slice Af)) (.slot .i (jk 3 (.slot .i (jk 15 .nil))))),.nil⟩
def cC:Exs cG cE:=xs .ret (fun i p=>⟨jn 1 (.n (p.1)::jn 2 (.n (-1)::jn 16 ([]))),[]⟩)<|x1 (.exit 0) fun i p=>⟨jn 1 (.n (p.1)::jn 19 ([])),[]⟩
def cF:=((.i (.v (.v .n))):Pk W6.ty _ _)
def lB:Cfg:={ti:=Aw,ents:=[Ye],ann:=[(2,Ao W6 0 (spP cF) Cd cC.E)],lent:=0}
def Gm (x:List (List A2)×Int×Unit):Option (Int×Unit):=(AC (fun v=>Cd (x.1,()) v _ some) (x.2.1,0,())).bind fun p=>Az p (fun p=>some (-1,())) fun p=>some (p.1,())
def lA:Ent:=⟨157,⟨(.slot (.slice (.slice Af)) (.slot .i .nil)),.nil⟩,⟨(.slot .i .nil),.nil⟩,Gm⟩
theorem cH:CfgOK Go.Proofs.Tryz.prog lB:=hcB (all_cons s7 all_nil)
theorem lz:B9 Go.Proofs.Tryz.prog lB (lpc Go.Proofs.Tryz.f157 0):=lkA cH W6 cF Cd cC [1,4] LL
theorem s6:Ai Go.Proofs.Tryz.prog lA:=okB cH Go.Proofs.Tryz.func157 lz
def Ie (x:A4×Int×Unit):Option (Int×Unit):=(Gm (x.1.1,x.2.1,())).bind fun v=>bif decide (v.1<0)then some (-1,())else some (v.1,())
def ly:Ent:=⟨76,⟨(.slot Bp (.slot .i .nil)),.nil⟩,⟨(.slot .i .nil),.nil⟩,Ie⟩
theorem s5:Ai Go.Proofs.Tryz.prog ly:=okA (hcA 0 (all_cons s6 all_nil)) Go.Proofs.Tryz.func76
abbrev A0j:=List A1×Unit
abbrev A0g:=Int×Int×Unit
abbrev A0h:=Int×Unit ⊕ Int×Unit ⊕ Int×Unit
def Dk (i:A0j)(v:A0g)(R:Type)(K:A0g ⊕ A0h->Option R):Option R:=bif decide (v.2.1<(i.1.length:Int))then(lAt i.1 v.2.1).bind fun a=>bif a.1 != v.1 then K (.inr (.inl (v.1,())))else(lAt i.1 v.2.1).bind fun b=>bif b.2.1 != IntKind.i64.wrap (v.1+1)then K (.inr (.inr (.inl (IntKind.i64.wrap (v.1+1),()))))else K (.inl (IntKind.i64.wrap (IntKind.i64.wrap (v.1+1)+1),IntKind.i64.wrap (v.2.1+1),()))else K (.inr (.inr (.inr (v.1,()))))
theorem LM:Bg Dk:=fun i v R K=>Ae (Ac fun _=>Ae (Aa) (Ac fun _=>Ae (Aa) (Aa))) (Aa)
def lx:Tmpl:=⟨(.slot (.slice A0) (.slot .i (jk 3 (.slot .i (jk 25 .nil))))),.nil⟩
def A0f:Exs A0j A0h:=xs .ret (fun i p=>⟨jn 1 (.n (p.1)::jn 2 (.n (-1)::jn 26 ([]))),[]⟩)<|xs .ret (fun i p=>⟨jn 1 (.n (p.1)::jn 2 (.n (-1)::jn 26 ([]))),[]⟩)<|x1 (.exit 0) fun i p=>⟨jn 1 (.n (p.1)::jn 29 ([])),[]⟩
def A0i:=((.i (.v (.v .n))):Pk lx.ty _ _)
def A9i:Cfg:={ti:=Aw,ents:=[],ann:=[(2,Ao lx 0 (spP A0i) Dk A0f.E)],lent:=0}
def Gn (x:List A1×Int×Unit):Option (Int×Unit):=(AC (fun v=>Dk (x.1,()) v _ some) (x.2.1,0,())).bind fun p=>Az p (fun p=>some (-1,())) fun p=>Az p (fun p=>some (-1,())) fun p=>some (p.1,())
def Yd:Ent:=⟨158,⟨(.slot (.slice A0) (.slot .i .nil)),.nil⟩,⟨(.slot .i .nil),.nil⟩,Gn⟩
theorem A0k:CfgOK Go.Proofs.Tryz.prog A9i:=hcB all_nil
theorem A9h:B9 Go.Proofs.Tryz.prog A9i (lpc Go.Proofs.Tryz.f158 0):=lkA A0k lx A0i Dk A0f [1,4] LM
theorem s4:Ai Go.Proofs.Tryz.prog Yd:=okB A0k Go.Proofs.Tryz.func158 A9h
abbrev A0d:=List A1×Unit
abbrev A0a:=Int×Int×Unit
abbrev A0b:=Int×Unit ⊕ Int×Unit ⊕ Int×Unit
def ED (i:A0d)(v:A0a)(R:Type)(K:A0a ⊕ A0b->Option R):Option R:=bif decide (v.2.1<(i.1.length:Int))then(lAt i.1 v.2.1).bind fun a=>bif a.1 != v.1 then K (.inr (.inl (v.1,())))else(lAt i.1 v.2.1).bind fun b=>bif b.2.1 != IntKind.i64.wrap (v.1+1)then K (.inr (.inr (.inl (IntKind.i64.wrap (v.1+1),()))))else K (.inl (IntKind.i64.wrap (IntKind.i64.wrap (v.1+1)+1),IntKind.i64.wrap (v.2.1+1),()))else K (.inr (.inr (.inr (v.1,()))))
theorem Nm:Bg ED:=fun i v R K=>Ae (Ac fun _=>Ae (Aa) (Ac fun _=>Ae (Aa) (Aa))) (Aa)
def lw:Tmpl:=⟨(.slot (.slice A0) (.slot .i (jk 3 (.slot .i (jk 25 .nil))))),.nil⟩
def A09:Exs A0d A0b:=xs .ret (fun i p=>⟨jn 1 (.n (p.1)::jn 2 (.n (-1)::jn 26 ([]))),[]⟩)<|xs .ret (fun i p=>⟨jn 1 (.n (p.1)::jn 2 (.n (-1)::jn 26 ([]))),[]⟩)<|x1 (.exit 0) fun i p=>⟨jn 1 (.n (p.1)::jn 29 ([])),[]⟩
def A0c:=((.i (.v (.v .n))):Pk lw.ty _ _)
def A9g:Cfg:={ti:=Aw,ents:=[],ann:=[(2,Ao lw 0 (spP A0c) ED A09.E)],lent:=0}
def HP (x:List A1×Int×Unit):Option (Int×Unit):=(AC (fun v=>ED (x.1,()) v _ some) (x.2.1,0,())).bind fun p=>Az p (fun p=>some (-1,())) fun p=>Az p (fun p=>some (-1,())) fun p=>some (p.1,())
def Yc:Ent:=⟨159,⟨(.slot (.slice A0) (.slot .i .nil)),.nil⟩,⟨(.slot .i .nil),.nil⟩,HP⟩
theorem A0e:CfgOK Go.Proofs.Tryz.prog A9g:=hcB all_nil
theorem A9f:B9 Go.Proofs.Tryz.prog A9g (lpc Go.Proofs.Tryz.f159 0):=lkA A0e lw A0c ED A09 [1,4] Nm
theorem s3:Ai Go.Proofs.Tryz.prog Yc:=okB A0e Go.Proofs.Tryz.func159 A9f
abbrev A08:=List A3×Unit
abbrev A05:=Int×Int×Unit
abbrev A06:=Int×Unit ⊕ Int×Unit ⊕ Int×Unit ⊕ Int×Unit ⊕ Int×Unit ⊕ Int×Unit ⊕ Int×Unit ⊕ Int×Unit ⊕ Int×Unit ⊕ Int×Unit
def BN (i:A08)(v:A05)(R:Type)(K:A05 ⊕ A06->Option R):Option R:=bif decide (v.2.1<(i.1.length:Int))then(lAt i.1 v.2.1).bind fun a=>bif a.1 != v.1 then K (.inr (.inl (v.1,())))else(lAt i.1 v.2.1).bind fun b=>bif b.2.1 != IntKind.i64.wrap (v.1+1)then K (.inr (.inr (.inl (IntKind.i64.wrap (v.1+1),()))))else(lAt i.1 v.2.1).bind fun c=>bif c.2.2.1 != IntKind.i64.wrap (IntKind.i64.wrap (v.1+1)+1)then K (.inr (.inr (.inr (.inl (IntKind.i64.wrap (IntKind.i64.wrap (v.1+1)+1),())))))else(lAt i.1 v.2.1).bind fun d=>bif d.2.2.2.1 != IntKind.i64.wrap (IntKind.i64.wrap (IntKind.i64.wrap (v.1+1)+1)+1)then K (.inr (.inr (.inr (.inr (.inl (IntKind.i64.wrap (IntKind.i64.wrap (IntKind.i64.wrap (v.1+1)+1)+1),()))))))else(lAt i.1 v.2.1).bind fun e=>bif e.2.2.2.2.1 != IntKind.i64.wrap (IntKind.i64.wrap (IntKind.i64.wrap (IntKind.i64.wrap (v.1+1)+1)+1)+1)then K (.inr (.inr (.inr (.inr (.inr (.inl (IntKind.i64.wrap (IntKind.i64.wrap (IntKind.i64.wrap (IntKind.i64.wrap (v.1+1)+1)+1)+1),())))))))else(lAt i.1 v.2.1).bind fun f=>bif f.2.2.2.2.2.1 != IntKind.i64.wrap (IntKind.i64.wrap (IntKind.i64.wrap (IntKind.i64.wrap (IntKind.i64.wrap (v.1+1)+1)+1)+1)+1)then K (.inr (.inr (.inr (.inr (.inr (.inr (.inl (IntKind.i64.wrap (IntKind.i64.wrap (IntKind.i64.wrap (IntKind.i64.wrap (IntKind.i64.wrap (v.1+1)+1)+1)+1)+1),()))))))))else(lAt i.1 v.2.1).bind fun g=>bif g.2.2.2.2.2.2.1 != IntKind.i64.wrap (IntKind.i64.wrap (IntKind.i64.wrap (IntKind.i64.wrap (IntKind.i64.wrap (IntKind.i64.wrap (v.1+1)+1)+1)+1)+1)+1)then K (.inr (.inr (.inr (.inr (.inr (.inr (.inr (.inl (IntKind.i64.wrap (IntKind.i64.wrap (IntKind.i64.wrap (IntKind.i64.wrap (IntKind.i64.wrap (IntKind.i64.wrap (v.1+1)+1)+1)+1)+1)+1),())))))))))else(lAt i.1 v.2.1).bind fun h=>(Gn (h.2.2.2.2.2.2.2.1,IntKind.i64.wrap (IntKind.i64.wrap (IntKind.i64.wrap (IntKind.i64.wrap (IntKind.i64.wrap (IntKind.i64.wrap (IntKind.i64.wrap (v.1+1)+1)+1)+1)+1)+1)+1),())).bind fun j=>bif decide (j.1<0)then K (.inr (.inr (.inr (.inr (.inr (.inr (.inr (.inr (.inl (j.1,()))))))))))else(lAt i.1 v.2.1).bind fun k=>(HP (k.2.2.2.2.2.2.2.2.1,j.1,())).bind fun l=>bif decide (l.1<0)then K (.inr (.inr (.inr (.inr (.inr (.inr (.inr (.inr (.inr (.inl (l.1,())))))))))))else K (.inl (l.1,IntKind.i64.wrap (v.2.1+1),()))else K (.inr (.inr (.inr (.inr (.inr (.inr (.inr (.inr (.inr (.inr (v.1,())))))))))))
theorem Kz:Bg BN:=fun i v R K=>Ae (Ac fun _=>Ae (Aa) (Ac fun _=>Ae (Aa) (Ac fun _=>Ae (Aa) (Ac fun _=>Ae (Aa) (Ac fun _=>Ae (Aa) (Ac fun _=>Ae (Aa) (Ac fun _=>Ae (Aa) (Ac fun _=>Ac fun _=>Ae (Aa) (Ac fun _=>Ac fun _=>Ae (Aa) (Aa)))))))))) (Aa)
def lv:Tmpl:=⟨(.slot (.slice Ad) (.slot .i (jk 3 (.slot .i (jk 88 .nil))))),.nil⟩
def A04:Exs A08 A06:=xs .ret (fun i p=>⟨jn 1 (.n (p.1)::jn 2 (.n (-1)::jn 89 ([]))),[]⟩)<|xs .ret (fun i p=>⟨jn 1 (.n (p.1)::jn 2 (.n (-1)::jn 89 ([]))),[]⟩)<|xs .ret (fun i p=>⟨jn 1 (.n (p.1)::jn 2 (.n (-1)::jn 89 ([]))),[]⟩)<|xs .ret (fun i p=>⟨jn 1 (.n (p.1)::jn 2 (.n (-1)::jn 89 ([]))),[]⟩)<|xs .ret (fun i p=>⟨jn 1 (.n (p.1)::jn 2 (.n (-1)::jn 89 ([]))),[]⟩)<|xs .ret (fun i p=>⟨jn 1 (.n (p.1)::jn 2 (.n (-1)::jn 89 ([]))),[]⟩)<|xs .ret (fun i p=>⟨jn 1 (.n (p.1)::jn 2 (.n (-1)::jn 89 ([]))),[]⟩)<|xs .ret (fun i p=>⟨jn 1 (.n (p.1)::jn 2 (.n (-1)::jn 89 ([]))),[]⟩)<|xs .ret (fun i p=>⟨jn 1 (.n (p.1)::jn 2 (.n (-1)::jn 89 ([]))),[]⟩)<|x1 (.exit 0) fun i p=>⟨jn 1 (.n (p.1)::jn 92 ([])),[]⟩
def A07:=((.i (.v (.v .n))):Pk lv.ty _ _)
def ip:Cfg:={ti:=Aw,ents:=[Yd,Yc],ann:=[(2,Ao lv 0 (spP A07) BN A04.E)],lent:=0}
def Fk (x:List A3×Int×Unit):Option (Int×Unit):=(AC (fun v=>BN (x.1,()) v _ some) (x.2.1,0,())).bind fun p=>Az p (fun p=>some (-1,())) fun p=>Az p (fun p=>some (-1,())) fun p=>Az p (fun p=>some (-1,())) fun p=>Az p (fun p=>some (-1,())) fun p=>Az p (fun p=>some (-1,())) fun p=>Az p (fun p=>some (-1,())) fun p=>Az p (fun p=>some (-1,())) fun p=>Az p (fun p=>some (-1,())) fun p=>Az p (fun p=>some (-1,())) fun p=>some (p.1,())
def ez:Ent:=⟨77,⟨(.slot (.slice Ad) (.slot .i .nil)),.nil⟩,⟨(.slot .i .nil),.nil⟩,Fk⟩
theorem Zk:CfgOK Go.Proofs.Tryz.prog ip:=hcB (all_cons s4 (all_cons s3 all_nil))
theorem A9d:B9 Go.Proofs.Tryz.prog ip (lpc Go.Proofs.Tryz.f77 0):=lkA Zk lv A07 BN A04 [1,4] Kz
theorem rZ:Ai Go.Proofs.Tryz.prog ez:=okB Zk Go.Proofs.Tryz.func77 A9d
abbrev A02:=List A1×Unit
abbrev zZ:=Int×Int×Unit
abbrev A00:=Int×Unit ⊕ Int×Unit ⊕ Int×Unit
def Fl (i:A02)(v:zZ)(R:Type)(K:zZ ⊕ A00->Option R):Option R:=bif decide (v.2.1<(i.1.length:Int))then(lAt i.1 v.2.1).bind fun a=>bif a.1 != v.1 then K (.inr (.inl (v.1,())))else(lAt i.1 v.2.1).bind fun b=>bif b.2.1 != IntKind.i64.wrap (v.1+1)then K (.inr (.inr (.inl (IntKind.i64.wrap (v.1+1),()))))else K (.inl (IntKind.i64.wrap (IntKind.i64.wrap (v.1+1)+1),IntKind.i64.wrap (v.2.1+1),()))else K (.inr (.inr (.inr (v.1,()))))
theorem O2:Bg Fl:=fun i v R K=>Ae (Ac fun _=>Ae (Aa) (Ac fun _=>Ae (Aa) (Aa))) (Aa)
def lu:Tmpl:=⟨(.slot (.slice A0) (.slot .i (jk 3 (.slot .i (jk 25 .nil))))),.nil⟩
def zY:Exs A02 A00:=xs .ret (fun i p=>⟨jn 1 (.n (p.1)::jn 2 (.n (-1)::jn 26 ([]))),[]⟩)<|xs .ret (fun i p=>⟨jn 1 (.n (p.1)::jn 2 (.n (-1)::jn 26 ([]))),[]⟩)<|x1 (.exit 0) fun i p=>⟨jn 1 (.n (p.1)::jn 29 ([])),[]⟩
def A01:=((.i (.v (.v .n))):Pk lu.ty _ _)
def rG:Cfg:={ti:=Aw,ents:=[],ann:=[(2,Ao lu 0 (spP A01) Fl zY.E)],lent:=0}
def Ig (x:List A1×Int×Unit):Option (Int×Unit):=(AC (fun v=>Fl (x.1,()) v _ some) (x.2.1,0,())).bind fun p=>Az p (fun p=>some (-1,())) fun p=>Az p (fun p=>some (-1,())) fun p=>some (p.1,())
def ew:Ent:=⟨78,⟨(.slot (.slice A0) (.slot .i .nil)),.nil⟩,⟨(.slot .i .nil),.nil⟩,Ig⟩
theorem A03:CfgOK Go.Proofs.Tryz.prog rG:=hcB all_nil
theorem A9c:B9 Go.Proofs.Tryz.prog rG (lpc Go.Proofs.Tryz.f78 0):=lkA A03 lu A01 Fl zY [1,4] O2
theorem rY:Ai Go.Proofs.Tryz.prog ew:=okB A03 Go.Proofs.Tryz.func78 A9c
abbrev zW:=List A1×Unit
abbrev zT:=Int×Int×Unit
abbrev zU:=Int×Unit ⊕ Int×Unit ⊕ Int×Unit
def Fj (i:zW)(v:zT)(R:Type)(K:zT ⊕ zU->Option R):Option R:=bif decide (v.2.1<(i.1.length:Int))then(lAt i.1 v.2.1).bind fun a=>bif a.1 != v.1 then K (.inr (.inl (v.1,())))else(lAt i.1 v.2.1).bind fun b=>bif b.2.1 != IntKind.i64.wrap (v.1+1)then K (.inr (.inr (.inl (IntKind.i64.wrap (v.1+1),()))))else K (.inl (IntKind.i64.wrap (IntKind.i64.wrap (v.1+1)+1),IntKind.i64.wrap (v.2.1+1),()))else K (.inr (.inr (.inr (v.1,()))))
theorem O1:Bg Fj:=fun i v R K=>Ae (Ac fun _=>Ae (Aa) (Ac fun _=>Ae (Aa) (Aa))) (Aa)
def lr:Tmpl:=⟨(.slot (.slice A0) (.slot .i (jk 3 (.slot .i (jk 25 .nil))))),.nil⟩
def zS:Exs zW zU:=xs .ret (fun i p=>⟨jn 1 (.n (p.1)::jn 2 (.n (-1)::jn 26 ([]))),[]⟩)<|xs .ret (fun i p=>⟨jn 1 (.n (p.1)::jn 2 (.n (-1)::jn 26 ([]))),[]⟩)<|x1 (.exit 0) fun i p=>⟨jn 1 (.n (p.1)::jn 29 ([])),[]⟩
def zV:=((.i (.v (.v .n))):Pk lr.ty _ _)
def rF:Cfg:={ti:=Aw,ents:=[],ann:=[(2,Ao lr 0 (spP zV) Fj zS.E)],lent:=0}
def Ic (x:List A1×Int×Unit):Option (Int×Unit):=(AC (fun v=>Fj (x.1,()) v _ some) (x.2.1,0,())).bind fun p=>Az p (fun p=>some (-1,())) fun p=>Az p (fun p=>some (-1,())) fun p=>some (p.1,())
def eu:Ent:=⟨79,⟨(.slot (.slice A0) (.slot .i .nil)),.nil⟩,⟨(.slot .i .nil),.nil⟩,Ic⟩
theorem zX:CfgOK Go.Proofs.Tryz.prog rF:=hcB all_nil
theorem A9b:B9 Go.Proofs.Tryz.prog rF (lpc Go.Proofs.Tryz.f79 0):=lkA zX lr zV Fj zS [1,4] O1
theorem rX:Ai Go.Proofs.Tryz.prog eu:=okB zX Go.Proofs.Tryz.func79 A9b
def Gp (x:A5×Int×Unit):Option (Int×Unit):=(Ie ((x.1.2.1.1,()),x.2.1,())).bind fun v=>bif decide (v.1<0)then some (-1,())else(Fk (x.1.2.2.1,v.1,())).bind fun v=>bif decide (v.1<0)then some (-1,())else(Ig (x.1.2.2.2.1,v.1,())).bind fun v=>bif decide (v.1<0)then some (-1,())else(Ic (x.1.2.2.2.2.1,v.1,())).bind fun v=>bif decide (v.1<0)then some (-1,())else some (v.1,())
def wN:Ent:=⟨18,⟨(.slot D9 (.slot .i .nil)),.nil⟩,⟨(.slot .i .nil),.nil⟩,Gp⟩
theorem A5e:Ai Go.Proofs.Tryz.prog wN:=okA (hcA 0 (all_cons s5 (all_cons rZ (all_cons rY (all_cons rX all_nil))))) Go.Proofs.Tryz.func18
abbrev zP:=List (List A6)×Unit
abbrev zM:=Int×Int×Unit
abbrev zN:=Int×Unit ⊕ Int×Unit
def Oz (i:zP)(v:zM)(R:Type)(K:zM ⊕ zN->Option R):Option R:=bif decide (v.2.1<(i.1.length:Int))then(lAt i.1 v.2.1).bind fun a=>(LK (a,v.1,())).bind fun b=>bif decide (b.1<0)then K (.inr (.inl (b.1,())))else K (.inl (b.1,IntKind.i64.wrap (v.2.1+1),()))else K (.inr (.inr (v.1,())))
theorem Xk:Bg Oz:=fun i v R K=>Ae (Ac fun _=>Ac fun _=>Ae (Aa) (Aa)) (Aa)
def lp:Tmpl:=⟨(.slot (.slice (.slice YOp)) (.slot .i (jk 3 (.slot .i (jk 21 .nil))))),.nil⟩
def zL:Exs zP zN:=xs .ret (fun i p=>⟨jn 1 (.n (p.1)::jn 2 (.n (-1)::jn 22 ([]))),[]⟩)<|x1 (.exit 0) fun i p=>⟨jn 1 (.n (p.1)::jn 25 ([])),[]⟩
def zO:=((.i (.v (.v .n))):Pk lp.ty _ _)
def A99:Cfg:={ti:=Aw,ents:=[ir],ann:=[(5,Ao lp 0 (spP zO) Oz zL.E)],lent:=0}
def Rs (x:List (List A6)×Int×Unit):Option (Int×Unit):=bif decide (IntKind.i64.wrap (x.2.1-(x.1.length:Int))<0)then some (-1,())else(AC (fun v=>Oz (x.1,()) v _ some) (IntKind.i64.wrap (x.2.1-(x.1.length:Int)),0,())).bind fun p=>Az p (fun p=>some (-1,())) fun p=>some (p.1,())
def lq:Ent:=⟨20,⟨(.slot (.slice (.slice YOp)) (.slot .i .nil)),.nil⟩,⟨(.slot .i .nil),.nil⟩,Rs⟩
theorem zQ:CfgOK Go.Proofs.Tryz.prog A99:=hcB (all_cons Aaj all_nil)
theorem A98:B9 Go.Proofs.Tryz.prog A99 (lpc Go.Proofs.Tryz.f20 0):=lkA zQ lp zO Oz zL [1,4] Xk
theorem rV:Ai Go.Proofs.Tryz.prog lq:=okB zQ Go.Proofs.Tryz.func20 A98
abbrev zJ:=List (List A6)×Unit
abbrev zG:=Int×List (List A6)×Unit
abbrev zH:=List (List A6)×Unit
def KU (i:zJ)(v:zG)(R:Type)(K:zG ⊕ zH->Option R):Option R:=bif decide (v.1<(i.1.length:Int))then(lAt i.1 v.1).bind fun a=>(Jj (a,())).bind fun b=>if 0<=v.1/\v.1<(v.2.1.length:Int)then v.2.1[0+v.1.toNat]?.bind fun c=>K (.inl (IntKind.i64.wrap (v.1+1),v.2.1.set (0+v.1.toNat) b.1,()))else none else K (.inr (v.2.1,()))
theorem Xh:Bg KU:=fun i v R K=>Ae (Ac fun _=>Ac fun _=>Aq (Ac fun _=>Aa)) (Aa)
def ln:Tmpl:=⟨(.slot (.slice (.slice YOp)) (jk 2 (.own 0 (.slot .i (jk 18 .nil))))),(.tree false 1 (.slice YOp) .nil)⟩
def zF:Exs zJ zH:=x1 (.exit 0) fun i p=>⟨jn 3 (AV.own 0 none none::jn 19 ([])),[some (Cont.tree false 1 (.slice YOp) p.1 none)]⟩
def zI:=((.i (.v (.v .n))):Pk ln.ty _ _)
def A97:Cfg:={ti:=Aw,ents:=[kN],ann:=[(3,Ao ln 0 (spP zI) KU zF.E)],lent:=0}
def Kt (x:List (List A6)×Unit):Option (List (List A6)×Unit):=if 0<=(x.1.length:Int)/\(x.1.length:Int)<=(x.1.length:Int)/\(x.1.length:Int)<=(↑1466015503701:Int)then(AC (fun v=>KU (x.1,()) v _ some) (0,List.replicate ((x.1.length:Int).toNat) [],())).bind fun p=>some (p.1,())else none
def et:Ent:=⟨22,⟨(.slot (.slice (.slice YOp)) .nil),.nil⟩,⟨(.own 0 .nil),(.tree false 1 (.slice YOp) .nil)⟩,Kt⟩
theorem zK:CfgOK Go.Proofs.Tryz.prog A97:=hcB (all_cons A8a all_nil)
theorem A96:B9 Go.Proofs.Tryz.prog A97 (lpc Go.Proofs.Tryz.f22 0):=lkA zK ln zI KU zF [3] Xh
theorem rU:Ai Go.Proofs.Tryz.prog et:=okB zK Go.Proofs.Tryz.func22 A96
abbrev zE:=List A6×Unit
abbrev zB:=Int×Unit
abbrev zC:=Unit ⊕ Unit ⊕ Unit ⊕ Unit ⊕ Unit ⊕ Unit ⊕ Unit ⊕ Unit ⊕ Unit
def GN (i:zE)(v:zB)(R:Type)(K:zB ⊕ zC->Option R):Option R:=bif decide (v.1<(i.1.length:Int))then(lAt i.1 v.1).bind fun a=>bif a.1==5 then(lAt i.1 v.1).bind fun b=>(Ea ((b.1,b.2.1,b.2.2.1,b.2.2.2.1,b.2.2.2.2.1,b.2.2.2.2.2.1,()),())).bind fun c=>bif !c.1 then K (.inr (.inl ()))else(lAt i.1 v.1).bind fun d=>(lAt i.1 0).bind fun e=>bif d.2.1 != e.2.1 then K (.inr (.inr (.inl ())))else(lAt i.1 v.1).bind fun f=>bif !(f.1==1)==(v.1==0)then K (.inr (.inr (.inr (.inl ()))))else bif !true==(v.1==IntKind.i64.wrap ((i.1.length:Int)-1))then K (.inr (.inr (.inr (.inr (.inl ())))))else K (.inl (IntKind.i64.wrap (v.1+1),()))else(lAt i.1 v.1).bind fun b=>(lAt i.1 v.1).bind fun c=>(Ea ((c.1,c.2.1,c.2.2.1,c.2.2.2.1,c.2.2.2.2.1,c.2.2.2.2.2.1,()),())).bind fun d=>bif !d.1 then K (.inr (.inr (.inr (.inr (.inr (.inl ()))))))else(lAt i.1 v.1).bind fun e=>(lAt i.1 0).bind fun f=>bif e.2.1 != f.2.1 then K (.inr (.inr (.inr (.inr (.inr (.inr (.inl ())))))))else(lAt i.1 v.1).bind fun g=>bif !(g.1==1)==(v.1==0)then K (.inr (.inr (.inr (.inr (.inr (.inr (.inr (.inl ()))))))))else bif !(b.1==6)==(v.1==IntKind.i64.wrap ((i.1.length:Int)-1))then K (.inr (.inr (.inr (.inr (.inr (.inr (.inr (.inr (.inl ())))))))))else K (.inl (IntKind.i64.wrap (v.1+1),()))else K (.inr (.inr (.inr (.inr (.inr (.inr (.inr (.inr (.inr ())))))))))
theorem Q0:Bg GN:=fun i v R K=>Ae (Ac fun _=>Ae (Ac fun _=>Ac fun _=>Ae (Aa) (Ac fun _=>Ac fun _=>Ae (Aa) (Ac fun _=>Ae (Aa) (Ae (Aa) (Aa))))) (Ac fun _=>Ac fun _=>Ac fun _=>Ae (Aa) (Ac fun _=>Ac fun _=>Ae (Aa) (Ac fun _=>Ae (Aa) (Ae (Aa) (Aa)))))) (Aa)
def ll:Tmpl:=⟨(.slot (.slice YOp) (jk 2 (.slot .i (jk 62 .nil)))),.nil⟩
def zA:Exs zE zC:=xs .ret (fun i p=>⟨AV.pv (.slice YOp) i.1::jn 1 (.b (false)::jn 63 ([])),[]⟩)<|xs .ret (fun i p=>⟨AV.pv (.slice YOp) i.1::jn 1 (.b (false)::jn 63 ([])),[]⟩)<|xs .ret (fun i p=>⟨AV.pv (.slice YOp) i.1::jn 1 (.b (false)::jn 63 ([])),[]⟩)<|xs .ret (fun i p=>⟨AV.pv (.slice YOp) i.1::jn 1 (.b (false)::jn 63 ([])),[]⟩)<|xs .ret (fun i p=>⟨AV.pv (.slice YOp) i.1::jn 1 (.b (false)::jn 63 ([])),[]⟩)<|xs .ret (fun i p=>⟨AV.pv (.slice YOp) i.1::jn 1 (.b (false)::jn 63 ([])),[]⟩)<|xs .ret (fun i p=>⟨AV.pv (.slice YOp) i.1::jn 1 (.b (false)::jn 63 ([])),[]⟩)<|xs .ret (fun i p=>⟨AV.pv (.slice YOp) i.1::jn 1 (.b (false)::jn 63 ([])),[]⟩)<|x1 (.exit 0) fun i p=>⟨AV.pv (.slice YOp) i.1::jn 65 ([]),[]⟩
def zD:=((.i (.v .n)):Pk ll.ty _ _)
def lm:Cfg:={ti:=Aw,ents:=[XD,Nb],ann:=[(2,Ao ll 0 (spP zD) GN zA.E)],lent:=0}
def JZ (x:List A6×Unit):Option (Bool×Unit):=(AC (fun v=>GN (x.1,()) v _ some) (0,())).bind fun p=>Az p (fun p=>some (false,())) fun p=>Az p (fun p=>some (false,())) fun p=>Az p (fun p=>some (false,())) fun p=>Az p (fun p=>some (false,())) fun p=>Az p (fun p=>some (false,())) fun p=>Az p (fun p=>some (false,())) fun p=>Az p (fun p=>some (false,())) fun p=>Az p (fun p=>some (false,())) fun p=>(Ak ((x.1.length:Int),2,12,())).bind fun v=>some (v.1,())
def cf:Ent:=⟨88,⟨(.slot (.slice YOp) .nil),.nil⟩,⟨(.slot .bool .nil),.nil⟩,JZ⟩
theorem cB:CfgOK Go.Proofs.Tryz.prog lm:=hcB (all_cons kO (all_cons KM all_nil))
theorem A95:B9 Go.Proofs.Tryz.prog lm (lpc Go.Proofs.Tryz.f88 0):=lkA cB ll zD GN zA [0,2] Q0
theorem rT:Ai Go.Proofs.Tryz.prog cf:=okB cB Go.Proofs.Tryz.func88 A95
abbrev zy:=List (List A6)×Int×Unit
abbrev zq:=Int×Unit
abbrev zt:=Unit ⊕ Unit
def Ia (i:zy)(v:zq)(R:Type)(K:zq ⊕ zt->Option R):Option R:=bif decide (v.1<i.2.1)then(lAt i.1 v.1).bind fun a=>(lAt a 0).bind fun b=>(lAt i.1 i.2.1).bind fun c=>(lAt c 0).bind fun d=>bif b.2.1==d.2.1 then K (.inr (.inl ()))else K (.inl (IntKind.i64.wrap (v.1+1),()))else K (.inr (.inr ()))
theorem RX:Bg Ia:=fun i v R K=>Ae (Ac fun _=>Ac fun _=>Ac fun _=>Ac fun _=>Ae (Aa) (Aa)) (Aa)
def lh:Tmpl:=⟨(.slot (.slice (.slice YOp)) (jk 2 (si 2 (jk 35 .nil)))),.nil⟩
def zo:Exs zy zt:=xs .ret (fun i p=>⟨AV.pv (.slice (.slice YOp)) i.1::jn 1 (.b (false)::.n (i.2.1)::jn 36 ([])),[]⟩)<|x1 (.exit 2) fun i p=>⟨AV.pv (.slice (.slice YOp)) i.1::jn 2 (.n (i.2.1)::jn 36 ([])),[]⟩
def zw:=((.i (.i (.v .n))):Pk lh.ty _ _)
abbrev zz:=List (List A6)×Unit
abbrev zr:=Int×Unit
abbrev zu:=Unit ⊕ Unit ⊕ Unit
def Fm (i:zz)(v:zr)(R:Type)(K:zr ⊕ zu->Option R):Option R:=bif decide (v.1<(i.1.length:Int))then(lAt i.1 v.1).bind fun a=>(JZ (a,())).bind fun b=>bif !b.1 then K (.inr (.inl ()))else(AC (fun c=>Ia (i.1,v.1,()) c _ some) (0,())).bind fun p=>Az p (fun p=>K (.inr (.inr (.inl ())))) fun p=>K (.inl (IntKind.i64.wrap (v.1+1),()))else K (.inr (.inr (.inr ())))
theorem RY:Bg Fm:=fun i v R K=>Ae (Ac fun _=>Ac fun _=>Ae (Aa) (Ac fun _=>cQ (fun _=>Aa) (fun _=>Aa))) (Aa)
def li:Tmpl:=⟨(.slot (.slice (.slice YOp)) (jk 2 (.slot .i (jk 36 .nil)))),.nil⟩
def zp:Exs zz zu:=xs .ret (fun i p=>⟨AV.pv (.slice (.slice YOp)) i.1::jn 1 (.b (false)::jn 37 ([])),[]⟩)<|xs .ret (fun i p=>⟨AV.pv (.slice (.slice YOp)) i.1::jn 1 (.b (false)::jn 37 ([])),[]⟩)<|x1 (.exit 0) fun i p=>⟨AV.pv (.slice (.slice YOp)) i.1::jn 39 ([]),[]⟩
def zx:=((.i (.v .n)):Pk li.ty _ _)
def wF:Cfg:={ti:=Aw,ents:=[cf],ann:=[(7,Ao lh 0 (spP zw) Ia zo.E),(2,Ao li 0 (spP zx) Fm zp.E)],lent:=0}
def KB (x:List (List A6)×Unit):Option (Bool×Unit):=(AC (fun v=>Fm (x.1,()) v _ some) (0,())).bind fun p=>Az p (fun p=>some (false,())) fun p=>Az p (fun p=>some (false,())) fun p=>some (decide ((x.1.length:Int)<=6),())
def WB:Ent:=⟨80,⟨(.slot (.slice (.slice YOp)) .nil),.nil⟩,⟨(.slot .bool .nil),.nil⟩,KB⟩
theorem lj:CfgOK Go.Proofs.Tryz.prog wF:=hcB (all_cons rT all_nil)
theorem rb:B9 Go.Proofs.Tryz.prog wF (lpc Go.Proofs.Tryz.f80 1):=lkA lj lh zw Ia zo [0,2,3] RX
theorem A93:B9 Go.Proofs.Tryz.prog wF (lpc Go.Proofs.Tryz.f80 0):=lkB lj li zx Fm zp [0,2] RY rb
theorem qH:Ai Go.Proofs.Tryz.prog WB:=okC lj Go.Proofs.Tryz.func80 A93 rb
abbrev zm:=List A6×List A6×Int×Unit
abbrev zj:=Int×Unit
abbrev zk:=A6 ⊕ A6 ⊕ A6 ⊕ A6 ⊕ A6 ⊕ A6 ⊕ A6 ⊕ A6 ⊕ Unit
def GS (i:zm)(v:zj)(R:Type)(K:zj ⊕ zk->Option R):Option R:=bif decide (v.1<i.2.2.1)then(lAt i.2.1 v.1).bind fun a=>bif a.1==5 then(Fb ((a.1,a.2.1,a.2.2.1,a.2.2.2.1,a.2.2.2.2.1,a.2.2.2.2.2.1,()),())).bind fun b=>bif !b.1 then K (.inr (.inl (a.1,a.2.1,a.2.2.1,a.2.2.2.1,a.2.2.2.2.1,a.2.2.2.2.2.1,())))else(lAt i.1 0).bind fun c=>bif a.2.1 != c.2.1 then K (.inr (.inr (.inl (a.1,a.2.1,a.2.2.1,a.2.2.2.1,a.2.2.2.2.1,a.2.2.2.2.2.1,()))))else bif !(a.1==1)==(v.1==0)then K (.inr (.inr (.inr (.inl (a.1,a.2.1,a.2.2.1,a.2.2.2.1,a.2.2.2.2.1,a.2.2.2.2.2.1,())))))else bif !true==(v.1==IntKind.i64.wrap ((i.1.length:Int)-1))then K (.inr (.inr (.inr (.inr (.inl (a.1,a.2.1,a.2.2.1,a.2.2.2.1,a.2.2.2.2.1,a.2.2.2.2.2.1,()))))))else K (.inl (IntKind.i64.wrap (v.1+1),()))else(Fb ((a.1,a.2.1,a.2.2.1,a.2.2.2.1,a.2.2.2.2.1,a.2.2.2.2.2.1,()),())).bind fun b=>bif !b.1 then K (.inr (.inr (.inr (.inr (.inr (.inl (a.1,a.2.1,a.2.2.1,a.2.2.2.1,a.2.2.2.2.1,a.2.2.2.2.2.1,())))))))else(lAt i.1 0).bind fun c=>bif a.2.1 != c.2.1 then K (.inr (.inr (.inr (.inr (.inr (.inr (.inl (a.1,a.2.1,a.2.2.1,a.2.2.2.1,a.2.2.2.2.1,a.2.2.2.2.2.1,()))))))))else bif !(a.1==1)==(v.1==0)then K (.inr (.inr (.inr (.inr (.inr (.inr (.inr (.inl (a.1,a.2.1,a.2.2.1,a.2.2.2.1,a.2.2.2.2.1,a.2.2.2.2.2.1,())))))))))else bif !(a.1==6)==(v.1==IntKind.i64.wrap ((i.1.length:Int)-1))then K (.inr (.inr (.inr (.inr (.inr (.inr (.inr (.inr (.inl (a.1,a.2.1,a.2.2.1,a.2.2.2.1,a.2.2.2.2.1,a.2.2.2.2.2.1,()))))))))))else K (.inl (IntKind.i64.wrap (v.1+1),()))else K (.inr (.inr (.inr (.inr (.inr (.inr (.inr (.inr (.inr ())))))))))
theorem Q1:Bg GS:=fun i v R K=>Ae (Ac fun _=>Ae (Ac fun _=>Ae (Aa) (Ac fun _=>Ae (Aa) (Ae (Aa) (Ae (Aa) (Aa))))) (Ac fun _=>Ae (Aa) (Ac fun _=>Ae (Aa) (Ae (Aa) (Ae (Aa) (Aa)))))) (Aa)
def lg:Tmpl:=⟨(.slot (.slice YOp) (jk 9 (.slot (.slice YOp) (si 2 (jk 42 .nil))))),.nil⟩
def zi:Exs zm zk:=xs .ret (fun i p=>⟨jn 2 (.b (false)::jn 52 ([])),[some (Cont.cells 6 [[AV.pv .i p.1,AV.pv .i p.2.1,AV.pv .i p.2.2.1,AV.pv .i p.2.2.2.1,AV.pv .i p.2.2.2.2.1,AV.pv .i p.2.2.2.2.2.1]])]⟩)<|xs .ret (fun i p=>⟨jn 2 (.b (false)::jn 52 ([])),[some (Cont.cells 6 [[AV.pv .i p.1,AV.pv .i p.2.1,AV.pv .i p.2.2.1,AV.pv .i p.2.2.2.1,AV.pv .i p.2.2.2.2.1,AV.pv .i p.2.2.2.2.2.1]])]⟩)<|xs .ret (fun i p=>⟨jn 2 (.b (false)::jn 52 ([])),[some (Cont.cells 6 [[AV.pv .i p.1,AV.pv .i p.2.1,AV.pv .i p.2.2.1,AV.pv .i p.2.2.2.1,AV.pv .i p.2.2.2.2.1,AV.pv .i p.2.2.2.2.2.1]])]⟩)<|xs .ret (fun i p=>⟨jn 2 (.b (false)::jn 52 ([])),[some (Cont.cells 6 [[AV.pv .i p.1,AV.pv .i p.2.1,AV.pv .i p.2.2.1,AV.pv .i p.2.2.2.1,AV.pv .i p.2.2.2.2.1,AV.pv .i p.2.2.2.2.2.1]])]⟩)<|xs .ret (fun i p=>⟨jn 2 (.b (false)::jn 52 ([])),[some (Cont.cells 6 [[AV.pv .i p.1,AV.pv .i p.2.1,AV.pv .i p.2.2.1,AV.pv .i p.2.2.2.1,AV.pv .i p.2.2.2.2.1,AV.pv .i p.2.2.2.2.2.1]])]⟩)<|xs .ret (fun i p=>⟨jn 2 (.b (false)::jn 52 ([])),[some (Cont.cells 6 [[AV.pv .i p.1,AV.pv .i p.2.1,AV.pv .i p.2.2.1,AV.pv .i p.2.2.2.1,AV.pv .i p.2.2.2.2.1,AV.pv .i p.2.2.2.2.2.1]])]⟩)<|xs .ret (fun i p=>⟨jn 2 (.b (false)::jn 52 ([])),[some (Cont.cells 6 [[AV.pv .i p.1,AV.pv .i p.2.1,AV.pv .i p.2.2.1,AV.pv .i p.2.2.2.1,AV.pv .i p.2.2.2.2.1,AV.pv .i p.2.2.2.2.2.1]])]⟩)<|xs .ret (fun i p=>⟨jn 2 (.b (false)::jn 52 ([])),[some (Cont.cells 6 [[AV.pv .i p.1,AV.pv .i p.2.1,AV.pv .i p.2.2.1,AV.pv .i p.2.2.2.1,AV.pv .i p.2.2.2.2.1,AV.pv .i p.2.2.2.2.2.1]])]⟩)<|x1 (.exit 0) fun i p=>⟨jn 55 ([]),[]⟩
def zl:=((.i (.i (.i (.v .n)))):Pk lg.ty _ _)
def A8x:Cfg:={ti:=Aw,ents:=[XB,Y0],ann:=[(4,Ao lg 0 (spP zl) GS zi.E)],lent:=0}
def J5 (x:List A6×Unit):Option (Bool×Unit):=(BL ((x.1.length:Int),2,12,())).bind fun v=>bif !v.1 then some (false,())else(AC (fun v=>GS (x.1,x.1,(x.1.length:Int),()) v _ some) (0,())).bind fun p=>Az p (fun p=>some (false,())) fun p=>Az p (fun p=>some (false,())) fun p=>Az p (fun p=>some (false,())) fun p=>Az p (fun p=>some (false,())) fun p=>Az p (fun p=>some (false,())) fun p=>Az p (fun p=>some (false,())) fun p=>Az p (fun p=>some (false,())) fun p=>Az p (fun p=>some (false,())) fun p=>some (true,())
def Yb:Ent:=⟨90,⟨(.slot (.slice YOp) .nil),.nil⟩,⟨(.slot .bool .nil),.nil⟩,J5⟩
theorem zn:CfgOK Go.Proofs.Tryz.prog A8x:=hcB (all_cons OW (all_cons ud all_nil))
theorem A8w:B9 Go.Proofs.Tryz.prog A8x (lpc Go.Proofs.Tryz.f90 0):=lkA zn lg zl GS zi [2] Q1
theorem rS:Ai Go.Proofs.Tryz.prog Yb:=okB zn Go.Proofs.Tryz.func90 A8w
section
open Go.RowKit Go.Proofs Go.Maps Go.WideShapes
set_option maxHeartbeats 4000000 in
set_option maxRecDepth 100000 in
theorem A3c {S:List (den YOp)×Unit->Option (Bool×Unit)}(hg:Ai Go.Proofs.Tryz.prog ⟨90,⟨.slot (.slice YOp) .nil,.nil⟩,⟨.slot .bool .nil,.nil⟩,S⟩){I:Nat->Prop}{w:World}(hI:∀b,I b->b<w.heap.size){x:List (List (den YOp))}(hx:x.length<4611686018427387904){v:Value}(hr:AR I w (.slice (.slice YOp)) x [v]){r:Bool}(hS:gO S [] x=some r):
 Calls Go.Proofs.Tryz.prog 85 #[v] w fun e w'=>e=.returned (.bool (r&&decide ((x.length:Int)<=6)))/\Grow w w':=by
 have hr0:=hr
 simp only[AR]at hr
 obtain⟨A,c,hv,hlc,-⟩:=hr
 obtain rfl:v=.slice A x.length c:=by simpa using hv
 have hels:∀i (hi:i<x.length),∃b o,A=some ⟨b,o,none⟩/\b<w.heap.size/\∃u,AR I w (.slice YOp) x[i] [u]/\Gu w b (o+i) [u]:=by
  intro i hi
  have h2:=hr0
  rw[AR]at h2
  obtain⟨A',c',e1,e2,h3⟩:=h2
  obtain⟨b,o,e3,e4,h5⟩:=h3 (by omega)
  obtain⟨cs,e5,e6,e7⟩:=h5 i hi
  have e8:cs.length=1:=e5
  obtain⟨u,rfl⟩:=List.length_eq_one_iff.1 e8
  refine⟨b,o,?_,hI b e4,u,e6,by simpa[Ty.size]using e7⟩
  have:A=A'/\c=c':=by simpa using e1
  rw[this.1];exact e3
 clear hr0 hv
 have law3:Keyed Go.Proofs.Tryz.prog 3:=int_keyed Go.Proofs.Tryz.underlying3
 have hmm:=@run_makeMap Go.Proofs.Tryz.prog
 have u194:Go.Proofs.Tryz.prog.underlying 194=some (.map 3 4):=Go.Proofs.Tryz.underlying194
 have hz4:∀w,(zeroValue 4).run Go.Proofs.Tryz.prog w=.ok (.bool false) w:=Go.Proofs.Tryz.zeroValue4
 obtain⟨⟨gfn,hgf,hgn,hgb⟩,hgspec⟩:=id hg
 have eg:∀args w,(callFunc 90 args).run Go.Proofs.Tryz.prog w=.ok (.enter 90 args) w:=by
  cases hb:gfn.body with
  |none=>rw[hb]at hgb;cases hgb
  |some c=>exact enters_of hgf hgn hb
 clear hgspec hgf hgn hgb
 go_enter Go.Proofs.Tryz.func85,Go.Proofs.Tryz.ntmps85
 go_wp2
 go_loopw [9] (fun i wr=>∃k:Nat,k<=x.length/\i=.int .i64 k/\∃(known:List Int) (D:DataW Unit),gO S known (x.drop k)=some r/\Vx known D/\wr.ownsMap Go.Proofs.Tryz.prog 3 (plainElem Go.Proofs.Tryz.prog 4) w.heap.size k D/\Grow w wr)
  (fun i _=>x.length-(RowKit.intOf i).toNat)
 case atStart=>exact⟨0,Nat.zero_le _,rfl,[],.map [],hS,jZ,World.ownsMap_made _ _ _ _,⟨rfl,rfl,⟨rfl,Nat.le_refl _⟩,by show _<=(w.heap.push _).size;simp,fun b hb=>Below.heap_alloc w _ b hb⟩⟩
 case round=>
  obtain⟨k,hk,rfl,known,D,hG,hD,hown,hgr⟩:=hrel
  by_cases hlt:k<x.length
  ·rw[List.drop_eq_getElem_cons hlt]at hG
   obtain⟨b0,o0,rfl,hb0,u,hu,hcu⟩:=hels k hlt
   unfold gO at hG
   obtain⟨⟨bb,_⟩,hSb,hG⟩:=Option.bind_eq_some_iff.1 hG
   have hstab:Sw I w I wr:=fun b hb=>⟨hb,hgr.blk b (hI b hb)⟩
   have hcell:wr.cell? ⟨b0,o0+k,none⟩=some u:=by simpa using k9 hgr hb0 hcu 0 (by simp)
   have hcall:=jX (w:=wr) hg (fun b hb=>Nat.lt_of_lt_of_le (hI b hb) hgr.size) (hu.mono hstab) hSb
   cases bb with
   |false=>
    simp only[Bool.not_false,cond_true,Option.some.injEq]at hG
    subst hG
    go_wp2_with (go_at_call 90;refine hcall.mono ?_;rintro e w1 ⟨rfl,hg1⟩)
    go_ret
    exact⟨rfl,hgr.trans hg1⟩
   |true=>
    simp only[Bool.not_true,cond_false]at hG
    obtain⟨l,hl⟩:∃l,l=x[k]:=⟨_,rfl⟩
    rw[<-hl]at hu hG
    cases l with
    |nil=>cases hG
    |cons op l=>
     simp only at hG
     have hu':=hu
     rw[AR]at hu'
     obtain⟨A1,c1,e1,e2,h3⟩:=hu'
     obtain rfl:u=.slice A1 (op::l).length c1:=by simpa using e1
     obtain⟨b1,o1,rfl,hb1,h5⟩:=h3 (by simp)
     obtain⟨cs,e5,e6,e7⟩:=h5 0 (by simp)
     have e8:=VA YOp rfl e6
     simp only[List.getElem_cons_zero]at e8
     subst e8
     simp only[Nat.zero_mul,Nat.add_zero]at e7
     have hidw:w.cell? ⟨b1,o1+1,none⟩=some (.int .i64 op.2.1):=e7 1 (by rw[e5];decide)
     have hb1w:=hI b1 hb1
     have hlen:0<(op::l).length:=by simp
     obtain⟨m,hm⟩:∃m,m=(op::l).length:=⟨_,rfl⟩
     rw[<-hm]at hcell hlen hu hcall
     obtain⟨id,hid⟩:∃id,id=op.2.1:=⟨_,rfl⟩
     rw[<-hid]at hidw hG
     have hidc:∀W,Grow w W->W.cell? ⟨b1,o1+1,none⟩=some (.int .i64 id):=fun W G=>by
      rw[<-hidw];simp only[World.cell?];rw[G.blk b1 hb1w]
     split at hG
     case isFalse=>cases hG
     rename_i hwf
     have hkey:keyOf Go.Proofs.Tryz.prog 3 (.int .i64 id)=some (.int .i64 id):=keyOf_int_mk Go.Proofs.Tryz.underlying3 (WalkArith.wf_i64 (by omega))
     have hlook:∀W,Grow wr W->(Instr.lookup 194 (.map (some w.heap.size)) (.int .i64 id) false).run Go.Proofs.Tryz.prog W=.ok (.bool (known.contains id)) W:=fun W G=>by
      obtain⟨v,ps,hrun,hv⟩:=(ZM hown G).lookup law3 u194 (hz4 W) (plainElem_bool Go.Proofs.Tryz.underlying4 false) hkey
      obtain⟨b',rfl,hb'⟩:=Qz Go.Proofs.Tryz.underlying4 hv
      rw[hD.2]at hb'
      simp only[Prod.mk.injEq,DataW.lit.injEq,Lit.bool.injEq]at hb'
      rw[hb'.1];exact hrun
     clear hels hl hu e1 e2 h3 h5 e5 e6 e7 hmm hSb hid hm hidw
     cases hc:known.contains id with
     |true=>
      rw[hc]at hG hlook
      simp only[cond_true,Option.some.injEq]at hG
      subst hG
      go_wp2_with (go_at_call 90;refine hcall.mono ?_;rintro e w1 ⟨rfl,hg1⟩;have hlk:=hlook w1 hg1;have hic:=hidc w1 (hgr.trans hg1))
      go_ret
      exact⟨rfl,hgr.trans hg1⟩
     |false=>
      rw[hc]at hG hlook
      simp only[cond_false]at hG
      go_wp2_with (first
       |(go_at_call 90;refine hcall.mono ?_;rintro e w1 ⟨rfl,hg1⟩;have hlk:=hlook w1 hg1;have hic:=hidc w1 (hgr.trans hg1);have hown1:=ZM hown hg1)
       |(at_mapUpdate;go_loud (refine wpList_mapUpdate_in _ rfl _ _ _ 194 rfl 3 4 law3 u194 _ w.heap.size k _ rfl hown1 (by unfold maxLen;omega) _ _ _ rfl rfl hkey _ [] (plainElem_bool Go.Proofs.Tryz.underlying4 true) ?_);intro w2 hown2 hturn2))
      ·go_roundw
       case rel=>
        have h01:=hgr.trans hg1
        have ht:Grow w w2:=by
         obtain⟨es,clock,es',clock',q1,rfl⟩:=hturn2
         refine⟨h01.os,h01.tape,h01.output,Nat.le_trans h01.size (by simp[Go.ChangeMaps.setBlock]),fun b hb=>?_⟩
         rw[Go.ChangeMaps.heap_setBlock_other q1 _ (by omega)]
         exact h01.blk b hb
        exact⟨k+1,by omega,by go_num,id::known,_,hG,jY hD id,hown2,ht⟩
       case measure=>simp[RowKit.intOf];omega
  ·have hkx:k=x.length:=by omega
   subst hkx
   rw[List.drop_length]at hG
   obtain rfl:true=r:=by simpa[gO]using hG
   go_wp2
   go_ret
   exact⟨rfl,hgr⟩
theorem A8u {S:List (den YOp)×Unit->Option (Bool×Unit)}(hg:Ai Go.Proofs.Tryz.prog ⟨90,⟨.slot (.slice YOp) .nil,.nil⟩,⟨.slot .bool .nil,.nil⟩,S⟩):
 Ai Go.Proofs.Tryz.prog ⟨85,⟨.slot (.slice (.slice YOp)) .nil,.nil⟩,⟨.slot .bool .nil,.nil⟩,A3k S⟩:=by
 refine⟨⟨_,Go.Proofs.Tryz.func85,by kernel_rfl,by kernel_rfl⟩,fun x y hy E w vs hH hA=>?_⟩
 obtain⟨xs,u⟩:=x
 change List (List (den YOp))at xs
 change A3k S (xs,u)=some y at hy
 unfold A3k at hy
 split at hy
 case isFalse=>cases hy
 rename_i hx
 obtain⟨r,hr,hy⟩:=Option.map_eq_some_iff.1 hy
 subst hy
 change HeapOK E [] w at hH
 have hA':Ah E [] w [.pv (.slice (.slice YOp)) xs] vs:=hA
 simp only[Ah,Ag]at hA'
 obtain⟨v,us,rfl,h1,rfl⟩:=hA'
 refine(show Calls Go.Proofs.Tryz.prog 85 #[v] w _ from(A3c hg hH.I_lt hx h1 hr).mono ?_)
 rintro e w' ⟨rfl,hgr⟩
 refine⟨[_],E,rfl,rp (O6 hH) hgr,?_⟩
 exact Ah.cons (show Ag E [] w' (.b _) _ from by simp only[Ag,AR]) Ah.nil
end
def Lu (x:List (List (Int×Int×Int×Int×Int×Int×Unit))×Unit):Option (Bool×Unit):=A3k J5 x
def A8v:Cfg:={ti:=Aw,ents:=[Yb],ann:=[],lent:=0}
def cd:Ent:=⟨85,⟨(.slot (Ty.slice (Ty.slice YOp)) .nil),.nil⟩,⟨(.slot (Ty.bool) .nil),.nil⟩,Lu⟩
theorem rR:Ai Go.Proofs.Tryz.prog cd:=A8u rS
abbrev cy:=List (List A6)×List (List A6)×Unit
abbrev cv:=Int×Unit
abbrev cw:=Unit ⊕ Unit
def KV (i:cy)(v:cv)(R:Type)(K:cv ⊕ cw->Option R):Option R:=bif decide (v.1<(i.1.length:Int))then(lAt i.1 v.1).bind fun a=>(lAt i.2.1 v.1).bind fun b=>(K2 (a,b,())).bind fun c=>bif !c.1 then K (.inr (.inl ()))else K (.inl (IntKind.i64.wrap (v.1+1),()))else K (.inr (.inr ()))
theorem Xl:Bg KV:=fun i v R K=>Ae (Ac fun _=>Ac fun _=>Ac fun _=>Ae (Aa) (Aa)) (Aa)
def W5:Tmpl:=⟨(.slot (.slice (.slice YOp)) (.slot (.slice (.slice YOp)) (jk 3 (.slot .i (jk 21 .nil))))),.nil⟩
def cu:Exs cy cw:=xs .ret (fun i p=>⟨jn 4 (.b (false)::jn 22 ([])),[]⟩)<|x1 (.exit 0) fun i p=>⟨jn 27 ([]),[]⟩
def cx:=((.i (.i (.v .n))):Pk W5.ty _ _)
def le:Cfg:={ti:=Aw,ents:=[VO],ann:=[(4,Ao W5 0 (spP cx) KV cu.E)],lent:=0}
def Pp (x:List (List A6)×List (List A6)×Unit):Option (Bool×Unit):=bif (x.1.length:Int) != (x.2.1.length:Int)then some (false,())else(AC (fun v=>KV (x.1,x.2.1,()) v _ some) (0,())).bind fun p=>Az p (fun p=>some (false,())) fun p=>some (true,())
def lc:Ent:=⟨25,⟨(.slot (.slice (.slice YOp)) (.slot (.slice (.slice YOp)) .nil)),.nil⟩,⟨(.slot .bool .nil),.nil⟩,Pp⟩
theorem cA:CfgOK Go.Proofs.Tryz.prog le:=hcB (all_cons iG all_nil)
theorem la:B9 Go.Proofs.Tryz.prog le (lpc Go.Proofs.Tryz.f25 0):=lkA cA W5 cx KV cu [4] Xl
theorem rQ:Ai Go.Proofs.Tryz.prog lc:=okB cA Go.Proofs.Tryz.func25 la
abbrev zg:=Nat×Unit
abbrev zd:=Int×Int×List (List A6)×Unit
abbrev ze:=Int×List (List A6)×Unit
def J8 (i:zg)(v:zd)(R:Type)(K:zd ⊕ ze->Option R):Option R:=v.2.2.1[i.1]?.bind fun a=>bif decide (v.2.1<(a.length:Int))then v.2.2.1[i.1]?.bind fun b=>if 0<=v.2.1/\v.2.1<(b.length:Int)then v.2.2.1[i.1]?.bind fun c=>c[0+v.2.1.toNat]?.bind fun d=>(v.2.2.1.set i.1 (c.set (0+v.2.1.toNat) (v.1,d.2.1,d.2.2.1,d.2.2.2.1,d.2.2.2.2.1,d.2.2.2.2.2.1,())))[i.1]?.bind fun e=>if 0<=v.2.1/\v.2.1<(e.length:Int)then(v.2.2.1.set i.1 (c.set (0+v.2.1.toNat) (v.1,d.2.1,d.2.2.1,d.2.2.2.1,d.2.2.2.2.1,d.2.2.2.2.2.1,())))[i.1]?.bind fun f=>f[0+v.2.1.toNat]?.bind fun g=>((v.2.2.1.set i.1 (c.set (0+v.2.1.toNat) (v.1,d.2.1,d.2.2.1,d.2.2.2.1,d.2.2.2.2.1,d.2.2.2.2.2.1,()))).set i.1 (f.set (0+v.2.1.toNat) (g.1,IntKind.i64.wrap (v.1+1),g.2.2.1,g.2.2.2.1,g.2.2.2.2.1,g.2.2.2.2.2.1,())))[i.1]?.bind fun h=>if 0<=v.2.1/\v.2.1<(h.length:Int)then((v.2.2.1.set i.1 (c.set (0+v.2.1.toNat) (v.1,d.2.1,d.2.2.1,d.2.2.2.1,d.2.2.2.2.1,d.2.2.2.2.2.1,()))).set i.1 (f.set (0+v.2.1.toNat) (g.1,IntKind.i64.wrap (v.1+1),g.2.2.1,g.2.2.2.1,g.2.2.2.2.1,g.2.2.2.2.2.1,())))[i.1]?.bind fun j=>j[0+v.2.1.toNat]?.bind fun k=>(((v.2.2.1.set i.1 (c.set (0+v.2.1.toNat) (v.1,d.2.1,d.2.2.1,d.2.2.2.1,d.2.2.2.2.1,d.2.2.2.2.2.1,()))).set i.1 (f.set (0+v.2.1.toNat) (g.1,IntKind.i64.wrap (v.1+1),g.2.2.1,g.2.2.2.1,g.2.2.2.2.1,g.2.2.2.2.2.1,()))).set i.1 (j.set (0+v.2.1.toNat) (k.1,k.2.1,IntKind.i64.wrap (IntKind.i64.wrap (v.1+1)+1),k.2.2.2.1,k.2.2.2.2.1,k.2.2.2.2.2.1,())))[i.1]?.bind fun l=>if 0<=v.2.1/\v.2.1<(l.length:Int)then(((v.2.2.1.set i.1 (c.set (0+v.2.1.toNat) (v.1,d.2.1,d.2.2.1,d.2.2.2.1,d.2.2.2.2.1,d.2.2.2.2.2.1,()))).set i.1 (f.set (0+v.2.1.toNat) (g.1,IntKind.i64.wrap (v.1+1),g.2.2.1,g.2.2.2.1,g.2.2.2.2.1,g.2.2.2.2.2.1,()))).set i.1 (j.set (0+v.2.1.toNat) (k.1,k.2.1,IntKind.i64.wrap (IntKind.i64.wrap (v.1+1)+1),k.2.2.2.1,k.2.2.2.2.1,k.2.2.2.2.2.1,())))[i.1]?.bind fun m=>m[0+v.2.1.toNat]?.bind fun n=>((((v.2.2.1.set i.1 (c.set (0+v.2.1.toNat) (v.1,d.2.1,d.2.2.1,d.2.2.2.1,d.2.2.2.2.1,d.2.2.2.2.2.1,()))).set i.1 (f.set (0+v.2.1.toNat) (g.1,IntKind.i64.wrap (v.1+1),g.2.2.1,g.2.2.2.1,g.2.2.2.2.1,g.2.2.2.2.2.1,()))).set i.1 (j.set (0+v.2.1.toNat) (k.1,k.2.1,IntKind.i64.wrap (IntKind.i64.wrap (v.1+1)+1),k.2.2.2.1,k.2.2.2.2.1,k.2.2.2.2.2.1,()))).set i.1 (m.set (0+v.2.1.toNat) (n.1,n.2.1,n.2.2.1,IntKind.i64.wrap (IntKind.i64.wrap (IntKind.i64.wrap (v.1+1)+1)+1),n.2.2.2.2.1,n.2.2.2.2.2.1,())))[i.1]?.bind fun o=>if 0<=v.2.1/\v.2.1<(o.length:Int)then((((v.2.2.1.set i.1 (c.set (0+v.2.1.toNat) (v.1,d.2.1,d.2.2.1,d.2.2.2.1,d.2.2.2.2.1,d.2.2.2.2.2.1,()))).set i.1 (f.set (0+v.2.1.toNat) (g.1,IntKind.i64.wrap (v.1+1),g.2.2.1,g.2.2.2.1,g.2.2.2.2.1,g.2.2.2.2.2.1,()))).set i.1 (j.set (0+v.2.1.toNat) (k.1,k.2.1,IntKind.i64.wrap (IntKind.i64.wrap (v.1+1)+1),k.2.2.2.1,k.2.2.2.2.1,k.2.2.2.2.2.1,()))).set i.1 (m.set (0+v.2.1.toNat) (n.1,n.2.1,n.2.2.1,IntKind.i64.wrap (IntKind.i64.wrap (IntKind.i64.wrap (v.1+1)+1)+1),n.2.2.2.2.1,n.2.2.2.2.2.1,())))[i.1]?.bind fun q=>q[0+v.2.1.toNat]?.bind fun r=>(((((v.2.2.1.set i.1 (c.set (0+v.2.1.toNat) (v.1,d.2.1,d.2.2.1,d.2.2.2.1,d.2.2.2.2.1,d.2.2.2.2.2.1,()))).set i.1 (f.set (0+v.2.1.toNat) (g.1,IntKind.i64.wrap (v.1+1),g.2.2.1,g.2.2.2.1,g.2.2.2.2.1,g.2.2.2.2.2.1,()))).set i.1 (j.set (0+v.2.1.toNat) (k.1,k.2.1,IntKind.i64.wrap (IntKind.i64.wrap (v.1+1)+1),k.2.2.2.1,k.2.2.2.2.1,k.2.2.2.2.2.1,()))).set i.1 (m.set (0+v.2.1.toNat) (n.1,n.2.1,n.2.2.1,IntKind.i64.wrap (IntKind.i64.wrap (IntKind.i64.wrap (v.1+1)+1)+1),n.2.2.2.2.1,n.2.2.2.2.2.1,()))).set i.1 (q.set (0+v.2.1.toNat) (r.1,r.2.1,r.2.2.1,r.2.2.2.1,IntKind.i64.wrap (IntKind.i64.wrap (IntKind.i64.wrap (IntKind.i64.wrap (v.1+1)+1)+1)+1),r.2.2.2.2.2.1,())))[i.1]?.bind fun s=>if 0<=v.2.1/\v.2.1<(s.length:Int)then(((((v.2.2.1.set i.1 (c.set (0+v.2.1.toNat) (v.1,d.2.1,d.2.2.1,d.2.2.2.1,d.2.2.2.2.1,d.2.2.2.2.2.1,()))).set i.1 (f.set (0+v.2.1.toNat) (g.1,IntKind.i64.wrap (v.1+1),g.2.2.1,g.2.2.2.1,g.2.2.2.2.1,g.2.2.2.2.2.1,()))).set i.1 (j.set (0+v.2.1.toNat) (k.1,k.2.1,IntKind.i64.wrap (IntKind.i64.wrap (v.1+1)+1),k.2.2.2.1,k.2.2.2.2.1,k.2.2.2.2.2.1,()))).set i.1 (m.set (0+v.2.1.toNat) (n.1,n.2.1,n.2.2.1,IntKind.i64.wrap (IntKind.i64.wrap (IntKind.i64.wrap (v.1+1)+1)+1),n.2.2.2.2.1,n.2.2.2.2.2.1,()))).set i.1 (q.set (0+v.2.1.toNat) (r.1,r.2.1,r.2.2.1,r.2.2.2.1,IntKind.i64.wrap (IntKind.i64.wrap (IntKind.i64.wrap (IntKind.i64.wrap (v.1+1)+1)+1)+1),r.2.2.2.2.2.1,())))[i.1]?.bind fun t=>t[0+v.2.1.toNat]?.bind fun u=>K (.inl (IntKind.i64.wrap (IntKind.i64.wrap (IntKind.i64.wrap (IntKind.i64.wrap (IntKind.i64.wrap (IntKind.i64.wrap (v.1+1)+1)+1)+1)+1)+1),IntKind.i64.wrap (v.2.1+1),(((((v.2.2.1.set i.1 (c.set (0+v.2.1.toNat) (v.1,d.2.1,d.2.2.1,d.2.2.2.1,d.2.2.2.2.1,d.2.2.2.2.2.1,()))).set i.1 (f.set (0+v.2.1.toNat) (g.1,IntKind.i64.wrap (v.1+1),g.2.2.1,g.2.2.2.1,g.2.2.2.2.1,g.2.2.2.2.2.1,()))).set i.1 (j.set (0+v.2.1.toNat) (k.1,k.2.1,IntKind.i64.wrap (IntKind.i64.wrap (v.1+1)+1),k.2.2.2.1,k.2.2.2.2.1,k.2.2.2.2.2.1,()))).set i.1 (m.set (0+v.2.1.toNat) (n.1,n.2.1,n.2.2.1,IntKind.i64.wrap (IntKind.i64.wrap (IntKind.i64.wrap (v.1+1)+1)+1),n.2.2.2.2.1,n.2.2.2.2.2.1,()))).set i.1 (q.set (0+v.2.1.toNat) (r.1,r.2.1,r.2.2.1,r.2.2.2.1,IntKind.i64.wrap (IntKind.i64.wrap (IntKind.i64.wrap (IntKind.i64.wrap (v.1+1)+1)+1)+1),r.2.2.2.2.2.1,()))).set i.1 (t.set (0+v.2.1.toNat) (u.1,u.2.1,u.2.2.1,u.2.2.2.1,u.2.2.2.2.1,IntKind.i64.wrap (IntKind.i64.wrap (IntKind.i64.wrap (IntKind.i64.wrap (IntKind.i64.wrap (v.1+1)+1)+1)+1)+1),())),()))else none else none else none else none else none else none else K (.inr (v.1,v.2.2.1,()))
theorem TF:Bg J8:=fun i v R K=>Ac fun _=>Ae (Ac fun _=>Aq (Ac fun _=>Ac fun _=>Ac fun _=>Aq (Ac fun _=>Ac fun _=>Ac fun _=>Aq (Ac fun _=>Ac fun _=>Ac fun _=>Aq (Ac fun _=>Ac fun _=>Ac fun _=>Aq (Ac fun _=>Ac fun _=>Ac fun _=>Aq (Ac fun _=>Ac fun _=>Aa))))))) (Aa)
def l9:Tmpl:=⟨(.nown 0 0 (.slot .i (jk 3 (.slot .i (jk 49 .nil))))),(.tree false 0 (.slice YOp) .nil)⟩
def zc:Exs zg ze:=x1 (.exit 0) fun i p=>⟨jn 1 (.n (p.1)::jn 53 ([])),[some (Cont.tree false 0 (.slice YOp) p.2.1 none)]⟩
def zf:=((.i (.v (.v (.v .n)))):Pk l9.ty _ _)
def A8s:Cfg:={ti:=Aw,ents:=[],ann:=[(2,Ao l9 1 (spP zf) J8 zc.E)],lent:=1}
def MY (x:Nat×Int×List (List A6)×Unit):Option (Int×List (List A6)×Unit):=(AC (fun v=>J8 (x.1,()) v _ some) (x.2.1,0,x.2.2.1,())).bind fun p=>some (p.1,p.2.1,())
def Ya:Ent:=⟨35,⟨(.nown 0 0 (.slot .i .nil)),(.tree false 0 (.slice YOp) .nil)⟩,⟨(.slot .i .nil),(.tree false 0 (.slice YOp) .nil)⟩,MY⟩
theorem zh:CfgOK Go.Proofs.Tryz.prog A8s:=hcB all_nil
theorem A8r:B9 Go.Proofs.Tryz.prog A8s (lpc Go.Proofs.Tryz.f35 0):=lkA zh l9 zf J8 zc [1] TF
theorem rP:Ai Go.Proofs.Tryz.prog Ya:=okB zh Go.Proofs.Tryz.func35 A8r
abbrev zb:=Unit
abbrev z7:=Int×Int×List (List A6)×Unit
abbrev z8:=Int×List (List A6)×Unit
def GA (i:zb)(v:z7)(R:Type)(K:z7 ⊕ z8->Option R):Option R:=bif decide (v.2.1<(v.2.2.1.length:Int))then if 0<=v.2.1/\v.2.1<(v.2.2.1.length:Int)then v.2.2.1[0+v.2.1.toNat]?.bind fun a=>(MY (0+v.2.1.toNat,v.1,v.2.2.1,())).bind fun b=>K (.inl (b.1,IntKind.i64.wrap (v.2.1+1),b.2.1,()))else none else K (.inr (v.1,v.2.2.1,()))
theorem Th:Bg GA:=fun i v R K=>Ae (Aq (Ac fun _=>Ac fun _=>Aa)) (Aa)
def l6:Tmpl:=⟨(.own 0 (.slot .i (jk 3 (.slot .i (jk 13 .nil))))),(.tree false 0 (.slice YOp) .nil)⟩
def z6:Exs zb z8:=x1 (.exit 0) fun i p=>⟨jn 1 (.n (p.1)::jn 17 ([])),[some (Cont.tree false 0 (.slice YOp) p.2.1 none)]⟩
def za:=((.v (.v (.v .n))):Pk l6.ty _ _)
def l8:Cfg:={ti:=Aw,ents:=[Ya],ann:=[(2,Ao l6 1 (spP za) GA z6.E)],lent:=1}
def M6 (x:Int×List (List A6)×Unit):Option (Int×List (List A6)×Unit):=(AC (fun v=>GA () v _ some) (x.1,0,x.2.1,())).bind fun p=>some (p.1,p.2.1,())
def l7:Ent:=⟨26,⟨(.own 0 (.slot .i .nil)),(.tree false 0 (.slice YOp) .nil)⟩,⟨(.slot .i .nil),(.tree false 0 (.slice YOp) .nil)⟩,M6⟩
theorem ct:CfgOK Go.Proofs.Tryz.prog l8:=hcB (all_cons rP all_nil)
theorem A8q:B9 Go.Proofs.Tryz.prog l8 (lpc Go.Proofs.Tryz.f26 0):=lkA ct l6 za GA z6 [1] Th
theorem rO:Ai Go.Proofs.Tryz.prog l7:=okB ct Go.Proofs.Tryz.func26 A8q
abbrev AEz:=List (List A6)×Int×Bool×Int×Unit
abbrev AEt:=Int×Bool×Int×A7
abbrev AEv:=Bool×Int×A7
def Rf (i:AEz)(v:AEt)(R:Type)(K:AEt ⊕ AEv->Option R):Option R:=(lAt i.1 i.2.1).bind fun a=>bif decide (v.1<(a.length:Int))then(lAt i.1 i.2.1).bind fun b=>(lAt b v.1).bind fun c=>(FP ((v.2.1,(v.2.2.2.1,()),v.2.2.2.2.1,v.2.2.2.2.2.1,v.2.2.2.2.2.2.1,v.2.2.1,()),(c.1,c.2.1,c.2.2.1,c.2.2.2.1,c.2.2.2.2.1,c.2.2.2.2.2.1,()),())).bind fun d=>K (.inl (IntKind.i64.wrap (v.1+1),d.1,d.2.1,d.2.2.2.1,d.2.2.2.2.1,d.2.2.2.2.2.1,d.2.2.2.2.2.2.1,()))else K (.inr (v.2.1,v.2.2.1,v.2.2.2.1,v.2.2.2.2.1,v.2.2.2.2.2.1,v.2.2.2.2.2.2.1,()))
theorem A35:Bg Rf:=fun i v R K=>Ac fun _=>Ae (Ac fun _=>Ac fun _=>Ac fun _=>Aa) (Aa)
def Azm:Tmpl:=⟨(.slot (.slice (.slice YOp)) (.junk (.ptr 0 0 0 (.ptr 1 0 0 (si 2 (jk 36 .nil)))))),(.cells 6 (.slot .bool (.const (AV.nils) (.const (AV.nils) (.const (AV.nils) (.const (AV.nils) (.slot .i .nil)))))) (.cells 6 (.slot .bool (.own 2 (.own 3 (.own 4 (.own 5 (.slot .i .nil)))))) (.tree false 1 (.slice Af) (.lst false Ad (.lst false A0 (.lst false A0 .nil))))))⟩
def AEr:Exs AEz AEv:=x1 (.exit 2) fun i p=>⟨AV.pv (.slice (.slice YOp)) i.1::jn 1 (AV.ptr 0 none 0 0::AV.ptr 1 none 0 0::.n (i.2.1)::jn 37 ([])),[some (Cont.cells 6 [[AV.pv .bool i.2.2.1,AV.nils,AV.nils,AV.nils,AV.nils,AV.pv .i i.2.2.2.1]]),some (Cont.cells 6 [[AV.pv .bool p.1,AV.own 2 none none,AV.own 3 none none,AV.own 4 none none,AV.own 5 none none,AV.pv .i p.2.1]]),some (Cont.tree false 1 (.slice Af) p.2.2.1 none),some (Cont.lst false Ad p.2.2.2.1),some (Cont.lst false A0 p.2.2.2.2.1),some (Cont.lst false A0 p.2.2.2.2.2.1)]⟩
def AEx:=((.i (.i (.v (.i (.i (.v (.v (.v (.v (.v (.v .n))))))))))):Pk Azm.ty _ _)
abbrev AF0:=List (List A6)×Bool×Int×Unit
abbrev AEu:=Int×Bool×Int×A7
abbrev AEw:=Bool×Int×A7 ⊕ Bool×Int×A7
def PZ (i:AF0)(v:AEu)(R:Type)(K:AEu ⊕ AEw->Option R):Option R:=bif decide (v.1<(i.1.length:Int))then(KB (i.1,())).bind fun a=>bif a.1 then(AC (fun b=>Rf (i.1,v.1,i.2.1,i.2.2.1,()) b _ some) (0,v.2.1,v.2.2.1,v.2.2.2.1,v.2.2.2.2.1,v.2.2.2.2.2.1,v.2.2.2.2.2.2.1,())).bind fun p=>K (.inl (IntKind.i64.wrap (v.1+1),p.1,p.2.1,p.2.2.1,p.2.2.2.1,p.2.2.2.2.1,p.2.2.2.2.2.1,()))else K (.inr (.inl (v.2.1,v.2.2.1,v.2.2.2.1,v.2.2.2.2.1,v.2.2.2.2.2.1,v.2.2.2.2.2.2.1,())))else K (.inr (.inr (v.2.1,v.2.2.1,v.2.2.2.1,v.2.2.2.2.1,v.2.2.2.2.2.1,v.2.2.2.2.2.2.1,())))
theorem A36:Bg PZ:=fun i v R K=>Ae (Ac fun _=>Ae (Ac fun _=>Aa) (Aa)) (Aa)
def Azn:Tmpl:=⟨(.slot (.slice (.slice YOp)) (.junk (.ptr 0 0 0 (.ptr 1 0 0 (.slot .i (jk 37 .nil)))))),(.cells 6 (.slot .bool (.const (AV.nils) (.const (AV.nils) (.const (AV.nils) (.const (AV.nils) (.slot .i .nil)))))) (.cells 6 (.slot .bool (.own 2 (.own 3 (.own 4 (.own 5 (.slot .i .nil)))))) (.tree false 1 (.slice Af) (.lst false Ad (.lst false A0 (.lst false A0 .nil))))))⟩
def AEs:Exs AF0 AEw:=xs (.exit 0) (fun i p=>⟨jn 2 (AV.ptr 0 none 0 0::AV.ptr 1 none 0 0::jn 38 ([])),[some (Cont.cells 6 [[AV.pv .bool i.2.1,AV.nils,AV.nils,AV.nils,AV.nils,AV.pv .i i.2.2.1]]),some (Cont.cells 6 [[AV.pv .bool p.1,AV.own 2 none none,AV.own 3 none none,AV.own 4 none none,AV.own 5 none none,AV.pv .i p.2.1]]),some (Cont.tree false 1 (.slice Af) p.2.2.1 none),some (Cont.lst false Ad p.2.2.2.1),some (Cont.lst false A0 p.2.2.2.2.1),some (Cont.lst false A0 p.2.2.2.2.2.1)]⟩)<|x1 (.exit 0) fun i p=>⟨jn 2 (AV.ptr 0 none 0 0::AV.ptr 1 none 0 0::jn 38 ([])),[some (Cont.cells 6 [[AV.pv .bool i.2.1,AV.nils,AV.nils,AV.nils,AV.nils,AV.pv .i i.2.2.1]]),some (Cont.cells 6 [[AV.pv .bool p.1,AV.own 2 none none,AV.own 3 none none,AV.own 4 none none,AV.own 5 none none,AV.pv .i p.2.1]]),some (Cont.tree false 1 (.slice Af) p.2.2.1 none),some (Cont.lst false Ad p.2.2.2.1),some (Cont.lst false A0 p.2.2.2.2.1),some (Cont.lst false A0 p.2.2.2.2.2.1)]⟩
def AEy:=((.i (.v (.i (.i (.v (.v (.v (.v (.v (.v .n)))))))))):Pk Azn.ty _ _)
def A4t:Cfg:={ti:=Aw,ents:=[ji,WB,VT],ann:=[(6,Ao Azm 0 (spP AEx) Rf AEr.E),(3,Ao Azn 0 (spP AEy) PZ AEs.E)],lent:=0}
def az (x:List (List A6)×Unit):Option (Bool×Int×A7):=(JY (true,())).bind fun v=>(AC (fun v=>PZ (x.1,false,0,()) v _ some) (0,v.1,v.2.1,v.2.2.1,[],[],[],())).bind fun p=>Az p (fun p=>some (p.1,p.2.1,p.2.2.1,p.2.2.2.1,p.2.2.2.2.1,p.2.2.2.2.2.1,())) fun p=>some (p.1,p.2.1,p.2.2.1,p.2.2.2.1,p.2.2.2.2.1,p.2.2.2.2.2.1,())
def A8i:Ent:=⟨41,⟨(.slot (.slice (.slice YOp)) .nil),.nil⟩,⟨(.agg (.slot .bool (.own 0 (.own 1 (.own 2 (.own 3 (.slot .i .nil)))))) .nil),(.tree false 1 (.slice Af) (.lst false Ad (.lst false A0 (.lst false A0 .nil))))⟩,az⟩
theorem rN:CfgOK Go.Proofs.Tryz.prog A4t:=hcB (all_cons A7v (all_cons qH (all_cons j7 all_nil)))
theorem AB7:B9 Go.Proofs.Tryz.prog A4t (lpc Go.Proofs.Tryz.f41 1):=lkA rN Azm AEx Rf AEr [0,2,3,4] A35
theorem AI8:B9 Go.Proofs.Tryz.prog A4t (lpc Go.Proofs.Tryz.f41 0):=lkB rN Azn AEy PZ AEs [2,3] A36 AB7
theorem Afr:Ai Go.Proofs.Tryz.prog A8i:=okC rN Go.Proofs.Tryz.func41 AI8 AB7
def AB6:Go.Shelf.Ren:=⟨fun|4=>164|n=>n,fun|22=>69|25=>47|n=>n,fun|n=>n⟩
theorem AJo:Go.Proofs.Lays8.n4 Go.Proofs.Tryz.prog AB6 where
 mixed:=by kernel_rfl
 f4:=⟨ "slices.Grow[[]loop.example/g01924/impl.Op,loop.example/g01924/impl.Op]",by decide,Go.Proofs.Tryz.func164.trans (congrArg some (by kernel_rfl))⟩
 t0:=Go.Proofs.Tryz.underlying0
 a0:=Go.Proofs.Tryz.isAgg0
 z0:=Go.Proofs.Tryz.sizeOf0
 v0:=Go.Proofs.Tryz.zeroValue0
 t3:=Go.Proofs.Tryz.underlying3
 a3:=Go.Proofs.Tryz.isAgg3
 z3:=Go.Proofs.Tryz.sizeOf3
 v3:=Go.Proofs.Tryz.zeroValue3
 t4:=Go.Proofs.Tryz.underlying4
 a4:=Go.Proofs.Tryz.isAgg4
 z4:=Go.Proofs.Tryz.sizeOf4
 v4:=Go.Proofs.Tryz.zeroValue4
 t9:=Go.Proofs.Tryz.underlying9
 a9:=Go.Proofs.Tryz.isAgg9
 z9:=Go.Proofs.Tryz.sizeOf9
 v9:=Go.Proofs.Tryz.zeroValue9
 t20:=Go.Proofs.Tryz.underlying20
 a20:=Go.Proofs.Tryz.isAgg20
 z20:=Go.Proofs.Tryz.sizeOf20
 v20:=Go.Proofs.Tryz.zeroValue20
 t22:=Go.Proofs.Tryz.underlying69
 a22:=Go.Proofs.Tryz.isAgg69
 z22:=Go.Proofs.Tryz.sizeOf69
 v22:=Go.Proofs.Tryz.zeroValue69
def Xz (x:Int×Unit):Option (List (Int×Int×Int×Int×Int×Int×Unit)×Unit):=cm (α:=Int×Int×Int×Int×Int×Int×Unit) 733007751850 x
def Ao6:Cfg:={ti:=Aw,ents:=[],ann:=[],lent:=0}
def A39:Ent:=⟨164,⟨(.const (AV.nils) (.slot Ty.i .nil)),.nil⟩,⟨(.own 0 .nil),(.lst false YOp .nil)⟩,Xz⟩
theorem Afk:Ai Go.Proofs.Tryz.prog A39:=Ab6 (ρ:=AB6) (t:=YOp) rL AJo rfl (by decide) rfl
abbrev AEq:=List (List A6)×List (List A6)×Int×Unit
abbrev AEn:=Int×Int×Unit
abbrev AEo:=Int×Unit
def PW (i:AEq)(v:AEn)(R:Type)(K:AEn ⊕ AEo->Option R):Option R:=bif decide (v.2.1<i.2.2.1)then(lAt i.2.1 v.2.1).bind fun a=>bif decide (IntKind.i64.wrap (v.1+(a.length:Int))<0)then none else K (.inl (IntKind.i64.wrap (v.1+(a.length:Int)),IntKind.i64.wrap (v.2.1+1),()))else K (.inr (v.1,()))
theorem rB:Bg PW:=fun i v R K=>Ae (Ac fun _=>Ae (A3i) (Aa)) (Aa)
def Azl:Tmpl:=⟨(.slot (.slice (.slice YOp)) (jk 2 (.slot .i (jk 5 (.slot (.slice (.slice YOp)) (si 2 (jk 24 .nil))))))),.nil⟩
def AEm:Exs AEq AEo:=x1 (.exit 0) fun i p=>⟨AV.pv (.slice (.slice YOp)) i.1::jn 2 (.n (p.1)::jn 32 ([])),[]⟩
def AEp:=((.i (.v (.i (.i (.v .n))))):Pk Azl.ty _ _)
abbrev AB5:=List (List A6)×Int×Unit
abbrev AB2:=Int×List A6×Unit
abbrev AB3:=List A6×Unit
def PK (i:AB5)(v:AB2)(R:Type)(K:AB2 ⊕ AB3->Option R):Option R:=bif decide (v.1<i.2.1)then(lAt i.1 v.1).bind fun a=>if(v.2.1++a).length<=733007751850 then K (.inl (IntKind.i64.wrap (v.1+1),v.2.1++a,()))else none else K (.inr (v.2.1,()))
theorem qK:Bg PK:=fun i v R K=>Ae (Ac fun _=>Aq (Aa)) (Aa)
def Aun:Tmpl:=⟨(jk 6 (.own 0 (jk 18 (.slot (.slice (.slice YOp)) (si 2 (jk 8 .nil)))))),(.lst false YOp .nil)⟩
def AB1:Exs AB5 AB3:=x1 (.exit 2) fun i p=>⟨jn 6 (AV.own 0 none none::jn 29 ([])),[some (Cont.lst false YOp p.1)]⟩
def AB4:=((.i (.i (.v (.v .n)))):Pk Aun.ty _ _)
def A4q:Cfg:={ti:=Aw,ents:=[A39],ann:=[(3,Ao Azl 0 (spP AEp) PW AEm.E),(11,Ao Aun 0 (spP AB4) PK AB1.E)],lent:=0}
def Vz (x:List (List A6)×Unit):Option (List A6×Unit):=(AC (fun v=>PW (x.1,x.1,(x.1.length:Int),()) v _ some) (0,0,())).bind fun p=>(Xz (p.1,())).bind fun v=>(AC (fun v=>PK (x.1,(x.1.length:Int),()) v _ some) (0,v.1,())).bind fun p=>some (p.1,())
def A38:Ent:=⟨86,⟨(.slot (.slice (.slice YOp)) .nil),.nil⟩,⟨(.own 0 .nil),(.lst false YOp .nil)⟩,Vz⟩
theorem rM:CfgOK Go.Proofs.Tryz.prog A4q:=hcB (all_cons Afk all_nil)
theorem AGh:B9 Go.Proofs.Tryz.prog A4q (lpc Go.Proofs.Tryz.f86 1):=lkA rM Aun AB4 PK AB1 [6] qK
theorem AI7:B9 Go.Proofs.Tryz.prog A4q (lpc Go.Proofs.Tryz.f86 0):=lkA rM Azl AEp PW AEm [0,3] rB
theorem Afe:Ai Go.Proofs.Tryz.prog A38:=okC rM Go.Proofs.Tryz.func86 AI7 AGh
end
end Go.Ab
