import Derived.Test.YtchkllapojehpaaGreatSp1
set_option linter.all false
set_option maxRecDepth 100000
namespace Go.Ab
noncomputable section
abbrev lX:=List A1×List A1×Int×Unit
abbrev lU:=Int×Unit
abbrev lV:=Int×Int×Unit ⊕ Int×Int×Unit ⊕ Int×Int×Unit ⊕ Unit
def Er (i:lX)(v:lU)(R:Type)(K:lU ⊕ lV->Option R):Option R:=bif decide (v.1<i.2.2.1)then(lAt i.2.1 v.1).bind fun a=>(E8 (a.1,())).bind fun b=>bif !b.1 then K (.inr (.inl (a.1,a.2.1,())))else(GV (a.2.1,())).bind fun c=>bif !c.1 then K (.inr (.inr (.inl (a.1,a.2.1,()))))else bif decide (v.1>0)then(lAt i.1 (IntKind.i64.wrap (v.1-1))).bind fun d=>bif decide (d.1>=a.1)then K (.inr (.inr (.inr (.inl (a.1,a.2.1,())))))else K (.inl (IntKind.i64.wrap (v.1+1),()))else K (.inl (IntKind.i64.wrap (v.1+1),()))else K (.inr (.inr (.inr (.inr ()))))
theorem Nv:AX Er:=fun i v R K=>Ae (Ac fun _=>Ac fun _=>Ae (Aa) (Ac fun _=>Ae (Aa) (Ae (Ac fun _=>Ae (Aa) (Aa)) (Aa)))) (Aa)
def UU:Tmpl:=⟨(.slot (.slice A0) (jk 4 (.slot (.slice A0) (si 2 (jk 30 .nil))))),.nil⟩
def lT:Exs lX lV:=xs .ret (fun i p=>⟨jn 2 (.b (false)::jn 35 ([])),[some (Cont.cells 2 [[AV.pv .i p.1,AV.pv .i p.2.1]])]⟩)<|xs .ret (fun i p=>⟨jn 2 (.b (false)::jn 35 ([])),[some (Cont.cells 2 [[AV.pv .i p.1,AV.pv .i p.2.1]])]⟩)<|xs .ret (fun i p=>⟨jn 2 (.b (false)::jn 35 ([])),[some (Cont.cells 2 [[AV.pv .i p.1,AV.pv .i p.2.1]])]⟩)<|x1 (.exit 0) fun i p=>⟨jn 38 ([]),[]⟩
def lW:=((.i (.i (.i (.v .n)))):Pk UU.ty _ _)
def y7:Cfg:={ti:=Ar,ents:=[PE,bb],ann:=[(2,Ao UU 0 (spP lW) Er lT.E)],lent:=0}
def Df (x:List A1×Unit):Option (Bool×Unit):=(Ay (fun v=>Er (x.1,x.1,(x.1.length:Int),()) v _ some) (0,())).bind fun p=>Au p (fun p=>some (false,())) fun p=>Au p (fun p=>some (false,())) fun p=>Au p (fun p=>some (false,())) fun p=>some (true,())
def y6:Ent:=⟨233,⟨(.slot (.slice A0) .nil),.nil⟩,⟨(.slot .bool .nil),.nil⟩,Df⟩
theorem lY:CfgOK Go.Proofs.Tryz.prog y7:=hcB (all_cons PD (all_cons YO all_nil))
theorem y5:AP Go.Proofs.Tryz.prog y7 (lpc Go.Proofs.Tryz.f233 0):=lkA lY UU lW Er lT [2] Nv
theorem A5j:Ah Go.Proofs.Tryz.prog y6:=okB lY Go.Proofs.Tryz.func233 y5
def CM (x:A3×Unit):Option (Bool×Unit):=(BG (x.1.1,())).bind fun v=>bif !v.1 then some (false,())else(G3 (x.1.2.1,())).bind fun v=>bif !v.1 then some (false,())else(BB (x.1.2.2.1,1,3,())).bind fun v=>bif !v.1 then some (false,())else(BB (x.1.2.2.2.1,0,999,())).bind fun v=>bif !v.1 then some (false,())else(BB (x.1.2.2.2.2.1,0,999,())).bind fun v=>bif !v.1 then some (false,())else(BB (x.1.2.2.2.2.2.1,1,1000,())).bind fun v=>bif !v.1 then some (false,())else bif x.1.2.2.1==2 then(Ln (x.1.2.2.2.2.2.2.1,())).bind fun v=>bif !v.1 then some (false,())else bif x.1.2.2.1 != 2 then bif x.1.2.2.2.2.2.2.1 != 0 then some (false,())else(DL (x.1.2.2.2.2.2.2.2.1,())).bind fun v=>bif v.1 then(Df (x.1.2.2.2.2.2.2.2.2.1,())).bind fun v=>some (v.1,())else some (false,())else(DL (x.1.2.2.2.2.2.2.2.1,())).bind fun v=>bif v.1 then(Df (x.1.2.2.2.2.2.2.2.2.1,())).bind fun v=>some (v.1,())else some (false,())else bif x.1.2.2.1 != 2 then bif x.1.2.2.2.2.2.2.1 != 0 then some (false,())else(DL (x.1.2.2.2.2.2.2.2.1,())).bind fun v=>bif v.1 then(Df (x.1.2.2.2.2.2.2.2.2.1,())).bind fun v=>some (v.1,())else some (false,())else(DL (x.1.2.2.2.2.2.2.2.1,())).bind fun v=>bif v.1 then(Df (x.1.2.2.2.2.2.2.2.2.1,())).bind fun v=>some (v.1,())else some (false,())
def Xu:Ent:=⟨192,⟨(.slot Ad .nil),.nil⟩,⟨(.slot .bool .nil),.nil⟩,CM⟩
theorem lS:Ah Go.Proofs.Tryz.prog Xu:=okA (hcA 0 (all_cons NI (all_cons mj (all_cons L7 (all_cons A5n (all_cons A5k (all_cons A5j all_nil))))))) Go.Proofs.Tryz.func192
def Iu (x:A2×Option Int×Unit):Option (Bool×Unit):=x.2.1.bind fun v=>some (x.1.2.2.1==v,())
def Xt:Ent:=⟨286,⟨(.slot Af (.slot (.iref .i) .nil)),.nil⟩,⟨(.slot .bool .nil),.nil⟩,Iu⟩
theorem A5i:Ah Go.Proofs.Tryz.prog Xt:=okA (hcA 0 all_nil) Go.Proofs.Tryz.func286
abbrev lQ:=List A2×(Option Int×Unit)×Int×Unit
abbrev lN:=Int×Unit
abbrev lO:=Int×Unit ⊕ Unit
def AL (i:lQ)(v:lN)(R:Type)(K:lN ⊕ lO->Option R):Option R:=bif decide (v.1<i.2.2.1)then(lAt i.1 v.1).bind fun a=>(Iu ((a.1,a.2.1,a.2.2.1,a.2.2.2.1,a.2.2.2.2.1,()),i.2.1.1,())).bind fun b=>bif b.1 then K (.inr (.inl (v.1,())))else K (.inl (IntKind.i64.wrap (v.1+1),()))else K (.inr (.inr ()))
theorem GZ:AX AL:=fun i v R K=>Ae (Ac fun _=>Ac fun _=>Ae (Aa) (Aa)) (Aa)
def UT:Tmpl:=⟨(.slot (.slice Af) (.slot (.fn 286 (.prod (.iref .i) .unit)) (jk 5 (si 2 (jk 10 .nil))))),.nil⟩
def lM:Exs lQ lO:=xs .ret (fun i p=>⟨jn 4 (.n (p.1)::jn 14 ([])),[]⟩)<|x1 (.exit 0) fun i p=>⟨jn 19 ([]),[]⟩
def lP:=((.i (.i (.i (.v .n)))):Pk UT.ty _ _)
def y4:Cfg:={ti:=Ar,ents:=[Xt],ann:=[(2,Ao UT 0 (spP lP) AL lM.E)],lent:=0}
def CA (x:List A2×(Option Int×Unit)×Unit):Option (Int×Unit):=(Ay (fun v=>AL (x.1,x.2.1,(x.1.length:Int),()) v _ some) (0,())).bind fun p=>Au p (fun p=>some (p.1,())) fun p=>some (-1,())
def y1:Ent:=⟨285,⟨(.slot (.slice Af) (.slot (.fn 286 (.prod (.iref .i) .unit)) .nil)),.nil⟩,⟨(.slot .i .nil),.nil⟩,CA⟩
theorem lR:CfgOK Go.Proofs.Tryz.prog y4:=hcB (all_cons A5i all_nil)
theorem xZ:AP Go.Proofs.Tryz.prog y4 (lpc Go.Proofs.Tryz.f285 0):=lkA lR UT lP AL lM [4] GZ
theorem A5h:Ah Go.Proofs.Tryz.prog y1:=okB lR Go.Proofs.Tryz.func285 xZ
def Ft (x:List A2×Int×Unit):Option (Int×Unit):=(CA (x.1,(some x.2.1,()),())).bind fun v=>some (v.1,())
def xY:Ent:=⟨267,⟨(.slot (.slice Af) (.slot .i .nil)),.nil⟩,⟨(.slot .i .nil),.nil⟩,Ft⟩
theorem lL:Ah Go.Proofs.Tryz.prog xY:=okA (hcA 0 (all_cons A5h all_nil)) Go.Proofs.Tryz.func267
def Dx (x:A4×A1×Unit):Option (Option A2×Unit):=(lAt x.1.1 x.2.1.1).bind fun v=>(Ft (v,x.2.1.2.1,())).bind fun a=>bif decide (a.1<0)then some (none,())else(lAt v a.1).bind fun v=>some (some v,())
def Xs:Ent:=⟨236,⟨(.slot Bo (.slot A0 .nil)),.nil⟩,⟨(.slot (.iref Af) .nil),.nil⟩,Dx⟩
theorem lK:Ah Go.Proofs.Tryz.prog Xs:=okA (hcA 0 (all_cons lL all_nil)) Go.Proofs.Tryz.func236
def FR (x:A1×Option A4×Unit):Option (Bool×Unit):=x.2.1.bind fun v=>(Dx ((v.1,()),(x.1.1,x.1.2.1,()),())).bind fun v=>some (Option.isNone v.1,())
def Xr:Ent:=⟨235,⟨(.slot A0 (.slot (.iref Bo) .nil)),.nil⟩,⟨(.slot .bool .nil),.nil⟩,FR⟩
theorem A5g:Ah Go.Proofs.Tryz.prog Xr:=okA (hcA 0 (all_cons lK all_nil)) Go.Proofs.Tryz.func235
abbrev lI:=List A1×(Option A4×Unit)×Int×Unit
abbrev lF:=Int×Unit
abbrev lG:=Int×Unit ⊕ Unit
def AE (i:lI)(v:lF)(R:Type)(K:lF ⊕ lG->Option R):Option R:=bif decide (v.1<i.2.2.1)then(lAt i.1 v.1).bind fun a=>(FR ((a.1,a.2.1,()),i.2.1.1,())).bind fun b=>bif b.1 then K (.inr (.inl (v.1,())))else K (.inl (IntKind.i64.wrap (v.1+1),()))else K (.inr (.inr ()))
theorem FP:AX AE:=fun i v R K=>Ae (Ac fun _=>Ac fun _=>Ae (Aa) (Aa)) (Aa)
def US:Tmpl:=⟨(.slot (.slice A0) (.slot (.fn 235 (.prod (.iref Bo) .unit)) (jk 5 (si 2 (jk 10 .nil))))),.nil⟩
def lE:Exs lI lG:=xs .ret (fun i p=>⟨jn 4 (.n (p.1)::jn 14 ([])),[]⟩)<|x1 (.exit 0) fun i p=>⟨jn 19 ([]),[]⟩
def lH:=((.i (.i (.i (.v .n)))):Pk US.ty _ _)
def xX:Cfg:={ti:=Ar,ents:=[Xr],ann:=[(2,Ao US 0 (spP lH) AE lE.E)],lent:=0}
def C2 (x:List A1×(Option A4×Unit)×Unit):Option (Int×Unit):=(Ay (fun v=>AE (x.1,x.2.1,(x.1.length:Int),()) v _ some) (0,())).bind fun p=>Au p (fun p=>some (p.1,())) fun p=>some (-1,())
def xW:Ent:=⟨266,⟨(.slot (.slice A0) (.slot (.fn 235 (.prod (.iref Bo) .unit)) .nil)),.nil⟩,⟨(.slot .i .nil),.nil⟩,C2⟩
theorem lJ:CfgOK Go.Proofs.Tryz.prog xX:=hcB (all_cons A5g all_nil)
theorem xV:AP Go.Proofs.Tryz.prog xX (lpc Go.Proofs.Tryz.f266 0):=lkA lJ US lH AE lE [4] FP
theorem A5f:Ah Go.Proofs.Tryz.prog xW:=okB lJ Go.Proofs.Tryz.func266 xV
def BI (x:List A1×(Option A4×Unit)×Unit):Option (Bool×Unit):=(C2 (x.1,x.2.1,())).bind fun v=>some (decide (v.1>=0),())
def xU:Ent:=⟨234,⟨(.slot (.slice A0) (.slot (.fn 235 (.prod (.iref Bo) .unit)) .nil)),.nil⟩,⟨(.slot .bool .nil),.nil⟩,BI⟩
theorem A5e:Ah Go.Proofs.Tryz.prog xU:=okA (hcA 0 (all_cons A5f all_nil)) Go.Proofs.Tryz.func234
def Dg (x:A4×List A1×Unit):Option (Bool×Unit):=(BI (x.2.1,(some (x.1.1,()),()),())).bind fun v=>some (!v.1,())
def Xq:Ent:=⟨193,⟨(.slot Bo (.slot (.slice A0) .nil)),.nil⟩,⟨(.slot .bool .nil),.nil⟩,Dg⟩
theorem A5c:Ah Go.Proofs.Tryz.prog Xq:=okA (hcA 0 (all_cons A5e all_nil)) Go.Proofs.Tryz.func193
abbrev lB:=List A3×Int×Bool×List (List A2)×List A3×List A1×List A1×Int×Unit
abbrev ly:=Int×Unit
abbrev lz:=A3 ⊕ A3 ⊕ A3 ⊕ A3 ⊕ A3 ⊕ A3 ⊕ A3 ⊕ A3 ⊕ Unit
def Bw (i:lB)(v:ly)(R:Type)(K:ly ⊕ lz->Option R):Option R:=bif decide (v.1<i.2.1)then(lAt i.1 v.1).bind fun a=>(CM ((a.1,a.2.1,a.2.2.1,a.2.2.2.1,a.2.2.2.2.1,a.2.2.2.2.2.1,a.2.2.2.2.2.2.1,a.2.2.2.2.2.2.2.1,a.2.2.2.2.2.2.2.2.1,()),())).bind fun b=>bif !b.1 then K (.inr (.inl (a.1,a.2.1,a.2.2.1,a.2.2.2.1,a.2.2.2.2.1,a.2.2.2.2.2.1,a.2.2.2.2.2.2.1,a.2.2.2.2.2.2.2.1,a.2.2.2.2.2.2.2.2.1,())))else bif decide (v.1>0)then(lAt i.2.2.2.2.1 (IntKind.i64.wrap (v.1-1))).bind fun c=>bif decide (c.1>=a.1)then K (.inr (.inr (.inl (a.1,a.2.1,a.2.2.1,a.2.2.2.1,a.2.2.2.2.1,a.2.2.2.2.2.1,a.2.2.2.2.2.2.1,a.2.2.2.2.2.2.2.1,a.2.2.2.2.2.2.2.2.1,()))))else bif decide (a.2.2.2.1>i.2.2.2.2.2.2.2.1)then K (.inr (.inr (.inr (.inl (a.1,a.2.1,a.2.2.1,a.2.2.2.1,a.2.2.2.2.1,a.2.2.2.2.2.1,a.2.2.2.2.2.2.1,a.2.2.2.2.2.2.2.1,a.2.2.2.2.2.2.2.2.1,())))))else bif decide (a.2.2.2.2.2.2.1>i.2.2.2.2.2.2.2.1)then K (.inr (.inr (.inr (.inr (.inl (a.1,a.2.1,a.2.2.1,a.2.2.2.1,a.2.2.2.2.1,a.2.2.2.2.2.1,a.2.2.2.2.2.2.1,a.2.2.2.2.2.2.2.1,a.2.2.2.2.2.2.2.2.1,()))))))else bif a.2.2.1==1 then(Dg ((i.2.2.2.1,()),a.2.2.2.2.2.2.2.1,())).bind fun d=>bif !d.1 then K (.inr (.inr (.inr (.inr (.inr (.inl (a.1,a.2.1,a.2.2.1,a.2.2.2.1,a.2.2.2.2.1,a.2.2.2.2.2.1,a.2.2.2.2.2.2.1,a.2.2.2.2.2.2.2.1,a.2.2.2.2.2.2.2.2.1,())))))))else K (.inl (IntKind.i64.wrap (v.1+1),()))else K (.inl (IntKind.i64.wrap (v.1+1),()))else bif decide (a.2.2.2.1>i.2.2.2.2.2.2.2.1)then K (.inr (.inr (.inr (.inr (.inr (.inr (.inl (a.1,a.2.1,a.2.2.1,a.2.2.2.1,a.2.2.2.2.1,a.2.2.2.2.2.1,a.2.2.2.2.2.2.1,a.2.2.2.2.2.2.2.1,a.2.2.2.2.2.2.2.2.1,()))))))))else bif decide (a.2.2.2.2.2.2.1>i.2.2.2.2.2.2.2.1)then K (.inr (.inr (.inr (.inr (.inr (.inr (.inr (.inl (a.1,a.2.1,a.2.2.1,a.2.2.2.1,a.2.2.2.2.1,a.2.2.2.2.2.1,a.2.2.2.2.2.2.1,a.2.2.2.2.2.2.2.1,a.2.2.2.2.2.2.2.2.1,())))))))))else bif a.2.2.1==1 then(Dg ((i.2.2.2.1,()),a.2.2.2.2.2.2.2.1,())).bind fun c=>bif !c.1 then K (.inr (.inr (.inr (.inr (.inr (.inr (.inr (.inr (.inl (a.1,a.2.1,a.2.2.1,a.2.2.2.1,a.2.2.2.2.1,a.2.2.2.2.2.1,a.2.2.2.2.2.2.1,a.2.2.2.2.2.2.2.1,a.2.2.2.2.2.2.2.2.1,()))))))))))else K (.inl (IntKind.i64.wrap (v.1+1),()))else K (.inl (IntKind.i64.wrap (v.1+1),()))else K (.inr (.inr (.inr (.inr (.inr (.inr (.inr (.inr (.inr ())))))))))
theorem Jj:AX Bw:=fun i v R K=>Ae (Ac fun _=>Ac fun _=>Ae (Aa) (Ae (Ac fun _=>Ae (Aa) (Ae (Aa) (Ae (Aa) (Ae (Ac fun _=>Ae (Aa) (Aa)) (Aa))))) (Ae (Aa) (Ae (Aa) (Ae (Ac fun _=>Ae (Aa) (Aa)) (Aa)))))) (Aa)
def UR:Tmpl:=⟨(.junk (.ptr 0 0 0 (jk 4 (.slot (.slice Ad) (si 2 (jk 53 .nil)))))),(.cells 6 (.slot .bool (.slot (.slice (.slice Af)) (.slot (.slice Ad) (.slot (.slice A0) (.slot (.slice A0) (.slot .i .nil)))))) .nil)⟩
def lx:Exs lB lz:=xs .ret (fun i p=>⟨jn 1 (AV.ptr 0 none 0 0::.b (false)::jn 59 ([])),[some (Cont.cells 6 [[AV.pv .bool i.2.2.1,AV.pv (.slice (.slice Af)) i.2.2.2.1,AV.pv (.slice Ad) i.2.2.2.2.1,AV.pv (.slice A0) i.2.2.2.2.2.1,AV.pv (.slice A0) i.2.2.2.2.2.2.1,AV.pv .i i.2.2.2.2.2.2.2.1]]),some (Cont.cells 9 [[AV.pv .i p.1,AV.pv .i p.2.1,AV.pv .i p.2.2.1,AV.pv .i p.2.2.2.1,AV.pv .i p.2.2.2.2.1,AV.pv .i p.2.2.2.2.2.1,AV.pv .i p.2.2.2.2.2.2.1,AV.pv (.slice A0) p.2.2.2.2.2.2.2.1,AV.pv (.slice A0) p.2.2.2.2.2.2.2.2.1]])]⟩)<|xs .ret (fun i p=>⟨jn 1 (AV.ptr 0 none 0 0::.b (false)::jn 59 ([])),[some (Cont.cells 6 [[AV.pv .bool i.2.2.1,AV.pv (.slice (.slice Af)) i.2.2.2.1,AV.pv (.slice Ad) i.2.2.2.2.1,AV.pv (.slice A0) i.2.2.2.2.2.1,AV.pv (.slice A0) i.2.2.2.2.2.2.1,AV.pv .i i.2.2.2.2.2.2.2.1]]),some (Cont.cells 9 [[AV.pv .i p.1,AV.pv .i p.2.1,AV.pv .i p.2.2.1,AV.pv .i p.2.2.2.1,AV.pv .i p.2.2.2.2.1,AV.pv .i p.2.2.2.2.2.1,AV.pv .i p.2.2.2.2.2.2.1,AV.pv (.slice A0) p.2.2.2.2.2.2.2.1,AV.pv (.slice A0) p.2.2.2.2.2.2.2.2.1]])]⟩)<|xs .ret (fun i p=>⟨jn 1 (AV.ptr 0 none 0 0::.b (false)::jn 59 ([])),[some (Cont.cells 6 [[AV.pv .bool i.2.2.1,AV.pv (.slice (.slice Af)) i.2.2.2.1,AV.pv (.slice Ad) i.2.2.2.2.1,AV.pv (.slice A0) i.2.2.2.2.2.1,AV.pv (.slice A0) i.2.2.2.2.2.2.1,AV.pv .i i.2.2.2.2.2.2.2.1]]),some (Cont.cells 9 [[AV.pv .i p.1,AV.pv .i p.2.1,AV.pv .i p.2.2.1,AV.pv .i p.2.2.2.1,AV.pv .i p.2.2.2.2.1,AV.pv .i p.2.2.2.2.2.1,AV.pv .i p.2.2.2.2.2.2.1,AV.pv (.slice A0) p.2.2.2.2.2.2.2.1,AV.pv (.slice A0) p.2.2.2.2.2.2.2.2.1]])]⟩)<|xs .ret (fun i p=>⟨jn 1 (AV.ptr 0 none 0 0::.b (false)::jn 59 ([])),[some (Cont.cells 6 [[AV.pv .bool i.2.2.1,AV.pv (.slice (.slice Af)) i.2.2.2.1,AV.pv (.slice Ad) i.2.2.2.2.1,AV.pv (.slice A0) i.2.2.2.2.2.1,AV.pv (.slice A0) i.2.2.2.2.2.2.1,AV.pv .i i.2.2.2.2.2.2.2.1]]),some (Cont.cells 9 [[AV.pv .i p.1,AV.pv .i p.2.1,AV.pv .i p.2.2.1,AV.pv .i p.2.2.2.1,AV.pv .i p.2.2.2.2.1,AV.pv .i p.2.2.2.2.2.1,AV.pv .i p.2.2.2.2.2.2.1,AV.pv (.slice A0) p.2.2.2.2.2.2.2.1,AV.pv (.slice A0) p.2.2.2.2.2.2.2.2.1]])]⟩)<|xs .ret (fun i p=>⟨jn 1 (AV.ptr 0 none 0 0::.b (false)::jn 59 ([])),[some (Cont.cells 6 [[AV.pv .bool i.2.2.1,AV.pv (.slice (.slice Af)) i.2.2.2.1,AV.pv (.slice Ad) i.2.2.2.2.1,AV.pv (.slice A0) i.2.2.2.2.2.1,AV.pv (.slice A0) i.2.2.2.2.2.2.1,AV.pv .i i.2.2.2.2.2.2.2.1]]),some (Cont.cells 9 [[AV.pv .i p.1,AV.pv .i p.2.1,AV.pv .i p.2.2.1,AV.pv .i p.2.2.2.1,AV.pv .i p.2.2.2.2.1,AV.pv .i p.2.2.2.2.2.1,AV.pv .i p.2.2.2.2.2.2.1,AV.pv (.slice A0) p.2.2.2.2.2.2.2.1,AV.pv (.slice A0) p.2.2.2.2.2.2.2.2.1]])]⟩)<|xs .ret (fun i p=>⟨jn 1 (AV.ptr 0 none 0 0::.b (false)::jn 59 ([])),[some (Cont.cells 6 [[AV.pv .bool i.2.2.1,AV.pv (.slice (.slice Af)) i.2.2.2.1,AV.pv (.slice Ad) i.2.2.2.2.1,AV.pv (.slice A0) i.2.2.2.2.2.1,AV.pv (.slice A0) i.2.2.2.2.2.2.1,AV.pv .i i.2.2.2.2.2.2.2.1]]),some (Cont.cells 9 [[AV.pv .i p.1,AV.pv .i p.2.1,AV.pv .i p.2.2.1,AV.pv .i p.2.2.2.1,AV.pv .i p.2.2.2.2.1,AV.pv .i p.2.2.2.2.2.1,AV.pv .i p.2.2.2.2.2.2.1,AV.pv (.slice A0) p.2.2.2.2.2.2.2.1,AV.pv (.slice A0) p.2.2.2.2.2.2.2.2.1]])]⟩)<|xs .ret (fun i p=>⟨jn 1 (AV.ptr 0 none 0 0::.b (false)::jn 59 ([])),[some (Cont.cells 6 [[AV.pv .bool i.2.2.1,AV.pv (.slice (.slice Af)) i.2.2.2.1,AV.pv (.slice Ad) i.2.2.2.2.1,AV.pv (.slice A0) i.2.2.2.2.2.1,AV.pv (.slice A0) i.2.2.2.2.2.2.1,AV.pv .i i.2.2.2.2.2.2.2.1]]),some (Cont.cells 9 [[AV.pv .i p.1,AV.pv .i p.2.1,AV.pv .i p.2.2.1,AV.pv .i p.2.2.2.1,AV.pv .i p.2.2.2.2.1,AV.pv .i p.2.2.2.2.2.1,AV.pv .i p.2.2.2.2.2.2.1,AV.pv (.slice A0) p.2.2.2.2.2.2.2.1,AV.pv (.slice A0) p.2.2.2.2.2.2.2.2.1]])]⟩)<|xs .ret (fun i p=>⟨jn 1 (AV.ptr 0 none 0 0::.b (false)::jn 59 ([])),[some (Cont.cells 6 [[AV.pv .bool i.2.2.1,AV.pv (.slice (.slice Af)) i.2.2.2.1,AV.pv (.slice Ad) i.2.2.2.2.1,AV.pv (.slice A0) i.2.2.2.2.2.1,AV.pv (.slice A0) i.2.2.2.2.2.2.1,AV.pv .i i.2.2.2.2.2.2.2.1]]),some (Cont.cells 9 [[AV.pv .i p.1,AV.pv .i p.2.1,AV.pv .i p.2.2.1,AV.pv .i p.2.2.2.1,AV.pv .i p.2.2.2.2.1,AV.pv .i p.2.2.2.2.2.1,AV.pv .i p.2.2.2.2.2.2.1,AV.pv (.slice A0) p.2.2.2.2.2.2.2.1,AV.pv (.slice A0) p.2.2.2.2.2.2.2.2.1]])]⟩)<|x1 (.exit 0) fun i p=>⟨jn 1 (AV.ptr 0 none 0 0::jn 60 ([])),[some (Cont.cells 6 [[AV.pv .bool i.2.2.1,AV.pv (.slice (.slice Af)) i.2.2.2.1,AV.pv (.slice Ad) i.2.2.2.2.1,AV.pv (.slice A0) i.2.2.2.2.2.1,AV.pv (.slice A0) i.2.2.2.2.2.2.1,AV.pv (Ty.int IntKind.i64) i.2.2.2.2.2.2.2.1]])]⟩
def lA:=((.i (.i (.v (.i (.i (.i (.i (.i (.i .n))))))))):Pk UR.ty _ _)
def xN:Cfg:={ti:=Ar,ents:=[Xu,Xq],ann:=[(2,Ao UR 0 (spP lA) Bw lx.E)],lent:=0}
def C3 (x:A5×Unit):Option (Bool×Unit):=(Ay (fun v=>Bw (x.1.2.2.1,(x.1.2.2.1.length:Int),x.1.1,x.1.2.1.1,x.1.2.2.1,x.1.2.2.2.1,x.1.2.2.2.2.1,x.1.2.2.2.2.2.1,()) v _ some) (0,())).bind fun p=>Au p (fun p=>some (false,())) fun p=>Au p (fun p=>some (false,())) fun p=>Au p (fun p=>some (false,())) fun p=>Au p (fun p=>some (false,())) fun p=>Au p (fun p=>some (false,())) fun p=>Au p (fun p=>some (false,())) fun p=>Au p (fun p=>some (false,())) fun p=>Au p (fun p=>some (false,())) fun p=>some (decide ((x.1.2.2.1.length:Int)<=6),())
def xM:Ent:=⟨132,⟨(.slot Bz .nil),.nil⟩,⟨(.slot .bool .nil),.nil⟩,C3⟩
theorem lC:CfgOK Go.Proofs.Tryz.prog xN:=hcB (all_cons lS (all_cons A5c all_nil))
theorem xL:AP Go.Proofs.Tryz.prog xN (lpc Go.Proofs.Tryz.f132 0):=lkA lC UR lA Bw lx [1,2] Jj
theorem A5b:Ah Go.Proofs.Tryz.prog xM:=okB lC Go.Proofs.Tryz.func132 xL
def Gv (x:A3×Option Int×Unit):Option (Bool×Unit):=x.2.1.bind fun v=>some (x.1.1==v,())
def Xp:Ent:=⟨202,⟨(.slot Ad (.slot (.iref .i) .nil)),.nil⟩,⟨(.slot .bool .nil),.nil⟩,Gv⟩
theorem A5a:Ah Go.Proofs.Tryz.prog Xp:=okA (hcA 0 all_nil) Go.Proofs.Tryz.func202
abbrev lv:=List A3×(Option Int×Unit)×Int×Unit
abbrev lq:=Int×Unit
abbrev lr:=Int×Unit ⊕ Unit
def AF (i:lv)(v:lq)(R:Type)(K:lq ⊕ lr->Option R):Option R:=bif decide (v.1<i.2.2.1)then(lAt i.1 v.1).bind fun a=>(Gv ((a.1,a.2.1,a.2.2.1,a.2.2.2.1,a.2.2.2.2.1,a.2.2.2.2.2.1,a.2.2.2.2.2.2.1,a.2.2.2.2.2.2.2.1,a.2.2.2.2.2.2.2.2.1,()),i.2.1.1,())).bind fun b=>bif b.1 then K (.inr (.inl (v.1,())))else K (.inl (IntKind.i64.wrap (v.1+1),()))else K (.inr (.inr ()))
theorem G8:AX AF:=fun i v R K=>Ae (Ac fun _=>Ac fun _=>Ae (Aa) (Aa)) (Aa)
def UQ:Tmpl:=⟨(.slot (.slice Ad) (.slot (.fn 202 (.prod (.iref .i) .unit)) (jk 5 (si 2 (jk 10 .nil))))),.nil⟩
def lp:Exs lv lr:=xs .ret (fun i p=>⟨jn 4 (.n (p.1)::jn 14 ([])),[]⟩)<|x1 (.exit 0) fun i p=>⟨jn 19 ([]),[]⟩
def lu:=((.i (.i (.i (.v .n)))):Pk UQ.ty _ _)
def xK:Cfg:={ti:=Ar,ents:=[Xp],ann:=[(2,Ao UQ 0 (spP lu) AF lp.E)],lent:=0}
def C8 (x:List A3×(Option Int×Unit)×Unit):Option (Int×Unit):=(Ay (fun v=>AF (x.1,x.2.1,(x.1.length:Int),()) v _ some) (0,())).bind fun p=>Au p (fun p=>some (p.1,())) fun p=>some (-1,())
def xJ:Ent:=⟨201,⟨(.slot (.slice Ad) (.slot (.fn 202 (.prod (.iref .i) .unit)) .nil)),.nil⟩,⟨(.slot .i .nil),.nil⟩,C8⟩
theorem lw:CfgOK Go.Proofs.Tryz.prog xK:=hcB (all_cons A5a all_nil)
theorem xI:AP Go.Proofs.Tryz.prog xK (lpc Go.Proofs.Tryz.f201 0):=lkA lw UQ lu AF lp [4] G8
theorem A59:Ah Go.Proofs.Tryz.prog xJ:=okB lw Go.Proofs.Tryz.func201 xI
def Dy (x:A5×Int×Unit):Option (Int×Unit):=(C8 (x.1.2.2.1,(some x.2.1,()),())).bind fun v=>some (v.1,())
def Xo:Ent:=⟨143,⟨(.slot Bz (.slot .i .nil)),.nil⟩,⟨(.slot .i .nil),.nil⟩,Dy⟩
theorem ln:Ah Go.Proofs.Tryz.prog Xo:=okA (hcA 0 (all_cons A59 all_nil)) Go.Proofs.Tryz.func143
def Cc (x:A5×Int×Unit):Option (Bool×Unit):=(Dy ((x.1.1,(x.1.2.1.1,()),x.1.2.2.1,x.1.2.2.2.1,x.1.2.2.2.2.1,x.1.2.2.2.2.2.1,()),x.2.1,())).bind fun v=>bif decide (v.1>=0)then(lAt x.1.2.2.1 v.1).bind fun v=>some (v.2.2.1==1,())else some (false,())
def Xn:Ent:=⟨135,⟨(.slot Bz (.slot .i .nil)),.nil⟩,⟨(.slot .bool .nil),.nil⟩,Cc⟩
theorem UP:Ah Go.Proofs.Tryz.prog Xn:=okA (hcA 0 (all_cons ln all_nil)) Go.Proofs.Tryz.func135
def HF (x:A1×Option A5×Unit):Option (Bool×Unit):=x.2.1.bind fun v=>(Cc ((v.1,(v.2.1.1,()),v.2.2.1,v.2.2.2.1,v.2.2.2.2.1,v.2.2.2.2.2.1,()),x.1.2.1,())).bind fun v=>some (!v.1,())
def Xm:Ent:=⟨134,⟨(.slot A0 (.slot (.iref Bz) .nil)),.nil⟩,⟨(.slot .bool .nil),.nil⟩,HF⟩
theorem A58:Ah Go.Proofs.Tryz.prog Xm:=okA (hcA 0 (all_cons UP all_nil)) Go.Proofs.Tryz.func134
abbrev ll:=List A1×(Option A5×Unit)×Int×Unit
abbrev lh:=Int×Unit
abbrev li:=Int×Unit ⊕ Unit
def AI (i:ll)(v:lh)(R:Type)(K:lh ⊕ li->Option R):Option R:=bif decide (v.1<i.2.2.1)then(lAt i.1 v.1).bind fun a=>(HF ((a.1,a.2.1,()),i.2.1.1,())).bind fun b=>bif b.1 then K (.inr (.inl (v.1,())))else K (.inl (IntKind.i64.wrap (v.1+1),()))else K (.inr (.inr ()))
theorem GA:AX AI:=fun i v R K=>Ae (Ac fun _=>Ac fun _=>Ae (Aa) (Aa)) (Aa)
def UO:Tmpl:=⟨(.slot (.slice A0) (.slot (.fn 134 (.prod (.iref Bz) .unit)) (jk 5 (si 2 (jk 10 .nil))))),.nil⟩
def lg:Exs ll li:=xs .ret (fun i p=>⟨jn 4 (.n (p.1)::jn 14 ([])),[]⟩)<|x1 (.exit 0) fun i p=>⟨jn 19 ([]),[]⟩
def lj:=((.i (.i (.i (.v .n)))):Pk UO.ty _ _)
def xH:Cfg:={ti:=Ar,ents:=[Xm],ann:=[(2,Ao UO 0 (spP lj) AI lg.E)],lent:=0}
def Co (x:List A1×(Option A5×Unit)×Unit):Option (Int×Unit):=(Ay (fun v=>AI (x.1,x.2.1,(x.1.length:Int),()) v _ some) (0,())).bind fun p=>Au p (fun p=>some (p.1,())) fun p=>some (-1,())
def xG:Ent:=⟨194,⟨(.slot (.slice A0) (.slot (.fn 134 (.prod (.iref Bz) .unit)) .nil)),.nil⟩,⟨(.slot .i .nil),.nil⟩,Co⟩
theorem lm:CfgOK Go.Proofs.Tryz.prog xH:=hcB (all_cons A58 all_nil)
theorem xF:AP Go.Proofs.Tryz.prog xH (lpc Go.Proofs.Tryz.f194 0):=lkA lm UO lj AI lg [4] GA
theorem A57:Ah Go.Proofs.Tryz.prog xG:=okB lm Go.Proofs.Tryz.func194 xF
def Br (x:List A1×(Option A5×Unit)×Unit):Option (Bool×Unit):=(Co (x.1,x.2.1,())).bind fun v=>some (decide (v.1>=0),())
def xE:Ent:=⟨133,⟨(.slot (.slice A0) (.slot (.fn 134 (.prod (.iref Bz) .unit)) .nil)),.nil⟩,⟨(.slot .bool .nil),.nil⟩,Br⟩
theorem A56:Ah Go.Proofs.Tryz.prog xE:=okA (hcA 0 (all_cons A57 all_nil)) Go.Proofs.Tryz.func133
def HD (x:A1×Option A5×Unit):Option (Bool×Unit):=x.2.1.bind fun v=>(Cc ((v.1,(v.2.1.1,()),v.2.2.1,v.2.2.2.1,v.2.2.2.2.1,v.2.2.2.2.2.1,()),x.1.1,())).bind fun v=>bif !v.1 then some (true,())else x.2.1.bind fun v=>(Cc ((v.1,(v.2.1.1,()),v.2.2.1,v.2.2.2.1,v.2.2.2.2.1,v.2.2.2.2.2.1,()),x.1.2.1,())).bind fun v=>some (!v.1,())
def Xl:Ent:=⟨137,⟨(.slot A0 (.slot (.iref Bz) .nil)),.nil⟩,⟨(.slot .bool .nil),.nil⟩,HD⟩
theorem A55:Ah Go.Proofs.Tryz.prog Xl:=okA (hcA 0 (all_cons UP all_nil)) Go.Proofs.Tryz.func137
abbrev le:=List A1×(Option A5×Unit)×Int×Unit
abbrev l9:=Int×Unit
abbrev la:=Int×Unit ⊕ Unit
def AH (i:le)(v:l9)(R:Type)(K:l9 ⊕ la->Option R):Option R:=bif decide (v.1<i.2.2.1)then(lAt i.1 v.1).bind fun a=>(HD ((a.1,a.2.1,()),i.2.1.1,())).bind fun b=>bif b.1 then K (.inr (.inl (v.1,())))else K (.inl (IntKind.i64.wrap (v.1+1),()))else K (.inr (.inr ()))
theorem Gz:AX AH:=fun i v R K=>Ae (Ac fun _=>Ac fun _=>Ae (Aa) (Aa)) (Aa)
def UN:Tmpl:=⟨(.slot (.slice A0) (.slot (.fn 137 (.prod (.iref Bz) .unit)) (jk 5 (si 2 (jk 10 .nil))))),.nil⟩
def l8:Exs le la:=xs .ret (fun i p=>⟨jn 4 (.n (p.1)::jn 14 ([])),[]⟩)<|x1 (.exit 0) fun i p=>⟨jn 19 ([]),[]⟩
def lc:=((.i (.i (.i (.v .n)))):Pk UN.ty _ _)
def xx:Cfg:={ti:=Ar,ents:=[Xl],ann:=[(2,Ao UN 0 (spP lc) AH l8.E)],lent:=0}
def Cn (x:List A1×(Option A5×Unit)×Unit):Option (Int×Unit):=(Ay (fun v=>AH (x.1,x.2.1,(x.1.length:Int),()) v _ some) (0,())).bind fun p=>Au p (fun p=>some (p.1,())) fun p=>some (-1,())
def xw:Ent:=⟨195,⟨(.slot (.slice A0) (.slot (.fn 137 (.prod (.iref Bz) .unit)) .nil)),.nil⟩,⟨(.slot .i .nil),.nil⟩,Cn⟩
theorem lf:CfgOK Go.Proofs.Tryz.prog xx:=hcB (all_cons A55 all_nil)
theorem xv:AP Go.Proofs.Tryz.prog xx (lpc Go.Proofs.Tryz.f195 0):=lkA lf UN lc AH l8 [4] Gz
theorem A52:Ah Go.Proofs.Tryz.prog xw:=okB lf Go.Proofs.Tryz.func195 xv
def Bq (x:List A1×(Option A5×Unit)×Unit):Option (Bool×Unit):=(Cn (x.1,x.2.1,())).bind fun v=>some (decide (v.1>=0),())
def xu:Ent:=⟨136,⟨(.slot (.slice A0) (.slot (.fn 137 (.prod (.iref Bz) .unit)) .nil)),.nil⟩,⟨(.slot .bool .nil),.nil⟩,Bq⟩
theorem A51:Ah Go.Proofs.Tryz.prog xu:=okA (hcA 0 (all_cons A52 all_nil)) Go.Proofs.Tryz.func136
def Gl (x:A5×Unit):Option (Bool×Unit):=(GJ ((x.1.2.1.1,()),())).bind fun v=>bif v.1 then(EE (x.1.2.2.2.1,())).bind fun v=>bif v.1 then(DM (x.1.2.2.2.2.1,())).bind fun v=>bif v.1 then(EW ((x.1.2.1.1,()),())).bind fun v=>(BB (x.1.2.2.2.2.2.1,v.1,999,())).bind fun v=>bif v.1 then(C3 ((x.1.1,(x.1.2.1.1,()),x.1.2.2.1,x.1.2.2.2.1,x.1.2.2.2.2.1,x.1.2.2.2.2.2.1,()),())).bind fun v=>bif v.1 then(Br (x.1.2.2.2.1,(some (x.1.1,(x.1.2.1.1,()),x.1.2.2.1,x.1.2.2.2.1,x.1.2.2.2.2.1,x.1.2.2.2.2.2.1,()),()),())).bind fun v=>bif !v.1 then(Bq (x.1.2.2.2.2.1,(some (x.1.1,(x.1.2.1.1,()),x.1.2.2.1,x.1.2.2.2.1,x.1.2.2.2.2.1,x.1.2.2.2.2.2.1,()),()),())).bind fun v=>some (!v.1,())else some (false,())else some (false,())else some (false,())else some (false,())else some (false,())else some (false,())
def xt:Ent:=⟨65,⟨(.slot Bz .nil),.nil⟩,⟨(.slot .bool .nil),.nil⟩,Gl⟩
theorem A50:Ah Go.Proofs.Tryz.prog xt:=okA (hcA 0 (all_cons A9a (all_cons mI (all_cons V1 (all_cons A5o (all_cons L7 (all_cons A5b (all_cons A56 (all_cons A51 all_nil))))))))) Go.Proofs.Tryz.func65
def Ff (x:A6×Unit):Option (Bool×Unit):=bif x.1.1==1 then(G3 (x.1.2.2.1,())).bind fun v=>(BB (x.1.1,1,6,())).bind fun a=>bif a.1 then(BG (x.1.2.1,())).bind fun b=>bif b.1 then bif v.1 then some (0==0&&(0==0&&(0==0&&(x.1.2.2.2.1==0&&(x.1.2.2.2.2.1==0&&(x.1.2.2.2.2.2.1==0&&true))))),())else some (false,())else some (false,())else some (false,())else bif x.1.1==2 then(E8 (x.1.2.2.2.1,())).bind fun v=>(BB (x.1.1,1,6,())).bind fun a=>bif a.1 then(BG (x.1.2.1,())).bind fun b=>bif b.1 then bif v.1 then some (0==0&&(0==0&&(x.1.2.2.1==0&&(0==0&&(x.1.2.2.2.2.1==0&&(x.1.2.2.2.2.2.1==0&&true))))),())else some (false,())else some (false,())else some (false,())else bif x.1.1==3 then(E8 (x.1.2.2.2.1,())).bind fun v=>bif v.1 then(GV (x.1.2.2.2.2.2.1,())).bind fun v=>(BB (x.1.1,1,6,())).bind fun a=>bif a.1 then(BG (x.1.2.1,())).bind fun b=>bif b.1 then bif v.1 then some (0==0&&(0==0&&(x.1.2.2.1==0&&(0==0&&(x.1.2.2.2.2.1==0&&(0==0&&true))))),())else some (false,())else some (false,())else some (false,())else(BB (x.1.1,1,6,())).bind fun v=>bif v.1 then(BG (x.1.2.1,())).bind fun v=>bif v.1 then some (false,())else some (false,())else some (false,())else bif x.1.1==4 then(E8 (x.1.2.2.2.1,())).bind fun v=>bif v.1 then(BB (x.1.2.2.2.2.1,x.1.2.2.2.1,5,())).bind fun v=>(BB (x.1.1,1,6,())).bind fun a=>bif a.1 then(BG (x.1.2.1,())).bind fun b=>bif b.1 then bif v.1 then some (0==0&&(0==0&&(x.1.2.2.1==0&&(0==0&&(0==0&&(x.1.2.2.2.2.2.1==0&&true))))),())else some (false,())else some (false,())else some (false,())else(BB (x.1.1,1,6,())).bind fun v=>bif v.1 then(BG (x.1.2.1,())).bind fun v=>bif v.1 then some (false,())else some (false,())else some (false,())else(BB (x.1.1,1,6,())).bind fun v=>bif v.1 then(BG (x.1.2.1,())).bind fun v=>bif v.1 then some (0==0&&(0==0&&(x.1.2.2.1==0&&(x.1.2.2.2.1==0&&(x.1.2.2.2.2.1==0&&(x.1.2.2.2.2.2.1==0&&true))))),())else some (false,())else some (false,())
def Xk:Ent:=⟨66,⟨(.slot YOp .nil),.nil⟩,⟨(.slot .bool .nil),.nil⟩,Ff⟩
theorem A4z:Ah Go.Proofs.Tryz.prog Xk:=okA (hcA 0 (all_cons mj (all_cons L7 (all_cons NI (all_cons PD (all_cons YO all_nil)))))) Go.Proofs.Tryz.func66
def DS (x:A3×Int×Unit):Option (Int×Unit):=(C1 (x.1.1,x.2.1,())).bind fun v=>some (v.1,())
def Xj:Ent:=⟨197,⟨(.slot Ad (.slot .i .nil)),.nil⟩,⟨(.slot .i .nil),.nil⟩,DS⟩
theorem A4y:Ah Go.Proofs.Tryz.prog Xj:=okA (hcA 0 (all_cons PC all_nil)) Go.Proofs.Tryz.func197
abbrev l6:=List A3×Int×Unit×Int×Unit
abbrev l3:=Int×Int×Unit
abbrev l4:=Int×Unit
def AA (i:l6)(v:l3)(R:Type)(K:l3 ⊕ l4->Option R):Option R:=bif decide (v.1<v.2.1)then(lAt i.1 (IntKind.i64.wrap (Int.fdiv (IntKind.u64.wrap (IntKind.i64.wrap (v.1+v.2.1))) (2 ^ min (Int.toNat 1) (IntKind.bits IntKind.u64))))).bind fun a=>(DS ((a.1,a.2.1,a.2.2.1,a.2.2.2.1,a.2.2.2.2.1,a.2.2.2.2.2.1,a.2.2.2.2.2.2.1,a.2.2.2.2.2.2.2.1,a.2.2.2.2.2.2.2.2.1,()),i.2.1,())).bind fun b=>bif decide (b.1<0)then K (.inl (IntKind.i64.wrap (IntKind.i64.wrap (Int.fdiv (IntKind.u64.wrap (IntKind.i64.wrap (v.1+v.2.1))) (2 ^ min (Int.toNat 1) (IntKind.bits IntKind.u64)))+1),v.2.1,()))else K (.inl (v.1,IntKind.i64.wrap (Int.fdiv (IntKind.u64.wrap (IntKind.i64.wrap (v.1+v.2.1))) (2 ^ min (Int.toNat 1) (IntKind.bits IntKind.u64))),()))else K (.inr (v.1,()))
theorem F9:AX AA:=fun i v R K=>Ae (Ac fun _=>Ac fun _=>Ae (Aa) (Aa)) (Aa)
def UM:Tmpl:=⟨(.slot (.slice Ad) (.slot .i (.slot (.fn 197 .unit) (jk 5 (si 3 (jk 38 .nil)))))),.nil⟩
def kZ:Exs l6 l4:=x1 (.exit 0) fun i p=>⟨AV.pv (.slice Ad) i.1::.n (i.2.1)::AV.pv (.fn 197 .unit) i.2.2.1::jn 5 (.n (i.2.2.2.1)::.n (p.1)::jn 39 ([])),[]⟩
def l5:=((.i (.i (.i (.i (.v (.v .n)))))):Pk UM.ty _ _)
def xr:Cfg:={ti:=Ar,ents:=[Xj],ann:=[(3,Ao UM 0 (spP l5) AA kZ.E)],lent:=0}
def AW (x:List A3×Int×Unit×Unit):Option (Int×Bool×Unit):=(Ay (fun v=>AA (x.1,x.2.1,x.2.2.1,(x.1.length:Int),()) v _ some) (0,(x.1.length:Int),())).bind fun p=>bif decide (p.1<(x.1.length:Int))then(lAt x.1 p.1).bind fun v=>(DS ((v.1,v.2.1,v.2.2.1,v.2.2.2.1,v.2.2.2.2.1,v.2.2.2.2.2.1,v.2.2.2.2.2.2.1,v.2.2.2.2.2.2.2.1,v.2.2.2.2.2.2.2.2.1,()),x.2.1,())).bind fun v=>some (p.1,v.1==0,())else some (p.1,false,())
def Xi:Ent:=⟨196,⟨(.slot (.slice Ad) (.slot .i (.slot (.fn 197 .unit) .nil))),.nil⟩,⟨(.slot .i (.slot .bool .nil)),.nil⟩,AW⟩
theorem l7:CfgOK Go.Proofs.Tryz.prog xr:=hcB (all_cons A4y all_nil)
theorem xq:AP Go.Proofs.Tryz.prog xr (lpc Go.Proofs.Tryz.f196 0):=lkA l7 UM l5 AA kZ [0,1,2,8,9] F9
theorem A4x:Ah Go.Proofs.Tryz.prog Xi:=okB l7 Go.Proofs.Tryz.func196 xq
def FE (x:B3):Option (Int×Int×Int×Int×Int×Int×Int×Bool×Unit):=(CM ((x.1,x.2.1,1,x.2.2.1,0,1000,0,[],[],()),())).bind fun v=>bif !v.1 then some (0,0,0,0,0,0,0,false,())else some (x.1,x.2.1,1,x.2.2.1,0,1000,0,true,())
def Xh:Ent:=⟨199,⟨(si 3 .nil),.nil⟩,⟨(.agg (si 7 (.const (AV.nils) (.const (AV.nils) .nil))) (.slot .bool .nil)),.nil⟩,FE⟩
theorem A4w:Ah Go.Proofs.Tryz.prog Xh:=okA (hcA 0 (all_cons lS all_nil)) Go.Proofs.Tryz.func199
def Xf:Go.Shelf.Ren:=⟨fun|22=>200|29=>238|30=>239|n=>n,fun|24=>36|9=>93|n=>n,fun|n=>n⟩
theorem Abb:InsL Go.Proofs.Tryz.prog Xf true 9 where
 mixed:=by kernel_rfl
 f22:=⟨ "slices.Insert[[]loop.example/g01924/impl.Transaction,loop.example/g01924/impl.Transaction]",by decide,Go.Proofs.Tryz.func200.trans (congrArg some (by kernel_rfl))⟩
 f29:=⟨_,Go.Proofs.Tryz.func238,by kernel_rfl,by kernel_rfl,by kernel_rfl,by kernel_rfl⟩
 a9:=Go.Proofs.Tryz.isAgg93
 z9:=Go.Proofs.Tryz.sizeOf93
 t0:=Go.Proofs.Tryz.underlying0
 a0:=Go.Proofs.Tryz.isAgg0
 z0:=Go.Proofs.Tryz.sizeOf0
 v0:=Go.Proofs.Tryz.zeroValue0
 t3:=Go.Proofs.Tryz.underlying3
 a3:=Go.Proofs.Tryz.isAgg3
 z3:=Go.Proofs.Tryz.sizeOf3
 v3:=Go.Proofs.Tryz.zeroValue3
 t4:=Go.Proofs.Tryz.underlying4
 a4:=Go.Proofs.Tryz.isAgg4
 z4:=Go.Proofs.Tryz.sizeOf4
 v4:=Go.Proofs.Tryz.zeroValue4
 t24:=Go.Proofs.Tryz.underlying36
 a24:=Go.Proofs.Tryz.isAgg36
 z24:=Go.Proofs.Tryz.sizeOf36
 v24:=Go.Proofs.Tryz.zeroValue36
def Dt (x:Int×List (Int×Int×Int×Int×Int×Int×Int×List (Int×Int×Unit)×List (Int×Int×Unit)×Unit)×List (Int×Int×Int×Int×Int×Int×Int×List (Int×Int×Unit)×List (Int×Int×Unit)×Unit)×Unit):Option (List (Int×Int×Int×Int×Int×Int×Int×List (Int×Int×Unit)×List (Int×Int×Unit)×Unit)×Unit):=Qo (α:=Int×Int×Int×Int×Int×Int×Int×List (Int×Int×Unit)×List (Int×Int×Unit)×Unit) 338311270084 x
def Adm:Cfg:={ti:=Ar,ents:=[],ann:=[],lent:=2}
def Xg:Ent:=⟨200,⟨(.own 0 (.slot Ty.i (.own 1 .nil))),(.tree false 0 (Ty.prod Ty.i (Ty.prod Ty.i (Ty.prod Ty.i (Ty.prod Ty.i (Ty.prod Ty.i (Ty.prod Ty.i (Ty.prod Ty.i (Ty.prod (Ty.slice (Ty.prod
 Ty.i (Ty.prod Ty.i Ty.unit))) (Ty.prod (Ty.slice A0) Ty.unit))))))))) (.tree false 0 (Ty.prod Ty.i (Ty.prod Ty.i (Ty.prod Ty.i (Ty.prod Ty.i (Ty.prod Ty.i (Ty.prod Ty.i (Ty.prod Ty.i (Ty.prod (Ty.slice (Ty.prod
 Ty.i (Ty.prod Ty.i Ty.unit))) (Ty.prod (Ty.slice A0) Ty.unit))))))))) .nil))⟩,⟨(.own 2 .nil),(.gone (.gone (.tree false 0 (Ty.prod Ty.i (Ty.prod Ty.i (Ty.prod Ty.i (Ty.prod Ty.i (Ty.prod Ty.i (Ty.prod Ty.i (Ty.prod Ty.i (Ty.prod (Ty.slice (Ty.prod
 Ty.i (Ty.prod Ty.i Ty.unit))) (Ty.prod (Ty.slice A0) Ty.unit))))))))) .nil)))⟩,Dt⟩
theorem A4v:Ah Go.Proofs.Tryz.prog Xg:=A66 (ρ:=Xf) (t:=Ty.prod Ty.i (Ty.prod Ty.i (Ty.prod Ty.i (Ty.prod Ty.i (Ty.prod Ty.i (Ty.prod Ty.i (Ty.prod Ty.i (Ty.prod (Ty.slice (Ty.prod
 Ty.i (Ty.prod Ty.i Ty.unit))) (Ty.prod (Ty.slice A0) Ty.unit))))))))) zB Abb rfl (by decide) rfl
def Aba:Cfg:={ti:=Ar,ents:=[Xg,Xi,Xh],ann:=[],lent:=5,hid:=[((5,0),[2,5])],pre:=[(some (0,2))]}
def FI (x:Int×Int×Int×Int×Int×Int×Bool×Int×A7):Option (Int×Bool×Int×List (List A2)×List A1×List A1×List A3×Unit):=(AW (x.2.2.2.2.2.2.2.2.2.1,x.2.1,(),())).bind fun v=>bif v.2.1 then some (6,x.2.2.2.2.2.2.1,x.2.2.2.2.2.2.2.1,x.2.2.2.2.2.2.2.2.1,x.2.2.2.2.2.2.2.2.2.2.1,x.2.2.2.2.2.2.2.2.2.2.2.1,x.2.2.2.2.2.2.2.2.2.1,())else bif (x.2.2.2.2.2.2.2.2.2.1.length:Int)==6 then some (6,x.2.2.2.2.2.2.1,x.2.2.2.2.2.2.2.1,x.2.2.2.2.2.2.2.2.1,x.2.2.2.2.2.2.2.2.2.2.1,x.2.2.2.2.2.2.2.2.2.2.2.1,x.2.2.2.2.2.2.2.2.2.1,())else(FE (x.2.1,x.2.2.1,x.2.2.2.2.2.2.2.1,())).bind fun a=>(Dt (v.1,x.2.2.2.2.2.2.2.2.2.1,[(a.1,a.2.1,a.2.2.1,a.2.2.2.1,a.2.2.2.2.1,a.2.2.2.2.2.1,a.2.2.2.2.2.2.1,[],[],())],())).bind fun v=>some (0,x.2.2.2.2.2.2.1,x.2.2.2.2.2.2.2.1,x.2.2.2.2.2.2.2.2.1,x.2.2.2.2.2.2.2.2.2.2.1,x.2.2.2.2.2.2.2.2.2.2.2.1,v.1,())
def Xe:Ent:=⟨142,⟨(.ptr 0 0 0 (.agg (si 6 .nil) .nil)),(.cells 6 (.slot .bool (.own 1 (.own 2 (.own 3 (.own 4 (.slot .i .nil)))))) (.tree false 0 (.slice Af) (.tree false 0 Ad (.lst false A0 (.lst false A0 .nil)))))⟩,⟨(.agg (.slot .i (.const (AV.nils) .nil)) .nil),(.cells 6 (.slot .bool (.own 1 (.own 5 (.own 3 (.own 4 (.slot .i .nil)))))) (.tree false 0 (.slice Af) (.gone (.lst false A0 (.lst false A0 (.tree false 0 Ad .nil))))))⟩,FI⟩
theorem A4u:Ah Go.Proofs.Tryz.prog Xe:=okA (C:=Aba) (hcB (all_cons A4v (all_cons A4x (all_cons A4w all_nil)))) Go.Proofs.Tryz.func142
def Dj (x:A1×Option A6×Unit):Option (Bool×Unit):=x.2.1.bind fun v=>some (x.1.1==v.2.1,())
def Rs:Ent:=⟨145,⟨(.slot A0 (.slot (.iref YOp) .nil)),.nil⟩,⟨(.slot .bool .nil),.nil⟩,Dj⟩
theorem kY:Ah Go.Proofs.Tryz.prog Rs:=okA (hcA 0 all_nil) Go.Proofs.Tryz.func145
abbrev kV:=List A1×(Option A6×Unit)×Int×Unit
abbrev kQ:=Int×Unit
abbrev kT:=Int×Unit ⊕ Unit
def AY (i:kV)(v:kQ)(R:Type)(K:kQ ⊕ kT->Option R):Option R:=bif decide (v.1<i.2.2.1)then(lAt i.1 v.1).bind fun a=>(Dj ((a.1,a.2.1,()),i.2.1.1,())).bind fun b=>bif b.1 then K (.inr (.inl (v.1,())))else K (.inl (IntKind.i64.wrap (v.1+1),()))else K (.inr (.inr ()))
theorem Ha:AX AY:=fun i v R K=>Ae (Ac fun _=>Ac fun _=>Ae (Aa) (Aa)) (Aa)
def UL:Tmpl:=⟨(.slot (.slice A0) (.slot (.fn 145 (.prod (.iref YOp) .unit)) (jk 5 (si 2 (jk 10 .nil))))),.nil⟩
def kP:Exs kV kT:=xs .ret (fun i p=>⟨jn 4 (.n (p.1)::jn 14 ([])),[]⟩)<|x1 (.exit 0) fun i p=>⟨jn 19 ([]),[]⟩
def kU:=((.i (.i (.i (.v .n)))):Pk UL.ty _ _)
def xp:Cfg:={ti:=Ar,ents:=[Rs],ann:=[(2,Ao UL 0 (spP kU) AY kP.E)],lent:=0}
def BF (x:List A1×(Option A6×Unit)×Unit):Option (Int×Unit):=(Ay (fun v=>AY (x.1,x.2.1,(x.1.length:Int),()) v _ some) (0,())).bind fun p=>Au p (fun p=>some (p.1,())) fun p=>some (-1,())
def Xd:Ent:=⟨195,⟨(.slot (.slice A0) (.slot (.fn 145 (.prod (.iref YOp) .unit)) .nil)),.nil⟩,⟨(.slot .i .nil),.nil⟩,BF⟩
theorem kX:CfgOK Go.Proofs.Tryz.prog xp:=hcB (all_cons kY all_nil)
theorem xn:AP Go.Proofs.Tryz.prog xp (lpc Go.Proofs.Tryz.f195 0):=lkA kX UL kU AY kP [4] Ha
theorem A4s:Ah Go.Proofs.Tryz.prog Xd:=okB kX Go.Proofs.Tryz.func195 xn
abbrev kN:=A6
abbrev kK:=Int×Int×List A1×Unit
abbrev kL:=Int×List A1×Unit
def Bf (i:kN)(v:kK)(R:Type)(K:kK ⊕ kL->Option R):Option R:=bif decide (v.2.1<(v.2.2.1.length:Int))then if 0<=v.2.1/\v.2.1<(v.2.2.1.length:Int)then v.2.2.1[0+v.2.1.toNat]?.bind fun a=>(Dj ((a.1,a.2.1,()),some (i.1,i.2.1,i.2.2.1,i.2.2.2.1,i.2.2.2.2.1,i.2.2.2.2.2.1,()),())).bind fun b=>bif !b.1 then if 0<=v.1/\v.1<(v.2.2.1.length:Int)then v.2.2.1[0+v.1.toNat]?.bind fun c=>K (.inl (IntKind.i64.wrap (v.1+1),IntKind.i64.wrap (v.2.1+1),v.2.2.1.set (0+v.1.toNat) (a.1,a.2.1,()),()))else none else K (.inl (v.1,IntKind.i64.wrap (v.2.1+1),v.2.2.1,()))else none else K (.inr (v.1,v.2.2.1,()))
theorem IW:AX Bf:=fun i v R K=>Ae (Aq (Ac fun _=>Ac fun _=>Ae (Aq (Ac fun _=>Aa)) (Aa))) (Aa)
def UK:Tmpl:=⟨(.own 0 (.fn 145 (.ptr 1 0 0 .nil) (jk 3 (si 2 (jk 35 .nil))))),(.lst false A0 (.cells 6 (si 6 .nil) .nil))⟩
def kJ:Exs kN kL:=x1 (.exit 0) fun i p=>⟨AV.own 0 none none::jn 4 (.n (p.1)::jn 36 ([])),[some (Cont.lst false A0 p.2.1),some (Cont.cells 6 [[AV.pv .i i.1,AV.pv .i i.2.1,AV.pv .i i.2.2.1,AV.pv .i i.2.2.2.1,AV.pv .i i.2.2.2.2.1,AV.pv .i i.2.2.2.2.2.1]])]⟩
def kM:=((.v (.v (.v (.i (.i (.i (.i (.i (.i .n))))))))):Pk UK.ty _ _)
def xm:Cfg:={ti:=Ar,ents:=[Xd,Rs],ann:=[(5,Ao UK 2 (spP kM) Bf kJ.E)],lent:=2,cut:=[none]}
def BQ (x:List A1×A6):Option (Int×Int×Int×Int×Int×Int×List A1×Unit):=(BF (x.1,(some (x.2.1,x.2.2.1,x.2.2.2.1,x.2.2.2.2.1,x.2.2.2.2.2.1,x.2.2.2.2.2.2.1,()),()),())).bind fun v=>bif v.1==-1 then some (x.2.1,x.2.2.1,x.2.2.2.1,x.2.2.2.2.1,x.2.2.2.2.2.1,x.2.2.2.2.2.2.1,x.1,())else(Ay (fun v=>Bf (x.2.1,x.2.2.1,x.2.2.2.1,x.2.2.2.2.1,x.2.2.2.2.2.1,x.2.2.2.2.2.2.1,()) v _ some) (v.1,IntKind.i64.wrap (v.1+1),x.1,())).bind fun p=>if 0<=p.1/\p.1<=(p.2.1.length:Int)/\(p.2.1.length:Int)<=(p.2.1.length:Int)then if(0:Int)<=0/\0<=p.1/\p.1<=(↑((List.take (0+p.1.toNat) p.2.1++List.replicate ((p.2.1.length:Int).toNat-p.1.toNat) (0,0,())++List.drop (0+p.1.toNat+((p.2.1.length:Int).toNat-p.1.toNat)) p.2.1).length):Int)then some (x.2.1,x.2.2.1,x.2.2.2.1,x.2.2.2.2.1,x.2.2.2.2.2.1,x.2.2.2.2.2.2.1,List.take (p.1.toNat-Int.toNat 0) (List.take (0+p.1.toNat) p.2.1++List.replicate ((p.2.1.length:Int).toNat-p.1.toNat) (0,0,())++List.drop (0+p.1.toNat+((p.2.1.length:Int).toNat-p.1.toNat)) p.2.1),())else none else none
def Xc:Ent:=⟨144,⟨(.own 0 (.fn 145 (.ptr 1 0 0 .nil) .nil)),(.lst false A0 (.cells 6 (si 6 .nil) .nil))⟩,⟨(.own 2 .nil),(.gone (.cells 6 (si 6 .nil) (.lst false A0 .nil)))⟩,BQ⟩
theorem kO:CfgOK Go.Proofs.Tryz.prog xm:=hcB (all_cons A4s (all_cons kY all_nil))
theorem xl:AP Go.Proofs.Tryz.prog xm (lpc Go.Proofs.Tryz.f144 0):=lkA kO UK kM Bf kJ [0,5] IW
theorem A4r:Ah Go.Proofs.Tryz.prog Xc:=okB kO Go.Proofs.Tryz.func144 xl
def HG (x:A1×Option Int×Unit):Option (Bool×Unit):=x.2.1.bind fun v=>some (x.1.1==v,())
def Xb:Ent:=⟨270,⟨(.slot A0 (.slot (.iref .i) .nil)),.nil⟩,⟨(.slot .bool .nil),.nil⟩,HG⟩
theorem A4q:Ah Go.Proofs.Tryz.prog Xb:=okA (hcA 0 all_nil) Go.Proofs.Tryz.func270
abbrev kH:=List A1×(Option Int×Unit)×Int×Unit
abbrev kD:=Int×Unit
abbrev kF:=Int×Unit ⊕ Unit
def Bd (i:kH)(v:kD)(R:Type)(K:kD ⊕ kF->Option R):Option R:=bif decide (v.1<i.2.2.1)then(lAt i.1 v.1).bind fun a=>(HG ((a.1,a.2.1,()),i.2.1.1,())).bind fun b=>bif b.1 then K (.inr (.inl (v.1,())))else K (.inl (IntKind.i64.wrap (v.1+1),()))else K (.inr (.inr ()))
theorem HS:AX Bd:=fun i v R K=>Ae (Ac fun _=>Ac fun _=>Ae (Aa) (Aa)) (Aa)
def UJ:Tmpl:=⟨(.slot (.slice A0) (.slot (.fn 270 (.prod (.iref .i) .unit)) (jk 5 (si 2 (jk 10 .nil))))),.nil⟩
def kB:Exs kH kF:=xs .ret (fun i p=>⟨jn 4 (.n (p.1)::jn 14 ([])),[]⟩)<|x1 (.exit 0) fun i p=>⟨jn 19 ([]),[]⟩
def kG:=((.i (.i (.i (.v .n)))):Pk UJ.ty _ _)
def xk:Cfg:={ti:=Ar,ents:=[Xb],ann:=[(2,Ao UJ 0 (spP kG) Bd kB.E)],lent:=0}
def BW (x:List A1×(Option Int×Unit)×Unit):Option (Int×Unit):=(Ay (fun v=>Bd (x.1,x.2.1,(x.1.length:Int),()) v _ some) (0,())).bind fun p=>Au p (fun p=>some (p.1,())) fun p=>some (-1,())
def xj:Ent:=⟨269,⟨(.slot (.slice A0) (.slot (.fn 270 (.prod (.iref .i) .unit)) .nil)),.nil⟩,⟨(.slot .i .nil),.nil⟩,BW⟩
theorem kI:CfgOK Go.Proofs.Tryz.prog xk:=hcB (all_cons A4q all_nil)
theorem xi:AP Go.Proofs.Tryz.prog xk (lpc Go.Proofs.Tryz.f269 0):=lkA kI UJ kG Bd kB [4] HS
theorem A4p:Ah Go.Proofs.Tryz.prog xj:=okB kI Go.Proofs.Tryz.func269 xi
def IR (x:A3×Int×Unit):Option (Int×Unit):=(BW (x.1.2.2.2.2.2.2.2.2.1,(some x.2.1,()),())).bind fun v=>some (v.1,())
def Xa:Ent:=⟨240,⟨(.slot Ad (.slot .i .nil)),.nil⟩,⟨(.slot .i .nil),.nil⟩,IR⟩
theorem A4o:Ah Go.Proofs.Tryz.prog Xa:=okA (hcA 0 (all_cons A4p all_nil)) Go.Proofs.Tryz.func240
abbrev kz:=List A2×Int×Unit
abbrev kw:=Int×Unit
abbrev kx:=Int×Unit ⊕ Int×Unit
def CW (i:kz)(v:kw)(R:Type)(K:kw ⊕ kx->Option R):Option R:=bif decide (v.1>=0)then(lAt i.1 v.1).bind fun a=>bif decide (a.2.2.1>i.2.1)then K (.inl (IntKind.i64.wrap (v.1-1),()))else K (.inr (.inl (v.1,())))else K (.inr (.inr (v.1,())))
theorem Nu:AX CW:=fun i v R K=>Ae (Ac fun _=>Ae (Aa) (Aa)) (Aa)
def UI:Tmpl:=⟨(.slot (.slice Af) (.slot .i (jk 3 (.slot .i (jk 17 .nil))))),.nil⟩
def ku:Exs kz kx:=xs (.exit 0) (fun i p=>⟨jn 5 (.n (p.1)::jn 17 ([])),[]⟩)<|x1 (.exit 0) fun i p=>⟨jn 5 (.n (p.1)::jn 17 ([])),[]⟩
def ky:=((.i (.i (.v .n))):Pk UI.ty _ _)
def xh:Cfg:={ti:=Ar,ents:=[],ann:=[(2,Ao UI 0 (spP ky) CW ku.E)],lent:=0}
def IP (x:List A2×Int×Unit):Option (Int×Unit):=(Ay (fun v=>CW (x.1,x.2.1,()) v _ some) (IntKind.i64.wrap ((x.1.length:Int)-1),())).bind fun p=>Au p (fun p=>some (p.1,())) fun p=>some (p.1,())
def xg:Ent:=⟨271,⟨(.slot (.slice Af) (.slot .i .nil)),.nil⟩,⟨(.slot .i .nil),.nil⟩,IP⟩
theorem kA:CfgOK Go.Proofs.Tryz.prog xh:=hcB all_nil
theorem xf:AP Go.Proofs.Tryz.prog xh (lpc Go.Proofs.Tryz.f271 0):=lkA kA UI ky CW ku [5] Nu
theorem A4n:Ah Go.Proofs.Tryz.prog xg:=okB kA Go.Proofs.Tryz.func271 xf
def GH (x:A4×A3×Int×Unit):Option A6:=(lAt x.1.1 x.2.2.1).bind fun v=>bif x.2.1.2.1==2 then(IP (v,x.2.1.2.2.2.1,())).bind fun a=>bif decide (a.1<0)then some (0,0,0,0,0,3,())else bif x.2.1.2.1==4 then(lAt v a.1).bind fun b=>bif decide (b.2.2.1>x.2.1.2.2.2.1)then some (0,0,0,0,0,3,())else(lAt v a.1).bind fun v=>some (v.1,v.2.1,v.2.2.1,v.2.2.2.1,v.2.2.2.2.1,0,())else(lAt v a.1).bind fun v=>some (v.1,v.2.1,v.2.2.1,v.2.2.2.1,v.2.2.2.2.1,0,())else bif decide (IntKind.i64.wrap ((v.length:Int)-1)<0)then some (0,0,0,0,0,3,())else bif x.2.1.2.1==4 then(lAt v (IntKind.i64.wrap ((v.length:Int)-1))).bind fun a=>bif decide (a.2.2.1>x.2.1.2.2.2.1)then some (0,0,0,0,0,3,())else(lAt v (IntKind.i64.wrap ((v.length:Int)-1))).bind fun v=>some (v.1,v.2.1,v.2.2.1,v.2.2.2.1,v.2.2.2.2.1,0,())else(lAt v (IntKind.i64.wrap ((v.length:Int)-1))).bind fun v=>some (v.1,v.2.1,v.2.2.1,v.2.2.2.1,v.2.2.2.2.1,0,())
def X9:Ent:=⟨241,⟨(.slot Bo (.slot Ad (.slot .i .nil))),.nil⟩,⟨(.agg (si 5 .nil) (.slot .i .nil)),.nil⟩,GH⟩
theorem A4m:Ah Go.Proofs.Tryz.prog X9:=okA (hcA 0 (all_cons A4n all_nil)) Go.Proofs.Tryz.func241
def CZ (x:A1×Option Int×Unit):Option (Bool×Unit):=x.2.1.bind fun v=>some (x.1.2.1==v,())
def Rr:Ent:=⟨282,⟨(.slot A0 (.slot (.iref .i) .nil)),.nil⟩,⟨(.slot .bool .nil),.nil⟩,CZ⟩
theorem kt:Ah Go.Proofs.Tryz.prog Rr:=okA (hcA 0 all_nil) Go.Proofs.Tryz.func282
abbrev kq:=List A1×(Option Int×Unit)×Int×Unit
abbrev km:=Int×Unit
abbrev ko:=Int×Unit ⊕ Unit
def AR (i:kq)(v:km)(R:Type)(K:km ⊕ ko->Option R):Option R:=bif decide (v.1<i.2.2.1)then(lAt i.1 v.1).bind fun a=>(CZ ((a.1,a.2.1,()),i.2.1.1,())).bind fun b=>bif b.1 then K (.inr (.inl (v.1,())))else K (.inl (IntKind.i64.wrap (v.1+1),()))else K (.inr (.inr ()))
theorem GR:AX AR:=fun i v R K=>Ae (Ac fun _=>Ac fun _=>Ae (Aa) (Aa)) (Aa)
def UH:Tmpl:=⟨(.slot (.slice A0) (.slot (.fn 282 (.prod (.iref .i) .unit)) (jk 5 (si 2 (jk 10 .nil))))),.nil⟩
def kl:Exs kq ko:=xs .ret (fun i p=>⟨jn 4 (.n (p.1)::jn 14 ([])),[]⟩)<|x1 (.exit 0) fun i p=>⟨jn 19 ([]),[]⟩
def kp:=((.i (.i (.i (.v .n)))):Pk UH.ty _ _)
def xe:Cfg:={ti:=Ar,ents:=[Rr],ann:=[(2,Ao UH 0 (spP kp) AR kl.E)],lent:=0}
def BD (x:List A1×(Option Int×Unit)×Unit):Option (Int×Unit):=(Ay (fun v=>AR (x.1,x.2.1,(x.1.length:Int),()) v _ some) (0,())).bind fun p=>Au p (fun p=>some (p.1,())) fun p=>some (-1,())
def X8:Ent:=⟨194,⟨(.slot (.slice A0) (.slot (.fn 282 (.prod (.iref .i) .unit)) .nil)),.nil⟩,⟨(.slot .i .nil),.nil⟩,BD⟩
theorem kr:CfgOK Go.Proofs.Tryz.prog xe:=hcB (all_cons kt all_nil)
theorem xd:AP Go.Proofs.Tryz.prog xe (lpc Go.Proofs.Tryz.f194 0):=lkA kr UH kp AR kl [4] GR
theorem A4l:Ah Go.Proofs.Tryz.prog X8:=okB kr Go.Proofs.Tryz.func194 xd
abbrev ki:=Int×Unit
abbrev kf:=Int×Int×List A1×Unit
abbrev kg:=Int×List A1×Unit
def Bg (i:ki)(v:kf)(R:Type)(K:kf ⊕ kg->Option R):Option R:=bif decide (v.2.1<(v.2.2.1.length:Int))then if 0<=v.2.1/\v.2.1<(v.2.2.1.length:Int)then v.2.2.1[0+v.2.1.toNat]?.bind fun a=>(CZ ((a.1,a.2.1,()),some i.1,())).bind fun b=>bif !b.1 then if 0<=v.1/\v.1<(v.2.2.1.length:Int)then v.2.2.1[0+v.1.toNat]?.bind fun c=>K (.inl (IntKind.i64.wrap (v.1+1),IntKind.i64.wrap (v.2.1+1),v.2.2.1.set (0+v.1.toNat) (a.1,a.2.1,()),()))else none else K (.inl (v.1,IntKind.i64.wrap (v.2.1+1),v.2.2.1,()))else none else K (.inr (v.1,v.2.2.1,()))
theorem IX:AX Bg:=fun i v R K=>Ae (Aq (Ac fun _=>Ac fun _=>Ae (Aq (Ac fun _=>Aa)) (Aa))) (Aa)
def UG:Tmpl:=⟨(.own 0 (.fn 282 (.ptr 1 0 0 .nil) (jk 3 (si 2 (jk 35 .nil))))),(.lst false A0 (.cells 1 (.slot .i .nil) .nil))⟩
def ke:Exs ki kg:=x1 (.exit 0) fun i p=>⟨AV.own 0 none none::jn 4 (.n (p.1)::jn 36 ([])),[some (Cont.lst false A0 p.2.1),some (Cont.cells 1 [[AV.pv .i i.1]])]⟩
def kh:=((.v (.v (.v (.i .n)))):Pk UG.ty _ _)
def xc:Cfg:={ti:=Ar,ents:=[X8,Rr],ann:=[(5,Ao UG 2 (spP kh) Bg ke.E)],lent:=2,cut:=[none]}
def Cz (x:List A1×Int×Unit):Option (Int×List A1×Unit):=(BD (x.1,(some x.2.1,()),())).bind fun v=>bif v.1==-1 then some (x.2.1,x.1,())else(Ay (fun v=>Bg (x.2.1,()) v _ some) (v.1,IntKind.i64.wrap (v.1+1),x.1,())).bind fun p=>if 0<=p.1/\p.1<=(p.2.1.length:Int)/\(p.2.1.length:Int)<=(p.2.1.length:Int)then if(0:Int)<=0/\0<=p.1/\p.1<=(↑((List.take (0+p.1.toNat) p.2.1++List.replicate ((p.2.1.length:Int).toNat-p.1.toNat) (0,0,())++List.drop (0+p.1.toNat+((p.2.1.length:Int).toNat-p.1.toNat)) p.2.1).length):Int)then some (x.2.1,List.take (p.1.toNat-Int.toNat 0) (List.take (0+p.1.toNat) p.2.1++List.replicate ((p.2.1.length:Int).toNat-p.1.toNat) (0,0,())++List.drop (0+p.1.toNat+((p.2.1.length:Int).toNat-p.1.toNat)) p.2.1),())else none else none
def xb:Ent:=⟨281,⟨(.own 0 (.fn 282 (.ptr 1 0 0 .nil) .nil)),(.lst false A0 (.cells 1 (.slot .i .nil) .nil))⟩,⟨(.own 2 .nil),(.gone (.cells 1 (.slot .i .nil) (.lst false A0 .nil)))⟩,Cz⟩
theorem kj:CfgOK Go.Proofs.Tryz.prog xc:=hcB (all_cons A4l (all_cons kt all_nil))
theorem xa:AP Go.Proofs.Tryz.prog xc (lpc Go.Proofs.Tryz.f281 0):=lkA kj UG kh Bg ke [0,5] IX
theorem A4k:Ah Go.Proofs.Tryz.prog xb:=okB kj Go.Proofs.Tryz.func281 xa
def GI (x:List A1×Int×Unit):Option (List A1×Unit):=(Ci (x.1,())).bind fun v=>(Cz (v.1,x.2.1,())).bind fun v=>some (v.2.1,())
def X7:Ent:=⟨260,⟨(.slot (.slice A0) (.slot .i .nil)),.nil⟩,⟨(.own 0 .nil),(.lst false A0 .nil)⟩,GI⟩
theorem A4j:Ah Go.Proofs.Tryz.prog X7:=okA (hcA 0 (all_cons A4k (all_cons YQ all_nil))) Go.Proofs.Tryz.func260
def DK (x:A1×Option Int×Unit):Option (Bool×Unit):=x.2.1.bind fun v=>bif x.1.1==v then some (true,())else x.2.1.bind fun v=>some (x.1.2.1==v,())
def Rq:Ent:=⟨283,⟨(.slot A0 (.slot (.iref .i) .nil)),.nil⟩,⟨(.slot .bool .nil),.nil⟩,DK⟩
theorem k9:Ah Go.Proofs.Tryz.prog Rq:=okA (hcA 0 all_nil) Go.Proofs.Tryz.func283
abbrev jY:=List A1×(Option Int×Unit)×Int×Unit
abbrev jV:=Int×Unit
abbrev jW:=Int×Unit ⊕ Unit
def B8 (i:jY)(v:jV)(R:Type)(K:jV ⊕ jW->Option R):Option R:=bif decide (v.1<i.2.2.1)then(lAt i.1 v.1).bind fun a=>(DK ((a.1,a.2.1,()),i.2.1.1,())).bind fun b=>bif b.1 then K (.inr (.inl (v.1,())))else K (.inl (IntKind.i64.wrap (v.1+1),()))else K (.inr (.inr ()))
theorem Hj:AX B8:=fun i v R K=>Ae (Ac fun _=>Ac fun _=>Ae (Aa) (Aa)) (Aa)
def UF:Tmpl:=⟨(.slot (.slice A0) (.slot (.fn 283 (.prod (.iref .i) .unit)) (jk 5 (si 2 (jk 10 .nil))))),.nil⟩
def jU:Exs jY jW:=xs .ret (fun i p=>⟨jn 4 (.n (p.1)::jn 14 ([])),[]⟩)<|x1 (.exit 0) fun i p=>⟨jn 19 ([]),[]⟩
def jX:=((.i (.i (.i (.v .n)))):Pk UF.ty _ _)
def x9:Cfg:={ti:=Ar,ents:=[Rq],ann:=[(2,Ao UF 0 (spP jX) B8 jU.E)],lent:=0}
def BN (x:List A1×(Option Int×Unit)×Unit):Option (Int×Unit):=(Ay (fun v=>B8 (x.1,x.2.1,(x.1.length:Int),()) v _ some) (0,())).bind fun p=>Au p (fun p=>some (p.1,())) fun p=>some (-1,())
def X6:Ent:=⟨195,⟨(.slot (.slice A0) (.slot (.fn 283 (.prod (.iref .i) .unit)) .nil)),.nil⟩,⟨(.slot .i .nil),.nil⟩,BN⟩
theorem jZ:CfgOK Go.Proofs.Tryz.prog x9:=hcB (all_cons k9 all_nil)
theorem x8:AP Go.Proofs.Tryz.prog x9 (lpc Go.Proofs.Tryz.f195 0):=lkA jZ UF jX B8 jU [4] Hj
theorem A4i:Ah Go.Proofs.Tryz.prog X6:=okB jZ Go.Proofs.Tryz.func195 x8
abbrev jS:=Int×Unit
abbrev jP:=Int×Int×List A1×Unit
abbrev jQ:=Int×List A1×Unit
def B5 (i:jS)(v:jP)(R:Type)(K:jP ⊕ jQ->Option R):Option R:=bif decide (v.2.1<(v.2.2.1.length:Int))then if 0<=v.2.1/\v.2.1<(v.2.2.1.length:Int)then v.2.2.1[0+v.2.1.toNat]?.bind fun a=>(DK ((a.1,a.2.1,()),some i.1,())).bind fun b=>bif !b.1 then if 0<=v.1/\v.1<(v.2.2.1.length:Int)then v.2.2.1[0+v.1.toNat]?.bind fun c=>K (.inl (IntKind.i64.wrap (v.1+1),IntKind.i64.wrap (v.2.1+1),v.2.2.1.set (0+v.1.toNat) (a.1,a.2.1,()),()))else none else K (.inl (v.1,IntKind.i64.wrap (v.2.1+1),v.2.2.1,()))else none else K (.inr (v.1,v.2.2.1,()))
theorem Ip:AX B5:=fun i v R K=>Ae (Aq (Ac fun _=>Ac fun _=>Ae (Aq (Ac fun _=>Aa)) (Aa))) (Aa)
def UE:Tmpl:=⟨(.own 0 (.fn 283 (.ptr 1 0 0 .nil) (jk 3 (si 2 (jk 35 .nil))))),(.lst false A0 (.cells 1 (.slot .i .nil) .nil))⟩
def jO:Exs jS jQ:=x1 (.exit 0) fun i p=>⟨AV.own 0 none none::jn 4 (.n (p.1)::jn 36 ([])),[some (Cont.lst false A0 p.2.1),some (Cont.cells 1 [[AV.pv .i i.1]])]⟩
def jR:=((.v (.v (.v (.i .n)))):Pk UE.ty _ _)
def x7:Cfg:={ti:=Ar,ents:=[X6,Rq],ann:=[(5,Ao UE 2 (spP jR) B5 jO.E)],lent:=2,cut:=[none]}
def Ch (x:List A1×Int×Unit):Option (Int×List A1×Unit):=(BN (x.1,(some x.2.1,()),())).bind fun v=>bif v.1==-1 then some (x.2.1,x.1,())else(Ay (fun v=>B5 (x.2.1,()) v _ some) (v.1,IntKind.i64.wrap (v.1+1),x.1,())).bind fun p=>if 0<=p.1/\p.1<=(p.2.1.length:Int)/\(p.2.1.length:Int)<=(p.2.1.length:Int)then if(0:Int)<=0/\0<=p.1/\p.1<=(↑((List.take (0+p.1.toNat) p.2.1++List.replicate ((p.2.1.length:Int).toNat-p.1.toNat) (0,0,())++List.drop (0+p.1.toNat+((p.2.1.length:Int).toNat-p.1.toNat)) p.2.1).length):Int)then some (x.2.1,List.take (p.1.toNat-Int.toNat 0) (List.take (0+p.1.toNat) p.2.1++List.replicate ((p.2.1.length:Int).toNat-p.1.toNat) (0,0,())++List.drop (0+p.1.toNat+((p.2.1.length:Int).toNat-p.1.toNat)) p.2.1),())else none else none
def x6:Ent:=⟨144,⟨(.own 0 (.fn 283 (.ptr 1 0 0 .nil) .nil)),(.lst false A0 (.cells 1 (.slot .i .nil) .nil))⟩,⟨(.own 2 .nil),(.gone (.cells 1 (.slot .i .nil) (.lst false A0 .nil)))⟩,Ch⟩
theorem jT:CfgOK Go.Proofs.Tryz.prog x7:=hcB (all_cons A4i (all_cons k9 all_nil))
theorem x5:AP Go.Proofs.Tryz.prog x7 (lpc Go.Proofs.Tryz.f144 0):=lkA jT UE jR B5 jO [0,5] Ip
theorem A4h:Ah Go.Proofs.Tryz.prog x6:=okB jT Go.Proofs.Tryz.func144 x5
def Ii (x:List A1×Int×Unit):Option (List A1×Unit):=(BJ (x.1,())).bind fun v=>(Ch (v.1,x.2.1,())).bind fun v=>some (v.2.1,())
def X5:Ent:=⟨261,⟨(.slot (.slice A0) (.slot .i .nil)),.nil⟩,⟨(.own 0 .nil),(.lst false A0 .nil)⟩,Ii⟩
theorem A4g:Ah Go.Proofs.Tryz.prog X5:=okA (hcA 0 (all_cons A4h (all_cons Th all_nil))) Go.Proofs.Tryz.func261
def Ab7:Cfg:={ti:=Ar,ents:=[X7,X5],ann:=[],lent:=5,hid:=[((0,1),[0])]}
def DJ (x:Nat×Bool×Int×A7):Option (Bool×Int×List (List A2)×List A3×List A1×List A1×A9):=x.2.2.2.2.1[x.1]?.bind fun v=>(GI (x.2.2.2.2.2.1,v.1,())).bind fun v=>x.2.2.2.2.1[x.1]?.bind fun a=>(Ii (x.2.2.2.2.2.2.1,a.1,())).bind fun b=>some (x.2.1,x.2.2.1,x.2.2.2.1,x.2.2.2.2.1,x.2.2.2.2.2.1,x.2.2.2.2.2.2.1,v.1,b.1,())
def X4:Ent:=⟨215,⟨(.ptr 0 0 0 (.ptrI 2 0 .nil)),(.cells 6 (.slot .bool (.own 1 (.own 2 (.own 3 (.own 4 (.slot .i .nil)))))) (.tree false 0 (.slice Af) (.tree false 0 Ad (.lst false A0 (.lst false A0 .nil)))))⟩,⟨.nil,(.cells 6 (.slot .bool (.own 1 (.own 2 (.own 5 (.own 6 (.slot .i .nil)))))) (.tree false 0 (.slice Af) (.tree false 0 Ad (.lst false A0 (.lst false A0 (.lst false A0 (.lst false A0 .nil)))))))⟩,DJ⟩
theorem jN:Ah Go.Proofs.Tryz.prog X4:=okA (C:=Ab7) (hcB (all_cons A4j (all_cons A4g all_nil))) Go.Proofs.Tryz.func215
def Ba (x:Nat×Int×Bool×Int×A7):Option (Int×Bool×Int×List (List A2)×List A3×List A1×List A1×A9):=x.2.2.2.2.2.1[x.1]?.bind fun v=>(DJ (x.1,x.2.2.1,x.2.2.2.1,x.2.2.2.2.1,x.2.2.2.2.2.1.set x.1 (v.1,v.2.1,3,v.2.2.2.1,v.2.2.2.2.1,v.2.2.2.2.2.1,v.2.2.2.2.2.2.1,v.2.2.2.2.2.2.2.1,v.2.2.2.2.2.2.2.2.1,()),x.2.2.2.2.2.2.1,x.2.2.2.2.2.2.2.1,())).bind fun v=>some (x.2.1,v.1,v.2.1,v.2.2.1,v.2.2.2.1,v.2.2.2.2.1,v.2.2.2.2.2.1,v.2.2.2.2.2.2.1,v.2.2.2.2.2.2.2.1,())
def NJ:Ent:=⟨149,⟨(.ptr 0 0 0 (.ptrI 2 0 (.slot .i .nil))),(.cells 6 (.slot .bool (.own 1 (.own 2 (.own 3 (.own 4 (.slot .i .nil)))))) (.tree false 0 (.slice Af) (.tree false 0 Ad (.lst false A0 (.lst false A0 .nil)))))⟩,⟨(.agg (.slot .i (.const (AV.nils) .nil)) .nil),(.cells 6 (.slot .bool (.own 1 (.own 2 (.own 5 (.own 6 (.slot .i .nil)))))) (.tree false 0 (.slice Af) (.tree false 1 Ad (.lst false A0 (.lst false A0 (.lst false A0 (.lst false A0 .nil)))))))⟩,Ba⟩
theorem R9:Ah Go.Proofs.Tryz.prog NJ:=okA (hcA 5 (all_cons jN all_nil)) Go.Proofs.Tryz.func149
abbrev jL:=List A1×Unit×B3
abbrev jI:=Int×Int×Unit
abbrev jJ:=Int×Unit
def AC (i:jL)(v:jI)(R:Type)(K:jI ⊕ jJ->Option R):Option R:=bif decide (v.1<v.2.1)then(lAt i.1 (IntKind.i64.wrap (Int.fdiv (IntKind.u64.wrap (IntKind.i64.wrap (v.1+v.2.1))) (2 ^ min (Int.toNat 1) (IntKind.bits IntKind.u64))))).bind fun a=>(BX ((a.1,a.2.1,()),(i.2.2.2.1,i.2.2.2.2.1,()),())).bind fun b=>bif decide (b.1<0)then K (.inl (IntKind.i64.wrap (IntKind.i64.wrap (Int.fdiv (IntKind.u64.wrap (IntKind.i64.wrap (v.1+v.2.1))) (2 ^ min (Int.toNat 1) (IntKind.bits IntKind.u64)))+1),v.2.1,()))else K (.inl (v.1,IntKind.i64.wrap (Int.fdiv (IntKind.u64.wrap (IntKind.i64.wrap (v.1+v.2.1))) (2 ^ min (Int.toNat 1) (IntKind.bits IntKind.u64))),()))else K (.inr (v.1,()))
theorem FJ:AX AC:=fun i v R K=>Ae (Ac fun _=>Ac fun _=>Ae (Aa) (Aa)) (Aa)
def UD:Tmpl:=⟨(.slot (.slice A0) (.junk (.slot (.fn 265 .unit) (.junk (.ptr 0 0 0 (jk 3 (si 3 (jk 38 .nil)))))))),(.cells 2 (si 2 .nil) .nil)⟩
def jH:Exs jL jJ:=x1 (.exit 0) fun i p=>⟨AV.pv (.slice A0) i.1::jn 1 (AV.pv (.fn 265 .unit) i.2.1::jn 1 (AV.ptr 0 none 0 0::jn 3 (.n (i.2.2.1)::.n (p.1)::jn 39 ([])))),[some (Cont.cells 2 [[AV.pv .i i.2.2.2.1,AV.pv .i i.2.2.2.2.1]])]⟩
def jK:=((.i (.i (.i (.v (.v (.i (.i .n))))))):Pk UD.ty _ _)
def x4:Cfg:={ti:=Ar,ents:=[Rt],ann:=[(3,Ao UD 0 (spP jK) AC jH.E)],lent:=0}
def B9 (x:List A1×A1×Unit×Unit):Option (Int×Bool×Unit):=(Ay (fun v=>AC (x.1,x.2.2.1,(x.1.length:Int),x.2.1.1,x.2.1.2.1,()) v _ some) (0,(x.1.length:Int),())).bind fun p=>bif decide (p.1<(x.1.length:Int))then(lAt x.1 p.1).bind fun v=>(BX ((v.1,v.2.1,()),(x.2.1.1,x.2.1.2.1,()),())).bind fun v=>some (p.1,v.1==0,())else some (p.1,false,())
def X3:Ent:=⟨272,⟨(.slot (.slice A0) (.slot A0 (.slot (.fn 265 .unit) .nil))),.nil⟩,⟨(.slot .i (.slot .bool .nil)),.nil⟩,B9⟩
theorem jM:CfgOK Go.Proofs.Tryz.prog x4:=hcB (all_cons mc all_nil)
theorem x3:AP Go.Proofs.Tryz.prog x4 (lpc Go.Proofs.Tryz.f272 0):=lkA jM UD jK AC jH [0,2,4,8,9] FJ
theorem A4f:Ah Go.Proofs.Tryz.prog X3:=okB jM Go.Proofs.Tryz.func272 x3
def X1:Go.Shelf.Ren:=⟨fun|22=>273|29=>288|30=>289|n=>n,fun|24=>90|9=>204|n=>n,fun|n=>n⟩
theorem Ab6:InsL Go.Proofs.Tryz.prog X1 true 2 where
 mixed:=by kernel_rfl
 f22:=⟨ "slices.Insert[[]loop.example/g01924/impl.ReadMark,loop.example/g01924/impl.ReadMark]",by decide,Go.Proofs.Tryz.func273.trans (congrArg some (by kernel_rfl))⟩
 f29:=⟨_,Go.Proofs.Tryz.func288,by kernel_rfl,by kernel_rfl,by kernel_rfl,by kernel_rfl⟩
 a9:=Go.Proofs.Tryz.isAgg204
 z9:=Go.Proofs.Tryz.sizeOf204
 t0:=Go.Proofs.Tryz.underlying0
 a0:=Go.Proofs.Tryz.isAgg0
 z0:=Go.Proofs.Tryz.sizeOf0
 v0:=Go.Proofs.Tryz.zeroValue0
 t3:=Go.Proofs.Tryz.underlying3
 a3:=Go.Proofs.Tryz.isAgg3
 z3:=Go.Proofs.Tryz.sizeOf3
 v3:=Go.Proofs.Tryz.zeroValue3
 t4:=Go.Proofs.Tryz.underlying4
 a4:=Go.Proofs.Tryz.isAgg4
 z4:=Go.Proofs.Tryz.sizeOf4
 v4:=Go.Proofs.Tryz.zeroValue4
 t24:=Go.Proofs.Tryz.underlying90
 a24:=Go.Proofs.Tryz.isAgg90
 z24:=Go.Proofs.Tryz.sizeOf90
 v24:=Go.Proofs.Tryz.zeroValue90
def CT (x:Int×List (Int×Int×Unit)×List (Int×Int×Unit)×Unit):Option (List (Int×Int×Unit)×Unit):=Qo (α:=Int×Int×Unit) 2199023255552 x
def Adl:Cfg:={ti:=Ar,ents:=[],ann:=[],lent:=2}
def X2:Ent:=⟨273,⟨(.own 0 (.slot Ty.i (.own 1 .nil))),(.lst false A0 (.lst false A0 .nil))⟩,⟨(.own 2 .nil),(.gone (.gone (.lst false A0 .nil)))⟩,CT⟩
theorem A4e:Ah Go.Proofs.Tryz.prog X2:=Rb (ρ:=X1) (t:=A0) n3 Ab6 rfl (by decide) rfl
def Ab5:Cfg:={ti:=Ar,ents:=[X2,X3,bg],ann:=[],lent:=1,hid:=[((7,1),[0]),((7,13),[0]),((7,14),[0]),((7,15),[0])]}
def Dw (x:Nat×Int×Int×Int×Int×Int×Int×List A3×Unit):Option (Bool×List A3×Unit):=x.2.2.2.2.2.2.2.1[x.1]?.bind fun v=>x.2.2.2.2.2.2.2.1[x.1]?.bind fun v=>bif (v.2.2.2.2.2.2.2.1.length:Int)==60 then some (false,x.2.2.2.2.2.2.2.1,())else x.2.2.2.2.2.2.2.1[x.1]?.bind fun v=>x.2.2.2.2.2.2.2.1[x.1]?.bind fun v=>(B9 (v.2.2.2.2.2.2.2.1,(x.2.1,x.2.2.2.2.1,()),(),())).bind fun v=>bif !v.2.1 then x.2.2.2.2.2.2.2.1[x.1]?.bind fun a=>x.2.2.2.2.2.2.2.1[x.1]?.bind fun b=>(Ce (b.2.2.2.2.2.2.2.1,())).bind fun c=>(CT (v.1,c.1,[(x.2.1,x.2.2.2.2.1,())],())).bind fun v=>x.2.2.2.2.2.2.2.1[x.1]?.bind fun d=>(x.2.2.2.2.2.2.2.1.set x.1 (d.1,d.2.1,d.2.2.1,d.2.2.2.1,d.2.2.2.2.1,d.2.2.2.2.2.1,d.2.2.2.2.2.2.1,v.1,d.2.2.2.2.2.2.2.2.1,()))[x.1]?.bind fun e=>(x.2.2.2.2.2.2.2.1.set x.1 (d.1,d.2.1,d.2.2.1,d.2.2.2.1,d.2.2.2.2.1,d.2.2.2.2.2.1,d.2.2.2.2.2.2.1,v.1,d.2.2.2.2.2.2.2.2.1,()))[x.1]?.bind fun f=>(x.2.2.2.2.2.2.2.1.set x.1 (d.1,d.2.1,d.2.2.1,d.2.2.2.1,d.2.2.2.2.1,d.2.2.2.2.2.1,d.2.2.2.2.2.2.1,v.1,d.2.2.2.2.2.2.2.2.1,()))[x.1]?.bind fun g=>((x.2.2.2.2.2.2.2.1.set x.1 (d.1,d.2.1,d.2.2.1,d.2.2.2.1,d.2.2.2.2.1,d.2.2.2.2.2.1,d.2.2.2.2.2.2.1,v.1,d.2.2.2.2.2.2.2.2.1,())).set x.1 (g.1,g.2.1,g.2.2.1,g.2.2.2.1,mx e.2.2.2.2.1 x.2.2.2.2.1,g.2.2.2.2.2.1,g.2.2.2.2.2.2.1,g.2.2.2.2.2.2.2.1,g.2.2.2.2.2.2.2.2.1,()))[x.1]?.bind fun h=>some (true,((x.2.2.2.2.2.2.2.1.set x.1 (d.1,d.2.1,d.2.2.1,d.2.2.2.1,d.2.2.2.2.1,d.2.2.2.2.2.1,d.2.2.2.2.2.2.1,v.1,d.2.2.2.2.2.2.2.2.1,())).set x.1 (g.1,g.2.1,g.2.2.1,g.2.2.2.1,mx e.2.2.2.2.1 x.2.2.2.2.1,g.2.2.2.2.2.1,g.2.2.2.2.2.2.1,g.2.2.2.2.2.2.2.1,g.2.2.2.2.2.2.2.2.1,())).set x.1 (h.1,h.2.1,h.2.2.1,h.2.2.2.1,h.2.2.2.2.1,mn f.2.2.2.2.2.1 x.2.2.2.2.2.2.1,h.2.2.2.2.2.2.1,h.2.2.2.2.2.2.2.1,h.2.2.2.2.2.2.2.2.1,()),())else x.2.2.2.2.2.2.2.1[x.1]?.bind fun v=>x.2.2.2.2.2.2.2.1[x.1]?.bind fun a=>x.2.2.2.2.2.2.2.1[x.1]?.bind fun b=>(x.2.2.2.2.2.2.2.1.set x.1 (b.1,b.2.1,b.2.2.1,b.2.2.2.1,mx v.2.2.2.2.1 x.2.2.2.2.1,b.2.2.2.2.2.1,b.2.2.2.2.2.2.1,b.2.2.2.2.2.2.2.1,b.2.2.2.2.2.2.2.2.1,()))[x.1]?.bind fun c=>some (true,(x.2.2.2.2.2.2.2.1.set x.1 (b.1,b.2.1,b.2.2.1,b.2.2.2.1,mx v.2.2.2.2.1 x.2.2.2.2.1,b.2.2.2.2.2.1,b.2.2.2.2.2.2.1,b.2.2.2.2.2.2.2.1,b.2.2.2.2.2.2.2.2.1,())).set x.1 (c.1,c.2.1,c.2.2.1,c.2.2.2.1,c.2.2.2.2.1,mn a.2.2.2.2.2.1 x.2.2.2.2.2.2.1,c.2.2.2.2.2.2.1,c.2.2.2.2.2.2.2.1,c.2.2.2.2.2.2.2.2.1,()),())
def X0:Ent:=⟨242,⟨(.ptrI 0 0 (.slot .i (.agg (si 5 .nil) .nil))),(.tree false 0 Ad .nil)⟩,⟨(.slot .bool .nil),(.tree false 1 Ad .nil)⟩,Dw⟩
theorem A4d:Ah Go.Proofs.Tryz.prog X0:=okA (C:=Ab5) (hcB (all_cons A4e (all_cons A4f (all_cons pb all_nil)))) Go.Proofs.Tryz.func242
def Ab3:Cfg:={ti:=Ar,ents:=[NJ,X0,Xa,X9],ann:=[],lent:=5,pre:=[(some (0,3)),(some (0,4))]}
def Gp (x:Nat×Int×Bool×Int×A7):Option (Int×Int×Bool×Int×A7):=x.2.2.2.2.2.1[x.1]?.bind fun v=>x.2.2.2.2.2.1[x.1]?.bind fun a=>x.2.2.2.2.2.1[x.1]?.bind fun b=>(IR ((v.1,v.2.1,v.2.2.1,v.2.2.2.1,v.2.2.2.2.1,v.2.2.2.2.2.1,v.2.2.2.2.2.2.1,a.2.2.2.2.2.2.2.1,b.2.2.2.2.2.2.2.2.1,()),x.2.1,())).bind fun v=>bif decide (v.1>=0)then x.2.2.2.2.2.1[x.1]?.bind fun c=>x.2.2.2.2.2.1[x.1]?.bind fun d=>if 0<=v.1/\v.1<(d.2.2.2.2.2.2.2.2.1.length:Int)then x.2.2.2.2.2.1[x.1]?.bind fun e=>e.2.2.2.2.2.2.2.2.1[0+v.1.toNat]?.bind fun v=>some (v.2.1,0,x.2.2.1,x.2.2.2.1,x.2.2.2.2.1,x.2.2.2.2.2.1,x.2.2.2.2.2.2.1,x.2.2.2.2.2.2.2.1,())else none else x.2.2.2.2.2.1[x.1]?.bind fun v=>x.2.2.2.2.2.1[x.1]?.bind fun c=>x.2.2.2.2.2.1[x.1]?.bind fun d=>(GH ((x.2.2.2.2.1,()),(v.1,v.2.1,v.2.2.1,v.2.2.2.1,v.2.2.2.2.1,v.2.2.2.2.2.1,v.2.2.2.2.2.2.1,c.2.2.2.2.2.2.2.1,d.2.2.2.2.2.2.2.2.1,()),x.2.1,())).bind fun v=>bif v.2.2.2.2.2.1 != 0 then(Ba (x.1,v.2.2.2.2.2.1,x.2.2.1,x.2.2.2.1,x.2.2.2.2.1,x.2.2.2.2.2.1,x.2.2.2.2.2.2.1,x.2.2.2.2.2.2.2.1,())).bind fun e=>some (0,v.2.2.2.2.2.1,e.2.1,e.2.2.1,e.2.2.2.1,e.2.2.2.2.1,e.2.2.2.2.2.2.2.1,e.2.2.2.2.2.2.2.2.1,())else(Dw (x.1,x.2.1,v.1,v.2.1,v.2.2.1,v.2.2.2.1,v.2.2.2.2.1,x.2.2.2.2.2.1,())).bind fun e=>bif !e.1 then some (0,6,x.2.2.1,x.2.2.2.1,x.2.2.2.2.1,e.2.1,x.2.2.2.2.2.2.1,x.2.2.2.2.2.2.2.1,())else some (v.2.1,0,x.2.2.1,x.2.2.2.1,x.2.2.2.2.1,e.2.1,x.2.2.2.2.2.2.1,x.2.2.2.2.2.2.2.1,())
def WZ:Ent:=⟨203,⟨(.ptr 0 0 0 (.ptrI 2 0 (.slot .i .nil))),(.cells 6 (.slot .bool (.own 1 (.own 2 (.own 3 (.own 4 (.slot .i .nil)))))) (.tree false 0 (.slice Af) (.tree false 0 Ad (.lst false A0 (.lst false A0 .nil)))))⟩,⟨(si 2 .nil),(.cells 6 (.slot .bool (.own 1 (.own 2 (.own 5 (.own 6 (.slot .i .nil)))))) (.tree false 0 (.slice Af) (.tree false 1 Ad (.gone (.gone (.lst false A0 (.lst false A0 .nil)))))))⟩,Gp⟩
theorem A4a:Ah Go.Proofs.Tryz.prog WZ:=okA (C:=Ab3) (hcB (all_cons R9 (all_cons A4d (all_cons A4o (all_cons A4m all_nil))))) Go.Proofs.Tryz.func203
abbrev jF:=Nat×B3
abbrev jC:=Int×Bool×Int×List (List A2)×List A3×List A1×List A1×List Int×Unit
abbrev jD:=Bool×Int×List (List A2)×List A3×Int×List Int×A9 ⊕ Bool×Int×List (List A2)×List A3×List A1×List A1×List Int×Unit
def Cp (i:jF)(v:jC)(R:Type)(K:jC ⊕ jD->Option R):Option R:=bif decide (v.1<=i.2.1)then(Gp (i.1,v.1,v.2.1,v.2.2.1,v.2.2.2.1,v.2.2.2.2.1,v.2.2.2.2.2.1,v.2.2.2.2.2.2.1,())).bind fun a=>bif a.2.1 != 0 then K (.inr (.inl (a.2.2.1,a.2.2.2.1,a.2.2.2.2.1,a.2.2.2.2.2.1,a.2.1,v.2.2.2.2.2.2.2.1,a.2.2.2.2.2.2.1,a.2.2.2.2.2.2.2.1,())))else if(v.2.2.2.2.2.2.2.1++[a.1]).length<=4398046511104 then K (.inl (IntKind.i64.wrap (v.1+1),a.2.2.1,a.2.2.2.1,a.2.2.2.2.1,a.2.2.2.2.2.1,a.2.2.2.2.2.2.1,a.2.2.2.2.2.2.2.1,v.2.2.2.2.2.2.2.1++[a.1],()))else none else K (.inr (.inr (v.2.1,v.2.2.1,v.2.2.2.1,v.2.2.2.2.1,v.2.2.2.2.2.1,v.2.2.2.2.2.2.1,v.2.2.2.2.2.2.2.1,())))
theorem Lv:AX Cp:=fun i v R K=>Ae (Ac fun _=>Ae (Aa) (Aq (Aa))) (Aa)
def UC:Tmpl:=⟨(.ptr 0 0 0 (.ptrI 2 0 (.junk (.slot .i (jk 4 (.ptr 7 0 0 (.ptr 8 0 0 (.slot .i (jk 27 .nil))))))))),(.cells 6 (.slot .bool (.own 1 (.own 2 (.own 5 (.own 6 (.slot .i .nil)))))) (.tree false 0 (.slice Af) (.tree false 1 Ad (.gone (.gone (.lst false A0 (.lst false A0 (.cells 2 (.slot .i (.const (AV.nils) .nil)) (.cells 2 (.slot .i (.own 9 .nil)) (.lst false .i .nil))))))))))⟩
def jB:Exs jF jD:=xs .ret (fun i p=>⟨jn 8 (AV.ptr 7 none 0 0::AV.ptr 8 none 0 0::jn 28 ([])),[some (Cont.cells 6 [[AV.pv .bool p.1,AV.own 1 none none,AV.own 2 none none,AV.own 15 none none,AV.own 16 none none,AV.pv .i p.2.1]]),some (Cont.tree false 0 (.slice Af) p.2.2.1 none),some (Cont.tree false 2 Ad p.2.2.2.1 none),some Cont.dead,some Cont.dead,some Cont.dead,some Cont.dead,some (Cont.cells 2 [[AV.pv .i p.2.2.2.2.1,AV.nils]]),some (Cont.cells 2 [[AV.pv .i i.2.2.2.1,AV.own 9 none none]]),some (Cont.lst false .i p.2.2.2.2.2.1),none,none,none,none,none,some (Cont.lst false A0 p.2.2.2.2.2.2.1),some (Cont.lst false A0 p.2.2.2.2.2.2.2.1)]⟩)<|x1 (.exit 0) fun i p=>⟨jn 8 (AV.ptr 7 none 0 0::AV.ptr 8 none 0 0::jn 28 ([])),[some (Cont.cells 6 [[AV.pv .bool p.1,AV.own 1 none none,AV.own 2 none none,AV.own 5 none none,AV.own 6 none none,AV.pv .i p.2.1]]),some (Cont.tree false 0 (.slice Af) p.2.2.1 none),some (Cont.tree false 1 Ad p.2.2.2.1 none),some Cont.dead,some Cont.dead,some (Cont.lst false A0 p.2.2.2.2.1),some (Cont.lst false A0 p.2.2.2.2.2.1),some (Cont.cells 2 [[AV.pv .i i.2.2.1,AV.nils]]),some (Cont.cells 2 [[AV.pv .i i.2.2.2.1,AV.own 9 none none]]),some (Cont.lst false .i p.2.2.2.2.2.2.1)]⟩
def jE:=((.i (.i (.v (.v (.v (.v (.v (.v (.v (.i (.i (.v .n)))))))))))):Pk UC.ty _ _)
def wT:Cfg:={ti:=Ar,ents:=[WZ],ann:=[(3,Ao UC 5 (spP jE) Cp jB.E)],lent:=5,pre:=[(some (0,3)),(some (0,4))]}
def Gn (x:Nat×Int×Int×Bool×Int×A7):Option (Int×Bool×Int×List (List A2)×List A3×List A1×List A1×List Int×Unit):=(Ay (fun v=>Cp (x.1,x.2.2.1,0,0,()) v _ some) (x.2.1,x.2.2.2.1,x.2.2.2.2.1,x.2.2.2.2.2.1,x.2.2.2.2.2.2.1,x.2.2.2.2.2.2.2.1,x.2.2.2.2.2.2.2.2.1,[],())).bind fun p=>Au p (fun p=>some (p.2.2.2.2.1,p.1,p.2.1,p.2.2.1,p.2.2.2.1,p.2.2.2.2.2.2.1,p.2.2.2.2.2.2.2.1,[],())) fun p=>some (0,p.1,p.2.1,p.2.2.1,p.2.2.2.1,p.2.2.2.2.1,p.2.2.2.2.2.1,p.2.2.2.2.2.2.1,())
def WY:Ent:=⟨146,⟨(.ptr 0 0 0 (.ptrI 2 0 (si 2 .nil))),(.cells 6 (.slot .bool (.own 1 (.own 2 (.own 3 (.own 4 (.slot .i .nil)))))) (.tree false 0 (.slice Af) (.tree false 0 Ad (.lst false A0 (.lst false A0 .nil)))))⟩,⟨(.agg (.slot .i (.own 7 .nil)) .nil),(.cells 6 (.slot .bool (.own 1 (.own 2 (.own 5 (.own 6 (.slot .i .nil)))))) (.tree false 0 (.slice Af) (.tree false 1 Ad (.gone (.gone (.lst false A0 (.lst false A0 (.lst false .i .nil))))))))⟩,Gn⟩
theorem jG:CfgOK Go.Proofs.Tryz.prog wT:=hcB (all_cons A4a all_nil)
theorem wS:AP Go.Proofs.Tryz.prog wT (lpc Go.Proofs.Tryz.f146 0):=lkA jG UC jE Cp jB [8,9] Lv
theorem A49:Ah Go.Proofs.Tryz.prog WY:=okB jG Go.Proofs.Tryz.func146 wS
def HB (x:A1×Option Int×Unit):Option (Bool×Unit):=x.2.1.bind fun v=>some (x.1.1==v,())
def WX:Ent:=⟨244,⟨(.slot A0 (.slot (.iref .i) .nil)),.nil⟩,⟨(.slot .bool .nil),.nil⟩,HB⟩
theorem A48:Ah Go.Proofs.Tryz.prog WX:=okA (hcA 0 all_nil) Go.Proofs.Tryz.func244
abbrev jz:=List A1×(Option Int×Unit)×Int×Unit
abbrev jw:=Int×Unit
abbrev jx:=Int×Unit ⊕ Unit
def Bc (i:jz)(v:jw)(R:Type)(K:jw ⊕ jx->Option R):Option R:=bif decide (v.1<i.2.2.1)then(lAt i.1 v.1).bind fun a=>(HB ((a.1,a.2.1,()),i.2.1.1,())).bind fun b=>bif b.1 then K (.inr (.inl (v.1,())))else K (.inl (IntKind.i64.wrap (v.1+1),()))else K (.inr (.inr ()))
theorem HR:AX Bc:=fun i v R K=>Ae (Ac fun _=>Ac fun _=>Ae (Aa) (Aa)) (Aa)
def UB:Tmpl:=⟨(.slot (.slice A0) (.slot (.fn 244 (.prod (.iref .i) .unit)) (jk 5 (si 2 (jk 10 .nil))))),.nil⟩
def jv:Exs jz jx:=xs .ret (fun i p=>⟨jn 4 (.n (p.1)::jn 14 ([])),[]⟩)<|x1 (.exit 0) fun i p=>⟨jn 19 ([]),[]⟩
def jy:=((.i (.i (.i (.v .n)))):Pk UB.ty _ _)
def wR:Cfg:={ti:=Ar,ents:=[WX],ann:=[(2,Ao UB 0 (spP jy) Bc jv.E)],lent:=0}
def BV (x:List A1×(Option Int×Unit)×Unit):Option (Int×Unit):=(Ay (fun v=>Bc (x.1,x.2.1,(x.1.length:Int),()) v _ some) (0,())).bind fun p=>Au p (fun p=>some (p.1,())) fun p=>some (-1,())
def wQ:Ent:=⟨194,⟨(.slot (.slice A0) (.slot (.fn 244 (.prod (.iref .i) .unit)) .nil)),.nil⟩,⟨(.slot .i .nil),.nil⟩,BV⟩
theorem jA:CfgOK Go.Proofs.Tryz.prog wR:=hcB (all_cons A48 all_nil)
theorem wP:AP Go.Proofs.Tryz.prog wR (lpc Go.Proofs.Tryz.f194 0):=lkA jA UB jy Bc jv [4] HR
theorem A47:Ah Go.Proofs.Tryz.prog wQ:=okB jA Go.Proofs.Tryz.func194 wP
def GY (x:List A1×Int×Unit):Option (Int×Unit):=(BV (x.1,(some x.2.1,()),())).bind fun v=>bif decide (v.1<0)then some (0,())else(lAt x.1 v.1).bind fun v=>some (v.2.1,())
def WW:Ent:=⟨205,⟨(.slot (.slice A0) (.slot .i .nil)),.nil⟩,⟨(.slot .i .nil),.nil⟩,GY⟩
theorem ju:Ah Go.Proofs.Tryz.prog WW:=okA (hcA 0 (all_cons A47 all_nil)) Go.Proofs.Tryz.func205
def DI (x:A4×Int×Unit):Option (Option A2×Unit):=(lAt x.1.1 x.2.1).bind fun v=>(lAt v (IntKind.i64.wrap ((v.length:Int)-1))).bind fun v=>some (some v,())
def WV:Ent:=⟨243,⟨(.slot Bo (.slot .i .nil)),.nil⟩,⟨(.slot (.iref Af) .nil),.nil⟩,DI⟩
theorem UA:Ah Go.Proofs.Tryz.prog WV:=okA (hcA 0 all_nil) Go.Proofs.Tryz.func243
def EV (x:A4×List A1×A3×Int×Unit):Option (Int×Unit):=(GY (x.2.1,x.2.2.2.1,())).bind fun v=>(DI ((x.1.1,()),x.2.2.2.1,())).bind fun a=>bif v.1 != 0 then bif x.2.2.1.2.1==1 then bif v.1 != x.2.2.1.1 then some (1,())else bif x.2.2.1.2.1==2 then bif v.1 != x.2.2.1.1 then some (2,())else a.1.bind fun v=>bif decide (v.2.2.1>x.2.2.1.2.2.2.1)then some (2,())else bif x.2.2.1.2.1==4 then a.1.bind fun v=>bif decide (v.2.2.2.1>x.2.2.1.2.2.2.1)then some (3,())else some (0,())else some (0,())else bif x.2.2.1.2.1==4 then a.1.bind fun v=>bif decide (v.2.2.2.1>x.2.2.1.2.2.2.1)then some (3,())else some (0,())else some (0,())else bif x.2.2.1.2.1==2 then bif v.1 != x.2.2.1.1 then some (2,())else a.1.bind fun v=>bif decide (v.2.2.1>x.2.2.1.2.2.2.1)then some (2,())else bif x.2.2.1.2.1==4 then a.1.bind fun v=>bif decide (v.2.2.2.1>x.2.2.1.2.2.2.1)then some (3,())else some (0,())else some (0,())else bif x.2.2.1.2.1==4 then a.1.bind fun v=>bif decide (v.2.2.2.1>x.2.2.1.2.2.2.1)then some (3,())else some (0,())else some (0,())else bif x.2.2.1.2.1==1 then bif x.2.2.1.2.1==2 then a.1.bind fun v=>bif decide (v.2.2.1>x.2.2.1.2.2.2.1)then some (2,())else bif x.2.2.1.2.1==4 then a.1.bind fun v=>bif decide (v.2.2.2.1>x.2.2.1.2.2.2.1)then some (3,())else some (0,())else some (0,())else bif x.2.2.1.2.1==4 then a.1.bind fun v=>bif decide (v.2.2.2.1>x.2.2.1.2.2.2.1)then some (3,())else some (0,())else some (0,())else bif x.2.2.1.2.1==2 then a.1.bind fun v=>bif decide (v.2.2.1>x.2.2.1.2.2.2.1)then some (2,())else bif x.2.2.1.2.1==4 then a.1.bind fun v=>bif decide (v.2.2.2.1>x.2.2.1.2.2.2.1)then some (3,())else some (0,())else some (0,())else bif x.2.2.1.2.1==4 then a.1.bind fun v=>bif decide (v.2.2.2.1>x.2.2.1.2.2.2.1)then some (3,())else some (0,())else some (0,())
def WU:Ent:=⟨204,⟨(.slot Bo (.slot (.slice A0) (.slot Ad (.slot .i .nil)))),.nil⟩,⟨(.slot .i .nil),.nil⟩,EV⟩
theorem A46:Ah Go.Proofs.Tryz.prog WU:=okA (hcA 0 (all_cons ju (all_cons UA all_nil))) Go.Proofs.Tryz.func204
def GX (x:A1×Int×Unit):Option (Int×Unit):=(C1 (x.1.1,x.2.1,())).bind fun v=>some (v.1,())
def WT:Ent:=⟨247,⟨(.slot A0 (.slot .i .nil)),.nil⟩,⟨(.slot .i .nil),.nil⟩,GX⟩
theorem A45:Ah Go.Proofs.Tryz.prog WT:=okA (hcA 0 (all_cons PC all_nil)) Go.Proofs.Tryz.func247
abbrev js:=List A1×Int×Unit×Int×Unit
abbrev jp:=Int×Int×Unit
abbrev jq:=Int×Unit
def AG (i:js)(v:jp)(R:Type)(K:jp ⊕ jq->Option R):Option R:=bif decide (v.1<v.2.1)then(lAt i.1 (IntKind.i64.wrap (Int.fdiv (IntKind.u64.wrap (IntKind.i64.wrap (v.1+v.2.1))) (2 ^ min (Int.toNat 1) (IntKind.bits IntKind.u64))))).bind fun a=>(GX ((a.1,a.2.1,()),i.2.1,())).bind fun b=>bif decide (b.1<0)then K (.inl (IntKind.i64.wrap (IntKind.i64.wrap (Int.fdiv (IntKind.u64.wrap (IntKind.i64.wrap (v.1+v.2.1))) (2 ^ min (Int.toNat 1) (IntKind.bits IntKind.u64)))+1),v.2.1,()))else K (.inl (v.1,IntKind.i64.wrap (Int.fdiv (IntKind.u64.wrap (IntKind.i64.wrap (v.1+v.2.1))) (2 ^ min (Int.toNat 1) (IntKind.bits IntKind.u64))),()))else K (.inr (v.1,()))
theorem Gu:AX AG:=fun i v R K=>Ae (Ac fun _=>Ac fun _=>Ae (Aa) (Aa)) (Aa)
def Uz:Tmpl:=⟨(.slot (.slice A0) (.slot .i (.slot (.fn 247 .unit) (jk 5 (si 3 (jk 38 .nil)))))),.nil⟩
def jo:Exs js jq:=x1 (.exit 0) fun i p=>⟨AV.pv (.slice A0) i.1::.n (i.2.1)::AV.pv (.fn 247 .unit) i.2.2.1::jn 5 (.n (i.2.2.2.1)::.n (p.1)::jn 39 ([])),[]⟩
def jr:=((.i (.i (.i (.i (.v (.v .n)))))):Pk Uz.ty _ _)
def wO:Cfg:={ti:=Ar,ents:=[WT],ann:=[(3,Ao Uz 0 (spP jr) AG jo.E)],lent:=0}
def Bj (x:List A1×Int×Unit×Unit):Option (Int×Bool×Unit):=(Ay (fun v=>AG (x.1,x.2.1,x.2.2.1,(x.1.length:Int),()) v _ some) (0,(x.1.length:Int),())).bind fun p=>bif decide (p.1<(x.1.length:Int))then(lAt x.1 p.1).bind fun v=>(GX ((v.1,v.2.1,()),x.2.1,())).bind fun v=>some (p.1,v.1==0,())else some (p.1,false,())
def wN:Ent:=⟨246,⟨(.slot (.slice A0) (.slot .i (.slot (.fn 247 .unit) .nil))),.nil⟩,⟨(.slot .i (.slot .bool .nil)),.nil⟩,Bj⟩
theorem jt:CfgOK Go.Proofs.Tryz.prog wO:=hcB (all_cons A45 all_nil)
theorem wM:AP Go.Proofs.Tryz.prog wO (lpc Go.Proofs.Tryz.f246 0):=lkA jt Uz jr AG jo [0,1,2,8,9] Gu
theorem A44:Ah Go.Proofs.Tryz.prog wN:=okB jt Go.Proofs.Tryz.func246 wM
def WS:Go.Shelf.Ren:=⟨fun|22=>248|29=>275|30=>276|n=>n,fun|24=>38|9=>144|n=>n,fun|n=>n⟩
theorem Ab2:InsL Go.Proofs.Tryz.prog WS true 2 where
 mixed:=by kernel_rfl
 f22:=⟨ "slices.Insert[[]loop.example/g01924/impl.Wait,loop.example/g01924/impl.Wait]",by decide,Go.Proofs.Tryz.func248.trans (congrArg some (by kernel_rfl))⟩
 f29:=⟨_,Go.Proofs.Tryz.func275,by kernel_rfl,by kernel_rfl,by kernel_rfl,by kernel_rfl⟩
 a9:=Go.Proofs.Tryz.isAgg144
 z9:=Go.Proofs.Tryz.sizeOf144
 t0:=Go.Proofs.Tryz.underlying0
 a0:=Go.Proofs.Tryz.isAgg0
 z0:=Go.Proofs.Tryz.sizeOf0
 v0:=Go.Proofs.Tryz.zeroValue0
 t3:=Go.Proofs.Tryz.underlying3
 a3:=Go.Proofs.Tryz.isAgg3
 z3:=Go.Proofs.Tryz.sizeOf3
 v3:=Go.Proofs.Tryz.zeroValue3
 t4:=Go.Proofs.Tryz.underlying4
 a4:=Go.Proofs.Tryz.isAgg4
 z4:=Go.Proofs.Tryz.sizeOf4
 v4:=Go.Proofs.Tryz.zeroValue4
 t24:=Go.Proofs.Tryz.underlying38
 a24:=Go.Proofs.Tryz.isAgg38
 z24:=Go.Proofs.Tryz.sizeOf38
 v24:=Go.Proofs.Tryz.zeroValue38
def FM (x:Int×List (Int×Int×Unit)×List (Int×Int×Unit)×Unit):Option (List (Int×Int×Unit)×Unit):=Qo (α:=Int×Int×Unit) 2199023255552 x
def Adk:Cfg:={ti:=Ar,ents:=[],ann:=[],lent:=2}
def wL:Ent:=⟨248,⟨(.own 0 (.slot Ty.i (.own 1 .nil))),(.lst false A0 (.lst false A0 .nil))⟩,⟨(.own 2 .nil),(.gone (.gone (.lst false A0 .nil)))⟩,FM⟩
theorem A43:Ah Go.Proofs.Tryz.prog wL:=Rb (ρ:=WS) (t:=A0) n5 Ab2 rfl (by decide) rfl
def GW (x:List A1×Int×Int×Unit):Option (Bool×List A1×Unit):=(BJ (x.1,())).bind fun v=>(DM (x.1,())).bind fun a=>bif !a.1 then some (false,v.1,())else(BG (x.2.1,())).bind fun b=>bif !b.1 then some (false,v.1,())else(BG (x.2.2.1,())).bind fun c=>bif !c.1 then some (false,v.1,())else bif x.2.1==x.2.2.1 then some (false,v.1,())else(Bj (x.1,x.2.1,(),())).bind fun d=>bif !d.2.1 then(FM (d.1,v.1,[(x.2.1,x.2.2.1,())],())).bind fun v=>some (true,v.1,())else if 0<=d.1/\d.1<(v.1.length:Int)then v.1[0+d.1.toNat]?.bind fun e=>some (true,v.1.set (0+d.1.toNat) (e.1,x.2.2.1,()),())else none
def WR:Ent:=⟨207,⟨(.slot (.slice A0) (si 2 .nil)),.nil⟩,⟨(.own 0 (.slot .bool .nil)),(.lst false A0 .nil)⟩,GW⟩
theorem jl:Ah Go.Proofs.Tryz.prog WR:=okA (hcA 0 (all_cons A43 (all_cons Th (all_cons V1 (all_cons NI (all_cons A44 all_nil)))))) Go.Proofs.Tryz.func207
def HA (x:A1×Option (List Int)×Unit):Option (Bool×Unit):=x.2.1.bind fun v=>x.2.1.bind fun a=>(lAt v (IntKind.i64.wrap ((a.length:Int)-1))).bind fun v=>some (x.1.1==v,())
def WQ:Ent:=⟨274,⟨(.slot A0 (.slot (.iref (.slice .i)) .nil)),.nil⟩,⟨(.slot .bool .nil),.nil⟩,HA⟩
theorem A42:Ah Go.Proofs.Tryz.prog WQ:=okA (hcA 0 all_nil) Go.Proofs.Tryz.func274
abbrev jh:=List A1×(Option (List Int)×Unit)×Int×Unit
abbrev je:=Int×Unit
abbrev jf:=Int×Unit ⊕ Unit
def Bb (i:jh)(v:je)(R:Type)(K:je ⊕ jf->Option R):Option R:=bif decide (v.1<i.2.2.1)then(lAt i.1 v.1).bind fun a=>(HA ((a.1,a.2.1,()),i.2.1.1,())).bind fun b=>bif b.1 then K (.inr (.inl (v.1,())))else K (.inl (IntKind.i64.wrap (v.1+1),()))else K (.inr (.inr ()))
theorem HQ:AX Bb:=fun i v R K=>Ae (Ac fun _=>Ac fun _=>Ae (Aa) (Aa)) (Aa)
def Uy:Tmpl:=⟨(.slot (.slice A0) (.slot (.fn 274 (.prod (.iref (.slice .i)) .unit)) (jk 5 (si 2 (jk 10 .nil))))),.nil⟩
def jd:Exs jh jf:=xs .ret (fun i p=>⟨jn 4 (.n (p.1)::jn 14 ([])),[]⟩)<|x1 (.exit 0) fun i p=>⟨jn 19 ([]),[]⟩
def jg:=((.i (.i (.i (.v .n)))):Pk Uy.ty _ _)
def wK:Cfg:={ti:=Ar,ents:=[WQ],ann:=[(2,Ao Uy 0 (spP jg) Bb jd.E)],lent:=0}
def BU (x:List A1×(Option (List Int)×Unit)×Unit):Option (Int×Unit):=(Ay (fun v=>Bb (x.1,x.2.1,(x.1.length:Int),()) v _ some) (0,())).bind fun p=>Au p (fun p=>some (p.1,())) fun p=>some (-1,())
def WP:Ent:=⟨195,⟨(.slot (.slice A0) (.slot (.fn 274 (.prod (.iref (.slice .i)) .unit)) .nil)),.nil⟩,⟨(.slot .i .nil),.nil⟩,BU⟩
theorem ji:CfgOK Go.Proofs.Tryz.prog wK:=hcB (all_cons A42 all_nil)
theorem wJ:AP Go.Proofs.Tryz.prog wK (lpc Go.Proofs.Tryz.f195 0):=lkA ji Uy jg Bb jd [4] HQ
theorem A41:Ah Go.Proofs.Tryz.prog WP:=okB ji Go.Proofs.Tryz.func195 wJ
abbrev jb:=List Int×Int×Int×Unit
abbrev j8:=Int×Unit
abbrev j9:=Int×Unit ⊕ Unit
def CP (i:jb)(v:j8)(R:Type)(K:j8 ⊕ j9->Option R):Option R:=bif decide (v.1<i.2.2.1)then(lAt i.1 v.1).bind fun a=>bif i.2.1==a then K (.inr (.inl (v.1,())))else K (.inl (IntKind.i64.wrap (v.1+1),()))else K (.inr (.inr ()))
theorem M6:AX CP:=fun i v R K=>Ae (Ac fun _=>Ae (Aa) (Aa)) (Aa)
def Ux:Tmpl:=⟨(.slot (.slice .i) (.slot .i (jk 5 (si 2 (jk 10 .nil))))),.nil⟩
def j7:Exs jb j9:=xs .ret (fun i p=>⟨jn 4 (.n (p.1)::jn 14 ([])),[]⟩)<|x1 (.exit 0) fun i p=>⟨jn 19 ([]),[]⟩
def ja:=((.i (.i (.i (.v .n)))):Pk Ux.ty _ _)
def wI:Cfg:={ti:=Ar,ents:=[],ann:=[(2,Ao Ux 0 (spP ja) CP j7.E)],lent:=0}
def Je (x:List Int×Int×Unit):Option (Int×Unit):=(Ay (fun v=>CP (x.1,x.2.1,(x.1.length:Int),()) v _ some) (0,())).bind fun p=>Au p (fun p=>some (p.1,())) fun p=>some (-1,())
def wH:Ent:=⟨221,⟨(.slot (.slice .i) (.slot .i .nil)),.nil⟩,⟨(.slot .i .nil),.nil⟩,Je⟩
theorem jc:CfgOK Go.Proofs.Tryz.prog wI:=hcB all_nil
theorem wG:AP Go.Proofs.Tryz.prog wI (lpc Go.Proofs.Tryz.f221 0):=lkA jc Ux ja CP j7 [4] M6
theorem A40:Ah Go.Proofs.Tryz.prog wH:=okB jc Go.Proofs.Tryz.func221 wG
def Fy (x:List Int×Int×Unit):Option (Bool×Unit):=(Je (x.1,x.2.1,())).bind fun v=>some (decide (v.1>=0),())
def WO:Ent:=⟨161,⟨(.slot (.slice .i) (.slot .i .nil)),.nil⟩,⟨(.slot .bool .nil),.nil⟩,Fy⟩
theorem A3z:Ah Go.Proofs.Tryz.prog WO:=okA (hcA 0 (all_cons A40 all_nil)) Go.Proofs.Tryz.func161
abbrev j5:=List A1×Unit
abbrev iZ:=List Int×Unit
abbrev j3:=List Int×Unit ⊕ List Int×List Int×Unit
def Es (i:j5)(v:iZ)(R:Type)(K:iZ ⊕ j3->Option R):Option R:=(BU (i.1,(some v.1,()),())).bind fun a=>bif decide (a.1<0)then K (.inr (.inl (v.1,())))else(lAt i.1 a.1).bind fun b=>(Fy (v.1,b.2.1,())).bind fun c=>(lAt i.1 a.1).bind fun d=>if(v.1++[d.2.1]).length<=4398046511104 then bif c.1 then K (.inr (.inr ([d.2.1],v.1++[d.2.1],())))else K (.inl (v.1++[d.2.1],()))else none
theorem Nw:AX Es:=fun i v R K=>Ac fun _=>Ae (Aa) (Ac fun _=>Ac fun _=>Ac fun _=>Aq (Ae (Aa) (Aa)))
def Uw:Tmpl:=⟨(.slot (.slice A0) (jk 4 (.ptr 0 0 0 (jk 35 .nil)))),(.cells 1 (.own 1 .nil) (.lst false .i .nil))⟩
def iY:Exs j5 j3:=xs .ret (fun i p=>⟨jn 4 (AV.own 1 none none::jn 36 ([])),[some (Cont.cells 1 [[AV.own 1 none none]]),some (Cont.lst false .i p.1)]⟩)<|x1 .ret fun i p=>⟨jn 4 (AV.own 3 none none::jn 36 ([])),[some (Cont.cells 1 [[AV.own 3 none none]]),some Cont.dead,some (Cont.lst false .i p.1),some (Cont.lst false .i p.2.1)]⟩
def j4:=((.i (.v .n)):Pk Uw.ty _ _)
def wF:Cfg:={ti:=Ar,ents:=[Xw,R5,WP,WO],ann:=[(4,Ao Uw 0 (spP j4) Es iY.E)],lent:=0}
def K8 (x:List A1×Int×Unit):Option (List Int×Unit):=(DM (x.1,())).bind fun v=>bif !v.1 then some ([],())else(BG (x.2.1,())).bind fun v=>bif !v.1 then some ([],())else(Ay (fun v=>Es (x.1,()) v _ some) ([x.2.1],())).bind fun p=>Au p (fun p=>some (p.1,())) fun p=>some (p.2.1,())
def wE:Ent:=⟨245,⟨(.slot (.slice A0) (.slot .i .nil)),.nil⟩,⟨(.own 0 .nil),(.lst false .i .nil)⟩,K8⟩
theorem j6:CfgOK Go.Proofs.Tryz.prog wF:=hcB (all_cons V1 (all_cons NI (all_cons A41 (all_cons A3z all_nil))))
theorem wD:AP Go.Proofs.Tryz.prog wF (lpc Go.Proofs.Tryz.f245 0):=lkA j6 Uw j4 Es iY [4] Nw
theorem A3y:Ah Go.Proofs.Tryz.prog wE:=okB j6 Go.Proofs.Tryz.func245 wD
def Gj (x:List A1×Int×Int×Unit):Option (Bool×Unit):=(GW (x.1,x.2.1,x.2.2.1,())).bind fun v=>bif !v.1 then some (false,())else(K8 (v.2.1,x.2.1,())).bind fun v=>if 0<=IntKind.i64.wrap ((v.1.length:Int)-1)/\IntKind.i64.wrap ((v.1.length:Int)-1)<(v.1.length:Int)then v.1[0+(IntKind.i64.wrap ((v.1.length:Int)-1)).toNat]?.bind fun v=>some (v==x.2.1,())else none
def WN:Ent:=⟨206,⟨(.slot (.slice A0) (si 2 .nil)),.nil⟩,⟨(.slot .bool .nil),.nil⟩,Gj⟩
theorem A3x:Ah Go.Proofs.Tryz.prog WN:=okA (hcA 0 (all_cons jl (all_cons A3y all_nil))) Go.Proofs.Tryz.func206
def Gk (x:Int×Unit):Option (Bool×Unit):=bif x.1==1 then some (true,())else some (x.1==2,())
def WM:Ent:=⟨208,⟨(.slot .i .nil),.nil⟩,⟨(.slot .bool .nil),.nil⟩,Gk⟩
theorem A3w:Ah Go.Proofs.Tryz.prog WM:=okA (hcA 0 all_nil) Go.Proofs.Tryz.func208
def Ee (x:A1×Int×Unit):Option (Int×Unit):=(C1 (x.1.1,x.2.1,())).bind fun v=>some (v.1,())
def WL:Ent:=⟨250,⟨(.slot A0 (.slot .i .nil)),.nil⟩,⟨(.slot .i .nil),.nil⟩,Ee⟩
theorem A3v:Ah Go.Proofs.Tryz.prog WL:=okA (hcA 0 (all_cons PC all_nil)) Go.Proofs.Tryz.func250
abbrev iW:=List A1×Int×Unit×Int×Unit
abbrev iT:=Int×Int×Unit
abbrev iU:=Int×Unit
def AB (i:iW)(v:iT)(R:Type)(K:iT ⊕ iU->Option R):Option R:=bif decide (v.1<v.2.1)then(lAt i.1 (IntKind.i64.wrap (Int.fdiv (IntKind.u64.wrap (IntKind.i64.wrap (v.1+v.2.1))) (2 ^ min (Int.toNat 1) (IntKind.bits IntKind.u64))))).bind fun a=>(Ee ((a.1,a.2.1,()),i.2.1,())).bind fun b=>bif decide (b.1<0)then K (.inl (IntKind.i64.wrap (IntKind.i64.wrap (Int.fdiv (IntKind.u64.wrap (IntKind.i64.wrap (v.1+v.2.1))) (2 ^ min (Int.toNat 1) (IntKind.bits IntKind.u64)))+1),v.2.1,()))else K (.inl (v.1,IntKind.i64.wrap (Int.fdiv (IntKind.u64.wrap (IntKind.i64.wrap (v.1+v.2.1))) (2 ^ min (Int.toNat 1) (IntKind.bits IntKind.u64))),()))else K (.inr (v.1,()))
theorem Fo:AX AB:=fun i v R K=>Ae (Ac fun _=>Ac fun _=>Ae (Aa) (Aa)) (Aa)
def Uv:Tmpl:=⟨(.slot (.slice A0) (.slot .i (.slot (.fn 250 .unit) (jk 5 (si 3 (jk 38 .nil)))))),.nil⟩
def iR:Exs iW iU:=x1 (.exit 0) fun i p=>⟨AV.pv (.slice A0) i.1::.n (i.2.1)::AV.pv (.fn 250 .unit) i.2.2.1::jn 5 (.n (i.2.2.2.1)::.n (p.1)::jn 39 ([])),[]⟩
def iV:=((.i (.i (.i (.i (.v (.v .n)))))):Pk Uv.ty _ _)
def wC:Cfg:={ti:=Ar,ents:=[WL],ann:=[(3,Ao Uv 0 (spP iV) AB iR.E)],lent:=0}
def AZ (x:List A1×Int×Unit×Unit):Option (Int×Bool×Unit):=(Ay (fun v=>AB (x.1,x.2.1,x.2.2.1,(x.1.length:Int),()) v _ some) (0,(x.1.length:Int),())).bind fun p=>bif decide (p.1<(x.1.length:Int))then(lAt x.1 p.1).bind fun v=>(Ee ((v.1,v.2.1,()),x.2.1,())).bind fun v=>some (p.1,v.1==0,())else some (p.1,false,())
def wB:Ent:=⟨249,⟨(.slot (.slice A0) (.slot .i (.slot (.fn 250 .unit) .nil))),.nil⟩,⟨(.slot .i (.slot .bool .nil)),.nil⟩,AZ⟩
theorem iX:CfgOK Go.Proofs.Tryz.prog wC:=hcB (all_cons A3v all_nil)
theorem wA:AP Go.Proofs.Tryz.prog wC (lpc Go.Proofs.Tryz.f249 0):=lkA iX Uv iV AB iR [0,1,2,8,9] Fo
theorem A3u:Ah Go.Proofs.Tryz.prog wB:=okB iX Go.Proofs.Tryz.func249 wA
def WK:Go.Shelf.Ren:=⟨fun|22=>251|29=>277|30=>278|n=>n,fun|24=>37|9=>142|n=>n,fun|n=>n⟩
theorem Aaz:InsL Go.Proofs.Tryz.prog WK true 2 where
 mixed:=by kernel_rfl
 f22:=⟨ "slices.Insert[[]loop.example/g01924/impl.Lock,loop.example/g01924/impl.Lock]",by decide,Go.Proofs.Tryz.func251.trans (congrArg some (by kernel_rfl))⟩
 f29:=⟨_,Go.Proofs.Tryz.func277,by kernel_rfl,by kernel_rfl,by kernel_rfl,by kernel_rfl⟩
 a9:=Go.Proofs.Tryz.isAgg142
 z9:=Go.Proofs.Tryz.sizeOf142
 t0:=Go.Proofs.Tryz.underlying0
 a0:=Go.Proofs.Tryz.isAgg0
 z0:=Go.Proofs.Tryz.sizeOf0
 v0:=Go.Proofs.Tryz.zeroValue0
 t3:=Go.Proofs.Tryz.underlying3
 a3:=Go.Proofs.Tryz.isAgg3
 z3:=Go.Proofs.Tryz.sizeOf3
 v3:=Go.Proofs.Tryz.zeroValue3
 t4:=Go.Proofs.Tryz.underlying4
 a4:=Go.Proofs.Tryz.isAgg4
 z4:=Go.Proofs.Tryz.sizeOf4
 v4:=Go.Proofs.Tryz.zeroValue4
 t24:=Go.Proofs.Tryz.underlying37
 a24:=Go.Proofs.Tryz.isAgg37
 z24:=Go.Proofs.Tryz.sizeOf37
 v24:=Go.Proofs.Tryz.zeroValue37
def FN (x:Int×List (Int×Int×Unit)×List (Int×Int×Unit)×Unit):Option (List (Int×Int×Unit)×Unit):=Qo (α:=Int×Int×Unit) 2199023255552 x
def Adj:Cfg:={ti:=Ar,ents:=[],ann:=[],lent:=2}
def wq:Ent:=⟨251,⟨(.own 0 (.slot Ty.i (.own 1 .nil))),(.lst false A0 (.lst false A0 .nil))⟩,⟨(.own 2 .nil),(.gone (.gone (.lst false A0 .nil)))⟩,FN⟩
theorem A3r:Ah Go.Proofs.Tryz.prog wq:=Rb (ρ:=WK) (t:=A0) n6 Aaz rfl (by decide) rfl
def Fu (x:List A1×Int×Int×Unit):Option (Bool×List A1×Unit):=(Ci (x.1,())).bind fun v=>(EE (x.1,())).bind fun a=>bif !a.1 then some (false,v.1,())else(E8 (x.2.1,())).bind fun b=>bif !b.1 then some (false,v.1,())else(BG (x.2.2.1,())).bind fun c=>bif !c.1 then some (false,v.1,())else(AZ (x.1,x.2.1,(),())).bind fun d=>bif d.2.1 then(lAt x.1 d.1).bind fun e=>some (e.2.1==x.2.2.1,v.1,())else(FN (d.1,v.1,[(x.2.1,x.2.2.1,())],())).bind fun v=>some (true,v.1,())
def WJ:Ent:=⟨209,⟨(.slot (.slice A0) (si 2 .nil)),.nil⟩,⟨(.own 0 (.slot .bool .nil)),(.lst false A0 .nil)⟩,Fu⟩
theorem A3q:Ah Go.Proofs.Tryz.prog WJ:=okA (hcA 0 (all_cons A3r (all_cons YQ (all_cons mI (all_cons PD (all_cons NI (all_cons A3u all_nil))))))) Go.Proofs.Tryz.func209
def D1 (x:A1×Int×Unit):Option (Int×Unit):=(C1 (x.1.1,x.2.1,())).bind fun v=>some (v.1,())
def WI:Ent:=⟨253,⟨(.slot A0 (.slot .i .nil)),.nil⟩,⟨(.slot .i .nil),.nil⟩,D1⟩
theorem A3p:Ah Go.Proofs.Tryz.prog WI:=okA (hcA 0 (all_cons PC all_nil)) Go.Proofs.Tryz.func253
abbrev iP:=List A1×Int×Unit×Int×Unit
abbrev iL:=Int×Int×Unit
abbrev iM:=Int×Unit
def Av (i:iP)(v:iL)(R:Type)(K:iL ⊕ iM->Option R):Option R:=bif decide (v.1<v.2.1)then(lAt i.1 (IntKind.i64.wrap (Int.fdiv (IntKind.u64.wrap (IntKind.i64.wrap (v.1+v.2.1))) (2 ^ min (Int.toNat 1) (IntKind.bits IntKind.u64))))).bind fun a=>(D1 ((a.1,a.2.1,()),i.2.1,())).bind fun b=>bif decide (b.1<0)then K (.inl (IntKind.i64.wrap (IntKind.i64.wrap (Int.fdiv (IntKind.u64.wrap (IntKind.i64.wrap (v.1+v.2.1))) (2 ^ min (Int.toNat 1) (IntKind.bits IntKind.u64)))+1),v.2.1,()))else K (.inl (v.1,IntKind.i64.wrap (Int.fdiv (IntKind.u64.wrap (IntKind.i64.wrap (v.1+v.2.1))) (2 ^ min (Int.toNat 1) (IntKind.bits IntKind.u64))),()))else K (.inr (v.1,()))
theorem EB:AX Av:=fun i v R K=>Ae (Ac fun _=>Ac fun _=>Ae (Aa) (Aa)) (Aa)
def Uu:Tmpl:=⟨(.slot (.slice A0) (.slot .i (.slot (.fn 253 .unit) (jk 5 (si 3 (jk 38 .nil)))))),.nil⟩
def iK:Exs iP iM:=x1 (.exit 0) fun i p=>⟨AV.pv (.slice A0) i.1::.n (i.2.1)::AV.pv (.fn 253 .unit) i.2.2.1::jn 5 (.n (i.2.2.2.1)::.n (p.1)::jn 39 ([])),[]⟩
def iO:=((.i (.i (.i (.i (.v (.v .n)))))):Pk Uu.ty _ _)
def wo:Cfg:={ti:=Ar,ents:=[WI],ann:=[(3,Ao Uu 0 (spP iO) Av iK.E)],lent:=0}
def AN (x:List A1×Int×Unit×Unit):Option (Int×Bool×Unit):=(Ay (fun v=>Av (x.1,x.2.1,x.2.2.1,(x.1.length:Int),()) v _ some) (0,(x.1.length:Int),())).bind fun p=>bif decide (p.1<(x.1.length:Int))then(lAt x.1 p.1).bind fun v=>(D1 ((v.1,v.2.1,()),x.2.1,())).bind fun v=>some (p.1,v.1==0,())else some (p.1,false,())
def WH:Ent:=⟨252,⟨(.slot (.slice A0) (.slot .i (.slot (.fn 253 .unit) .nil))),.nil⟩,⟨(.slot .i (.slot .bool .nil)),.nil⟩,AN⟩
theorem iQ:CfgOK Go.Proofs.Tryz.prog wo:=hcB (all_cons A3p all_nil)
theorem wn:AP Go.Proofs.Tryz.prog wo (lpc Go.Proofs.Tryz.f252 0):=lkA iQ Uu iO Av iK [0,1,2,8,9] EB
theorem A3o:Ah Go.Proofs.Tryz.prog WH:=okB iQ Go.Proofs.Tryz.func252 wn
def BT (x:Int×List (List A2)×Unit):Option (Option (Nat×Nat)×List (List A2)×Unit):=if 0<=x.1/\x.1<(x.2.1.length:Int)then x.2.1[0+x.1.toNat]?.bind fun v=>x.2.1[0+x.1.toNat]?.bind fun v=>x.2.1[0+x.1.toNat]?.bind fun a=>if 0<=IntKind.i64.wrap ((v.length:Int)-1)/\IntKind.i64.wrap ((v.length:Int)-1)<(a.length:Int)then some (some (0+x.1.toNat,0+(IntKind.i64.wrap ((v.length:Int)-1)).toNat),x.2.1,())else none else none
def Rp:Ent:=⟨243,⟨(.agg (.own 0 .nil) (.slot .i .nil)),(.tree false 0 (.slice Af) .nil)⟩,⟨(.mptr 0 0 0 .nil),(.tree false 0 (.slice Af) .nil)⟩,BT⟩
theorem iJ:Ah Go.Proofs.Tryz.prog Rp:=okA (hcA 1 all_nil) Go.Proofs.Tryz.func243
def WF:Go.Shelf.Ren:=⟨fun|22=>254|29=>279|30=>280|n=>n,fun|24=>91|9=>147|n=>n,fun|n=>n⟩
theorem Aay:InsL Go.Proofs.Tryz.prog WF true 2 where
 mixed:=by kernel_rfl
 f22:=⟨ "slices.Insert[[]loop.example/g01924/impl.Write,loop.example/g01924/impl.Write]",by decide,Go.Proofs.Tryz.func254.trans (congrArg some (by kernel_rfl))⟩
 f29:=⟨_,Go.Proofs.Tryz.func279,by kernel_rfl,by kernel_rfl,by kernel_rfl,by kernel_rfl⟩
 a9:=Go.Proofs.Tryz.isAgg147
 z9:=Go.Proofs.Tryz.sizeOf147
 t0:=Go.Proofs.Tryz.underlying0
 a0:=Go.Proofs.Tryz.isAgg0
 z0:=Go.Proofs.Tryz.sizeOf0
 v0:=Go.Proofs.Tryz.zeroValue0
 t3:=Go.Proofs.Tryz.underlying3
 a3:=Go.Proofs.Tryz.isAgg3
 z3:=Go.Proofs.Tryz.sizeOf3
 v3:=Go.Proofs.Tryz.zeroValue3
 t4:=Go.Proofs.Tryz.underlying4
 a4:=Go.Proofs.Tryz.isAgg4
 z4:=Go.Proofs.Tryz.sizeOf4
 v4:=Go.Proofs.Tryz.zeroValue4
 t24:=Go.Proofs.Tryz.underlying91
 a24:=Go.Proofs.Tryz.isAgg91
 z24:=Go.Proofs.Tryz.sizeOf91
 v24:=Go.Proofs.Tryz.zeroValue91
def Fn (x:Int×List (Int×Int×Unit)×List (Int×Int×Unit)×Unit):Option (List (Int×Int×Unit)×Unit):=Qo (α:=Int×Int×Unit) 2199023255552 x
def Adi:Cfg:={ti:=Ar,ents:=[],ann:=[],lent:=2}
def WG:Ent:=⟨254,⟨(.own 0 (.slot Ty.i (.own 1 .nil))),(.lst false A0 (.lst false A0 .nil))⟩,⟨(.own 2 .nil),(.gone (.gone (.lst false A0 .nil)))⟩,Fn⟩
theorem A3n:Ah Go.Proofs.Tryz.prog WG:=Rb (ρ:=WF) (t:=A0) n4 Aay rfl (by decide) rfl
def Aax:Cfg:={ti:=Ar,ents:=[Rp,WG,WH,bf],ann:=[],lent:=2,hid:=[((6,0),[1]),((6,1),[1]),((6,2),[1]),((6,3),[1]),((6,4),[1])],tak:=[254]}
def BL (x:Nat×Int×Int×List A3×List (List A2)×Unit):Option (List A3×List (List A2)×Unit):=x.2.2.2.1[x.1]?.bind fun v=>x.2.2.2.1[x.1]?.bind fun v=>(AN (v.2.2.2.2.2.2.2.2.1,x.2.1,(),())).bind fun v=>x.2.2.2.1[x.1]?.bind fun a=>x.2.2.2.1[x.1]?.bind fun b=>(CK (b.2.2.2.2.2.2.2.2.1,())).bind fun c=>x.2.2.2.1[x.1]?.bind fun d=>bif v.2.1 then(x.2.2.2.1.set x.1 (d.1,d.2.1,d.2.2.1,d.2.2.2.1,d.2.2.2.2.1,d.2.2.2.2.2.1,d.2.2.2.2.2.2.1,d.2.2.2.2.2.2.2.1,c.1,()))[x.1]?.bind fun e=>(x.2.2.2.1.set x.1 (d.1,d.2.1,d.2.2.1,d.2.2.2.1,d.2.2.2.2.1,d.2.2.2.2.2.1,d.2.2.2.2.2.2.1,d.2.2.2.2.2.2.2.1,c.1,()))[x.1]?.bind fun f=>if 0<=v.1/\v.1<(f.2.2.2.2.2.2.2.2.1.length:Int)then(x.2.2.2.1.set x.1 (d.1,d.2.1,d.2.2.1,d.2.2.2.1,d.2.2.2.2.1,d.2.2.2.2.2.1,d.2.2.2.2.2.2.1,d.2.2.2.2.2.2.2.1,c.1,()))[x.1]?.bind fun g=>g.2.2.2.2.2.2.2.2.1[0+v.1.toNat]?.bind fun h=>((x.2.2.2.1.set x.1 (d.1,d.2.1,d.2.2.1,d.2.2.2.1,d.2.2.2.2.1,d.2.2.2.2.2.1,d.2.2.2.2.2.2.1,d.2.2.2.2.2.2.2.1,c.1,())).set x.1 (g.1,g.2.1,g.2.2.1,g.2.2.2.1,g.2.2.2.2.1,g.2.2.2.2.2.1,g.2.2.2.2.2.2.1,g.2.2.2.2.2.2.2.1,g.2.2.2.2.2.2.2.2.1.set (0+v.1.toNat) (h.1,x.2.2.1,()),()))[x.1]?.bind fun j=>(BT (x.2.1,x.2.2.2.2.1,())).bind fun k=>k.1.bind fun l=>k.2.1[l.1]?.bind fun m=>m[l.2]?.bind fun n=>((x.2.2.2.1.set x.1 (d.1,d.2.1,d.2.2.1,d.2.2.2.1,d.2.2.2.2.1,d.2.2.2.2.2.1,d.2.2.2.2.2.2.1,d.2.2.2.2.2.2.2.1,c.1,())).set x.1 (g.1,g.2.1,g.2.2.1,g.2.2.2.1,g.2.2.2.2.1,g.2.2.2.2.2.1,g.2.2.2.2.2.2.1,g.2.2.2.2.2.2.2.1,g.2.2.2.2.2.2.2.2.1.set (0+v.1.toNat) (h.1,x.2.2.1,()),()))[x.1]?.bind fun o=>some (((x.2.2.2.1.set x.1 (d.1,d.2.1,d.2.2.1,d.2.2.2.1,d.2.2.2.2.1,d.2.2.2.2.2.1,d.2.2.2.2.2.2.1,d.2.2.2.2.2.2.2.1,c.1,())).set x.1 (g.1,g.2.1,g.2.2.1,g.2.2.2.1,g.2.2.2.2.1,g.2.2.2.2.2.1,g.2.2.2.2.2.2.1,g.2.2.2.2.2.2.2.1,g.2.2.2.2.2.2.2.2.1.set (0+v.1.toNat) (h.1,x.2.2.1,()),())).set x.1 (o.1,o.2.1,o.2.2.1,o.2.2.2.1,mx j.2.2.2.2.1 n.2.2.2.1,o.2.2.2.2.2.1,o.2.2.2.2.2.2.1,o.2.2.2.2.2.2.2.1,o.2.2.2.2.2.2.2.2.1,()),k.2.1,())else none else(x.2.2.2.1.set x.1 (d.1,d.2.1,d.2.2.1,d.2.2.2.1,d.2.2.2.2.1,d.2.2.2.2.2.1,d.2.2.2.2.2.2.1,d.2.2.2.2.2.2.2.1,c.1,()))[x.1]?.bind fun e=>(x.2.2.2.1.set x.1 (d.1,d.2.1,d.2.2.1,d.2.2.2.1,d.2.2.2.2.1,d.2.2.2.2.2.1,d.2.2.2.2.2.2.1,d.2.2.2.2.2.2.2.1,c.1,()))[x.1]?.bind fun f=>(Fn (v.1,f.2.2.2.2.2.2.2.2.1,[(x.2.1,x.2.2.1,())],())).bind fun v=>(x.2.2.2.1.set x.1 (d.1,d.2.1,d.2.2.1,d.2.2.2.1,d.2.2.2.2.1,d.2.2.2.2.2.1,d.2.2.2.2.2.2.1,d.2.2.2.2.2.2.2.1,c.1,()))[x.1]?.bind fun g=>if 9<=9/\true=true/\x.1=x.1/\8<=8/\8<9 then((x.2.2.2.1.set x.1 (d.1,d.2.1,d.2.2.1,d.2.2.2.1,d.2.2.2.2.1,d.2.2.2.2.2.1,d.2.2.2.2.2.2.1,d.2.2.2.2.2.2.2.1,c.1,())).set x.1 (g.1,g.2.1,g.2.2.1,g.2.2.2.1,g.2.2.2.2.1,g.2.2.2.2.2.1,g.2.2.2.2.2.2.1,g.2.2.2.2.2.2.2.1,v.1,()))[x.1]?.bind fun h=>(BT (x.2.1,x.2.2.2.2.1,())).bind fun j=>j.1.bind fun k=>j.2.1[k.1]?.bind fun l=>l[k.2]?.bind fun m=>((x.2.2.2.1.set x.1 (d.1,d.2.1,d.2.2.1,d.2.2.2.1,d.2.2.2.2.1,d.2.2.2.2.2.1,d.2.2.2.2.2.2.1,d.2.2.2.2.2.2.2.1,c.1,())).set x.1 (g.1,g.2.1,g.2.2.1,g.2.2.2.1,g.2.2.2.2.1,g.2.2.2.2.2.1,g.2.2.2.2.2.2.1,g.2.2.2.2.2.2.2.1,v.1,()))[x.1]?.bind fun n=>some (((x.2.2.2.1.set x.1 (d.1,d.2.1,d.2.2.1,d.2.2.2.1,d.2.2.2.2.1,d.2.2.2.2.2.1,d.2.2.2.2.2.2.1,d.2.2.2.2.2.2.2.1,c.1,())).set x.1 (g.1,g.2.1,g.2.2.1,g.2.2.2.1,g.2.2.2.2.1,g.2.2.2.2.2.1,g.2.2.2.2.2.2.1,g.2.2.2.2.2.2.2.1,v.1,())).set x.1 (n.1,n.2.1,n.2.2.1,n.2.2.2.1,mx h.2.2.2.2.1 m.2.2.2.1,n.2.2.2.2.2.1,n.2.2.2.2.2.2.1,n.2.2.2.2.2.2.2.1,n.2.2.2.2.2.2.2.2.1,()),j.2.1,())else none
def WE:Ent:=⟨210,⟨(.ptrI 0 0 (.agg (.own 1 .nil) (si 2 .nil))),(.tree false 0 Ad (.tree false 0 (.slice Af) .nil))⟩,⟨.nil,(.tree false 1 Ad (.tree false 0 (.slice Af) .nil))⟩,BL⟩
theorem A3m:Ah Go.Proofs.Tryz.prog WE:=okA (C:=Aax) (hcB (all_cons iJ (all_cons A3n (all_cons A3o (all_cons pa all_nil))))) Go.Proofs.Tryz.func210
def Aaw:Cfg:={ti:=Ar,ents:=[NJ,WE,WU,WW,WN,WR,WM,WJ],ann:=[],lent:=5,hid:=[((5,13),[0]),((10,13),[0])],pre:=[(some (0,3)),(some (0,4))]}
def FH (x:Nat×Int×Int×Bool×Int×A7):Option (Int×Bool×Int×A7):=x.2.2.2.2.2.2.1[x.1]?.bind fun v=>x.2.2.2.2.2.2.1[x.1]?.bind fun a=>x.2.2.2.2.2.2.1[x.1]?.bind fun b=>(EV ((x.2.2.2.2.2.1,()),x.2.2.2.2.2.2.2.1,(v.1,v.2.1,v.2.2.1,v.2.2.2.1,v.2.2.2.2.1,v.2.2.2.2.2.1,v.2.2.2.2.2.2.1,a.2.2.2.2.2.2.2.1,b.2.2.2.2.2.2.2.2.1,()),x.2.1,())).bind fun v=>(GY (x.2.2.2.2.2.2.2.1,x.2.1,())).bind fun c=>bif v.1==1 then x.2.2.2.2.2.2.1[x.1]?.bind fun d=>(Gj (x.2.2.2.2.2.2.2.2.1,d.1,c.1,())).bind fun e=>bif e.1 then(Ba (x.1,4,x.2.2.2.1,x.2.2.2.2.1,x.2.2.2.2.2.1,x.2.2.2.2.2.2.1,x.2.2.2.2.2.2.2.1,x.2.2.2.2.2.2.2.2.1,())).bind fun v=>some (v.1,v.2.1,v.2.2.1,v.2.2.2.1,v.2.2.2.2.1,v.2.2.2.2.2.2.2.1,v.2.2.2.2.2.2.2.2.1,())else bif v.1==1 then x.2.2.2.2.2.2.1[x.1]?.bind fun f=>(GW (x.2.2.2.2.2.2.2.2.1,f.1,c.1,())).bind fun g=>some (v.1,x.2.2.2.1,x.2.2.2.2.1,x.2.2.2.2.2.1,x.2.2.2.2.2.2.1,x.2.2.2.2.2.2.2.1,g.2.1,())else bif v.1 != 0 then(Ba (x.1,v.1,x.2.2.2.1,x.2.2.2.2.1,x.2.2.2.2.2.1,x.2.2.2.2.2.2.1,x.2.2.2.2.2.2.2.1,x.2.2.2.2.2.2.2.2.1,())).bind fun v=>some (v.1,v.2.1,v.2.2.1,v.2.2.2.1,v.2.2.2.2.1,v.2.2.2.2.2.2.2.1,v.2.2.2.2.2.2.2.2.1,())else x.2.2.2.2.2.2.1[x.1]?.bind fun v=>(Gk (v.2.1,())).bind fun v=>bif v.1 then x.2.2.2.2.2.2.1[x.1]?.bind fun v=>(Fu (x.2.2.2.2.2.2.2.1,x.2.1,v.1,())).bind fun v=>(BL (x.1,x.2.1,x.2.2.1,x.2.2.2.2.2.2.1,x.2.2.2.2.2.1,())).bind fun f=>some (0,x.2.2.2.1,x.2.2.2.2.1,f.2.1,f.1,v.2.1,x.2.2.2.2.2.2.2.2.1,())else(BL (x.1,x.2.1,x.2.2.1,x.2.2.2.2.2.2.1,x.2.2.2.2.2.1,())).bind fun v=>some (0,x.2.2.2.1,x.2.2.2.2.1,v.2.1,v.1,x.2.2.2.2.2.2.2.1,x.2.2.2.2.2.2.2.2.1,())else bif v.1==1 then x.2.2.2.2.2.2.1[x.1]?.bind fun d=>(GW (x.2.2.2.2.2.2.2.2.1,d.1,c.1,())).bind fun e=>some (v.1,x.2.2.2.1,x.2.2.2.2.1,x.2.2.2.2.2.1,x.2.2.2.2.2.2.1,x.2.2.2.2.2.2.2.1,e.2.1,())else bif v.1 != 0 then(Ba (x.1,v.1,x.2.2.2.1,x.2.2.2.2.1,x.2.2.2.2.2.1,x.2.2.2.2.2.2.1,x.2.2.2.2.2.2.2.1,x.2.2.2.2.2.2.2.2.1,())).bind fun v=>some (v.1,v.2.1,v.2.2.1,v.2.2.2.1,v.2.2.2.2.1,v.2.2.2.2.2.2.2.1,v.2.2.2.2.2.2.2.2.1,())else x.2.2.2.2.2.2.1[x.1]?.bind fun v=>(Gk (v.2.1,())).bind fun v=>bif v.1 then x.2.2.2.2.2.2.1[x.1]?.bind fun v=>(Fu (x.2.2.2.2.2.2.2.1,x.2.1,v.1,())).bind fun v=>(BL (x.1,x.2.1,x.2.2.1,x.2.2.2.2.2.2.1,x.2.2.2.2.2.1,())).bind fun d=>some (0,x.2.2.2.1,x.2.2.2.2.1,d.2.1,d.1,v.2.1,x.2.2.2.2.2.2.2.2.1,())else(BL (x.1,x.2.1,x.2.2.1,x.2.2.2.2.2.2.1,x.2.2.2.2.2.1,())).bind fun v=>some (0,x.2.2.2.1,x.2.2.2.2.1,v.2.1,v.1,x.2.2.2.2.2.2.2.1,x.2.2.2.2.2.2.2.2.1,())
def WD:Ent:=⟨147,⟨(.ptr 0 0 0 (.ptrI 2 0 (si 2 .nil))),(.cells 6 (.slot .bool (.own 1 (.own 2 (.own 3 (.own 4 (.slot .i .nil)))))) (.tree false 0 (.slice Af) (.tree false 0 Ad (.lst false A0 (.lst false A0 .nil)))))⟩,⟨(.agg (.slot .i (.const (AV.nils) .nil)) .nil),(.cells 6 (.slot .bool (.own 1 (.own 2 (.own 5 (.own 6 (.slot .i .nil)))))) (.tree false 0 (.slice Af) (.tree false 1 Ad (.gone (.gone (.lst false A0 (.lst false A0 .nil)))))))⟩,FH⟩
theorem A3l:Ah Go.Proofs.Tryz.prog WD:=okA (C:=Aaw) (hcB (all_cons R9 (all_cons A3m (all_cons A46 (all_cons ju (all_cons A3x (all_cons jl (all_cons A3w (all_cons A3q all_nil))))))))) Go.Proofs.Tryz.func147
def C5 (x:A1×Option A4×Option A3×Unit):Option (Bool×Unit):=x.2.1.bind fun v=>(DI ((v.1,()),x.1.1,())).bind fun v=>v.1.bind fun v=>x.2.2.1.bind fun a=>some (decide (v.2.2.1>a.2.2.2.1),())
def WC:Ent:=⟨256,⟨(.slot A0 (.slot (.iref Bo) (.slot (.iref Ad) .nil))),.nil⟩,⟨(.slot .bool .nil),.nil⟩,C5⟩
theorem A3k:Ah Go.Proofs.Tryz.prog WC:=okA (hcA 0 (all_cons UA all_nil)) Go.Proofs.Tryz.func256
abbrev iH:=List A1×(Option A4×Option A3×Unit)×Int×Unit
abbrev iD:=Int×Unit
abbrev iE:=Int×Unit ⊕ Unit
def AM (i:iH)(v:iD)(R:Type)(K:iD ⊕ iE->Option R):Option R:=bif decide (v.1<i.2.2.1)then(lAt i.1 v.1).bind fun a=>(C5 ((a.1,a.2.1,()),i.2.1.1,i.2.1.2.1,())).bind fun b=>bif b.1 then K (.inr (.inl (v.1,())))else K (.inl (IntKind.i64.wrap (v.1+1),()))else K (.inr (.inr ()))
theorem FQ:AX AM:=fun i v R K=>Ae (Ac fun _=>Ac fun _=>Ae (Aa) (Aa)) (Aa)
def Ut:Tmpl:=⟨(.slot (.slice A0) (.slot (.fn 256 (.prod (.iref Bo) (.prod (.iref Ad) .unit))) (jk 5 (si 2 (jk 10 .nil))))),.nil⟩
def iC:Exs iH iE:=xs .ret (fun i p=>⟨jn 4 (.n (p.1)::jn 14 ([])),[]⟩)<|x1 (.exit 0) fun i p=>⟨jn 19 ([]),[]⟩
def iG:=((.i (.i (.i (.v .n)))):Pk Ut.ty _ _)
def wm:Cfg:={ti:=Ar,ents:=[WC],ann:=[(2,Ao Ut 0 (spP iG) AM iC.E)],lent:=0}
def Bp (x:List A1×(Option A4×Option A3×Unit)×Unit):Option (Int×Unit):=(Ay (fun v=>AM (x.1,x.2.1,(x.1.length:Int),()) v _ some) (0,())).bind fun p=>Au p (fun p=>some (p.1,())) fun p=>some (-1,())
def wl:Ent:=⟨269,⟨(.slot (.slice A0) (.slot (.fn 256 (.prod (.iref Bo) (.prod (.iref Ad) .unit))) .nil)),.nil⟩,⟨(.slot .i .nil),.nil⟩,Bp⟩
theorem iI:CfgOK Go.Proofs.Tryz.prog wm:=hcB (all_cons A3k all_nil)
theorem wk:AP Go.Proofs.Tryz.prog wm (lpc Go.Proofs.Tryz.f269 0):=lkA iI Ut iG AM iC [4] FQ
theorem A3j:Ah Go.Proofs.Tryz.prog wl:=okB iI Go.Proofs.Tryz.func269 wk
def Bm (x:List A1×(Option A4×Option A3×Unit)×Unit):Option (Bool×Unit):=(Bp (x.1,x.2.1,())).bind fun v=>some (decide (v.1>=0),())
def wj:Ent:=⟨255,⟨(.slot (.slice A0) (.slot (.fn 256 (.prod (.iref Bo) (.prod (.iref Ad) .unit))) .nil)),.nil⟩,⟨(.slot .bool .nil),.nil⟩,Bm⟩
theorem A3i:Ah Go.Proofs.Tryz.prog wj:=okA (hcA 0 (all_cons A3j all_nil)) Go.Proofs.Tryz.func255
def Eu (x:A4×A3×Unit):Option (Int×Unit):=(Bm (x.2.1.2.2.2.2.2.2.2.2.1,(some (x.1.1,()),some (x.2.1.1,x.2.1.2.1,x.2.1.2.2.1,x.2.1.2.2.2.1,x.2.1.2.2.2.2.1,x.2.1.2.2.2.2.2.1,x.2.1.2.2.2.2.2.2.1,x.2.1.2.2.2.2.2.2.2.1,x.2.1.2.2.2.2.2.2.2.2.1,()),()),())).bind fun v=>bif !v.1 then some (0,())else bif x.2.1.2.1==2 then some (2,())else bif x.2.1.2.1==4 then some (3,())else some (0,())
def WB:Ent:=⟨211,⟨(.slot Bo (.slot Ad .nil)),.nil⟩,⟨(.slot .i .nil),.nil⟩,Eu⟩
theorem A3h:Ah Go.Proofs.Tryz.prog WB:=okA (hcA 0 (all_cons A3i all_nil)) Go.Proofs.Tryz.func211
abbrev iA:=List A1×Int×List (List A2)×A3
abbrev it:=Int×Int×Unit
abbrev iv:=Int×Unit
def Cj (i:iA)(v:it)(R:Type)(K:it ⊕ iv->Option R):Option R:=bif decide (v.2.1<i.2.1)then(lAt i.1 v.2.1).bind fun a=>K (.inl (mx v.1 a.2.1,IntKind.i64.wrap (v.2.1+1),()))else K (.inr (v.1,()))
theorem KK:AX Cj:=fun i v R K=>Ae (Ac fun _=>Aa) (Aa)
def Ur:Tmpl:=⟨(jk 2 (.ptr 0 0 0 (.ptr 1 0 0 (.junk (.slot .i (jk 5 (.slot (.slice A0) (si 2 (jk 26 .nil))))))))),(.cells 1 (.slot (.slice (.slice Af)) .nil) (.cells 9 (si 7 (.slot (.slice A0) (.slot (.slice A0) .nil))) .nil))⟩
def iq:Exs iA iv:=x1 (.exit 0) fun i p=>⟨jn 2 (AV.ptr 0 none 0 0::AV.ptr 1 none 0 0::jn 1 (.n (p.1)::jn 34 ([]))),[some (Cont.cells 1 [[AV.pv (.slice (.slice Af)) i.2.2.1]]),some (Cont.cells 9 [[AV.pv .i i.2.2.2.1,AV.pv .i i.2.2.2.2.1,AV.pv .i i.2.2.2.2.2.1,AV.pv .i i.2.2.2.2.2.2.1,AV.pv .i i.2.2.2.2.2.2.2.1,AV.pv .i i.2.2.2.2.2.2.2.2.1,AV.pv .i i.2.2.2.2.2.2.2.2.2.1,AV.pv (.slice A0) i.2.2.2.2.2.2.2.2.2.2.1,AV.pv (.slice A0) i.2.2.2.2.2.2.2.2.2.2.2.1]])]⟩
def iy:=((.v (.i (.i (.v (.i (.i (.i (.i (.i (.i (.i (.i (.i (.i .n)))))))))))))):Pk Ur.ty _ _)
abbrev iz:=List A1×Int×List (List A2)×Unit
abbrev ir:=Int×Int×Unit
abbrev iu:=Int×Unit
def BM (i:iz)(v:ir)(R:Type)(K:ir ⊕ iu->Option R):Option R:=bif decide (v.2.1<i.2.1)then(lAt i.1 v.2.1).bind fun a=>(DI ((i.2.2.1,()),a.1,())).bind fun b=>b.1.bind fun c=>K (.inl (mx v.1 c.2.2.2.1,IntKind.i64.wrap (v.2.1+1),()))else K (.inr (v.1,()))
theorem KJ:AX BM:=fun i v R K=>Ae (Ac fun _=>Ac fun _=>Ac fun _=>Aa) (Aa)
def Uq:Tmpl:=⟨(jk 2 (.ptr 0 0 0 (jk 2 (.slot .i (jk 17 (.slot (.slice A0) (si 2 (jk 14 .nil)))))))),(.cells 1 (.slot (.slice (.slice Af)) .nil) .nil)⟩
def ip:Exs iz iu:=x1 (.exit 2) fun i p=>⟨jn 5 (.n (p.1)::jn 34 ([])),[some (Cont.cells 1 [[AV.pv (.slice (.slice Af)) i.2.2.1]])]⟩
def iw:=((.v (.i (.i (.v (.i .n))))):Pk Uq.ty _ _)
def ZG:Cfg:={ti:=Ar,ents:=[WV],ann:=[(3,Ao Ur 0 (spP iy) Cj iq.E),(8,Ao Uq 0 (spP iw) BM ip.E)],lent:=0}
def Et (x:A4×A3×Unit):Option (Int×Unit):=(Ay (fun v=>Cj (x.2.1.2.2.2.2.2.2.2.1,(x.2.1.2.2.2.2.2.2.2.1.length:Int),x.1.1,x.2.1.1,x.2.1.2.1,x.2.1.2.2.1,x.2.1.2.2.2.1,x.2.1.2.2.2.2.1,x.2.1.2.2.2.2.2.1,x.2.1.2.2.2.2.2.2.1,x.2.1.2.2.2.2.2.2.2.1,x.2.1.2.2.2.2.2.2.2.2.1,()) v _ some) (0,0,())).bind fun p=>(Ay (fun v=>BM (x.2.1.2.2.2.2.2.2.2.2.1,(x.2.1.2.2.2.2.2.2.2.2.1.length:Int),x.1.1,()) v _ some) (p.1,0,())).bind fun p=>some (p.1,())
def wi:Ent:=⟨257,⟨(.slot Bo (.slot Ad .nil)),.nil⟩,⟨(.slot .i .nil),.nil⟩,Et⟩
theorem Us:CfgOK Go.Proofs.Tryz.prog ZG:=hcB (all_cons UA all_nil)
theorem wg:AP Go.Proofs.Tryz.prog ZG (lpc Go.Proofs.Tryz.f257 1):=lkA Us Uq iw BM ip [5] KJ
theorem wh:AP Go.Proofs.Tryz.prog ZG (lpc Go.Proofs.Tryz.f257 0):=lkA Us Ur iy Cj iq [2,3,5] KK
theorem A3g:Ah Go.Proofs.Tryz.prog wi:=okC Us Go.Proofs.Tryz.func257 wh wg
abbrev im:=List A1×Int×List (List A2)×Unit
abbrev ij:=Int×Int×Unit
abbrev ik:=Int×Unit
def C4 (i:im)(v:ij)(R:Type)(K:ij ⊕ ik->Option R):Option R:=bif decide (v.2.1<i.2.1)then(lAt i.1 v.2.1).bind fun a=>(Dx ((i.2.2.1,()),(a.1,a.2.1,()),())).bind fun b=>b.1.bind fun c=>K (.inl (mn v.1 c.2.2.2.2.1,IntKind.i64.wrap (v.2.1+1),()))else K (.inr (v.1,()))
theorem Ks:AX C4:=fun i v R K=>Ae (Ac fun _=>Ac fun _=>Ac fun _=>Aa) (Aa)
def Up:Tmpl:=⟨(jk 2 (.ptr 0 0 0 (jk 2 (.slot .i (jk 3 (.slot (.slice A0) (si 2 (jk 13 .nil)))))))),(.cells 1 (.slot (.slice (.slice Af)) .nil) .nil)⟩
def ii:Exs im ik:=x1 (.exit 0) fun i p=>⟨jn 5 (.n (p.1)::jn 19 ([])),[some (Cont.cells 1 [[AV.pv (.slice (.slice Af)) i.2.2.1]])]⟩
def il:=((.v (.i (.i (.v (.i .n))))):Pk Up.ty _ _)
def we:Cfg:={ti:=Ar,ents:=[Xs],ann:=[(3,Ao Up 0 (spP il) C4 ii.E)],lent:=0}
def E9 (x:A4×A3×Unit):Option (Int×Unit):=(Ay (fun v=>C4 (x.2.1.2.2.2.2.2.2.2.1,(x.2.1.2.2.2.2.2.2.2.1.length:Int),x.1.1,()) v _ some) (1000,0,())).bind fun p=>some (p.1,())
def wd:Ent:=⟨258,⟨(.slot Bo (.slot Ad .nil)),.nil⟩,⟨(.slot .i .nil),.nil⟩,E9⟩
theorem io:CfgOK Go.Proofs.Tryz.prog we:=hcB (all_cons lK all_nil)
theorem wc:AP Go.Proofs.Tryz.prog we (lpc Go.Proofs.Tryz.f258 0):=lkA io Up il C4 ii [5] Ks
theorem A3f:Ah Go.Proofs.Tryz.prog wd:=okB io Go.Proofs.Tryz.func258 wc
def EJ (x:A4×A3×Int×Unit):Option A1:=(Et ((x.1.1,()),(x.2.1.1,x.2.1.2.1,x.2.1.2.2.1,x.2.1.2.2.2.1,x.2.1.2.2.2.2.1,x.2.1.2.2.2.2.2.1,x.2.1.2.2.2.2.2.2.1,x.2.1.2.2.2.2.2.2.2.1,x.2.1.2.2.2.2.2.2.2.2.1,()),())).bind fun v=>(E9 ((x.1.1,()),(x.2.1.1,x.2.1.2.1,x.2.1.2.2.1,x.2.1.2.2.2.1,x.2.1.2.2.2.2.1,x.2.1.2.2.2.2.2.1,x.2.1.2.2.2.2.2.2.1,x.2.1.2.2.2.2.2.2.2.1,x.2.1.2.2.2.2.2.2.2.2.1,()),())).bind fun a=>some (mx x.2.1.2.2.2.2.1 v.1,mn (mn x.2.1.2.2.2.2.2.1 a.1) x.2.2.1,())
def Ro:Ent:=⟨212,⟨(.slot Bo (.slot Ad (.slot .i .nil))),.nil⟩,⟨(si 2 .nil),.nil⟩,EJ⟩
theorem ig:Ah Go.Proofs.Tryz.prog Ro:=okA (hcA 0 (all_cons A3g (all_cons A3f all_nil))) Go.Proofs.Tryz.func212
def CY (x:A1×Option A4×Unit):Option (Bool×Unit):=x.2.1.bind fun v=>(lAt v.1 x.1.1).bind fun v=>some ((v.length:Int)==50,())
def WA:Ent:=⟨259,⟨(.slot A0 (.slot (.iref Bo) .nil)),.nil⟩,⟨(.slot .bool .nil),.nil⟩,CY⟩
theorem A3e:Ah Go.Proofs.Tryz.prog WA:=okA (hcA 0 all_nil) Go.Proofs.Tryz.func259
abbrev ib:=List A1×(Option A4×Unit)×Int×Unit
abbrev i8:=Int×Unit
abbrev i9:=Int×Unit ⊕ Unit
def AQ (i:ib)(v:i8)(R:Type)(K:i8 ⊕ i9->Option R):Option R:=bif decide (v.1<i.2.2.1)then(lAt i.1 v.1).bind fun a=>(CY ((a.1,a.2.1,()),i.2.1.1,())).bind fun b=>bif b.1 then K (.inr (.inl (v.1,())))else K (.inl (IntKind.i64.wrap (v.1+1),()))else K (.inr (.inr ()))
theorem GQ:AX AQ:=fun i v R K=>Ae (Ac fun _=>Ac fun _=>Ae (Aa) (Aa)) (Aa)
def Uo:Tmpl:=⟨(.slot (.slice A0) (.slot (.fn 259 (.prod (.iref Bo) .unit)) (jk 5 (si 2 (jk 10 .nil))))),.nil⟩
def i7:Exs ib i9:=xs .ret (fun i p=>⟨jn 4 (.n (p.1)::jn 14 ([])),[]⟩)<|x1 (.exit 0) fun i p=>⟨jn 19 ([]),[]⟩
def ia:=((.i (.i (.i (.v .n)))):Pk Uo.ty _ _)
def wb:Cfg:={ti:=Ar,ents:=[WA],ann:=[(2,Ao Uo 0 (spP ia) AQ i7.E)],lent:=0}
def BC (x:List A1×(Option A4×Unit)×Unit):Option (Int×Unit):=(Ay (fun v=>AQ (x.1,x.2.1,(x.1.length:Int),()) v _ some) (0,())).bind fun p=>Au p (fun p=>some (p.1,())) fun p=>some (-1,())
def wa:Ent:=⟨269,⟨(.slot (.slice A0) (.slot (.fn 259 (.prod (.iref Bo) .unit)) .nil)),.nil⟩,⟨(.slot .i .nil),.nil⟩,BC⟩
theorem ic:CfgOK Go.Proofs.Tryz.prog wb:=hcB (all_cons A3e all_nil)
theorem w9:AP Go.Proofs.Tryz.prog wb (lpc Go.Proofs.Tryz.f269 0):=lkA ic Uo ia AQ i7 [4] GQ
theorem A3d:Ah Go.Proofs.Tryz.prog wa:=okB ic Go.Proofs.Tryz.func269 w9
def Bt (x:List A1×(Option A4×Unit)×Unit):Option (Bool×Unit):=(BC (x.1,x.2.1,())).bind fun v=>some (decide (v.1>=0),())
def w8:Ent:=⟨255,⟨(.slot (.slice A0) (.slot (.fn 259 (.prod (.iref Bo) .unit)) .nil)),.nil⟩,⟨(.slot .bool .nil),.nil⟩,Bt⟩
theorem A3c:Ah Go.Proofs.Tryz.prog w8:=okA (hcA 0 (all_cons A3d all_nil)) Go.Proofs.Tryz.func255
def EK (x:A4×A3×Unit):Option (Bool×Unit):=(Bt (x.2.1.2.2.2.2.2.2.2.2.1,(some (x.1.1,()),()),())).bind fun v=>some (v.1,())
def Wz:Ent:=⟨213,⟨(.slot Bo (.slot Ad .nil)),.nil⟩,⟨(.slot .bool .nil),.nil⟩,EK⟩
theorem A3b:Ah Go.Proofs.Tryz.prog Wz:=okA (hcA 0 (all_cons A3c all_nil)) Go.Proofs.Tryz.func213
def GF (x:Int×Int×List (List A2)×Unit):Option (Option (Nat×Nat)×List (List A2)×Unit):=if 0<=x.1/\x.1<(x.2.2.1.length:Int)then x.2.2.1[0+x.1.toNat]?.bind fun v=>x.2.2.1[0+x.1.toNat]?.bind fun v=>(Ft (v,x.2.1,())).bind fun v=>bif decide (v.1<0)then some (none,x.2.2.1,())else x.2.2.1[0+x.1.toNat]?.bind fun a=>if 0<=v.1/\v.1<(a.length:Int)then some (some (0+x.1.toNat,0+v.1.toNat),x.2.2.1,())else none else none
def Wy:Ent:=⟨236,⟨(.agg (.own 0 .nil) (.agg (si 2 .nil) .nil)),(.tree false 0 (.slice Af) .nil)⟩,⟨(.mptr 0 0 0 .nil),(.tree false 0 (.slice Af) .nil)⟩,GF⟩
theorem A3a:Ah Go.Proofs.Tryz.prog Wy:=okA (hcA 1 (all_cons lL all_nil)) Go.Proofs.Tryz.func236
abbrev i6:=Nat×Int×Nat×Int×Bool×Int×A8
abbrev hZ:=Int×List (List A2)×Unit
abbrev i2:=List (List A2)×Unit
def Cb (i:i6)(v:hZ)(R:Type)(K:hZ ⊕ i2->Option R):Option R:=bif decide (v.1<i.2.2.2.1)then i.2.2.2.2.2.2.1[i.2.2.1]?.bind fun a=>if 0<=v.1/\v.1<(a.2.2.2.2.2.2.2.1.length:Int)then i.2.2.2.2.2.2.1[i.2.2.1]?.bind fun b=>b.2.2.2.2.2.2.2.1[0+v.1.toNat]?.bind fun c=>(GF (c.1,c.2.1,v.2.1,())).bind fun d=>d.1.bind fun e=>d.2.1[e.1]?.bind fun f=>f[e.2]?.bind fun g=>d.1.bind fun h=>d.2.1[h.1]?.bind fun j=>j[h.2]?.bind fun k=>K (.inl (IntKind.i64.wrap (v.1+1),d.2.1.set h.1 (j.set h.2 (k.1,k.2.1,k.2.2.1,mx g.2.2.2.1 i.2.1,k.2.2.2.2.1,())),()))else none else K (.inr (v.2.1,()))
theorem Lm:AX Cb:=fun i v R K=>Ae (Ac fun _=>Aq (Ac fun _=>Ac fun _=>Ac fun _=>Ac fun _=>Ac fun _=>Ac fun _=>Ac fun _=>Ac fun _=>Ac fun _=>Aa)) (Aa)
def Um:Tmpl:=⟨(.ptr 0 0 1 (.ptrI 2 0 (.slot .i (jk 35 (.nown 2 7 (si 2 (jk 66 .nil))))))),(.cells 6 (.slot .bool (.own 1 (.own 2 (.own 3 (.own 4 (.slot .i .nil)))))) (.tree false 0 (.slice Af) (.tree false 1 Ad (.lst false A0 (.lst false A0 .nil)))))⟩
def hX:Exs i6 i2:=x1 (.exit 0) fun i p=>⟨AV.ptr 0 none 0 1::AV.ptr 2 none i.1 0::.n (i.2.1)::jn 104 ([]),[some (Cont.cells 6 [[AV.pv .bool i.2.2.2.2.1,AV.own 1 none none,AV.own 2 none none,AV.own 3 none none,AV.own 4 none none,AV.pv .i i.2.2.2.2.2.1]]),some (Cont.tree false 0 (.slice Af) p.1 none),some (Cont.tree false 1 Ad i.2.2.2.2.2.2.1 none),some (Cont.lst false A0 i.2.2.2.2.2.2.2.1),some (Cont.lst false A0 i.2.2.2.2.2.2.2.2.1)]⟩
def i4:=((.i (.i (.i (.i (.v (.i (.i (.v (.i (.i (.i .n))))))))))):Pk Um.ty _ _)
abbrev i5:=Nat×Int×Nat×Int×Bool×Int×A8
abbrev hY:=Int×List (List A2)×Unit
abbrev i1:=List (List A2)×Unit
def Ca (i:i5)(v:hY)(R:Type)(K:hY ⊕ i1->Option R):Option R:=bif decide (v.1<i.2.2.2.1)then i.2.2.2.2.2.2.1[i.2.2.1]?.bind fun a=>if 0<=v.1/\v.1<(a.2.2.2.2.2.2.2.2.1.length:Int)then i.2.2.2.2.2.2.1[i.2.2.1]?.bind fun b=>b.2.2.2.2.2.2.2.2.1[0+v.1.toNat]?.bind fun c=>(BT (c.1,v.2.1,())).bind fun d=>i.2.2.2.2.2.2.1[i.1]?.bind fun e=>d.1.bind fun f=>d.2.1[f.1]?.bind fun g=>g[f.2]?.bind fun h=>if 0<=c.1/\c.1<(↑((d.2.1.set f.1 (g.set f.2 (h.1,h.2.1,h.2.2.1,h.2.2.2.1,e.2.2.2.2.2.1,()))).length):Int)then(d.2.1.set f.1 (g.set f.2 (h.1,h.2.1,h.2.2.1,h.2.2.2.1,e.2.2.2.2.2.1,())))[0+c.1.toNat]?.bind fun j=>i.2.2.2.2.2.2.1[i.1]?.bind fun k=>(d.2.1.set f.1 (g.set f.2 (h.1,h.2.1,h.2.2.1,h.2.2.2.1,e.2.2.2.2.2.1,())))[0+c.1.toNat]?.bind fun l=>if(l++[(k.1,c.2.1,i.2.1,i.2.1,1000,())]).length<=879609302220 then if 0<=c.1/\c.1<(↑((d.2.1.set f.1 (g.set f.2 (h.1,h.2.1,h.2.2.1,h.2.2.2.1,e.2.2.2.2.2.1,()))).length):Int)then(d.2.1.set f.1 (g.set f.2 (h.1,h.2.1,h.2.2.1,h.2.2.2.1,e.2.2.2.2.2.1,())))[0+c.1.toNat]?.bind fun m=>if 1<=1/\true=true/\0+c.1.toNat=0+c.1.toNat/\0<=0/\0<1 then K (.inl (IntKind.i64.wrap (v.1+1),(d.2.1.set f.1 (g.set f.2 (h.1,h.2.1,h.2.2.1,h.2.2.2.1,e.2.2.2.2.2.1,()))).set (0+c.1.toNat) (l++[(k.1,c.2.1,i.2.1,i.2.1,1000,())]),()))else none else none else none else none else none else K (.inr (v.2.1,()))
theorem Ll:AX Ca:=fun i v R K=>Ae (Ac fun _=>Aq (Ac fun _=>Ac fun _=>Ac fun _=>Ac fun _=>Ac fun _=>Ac fun _=>Ac fun _=>Aq (Ac fun _=>Ac fun _=>Ac fun _=>Aq (Aq (Ac fun _=>Aq (Aa)))))) (Aa)
def Ul:Tmpl:=⟨(.ptr 0 0 1 (.ptrI 2 0 (.slot .i (jk 59 (.nown 2 8 (si 2 (jk 42 .nil))))))),(.cells 6 (.slot .bool (.own 1 (.own 2 (.own 3 (.own 4 (.slot .i .nil)))))) (.tree false 1 (.slice Af) (.tree false 1 Ad (.lst false A0 (.lst false A0 .nil)))))⟩
def hU:Exs i5 i1:=x1 (.exit 2) fun i p=>⟨jn 107 ([]),[some (Cont.cells 6 [[AV.pv .bool i.2.2.2.2.1,AV.own 1 none none,AV.own 2 none none,AV.own 3 none none,AV.own 4 none none,AV.pv .i i.2.2.2.2.2.1]]),some (Cont.tree false 1 (.slice Af) p.1 none),some (Cont.tree false 1 Ad i.2.2.2.2.2.2.1 none),some (Cont.lst false A0 i.2.2.2.2.2.2.2.1),some (Cont.lst false A0 i.2.2.2.2.2.2.2.2.1)]⟩
def i3:=((.i (.i (.i (.i (.v (.i (.i (.v (.i (.i (.i .n))))))))))):Pk Ul.ty _ _)
def ZE:Cfg:={ti:=Ar,ents:=[Wy,Rp,Ro],ann:=[(3,Ao Um 5 (spP i4) Cb hX.E),(9,Ao Ul 5 (spP i3) Ca hU.E)],lent:=5,hid:=[((0,1),[2]),((0,12),[2]),((12,0),[1]),((12,1),[1]),((12,2),[1]),((12,3),[1]),((12,4),[1]),((12,5),[1])]}
def DR (x:Nat×Int×Bool×Int×A7):Option (Bool×Int×A7):=x.2.2.2.2.2.1[x.1]?.bind fun v=>x.2.2.2.2.2.1[x.1]?.bind fun a=>x.2.2.2.2.2.1[x.1]?.bind fun b=>(EJ ((x.2.2.2.2.1,()),(v.1,v.2.1,v.2.2.1,v.2.2.2.1,v.2.2.2.2.1,v.2.2.2.2.2.1,v.2.2.2.2.2.2.1,a.2.2.2.2.2.2.2.1,b.2.2.2.2.2.2.2.2.1,()),x.2.1,())).bind fun v=>x.2.2.2.2.2.1[x.1]?.bind fun c=>(x.2.2.2.2.2.1.set x.1 (c.1,c.2.1,c.2.2.1,c.2.2.2.1,v.1,c.2.2.2.2.2.1,c.2.2.2.2.2.2.1,c.2.2.2.2.2.2.2.1,c.2.2.2.2.2.2.2.2.1,()))[x.1]?.bind fun d=>((x.2.2.2.2.2.1.set x.1 (c.1,c.2.1,c.2.2.1,c.2.2.2.1,v.1,c.2.2.2.2.2.1,c.2.2.2.2.2.2.1,c.2.2.2.2.2.2.2.1,c.2.2.2.2.2.2.2.2.1,())).set x.1 (d.1,d.2.1,d.2.2.1,d.2.2.2.1,d.2.2.2.2.1,v.2.1,d.2.2.2.2.2.2.1,d.2.2.2.2.2.2.2.1,d.2.2.2.2.2.2.2.2.1,()))[x.1]?.bind fun e=>(((x.2.2.2.2.2.1.set x.1 (c.1,c.2.1,c.2.2.1,c.2.2.2.1,v.1,c.2.2.2.2.2.1,c.2.2.2.2.2.2.1,c.2.2.2.2.2.2.2.1,c.2.2.2.2.2.2.2.2.1,())).set x.1 (d.1,d.2.1,d.2.2.1,d.2.2.2.1,d.2.2.2.2.1,v.2.1,d.2.2.2.2.2.2.1,d.2.2.2.2.2.2.2.1,d.2.2.2.2.2.2.2.2.1,())).set x.1 (e.1,e.2.1,2,e.2.2.2.1,e.2.2.2.2.1,e.2.2.2.2.2.1,e.2.2.2.2.2.2.1,e.2.2.2.2.2.2.2.1,e.2.2.2.2.2.2.2.2.1,()))[x.1]?.bind fun f=>((((x.2.2.2.2.2.1.set x.1 (c.1,c.2.1,c.2.2.1,c.2.2.2.1,v.1,c.2.2.2.2.2.1,c.2.2.2.2.2.2.1,c.2.2.2.2.2.2.2.1,c.2.2.2.2.2.2.2.2.1,())).set x.1 (d.1,d.2.1,d.2.2.1,d.2.2.2.1,d.2.2.2.2.1,v.2.1,d.2.2.2.2.2.2.1,d.2.2.2.2.2.2.2.1,d.2.2.2.2.2.2.2.2.1,())).set x.1 (e.1,e.2.1,2,e.2.2.2.1,e.2.2.2.2.1,e.2.2.2.2.2.1,e.2.2.2.2.2.2.1,e.2.2.2.2.2.2.2.1,e.2.2.2.2.2.2.2.2.1,())).set x.1 (f.1,f.2.1,f.2.2.1,f.2.2.2.1,f.2.2.2.2.1,f.2.2.2.2.2.1,x.2.1,f.2.2.2.2.2.2.2.1,f.2.2.2.2.2.2.2.2.1,()))[x.1]?.bind fun g=>((((x.2.2.2.2.2.1.set x.1 (c.1,c.2.1,c.2.2.1,c.2.2.2.1,v.1,c.2.2.2.2.2.1,c.2.2.2.2.2.2.1,c.2.2.2.2.2.2.2.1,c.2.2.2.2.2.2.2.2.1,())).set x.1 (d.1,d.2.1,d.2.2.1,d.2.2.2.1,d.2.2.2.2.1,v.2.1,d.2.2.2.2.2.2.1,d.2.2.2.2.2.2.2.1,d.2.2.2.2.2.2.2.2.1,())).set x.1 (e.1,e.2.1,2,e.2.2.2.1,e.2.2.2.2.1,e.2.2.2.2.2.1,e.2.2.2.2.2.2.1,e.2.2.2.2.2.2.2.1,e.2.2.2.2.2.2.2.2.1,())).set x.1 (f.1,f.2.1,f.2.2.1,f.2.2.2.1,f.2.2.2.2.1,f.2.2.2.2.2.1,x.2.1,f.2.2.2.2.2.2.2.1,f.2.2.2.2.2.2.2.2.1,()))[x.1]?.bind fun h=>(Ay (fun j=>Cb (x.1,x.2.1,x.1,(h.2.2.2.2.2.2.2.1.length:Int),x.2.2.1,x.2.2.2.1,(((x.2.2.2.2.2.1.set x.1 (c.1,c.2.1,c.2.2.1,c.2.2.2.1,v.1,c.2.2.2.2.2.1,c.2.2.2.2.2.2.1,c.2.2.2.2.2.2.2.1,c.2.2.2.2.2.2.2.2.1,())).set x.1 (d.1,d.2.1,d.2.2.1,d.2.2.2.1,d.2.2.2.2.1,v.2.1,d.2.2.2.2.2.2.1,d.2.2.2.2.2.2.2.1,d.2.2.2.2.2.2.2.2.1,())).set x.1 (e.1,e.2.1,2,e.2.2.2.1,e.2.2.2.2.1,e.2.2.2.2.2.1,e.2.2.2.2.2.2.1,e.2.2.2.2.2.2.2.1,e.2.2.2.2.2.2.2.2.1,())).set x.1 (f.1,f.2.1,f.2.2.1,f.2.2.2.1,f.2.2.2.2.1,f.2.2.2.2.2.1,x.2.1,f.2.2.2.2.2.2.2.1,f.2.2.2.2.2.2.2.2.1,()),x.2.2.2.2.2.2.1,x.2.2.2.2.2.2.2.1,()) j _ some) (0,x.2.2.2.2.1,())).bind fun p=>((((x.2.2.2.2.2.1.set x.1 (c.1,c.2.1,c.2.2.1,c.2.2.2.1,v.1,c.2.2.2.2.2.1,c.2.2.2.2.2.2.1,c.2.2.2.2.2.2.2.1,c.2.2.2.2.2.2.2.2.1,())).set x.1 (d.1,d.2.1,d.2.2.1,d.2.2.2.1,d.2.2.2.2.1,v.2.1,d.2.2.2.2.2.2.1,d.2.2.2.2.2.2.2.1,d.2.2.2.2.2.2.2.2.1,())).set x.1 (e.1,e.2.1,2,e.2.2.2.1,e.2.2.2.2.1,e.2.2.2.2.2.1,e.2.2.2.2.2.2.1,e.2.2.2.2.2.2.2.1,e.2.2.2.2.2.2.2.2.1,())).set x.1 (f.1,f.2.1,f.2.2.1,f.2.2.2.1,f.2.2.2.2.1,f.2.2.2.2.2.1,x.2.1,f.2.2.2.2.2.2.2.1,f.2.2.2.2.2.2.2.2.1,()))[x.1]?.bind fun j=>((((x.2.2.2.2.2.1.set x.1 (c.1,c.2.1,c.2.2.1,c.2.2.2.1,v.1,c.2.2.2.2.2.1,c.2.2.2.2.2.2.1,c.2.2.2.2.2.2.2.1,c.2.2.2.2.2.2.2.2.1,())).set x.1 (d.1,d.2.1,d.2.2.1,d.2.2.2.1,d.2.2.2.2.1,v.2.1,d.2.2.2.2.2.2.1,d.2.2.2.2.2.2.2.1,d.2.2.2.2.2.2.2.2.1,())).set x.1 (e.1,e.2.1,2,e.2.2.2.1,e.2.2.2.2.1,e.2.2.2.2.2.1,e.2.2.2.2.2.2.1,e.2.2.2.2.2.2.2.1,e.2.2.2.2.2.2.2.2.1,())).set x.1 (f.1,f.2.1,f.2.2.1,f.2.2.2.1,f.2.2.2.2.1,f.2.2.2.2.2.1,x.2.1,f.2.2.2.2.2.2.2.1,f.2.2.2.2.2.2.2.2.1,()))[x.1]?.bind fun k=>(Ay (fun l=>Ca (x.1,x.2.1,x.1,(k.2.2.2.2.2.2.2.2.1.length:Int),x.2.2.1,x.2.2.2.1,(((x.2.2.2.2.2.1.set x.1 (c.1,c.2.1,c.2.2.1,c.2.2.2.1,v.1,c.2.2.2.2.2.1,c.2.2.2.2.2.2.1,c.2.2.2.2.2.2.2.1,c.2.2.2.2.2.2.2.2.1,())).set x.1 (d.1,d.2.1,d.2.2.1,d.2.2.2.1,d.2.2.2.2.1,v.2.1,d.2.2.2.2.2.2.1,d.2.2.2.2.2.2.2.1,d.2.2.2.2.2.2.2.2.1,())).set x.1 (e.1,e.2.1,2,e.2.2.2.1,e.2.2.2.2.1,e.2.2.2.2.2.1,e.2.2.2.2.2.2.1,e.2.2.2.2.2.2.2.1,e.2.2.2.2.2.2.2.2.1,())).set x.1 (f.1,f.2.1,f.2.2.1,f.2.2.2.1,f.2.2.2.2.1,f.2.2.2.2.2.1,x.2.1,f.2.2.2.2.2.2.2.1,f.2.2.2.2.2.2.2.2.1,()),x.2.2.2.2.2.2.1,x.2.2.2.2.2.2.2.1,()) l _ some) (0,p.1,())).bind fun p=>some (x.2.2.1,x.2.2.2.1,p.1,(((x.2.2.2.2.2.1.set x.1 (c.1,c.2.1,c.2.2.1,c.2.2.2.1,v.1,c.2.2.2.2.2.1,c.2.2.2.2.2.2.1,c.2.2.2.2.2.2.2.1,c.2.2.2.2.2.2.2.2.1,())).set x.1 (d.1,d.2.1,d.2.2.1,d.2.2.2.1,d.2.2.2.2.1,v.2.1,d.2.2.2.2.2.2.1,d.2.2.2.2.2.2.2.1,d.2.2.2.2.2.2.2.2.1,())).set x.1 (e.1,e.2.1,2,e.2.2.2.1,e.2.2.2.2.1,e.2.2.2.2.2.1,e.2.2.2.2.2.2.1,e.2.2.2.2.2.2.2.1,e.2.2.2.2.2.2.2.2.1,())).set x.1 (f.1,f.2.1,f.2.2.1,f.2.2.2.1,f.2.2.2.2.1,f.2.2.2.2.2.1,x.2.1,f.2.2.2.2.2.2.2.1,f.2.2.2.2.2.2.2.2.1,()),x.2.2.2.2.2.2.1,x.2.2.2.2.2.2.2.1,())
def Wx:Ent:=⟨214,⟨(.ptr 0 0 1 (.ptrI 2 0 (.slot .i .nil))),(.cells 6 (.slot .bool (.own 1 (.own 2 (.own 3 (.own 4 (.slot .i .nil)))))) (.tree false 0 (.slice Af) (.tree false 0 Ad (.lst false A0 (.lst false A0 .nil)))))⟩,⟨.nil,(.cells 6 (.slot .bool (.own 1 (.own 2 (.own 3 (.own 4 (.slot .i .nil)))))) (.tree false 1 (.slice Af) (.tree false 1 Ad (.lst false A0 (.lst false A0 .nil)))))⟩,DR⟩
theorem Un:CfgOK Go.Proofs.Tryz.prog ZE:=hcB (all_cons A3a (all_cons iJ (all_cons ig all_nil)))
theorem vW:AP Go.Proofs.Tryz.prog ZE (lpc Go.Proofs.Tryz.f214 1):=lkA Un Ul i3 Ca hU [] Ll
theorem vX:AP Go.Proofs.Tryz.prog ZE (lpc Go.Proofs.Tryz.f214 0):=lkA Un Um i4 Cb hX [0,1,2] Lm
theorem A37:Ah Go.Proofs.Tryz.prog Wx:=okC Un Go.Proofs.Tryz.func214 vX vW
def Aar:Cfg:={ti:=Ar,ents:=[NJ,Wx,X4,WB,Ro,Wz],ann:=[],lent:=5,pre:=[(some (0,3)),(some (0,4))]}
def EX (x:Nat×Bool×Int×A7):Option (Int×Bool×Int×A7):=x.2.2.2.2.1[x.1]?.bind fun v=>x.2.2.2.2.1[x.1]?.bind fun a=>x.2.2.2.2.1[x.1]?.bind fun b=>(Eu ((x.2.2.2.1,()),(v.1,v.2.1,v.2.2.1,v.2.2.2.1,v.2.2.2.2.1,v.2.2.2.2.2.1,v.2.2.2.2.2.2.1,a.2.2.2.2.2.2.2.1,b.2.2.2.2.2.2.2.2.1,()),())).bind fun v=>bif v.1 != 0 then(Ba (x.1,v.1,x.2.1,x.2.2.1,x.2.2.2.1,x.2.2.2.2.1,x.2.2.2.2.2.1,x.2.2.2.2.2.2.1,())).bind fun v=>some (v.1,v.2.1,v.2.2.1,v.2.2.2.1,v.2.2.2.2.1,v.2.2.2.2.2.2.2.1,v.2.2.2.2.2.2.2.2.1,())else bif x.2.2.1==999 then some (6,x.2.1,x.2.2.1,x.2.2.2.1,x.2.2.2.2.1,x.2.2.2.2.2.1,x.2.2.2.2.2.2.1,())else x.2.2.2.2.1[x.1]?.bind fun v=>x.2.2.2.2.1[x.1]?.bind fun c=>x.2.2.2.2.1[x.1]?.bind fun d=>(EJ ((x.2.2.2.1,()),(v.1,v.2.1,v.2.2.1,v.2.2.2.1,v.2.2.2.2.1,v.2.2.2.2.2.1,v.2.2.2.2.2.2.1,c.2.2.2.2.2.2.2.1,d.2.2.2.2.2.2.2.2.1,()),IntKind.i64.wrap (x.2.2.1+1),())).bind fun v=>bif x.2.1 then bif decide (v.1>=v.2.1)then(Ba (x.1,5,x.2.1,x.2.2.1,x.2.2.2.1,x.2.2.2.2.1,x.2.2.2.2.2.1,x.2.2.2.2.2.2.1,())).bind fun v=>some (v.1,v.2.1,v.2.2.1,v.2.2.2.1,v.2.2.2.2.1,v.2.2.2.2.2.2.2.1,v.2.2.2.2.2.2.2.2.1,())else x.2.2.2.2.1[x.1]?.bind fun v=>x.2.2.2.2.1[x.1]?.bind fun e=>x.2.2.2.2.1[x.1]?.bind fun f=>(EK ((x.2.2.2.1,()),(v.1,v.2.1,v.2.2.1,v.2.2.2.1,v.2.2.2.2.1,v.2.2.2.2.2.1,v.2.2.2.2.2.2.1,e.2.2.2.2.2.2.2.1,f.2.2.2.2.2.2.2.2.1,()),())).bind fun v=>bif v.1 then(Ba (x.1,5,x.2.1,x.2.2.1,x.2.2.2.1,x.2.2.2.2.1,x.2.2.2.2.2.1,x.2.2.2.2.2.2.1,())).bind fun v=>some (v.1,v.2.1,v.2.2.1,v.2.2.2.1,v.2.2.2.2.1,v.2.2.2.2.2.2.2.1,v.2.2.2.2.2.2.2.2.1,())else(DR (x.1,IntKind.i64.wrap (x.2.2.1+1),x.2.1,IntKind.i64.wrap (x.2.2.1+1),x.2.2.2.1,x.2.2.2.2.1,x.2.2.2.2.2.1,x.2.2.2.2.2.2.1,())).bind fun v=>(DJ (x.1,v.1,v.2.1,v.2.2.1,v.2.2.2.1,v.2.2.2.2.1,v.2.2.2.2.2.1,())).bind fun v=>some (0,v.1,v.2.1,v.2.2.1,v.2.2.2.1,v.2.2.2.2.2.2.1,v.2.2.2.2.2.2.2.1,())else x.2.2.2.2.1[x.1]?.bind fun v=>x.2.2.2.2.1[x.1]?.bind fun e=>x.2.2.2.2.1[x.1]?.bind fun f=>(EK ((x.2.2.2.1,()),(v.1,v.2.1,v.2.2.1,v.2.2.2.1,v.2.2.2.2.1,v.2.2.2.2.2.1,v.2.2.2.2.2.2.1,e.2.2.2.2.2.2.2.1,f.2.2.2.2.2.2.2.2.1,()),())).bind fun v=>bif v.1 then(Ba (x.1,5,x.2.1,x.2.2.1,x.2.2.2.1,x.2.2.2.2.1,x.2.2.2.2.2.1,x.2.2.2.2.2.2.1,())).bind fun v=>some (v.1,v.2.1,v.2.2.1,v.2.2.2.1,v.2.2.2.2.1,v.2.2.2.2.2.2.2.1,v.2.2.2.2.2.2.2.2.1,())else(DR (x.1,IntKind.i64.wrap (x.2.2.1+1),x.2.1,IntKind.i64.wrap (x.2.2.1+1),x.2.2.2.1,x.2.2.2.2.1,x.2.2.2.2.2.1,x.2.2.2.2.2.2.1,())).bind fun v=>(DJ (x.1,v.1,v.2.1,v.2.2.1,v.2.2.2.1,v.2.2.2.2.1,v.2.2.2.2.2.1,())).bind fun v=>some (0,v.1,v.2.1,v.2.2.1,v.2.2.2.1,v.2.2.2.2.2.2.1,v.2.2.2.2.2.2.2.1,())
def Ww:Ent:=⟨148,⟨(.ptr 0 0 0 (.ptrI 2 0 .nil)),(.cells 6 (.slot .bool (.own 1 (.own 2 (.own 3 (.own 4 (.slot .i .nil)))))) (.tree false 0 (.slice Af) (.tree false 0 Ad (.lst false A0 (.lst false A0 .nil)))))⟩,⟨(.agg (.slot .i (.const (AV.nils) .nil)) .nil),(.cells 6 (.slot .bool (.own 1 (.own 2 (.own 5 (.own 6 (.slot .i .nil)))))) (.tree false 1 (.slice Af) (.tree false 1 Ad (.gone (.gone (.lst false A0 (.lst false A0 .nil)))))))⟩,EX⟩
theorem A36:Ah Go.Proofs.Tryz.prog Ww:=okA (C:=Aar) (hcB (all_cons R9 (all_cons A37 (all_cons jN (all_cons A3h (all_cons ig (all_cons A3b all_nil))))))) Go.Proofs.Tryz.func148
def Aaq:Cfg:={ti:=Ar,ents:=[Xe,Xc,WY,WD,Ww,NJ,Xn,Xo,Ti],ann:=[],lent:=5,pre:=[(some (0,2)),(some (0,3)),(some (0,4))]}
def Gm (x:Int×Int×Int×Int×Int×Int×Bool×Int×A7):Option (Int×Bool×Int×List (List A2)×List A3×List A1×List A1×List Int×Unit):=bif x.1==1 then(FI (x.1,x.2.1,x.2.2.1,x.2.2.2.1,x.2.2.2.2.1,x.2.2.2.2.2.1,x.2.2.2.2.2.2.1,x.2.2.2.2.2.2.2.1,x.2.2.2.2.2.2.2.2.1,x.2.2.2.2.2.2.2.2.2.1,x.2.2.2.2.2.2.2.2.2.2.1,x.2.2.2.2.2.2.2.2.2.2.2.1,())).bind fun v=>some (v.1,v.2.1,v.2.2.1,v.2.2.2.1,v.2.2.2.2.2.2.1,v.2.2.2.2.1,v.2.2.2.2.2.1,[],())else(Cc ((x.2.2.2.2.2.2.1,(x.2.2.2.2.2.2.2.2.1,()),x.2.2.2.2.2.2.2.2.2.1,x.2.2.2.2.2.2.2.2.2.2.1,x.2.2.2.2.2.2.2.2.2.2.2.1,x.2.2.2.2.2.2.2.1,()),x.2.1,())).bind fun v=>bif !v.1 then some (6,x.2.2.2.2.2.2.1,x.2.2.2.2.2.2.2.1,x.2.2.2.2.2.2.2.2.1,x.2.2.2.2.2.2.2.2.2.1,x.2.2.2.2.2.2.2.2.2.2.1,x.2.2.2.2.2.2.2.2.2.2.2.1,[],())else(Dy ((x.2.2.2.2.2.2.1,(x.2.2.2.2.2.2.2.2.1,()),x.2.2.2.2.2.2.2.2.2.1,x.2.2.2.2.2.2.2.2.2.2.1,x.2.2.2.2.2.2.2.2.2.2.2.1,x.2.2.2.2.2.2.2.1,()),x.2.1,())).bind fun v=>if 0<=v.1/\v.1<(x.2.2.2.2.2.2.2.2.2.1.length:Int)then(BJ (x.2.2.2.2.2.2.2.2.2.2.2.1,())).bind fun a=>(BQ (a.1,x.1,x.2.1,x.2.2.1,x.2.2.2.1,x.2.2.2.2.1,x.2.2.2.2.2.1,())).bind fun b=>bif b.1==2 then(Gn (0+v.1.toNat,b.2.2.2.1,b.2.2.2.1,x.2.2.2.2.2.2.1,x.2.2.2.2.2.2.2.1,x.2.2.2.2.2.2.2.2.1,x.2.2.2.2.2.2.2.2.2.1,x.2.2.2.2.2.2.2.2.2.2.1,b.2.2.2.2.2.2.1,())).bind fun v=>some (v.1,v.2.1,v.2.2.1,v.2.2.2.1,v.2.2.2.2.1,v.2.2.2.2.2.1,v.2.2.2.2.2.2.1,v.2.2.2.2.2.2.2.1,())else bif b.1==4 then(Gn (0+v.1.toNat,b.2.2.2.1,b.2.2.2.2.1,x.2.2.2.2.2.2.1,x.2.2.2.2.2.2.2.1,x.2.2.2.2.2.2.2.2.1,x.2.2.2.2.2.2.2.2.2.1,x.2.2.2.2.2.2.2.2.2.2.1,b.2.2.2.2.2.2.1,())).bind fun v=>some (v.1,v.2.1,v.2.2.1,v.2.2.2.1,v.2.2.2.2.1,v.2.2.2.2.2.1,v.2.2.2.2.2.2.1,v.2.2.2.2.2.2.2.1,())else bif b.1==3 then(FH (0+v.1.toNat,b.2.2.2.1,b.2.2.2.2.2.1,x.2.2.2.2.2.2.1,x.2.2.2.2.2.2.2.1,x.2.2.2.2.2.2.2.2.1,x.2.2.2.2.2.2.2.2.2.1,x.2.2.2.2.2.2.2.2.2.2.1,b.2.2.2.2.2.2.1,())).bind fun v=>some (v.1,v.2.1,v.2.2.1,v.2.2.2.1,v.2.2.2.2.1,v.2.2.2.2.2.1,v.2.2.2.2.2.2.1,[],())else bif b.1==5 then(EX (0+v.1.toNat,x.2.2.2.2.2.2.1,x.2.2.2.2.2.2.2.1,x.2.2.2.2.2.2.2.2.1,x.2.2.2.2.2.2.2.2.2.1,x.2.2.2.2.2.2.2.2.2.2.1,b.2.2.2.2.2.2.1,())).bind fun v=>some (v.1,v.2.1,v.2.2.1,v.2.2.2.1,v.2.2.2.2.1,v.2.2.2.2.2.1,v.2.2.2.2.2.2.1,[],())else(Ba (0+v.1.toNat,0,x.2.2.2.2.2.2.1,x.2.2.2.2.2.2.2.1,x.2.2.2.2.2.2.2.2.1,x.2.2.2.2.2.2.2.2.2.1,x.2.2.2.2.2.2.2.2.2.2.1,b.2.2.2.2.2.2.1,())).bind fun v=>some (v.1,v.2.1,v.2.2.1,v.2.2.2.1,v.2.2.2.2.1,v.2.2.2.2.2.2.2.1,v.2.2.2.2.2.2.2.2.1,[],())else none
def Wv:Ent:=⟨67,⟨(.ptr 0 0 0 (.agg (si 6 .nil) .nil)),(.cells 6 (.slot .bool (.own 1 (.own 2 (.own 3 (.own 4 (.slot .i .nil)))))) (.tree false 0 (.slice Af) (.tree false 0 Ad (.lst false A0 (.lst false A0 .nil)))))⟩,⟨(.agg (.slot .i (.own 8 .nil)) .nil),(.cells 6 (.slot .bool (.own 1 (.own 5 (.own 6 (.own 7 (.slot .i .nil)))))) (.tree false 1 (.slice Af) (.gone (.gone (.gone (.tree false 1 Ad (.lst false A0 (.lst false A0 (.lst false .i .nil)))))))))⟩,Gm⟩
theorem A35:Ah Go.Proofs.Tryz.prog Wv:=okA (C:=Aaq) (hcB (all_cons A4u (all_cons A4r (all_cons A49 (all_cons A3l (all_cons A36 (all_cons R9 (all_cons UP (all_cons ln (all_cons Th all_nil)))))))))) Go.Proofs.Tryz.func67
def IO (x:A2×A2×Unit):Option (Bool×Unit):=bif x.1.1 != x.2.1.1 then some (false,())else bif x.1.2.1 != x.2.1.2.1 then some (false,())else bif x.1.2.2.1 != x.2.1.2.2.1 then some (false,())else bif x.1.2.2.2.1 != x.2.1.2.2.2.1 then some (false,())else bif x.1.2.2.2.2.1 != x.2.1.2.2.2.2.1 then some (false,())else some (true,())
def Wu:Ent:=⟨262,⟨(.slot Af (.slot Af .nil)),.nil⟩,⟨(.slot .bool .nil),.nil⟩,IO⟩
theorem A34:Ah Go.Proofs.Tryz.prog Wu:=okA (hcA 0 all_nil) Go.Proofs.Tryz.func262
abbrev hO:=List A2×List A2×Unit
abbrev gX:=Int×Unit
abbrev gY:=Unit ⊕ Unit
def E6 (i:hO)(v:gX)(R:Type)(K:gX ⊕ gY->Option R):Option R:=bif decide (v.1<(i.1.length:Int))then(lAt i.1 v.1).bind fun a=>(lAt i.2.1 v.1).bind fun b=>(IO ((a.1,a.2.1,a.2.2.1,a.2.2.2.1,a.2.2.2.2.1,()),(b.1,b.2.1,b.2.2.1,b.2.2.2.1,b.2.2.2.2.1,()),())).bind fun c=>bif !c.1 then K (.inr (.inl ()))else K (.inl (IntKind.i64.wrap (v.1+1),()))else K (.inr (.inr ()))
theorem MV:AX E6:=fun i v R K=>Ae (Ac fun _=>Ac fun _=>Ac fun _=>Ae (Aa) (Aa)) (Aa)
def Uk:Tmpl:=⟨(.slot (.slice Af) (.slot (.slice Af) (jk 3 (.slot .i (jk 21 .nil))))),.nil⟩
def gW:Exs hO gY:=xs .ret (fun i p=>⟨jn 4 (.b (false)::jn 22 ([])),[]⟩)<|x1 (.exit 0) fun i p=>⟨jn 27 ([]),[]⟩
def gZ:=((.i (.i (.v .n))):Pk Uk.ty _ _)
def vV:Cfg:={ti:=Ar,ents:=[Wu],ann:=[(4,Ao Uk 0 (spP gZ) E6 gW.E)],lent:=0}
def Ig (x:List A2×List A2×Unit):Option (Bool×Unit):=bif (x.1.length:Int) != (x.2.1.length:Int)then some (false,())else(Ay (fun v=>E6 (x.1,x.2.1,()) v _ some) (0,())).bind fun p=>Au p (fun p=>some (false,())) fun p=>some (true,())
def Wt:Ent:=⟨216,⟨(.slot (.slice Af) (.slot (.slice Af) .nil)),.nil⟩,⟨(.slot .bool .nil),.nil⟩,Ig⟩
theorem hP:CfgOK Go.Proofs.Tryz.prog vV:=hcB (all_cons A34 all_nil)
theorem vU:AP Go.Proofs.Tryz.prog vV (lpc Go.Proofs.Tryz.f216 0):=lkA hP Uk gZ E6 gW [4] MV
theorem A33:Ah Go.Proofs.Tryz.prog Wt:=okB hP Go.Proofs.Tryz.func216 vU
abbrev gU:=List (List A2)×List (List A2)×Unit
abbrev gR:=Int×Unit
abbrev gS:=Unit ⊕ Unit
def DG (i:gU)(v:gR)(R:Type)(K:gR ⊕ gS->Option R):Option R:=bif decide (v.1<(i.1.length:Int))then(lAt i.1 v.1).bind fun a=>(lAt i.2.1 v.1).bind fun b=>(Ig (a,b,())).bind fun c=>bif !c.1 then K (.inr (.inl ()))else K (.inl (IntKind.i64.wrap (v.1+1),()))else K (.inr (.inr ()))
theorem Mo:AX DG:=fun i v R K=>Ae (Ac fun _=>Ac fun _=>Ac fun _=>Ae (Aa) (Aa)) (Aa)
def Uj:Tmpl:=⟨(.slot (.slice (.slice Af)) (.slot (.slice (.slice Af)) (jk 3 (.slot .i (jk 21 .nil))))),.nil⟩
def gQ:Exs gU gS:=xs .ret (fun i p=>⟨jn 4 (.b (false)::jn 22 ([])),[]⟩)<|x1 (.exit 0) fun i p=>⟨jn 27 ([]),[]⟩
def gT:=((.i (.i (.v .n))):Pk Uj.ty _ _)
def vT:Cfg:={ti:=Ar,ents:=[Wt],ann:=[(4,Ao Uj 0 (spP gT) DG gQ.E)],lent:=0}
def Hw (x:List (List A2)×List (List A2)×Unit):Option (Bool×Unit):=bif (x.1.length:Int) != (x.2.1.length:Int)then some (false,())else(Ay (fun v=>DG (x.1,x.2.1,()) v _ some) (0,())).bind fun p=>Au p (fun p=>some (false,())) fun p=>some (true,())
def vS:Ent:=⟨150,⟨(.slot (.slice (.slice Af)) (.slot (.slice (.slice Af)) .nil)),.nil⟩,⟨(.slot .bool .nil),.nil⟩,Hw⟩
theorem gV:CfgOK Go.Proofs.Tryz.prog vT:=hcB (all_cons A33 all_nil)
theorem vR:AP Go.Proofs.Tryz.prog vT (lpc Go.Proofs.Tryz.f150 0):=lkA gV Uj gT DG gQ [4] Mo
theorem A32:Ah Go.Proofs.Tryz.prog vS:=okB gV Go.Proofs.Tryz.func150 vR
def JM (x:A4×A4×Unit):Option (Bool×Unit):=(Hw (x.1.1,x.2.1.1,())).bind fun v=>bif !v.1 then some (false,())else some (true,())
def vQ:Ent:=⟨68,⟨(.slot Bo (.slot Bo .nil)),.nil⟩,⟨(.slot .bool .nil),.nil⟩,JM⟩
theorem A31:Ah Go.Proofs.Tryz.prog vQ:=okA (hcA 0 (all_cons A32 all_nil)) Go.Proofs.Tryz.func68
def Ih (x:A1×A1×Unit):Option (Bool×Unit):=bif x.1.1 != x.2.1.1 then some (false,())else bif x.1.2.1 != x.2.1.2.1 then some (false,())else some (true,())
def Ws:Ent:=⟨263,⟨(.slot A0 (.slot A0 .nil)),.nil⟩,⟨(.slot .bool .nil),.nil⟩,Ih⟩
theorem A30:Ah Go.Proofs.Tryz.prog Ws:=okA (hcA 0 all_nil) Go.Proofs.Tryz.func263
abbrev gO:=A9
abbrev gL:=Int×Unit
abbrev gM:=Unit ⊕ Unit
def DH (i:gO)(v:gL)(R:Type)(K:gL ⊕ gM->Option R):Option R:=bif decide (v.1<(i.1.length:Int))then(lAt i.1 v.1).bind fun a=>(lAt i.2.1 v.1).bind fun b=>(Ih ((a.1,a.2.1,()),(b.1,b.2.1,()),())).bind fun c=>bif !c.1 then K (.inr (.inl ()))else K (.inl (IntKind.i64.wrap (v.1+1),()))else K (.inr (.inr ()))
theorem Mp:AX DH:=fun i v R K=>Ae (Ac fun _=>Ac fun _=>Ac fun _=>Ae (Aa) (Aa)) (Aa)
def Ui:Tmpl:=⟨(.slot (.slice A0) (.slot (.slice A0) (jk 3 (.slot .i (jk 21 .nil))))),.nil⟩
def gK:Exs gO gM:=xs .ret (fun i p=>⟨jn 4 (.b (false)::jn 22 ([])),[]⟩)<|x1 (.exit 0) fun i p=>⟨jn 27 ([]),[]⟩
def gN:=((.i (.i (.v .n))):Pk Ui.ty _ _)
def vP:Cfg:={ti:=Ar,ents:=[Ws],ann:=[(4,Ao Ui 0 (spP gN) DH gK.E)],lent:=0}
def Hx (x:A9):Option (Bool×Unit):=bif (x.1.length:Int) != (x.2.1.length:Int)then some (false,())else(Ay (fun v=>DH (x.1,x.2.1,()) v _ some) (0,())).bind fun p=>Au p (fun p=>some (false,())) fun p=>some (true,())
def vO:Ent:=⟨217,⟨(.slot (.slice A0) (.slot (.slice A0) .nil)),.nil⟩,⟨(.slot .bool .nil),.nil⟩,Hx⟩
theorem gP:CfgOK Go.Proofs.Tryz.prog vP:=hcB (all_cons A30 all_nil)
theorem vN:AP Go.Proofs.Tryz.prog vP (lpc Go.Proofs.Tryz.f217 0):=lkA gP Ui gN DH gK [4] Mp
theorem A2z:Ah Go.Proofs.Tryz.prog vO:=okB gP Go.Proofs.Tryz.func217 vN
def JK (x:A1×A1×Unit):Option (Bool×Unit):=bif x.1.1 != x.2.1.1 then some (false,())else bif x.1.2.1 != x.2.1.2.1 then some (false,())else some (true,())
def Wr:Ent:=⟨264,⟨(.slot A0 (.slot A0 .nil)),.nil⟩,⟨(.slot .bool .nil),.nil⟩,JK⟩
theorem A2y:Ah Go.Proofs.Tryz.prog Wr:=okA (hcA 0 all_nil) Go.Proofs.Tryz.func264
abbrev gH:=A9
abbrev gE:=Int×Unit
abbrev gF:=Unit ⊕ Unit
def Fc (i:gH)(v:gE)(R:Type)(K:gE ⊕ gF->Option R):Option R:=bif decide (v.1<(i.1.length:Int))then(lAt i.1 v.1).bind fun a=>(lAt i.2.1 v.1).bind fun b=>(JK ((a.1,a.2.1,()),(b.1,b.2.1,()),())).bind fun c=>bif !c.1 then K (.inr (.inl ()))else K (.inl (IntKind.i64.wrap (v.1+1),()))else K (.inr (.inr ()))
theorem NW:AX Fc:=fun i v R K=>Ae (Ac fun _=>Ac fun _=>Ac fun _=>Ae (Aa) (Aa)) (Aa)
def Uh:Tmpl:=⟨(.slot (.slice A0) (.slot (.slice A0) (jk 3 (.slot .i (jk 21 .nil))))),.nil⟩
def gD:Exs gH gF:=xs .ret (fun i p=>⟨jn 4 (.b (false)::jn 22 ([])),[]⟩)<|x1 (.exit 0) fun i p=>⟨jn 27 ([]),[]⟩
def gG:=((.i (.i (.v .n))):Pk Uh.ty _ _)
def vM:Cfg:={ti:=Ar,ents:=[Wr],ann:=[(4,Ao Uh 0 (spP gG) Fc gD.E)],lent:=0}
def Ja (x:A9):Option (Bool×Unit):=bif (x.1.length:Int) != (x.2.1.length:Int)then some (false,())else(Ay (fun v=>Fc (x.1,x.2.1,()) v _ some) (0,())).bind fun p=>Au p (fun p=>some (false,())) fun p=>some (true,())
def vL:Ent:=⟨218,⟨(.slot (.slice A0) (.slot (.slice A0) .nil)),.nil⟩,⟨(.slot .bool .nil),.nil⟩,Ja⟩
theorem gI:CfgOK Go.Proofs.Tryz.prog vM:=hcB (all_cons A2y all_nil)
theorem vK:AP Go.Proofs.Tryz.prog vM (lpc Go.Proofs.Tryz.f218 0):=lkA gI Uh gG Fc gD [4] NW
theorem A2x:Ah Go.Proofs.Tryz.prog vL:=okB gI Go.Proofs.Tryz.func218 vK
def Gi (x:A3×A3×Unit):Option (Bool×Unit):=bif x.1.1 != x.2.1.1 then some (false,())else bif x.1.2.1 != x.2.1.2.1 then some (false,())else bif x.1.2.2.1 != x.2.1.2.2.1 then some (false,())else bif x.1.2.2.2.1 != x.2.1.2.2.2.1 then some (false,())else bif x.1.2.2.2.2.1 != x.2.1.2.2.2.2.1 then some (false,())else bif x.1.2.2.2.2.2.1 != x.2.1.2.2.2.2.2.1 then some (false,())else bif x.1.2.2.2.2.2.2.1 != x.2.1.2.2.2.2.2.2.1 then some (false,())else(Hx (x.1.2.2.2.2.2.2.2.1,x.2.1.2.2.2.2.2.2.2.1,())).bind fun v=>bif !v.1 then some (false,())else(Ja (x.1.2.2.2.2.2.2.2.2.1,x.2.1.2.2.2.2.2.2.2.2.1,())).bind fun v=>bif !v.1 then some (false,())else some (true,())
def Wq:Ent:=⟨151,⟨(.slot Ad (.slot Ad .nil)),.nil⟩,⟨(.slot .bool .nil),.nil⟩,Gi⟩
theorem A2w:Ah Go.Proofs.Tryz.prog Wq:=okA (hcA 0 (all_cons A2z (all_cons A2x all_nil))) Go.Proofs.Tryz.func151
abbrev gB:=List A3×List A3×Unit
abbrev gy:=Int×Unit
abbrev gz:=Unit ⊕ Unit
def CG (i:gB)(v:gy)(R:Type)(K:gy ⊕ gz->Option R):Option R:=bif decide (v.1<(i.1.length:Int))then(lAt i.1 v.1).bind fun a=>(lAt i.2.1 v.1).bind fun b=>(Gi ((a.1,a.2.1,a.2.2.1,a.2.2.2.1,a.2.2.2.2.1,a.2.2.2.2.2.1,a.2.2.2.2.2.2.1,a.2.2.2.2.2.2.2.1,a.2.2.2.2.2.2.2.2.1,()),(b.1,b.2.1,b.2.2.1,b.2.2.2.1,b.2.2.2.2.1,b.2.2.2.2.2.1,b.2.2.2.2.2.2.1,b.2.2.2.2.2.2.2.1,b.2.2.2.2.2.2.2.2.1,()),())).bind fun c=>bif !c.1 then K (.inr (.inl ()))else K (.inl (IntKind.i64.wrap (v.1+1),()))else K (.inr (.inr ()))
theorem Li:AX CG:=fun i v R K=>Ae (Ac fun _=>Ac fun _=>Ac fun _=>Ae (Aa) (Aa)) (Aa)
def Ug:Tmpl:=⟨(.slot (.slice Ad) (.slot (.slice Ad) (jk 3 (.slot .i (jk 21 .nil))))),.nil⟩
def gx:Exs gB gz:=xs .ret (fun i p=>⟨jn 4 (.b (false)::jn 22 ([])),[]⟩)<|x1 (.exit 0) fun i p=>⟨jn 27 ([]),[]⟩
def gA:=((.i (.i (.v .n))):Pk Ug.ty _ _)
def vJ:Cfg:={ti:=Ar,ents:=[Wq],ann:=[(4,Ao Ug 0 (spP gA) CG gx.E)],lent:=0}
def FC (x:List A3×List A3×Unit):Option (Bool×Unit):=bif (x.1.length:Int) != (x.2.1.length:Int)then some (false,())else(Ay (fun v=>CG (x.1,x.2.1,()) v _ some) (0,())).bind fun p=>Au p (fun p=>some (false,())) fun p=>some (true,())
def vI:Ent:=⟨69,⟨(.slot (.slice Ad) (.slot (.slice Ad) .nil)),.nil⟩,⟨(.slot .bool .nil),.nil⟩,FC⟩
theorem gC:CfgOK Go.Proofs.Tryz.prog vJ:=hcB (all_cons A2w all_nil)
theorem vH:AP Go.Proofs.Tryz.prog vJ (lpc Go.Proofs.Tryz.f69 0):=lkA gC Ug gA CG gx [4] Li
theorem A2v:Ah Go.Proofs.Tryz.prog vI:=okB gC Go.Proofs.Tryz.func69 vH
def Kh (x:A1×A1×Unit):Option (Bool×Unit):=bif x.1.1 != x.2.1.1 then some (false,())else bif x.1.2.1 != x.2.1.2.1 then some (false,())else some (true,())
def Wp:Ent:=⟨152,⟨(.slot A0 (.slot A0 .nil)),.nil⟩,⟨(.slot .bool .nil),.nil⟩,Kh⟩
theorem A2u:Ah Go.Proofs.Tryz.prog Wp:=okA (hcA 0 all_nil) Go.Proofs.Tryz.func152
abbrev gt:=A9
abbrev gp:=Int×Unit
abbrev gq:=Unit ⊕ Unit
def G2 (i:gt)(v:gp)(R:Type)(K:gp ⊕ gq->Option R):Option R:=bif decide (v.1<(i.1.length:Int))then(lAt i.1 v.1).bind fun a=>(lAt i.2.1 v.1).bind fun b=>(Kh ((a.1,a.2.1,()),(b.1,b.2.1,()),())).bind fun c=>bif !c.1 then K (.inr (.inl ()))else K (.inl (IntKind.i64.wrap (v.1+1),()))else K (.inr (.inr ()))
theorem OK:AX G2:=fun i v R K=>Ae (Ac fun _=>Ac fun _=>Ac fun _=>Ae (Aa) (Aa)) (Aa)
def Uf:Tmpl:=⟨(.slot (.slice A0) (.slot (.slice A0) (jk 3 (.slot .i (jk 21 .nil))))),.nil⟩
def gn:Exs gt gq:=xs .ret (fun i p=>⟨jn 4 (.b (false)::jn 22 ([])),[]⟩)<|x1 (.exit 0) fun i p=>⟨jn 27 ([]),[]⟩
def gr:=((.i (.i (.v .n))):Pk Uf.ty _ _)
def vG:Cfg:={ti:=Ar,ents:=[Wp],ann:=[(4,Ao Uf 0 (spP gr) G2 gn.E)],lent:=0}
def JN (x:A9):Option (Bool×Unit):=bif (x.1.length:Int) != (x.2.1.length:Int)then some (false,())else(Ay (fun v=>G2 (x.1,x.2.1,()) v _ some) (0,())).bind fun p=>Au p (fun p=>some (false,())) fun p=>some (true,())
def vF:Ent:=⟨70,⟨(.slot (.slice A0) (.slot (.slice A0) .nil)),.nil⟩,⟨(.slot .bool .nil),.nil⟩,JN⟩
theorem gu:CfgOK Go.Proofs.Tryz.prog vG:=hcB (all_cons A2u all_nil)
theorem vE:AP Go.Proofs.Tryz.prog vG (lpc Go.Proofs.Tryz.f70 0):=lkA gu Uf gr G2 gn [4] OK
theorem A2t:Ah Go.Proofs.Tryz.prog vF:=okB gu Go.Proofs.Tryz.func70 vE
def Kf (x:A1×A1×Unit):Option (Bool×Unit):=bif x.1.1 != x.2.1.1 then some (false,())else bif x.1.2.1 != x.2.1.2.1 then some (false,())else some (true,())
def Wo:Ent:=⟨153,⟨(.slot A0 (.slot A0 .nil)),.nil⟩,⟨(.slot .bool .nil),.nil⟩,Kf⟩
theorem A2s:Ah Go.Proofs.Tryz.prog Wo:=okA (hcA 0 all_nil) Go.Proofs.Tryz.func153
abbrev gl:=A9
abbrev gi:=Int×Unit
abbrev gj:=Unit ⊕ Unit
def G0 (i:gl)(v:gi)(R:Type)(K:gi ⊕ gj->Option R):Option R:=bif decide (v.1<(i.1.length:Int))then(lAt i.1 v.1).bind fun a=>(lAt i.2.1 v.1).bind fun b=>(Kf ((a.1,a.2.1,()),(b.1,b.2.1,()),())).bind fun c=>bif !c.1 then K (.inr (.inl ()))else K (.inl (IntKind.i64.wrap (v.1+1),()))else K (.inr (.inr ()))
theorem OI:AX G0:=fun i v R K=>Ae (Ac fun _=>Ac fun _=>Ac fun _=>Ae (Aa) (Aa)) (Aa)
def Ue:Tmpl:=⟨(.slot (.slice A0) (.slot (.slice A0) (jk 3 (.slot .i (jk 21 .nil))))),.nil⟩
def gh:Exs gl gj:=xs .ret (fun i p=>⟨jn 4 (.b (false)::jn 22 ([])),[]⟩)<|x1 (.exit 0) fun i p=>⟨jn 27 ([]),[]⟩
def gk:=((.i (.i (.v .n))):Pk Ue.ty _ _)
def vD:Cfg:={ti:=Ar,ents:=[Wo],ann:=[(4,Ao Ue 0 (spP gk) G0 gh.E)],lent:=0}
def JL (x:A9):Option (Bool×Unit):=bif (x.1.length:Int) != (x.2.1.length:Int)then some (false,())else(Ay (fun v=>G0 (x.1,x.2.1,()) v _ some) (0,())).bind fun p=>Au p (fun p=>some (false,())) fun p=>some (true,())
def vC:Ent:=⟨71,⟨(.slot (.slice A0) (.slot (.slice A0) .nil)),.nil⟩,⟨(.slot .bool .nil),.nil⟩,JL⟩
theorem gm:CfgOK Go.Proofs.Tryz.prog vD:=hcB (all_cons A2s all_nil)
theorem vB:AP Go.Proofs.Tryz.prog vD (lpc Go.Proofs.Tryz.f71 0):=lkA gm Ue gk G0 gh [4] OI
theorem A2r:Ah Go.Proofs.Tryz.prog vC:=okB gm Go.Proofs.Tryz.func71 vB
def ED (x:A5×A5×Unit):Option (Bool×Unit):=bif !x.1.1==x.2.1.1 then some (false,())else(JM ((x.1.2.1.1,()),(x.2.1.2.1.1,()),())).bind fun v=>bif !v.1 then some (false,())else(FC (x.1.2.2.1,x.2.1.2.2.1,())).bind fun v=>bif !v.1 then some (false,())else(JN (x.1.2.2.2.1,x.2.1.2.2.2.1,())).bind fun v=>bif !v.1 then some (false,())else(JL (x.1.2.2.2.2.1,x.2.1.2.2.2.2.1,())).bind fun v=>bif !v.1 then some (false,())else bif x.1.2.2.2.2.2.1 != x.2.1.2.2.2.2.2.1 then some (false,())else some (true,())
def vy:Ent:=⟨14,⟨(.slot Bz (.slot Bz .nil)),.nil⟩,⟨(.slot .bool .nil),.nil⟩,ED⟩
theorem A2q:Ah Go.Proofs.Tryz.prog vy:=okA (hcA 0 (all_cons A31 (all_cons A2v (all_cons A2t (all_cons A2r all_nil))))) Go.Proofs.Tryz.func14
abbrev gf:=List Int×List Int×Unit
abbrev gb:=Int×Unit
abbrev gc:=Unit ⊕ Unit
def GU (i:gf)(v:gb)(R:Type)(K:gb ⊕ gc->Option R):Option R:=bif decide (v.1<(i.1.length:Int))then(lAt i.1 v.1).bind fun a=>(lAt i.2.1 v.1).bind fun b=>bif a != b then K (.inr (.inl ()))else K (.inl (IntKind.i64.wrap (v.1+1),()))else K (.inr (.inr ()))
theorem Pj:AX GU:=fun i v R K=>Ae (Ac fun _=>Ac fun _=>Ae (Aa) (Aa)) (Aa)
def Ud:Tmpl:=⟨(.slot (.slice .i) (.slot (.slice .i) (jk 3 (.slot .i (jk 20 .nil))))),.nil⟩
def ga:Exs gf gc:=xs .ret (fun i p=>⟨jn 4 (.b (false)::jn 21 ([])),[]⟩)<|x1 (.exit 0) fun i p=>⟨jn 26 ([]),[]⟩
def ge:=((.i (.i (.v .n))):Pk Ud.ty _ _)
def vx:Cfg:={ti:=Ar,ents:=[],ann:=[(4,Ao Ud 0 (spP ge) GU ga.E)],lent:=0}
def Ki (x:List Int×List Int×Unit):Option (Bool×Unit):=bif (x.1.length:Int) != (x.2.1.length:Int)then some (false,())else(Ay (fun v=>GU (x.1,x.2.1,()) v _ some) (0,())).bind fun p=>Au p (fun p=>some (false,())) fun p=>some (true,())
def vw:Ent:=⟨24,⟨(.slot (.slice .i) (.slot (.slice .i) .nil)),.nil⟩,⟨(.slot .bool .nil),.nil⟩,Ki⟩
theorem gg:CfgOK Go.Proofs.Tryz.prog vx:=hcB all_nil
theorem vu:AP Go.Proofs.Tryz.prog vx (lpc Go.Proofs.Tryz.f24 0):=lkA gg Ud ge GU ga [4] Pj
theorem A2p:Ah Go.Proofs.Tryz.prog vw:=okB gg Go.Proofs.Tryz.func24 vu
def Kg (x:(Int×List Int×Unit)×(Int×List Int×Unit)×Unit):Option (Bool×Unit):=bif x.1.1 != x.2.1.1 then some (false,())else(Ki (x.1.2.1,x.2.1.2.1,())).bind fun v=>bif !v.1 then some (false,())else some (true,())
def Wn:Ent:=⟨15,⟨(.slot Gy (.slot Gy .nil)),.nil⟩,⟨(.slot .bool .nil),.nil⟩,Kg⟩
theorem A2m:Ah Go.Proofs.Tryz.prog Wn:=okA (hcA 0 (all_cons A2p all_nil)) Go.Proofs.Tryz.func15
abbrev g8:=Nat×Unit
abbrev fZ:=Int×Int×List (List A2)×Unit
abbrev g6:=Int×List (List A2)×Unit
def CF (i:g8)(v:fZ)(R:Type)(K:fZ ⊕ g6->Option R):Option R:=v.2.2.1[i.1]?.bind fun a=>bif decide (v.2.1<(a.length:Int))then v.2.2.1[i.1]?.bind fun b=>if 0<=v.2.1/\v.2.1<(b.length:Int)then v.2.2.1[i.1]?.bind fun c=>c[0+v.2.1.toNat]?.bind fun d=>(v.2.2.1.set i.1 (c.set (0+v.2.1.toNat) (v.1,d.2.1,d.2.2.1,d.2.2.2.1,d.2.2.2.2.1,())))[i.1]?.bind fun e=>if 0<=v.2.1/\v.2.1<(e.length:Int)then(v.2.2.1.set i.1 (c.set (0+v.2.1.toNat) (v.1,d.2.1,d.2.2.1,d.2.2.2.1,d.2.2.2.2.1,())))[i.1]?.bind fun f=>f[0+v.2.1.toNat]?.bind fun g=>((v.2.2.1.set i.1 (c.set (0+v.2.1.toNat) (v.1,d.2.1,d.2.2.1,d.2.2.2.1,d.2.2.2.2.1,()))).set i.1 (f.set (0+v.2.1.toNat) (g.1,IntKind.i64.wrap (v.1+1),g.2.2.1,g.2.2.2.1,g.2.2.2.2.1,())))[i.1]?.bind fun h=>if 0<=v.2.1/\v.2.1<(h.length:Int)then((v.2.2.1.set i.1 (c.set (0+v.2.1.toNat) (v.1,d.2.1,d.2.2.1,d.2.2.2.1,d.2.2.2.2.1,()))).set i.1 (f.set (0+v.2.1.toNat) (g.1,IntKind.i64.wrap (v.1+1),g.2.2.1,g.2.2.2.1,g.2.2.2.2.1,())))[i.1]?.bind fun j=>j[0+v.2.1.toNat]?.bind fun k=>(((v.2.2.1.set i.1 (c.set (0+v.2.1.toNat) (v.1,d.2.1,d.2.2.1,d.2.2.2.1,d.2.2.2.2.1,()))).set i.1 (f.set (0+v.2.1.toNat) (g.1,IntKind.i64.wrap (v.1+1),g.2.2.1,g.2.2.2.1,g.2.2.2.2.1,()))).set i.1 (j.set (0+v.2.1.toNat) (k.1,k.2.1,IntKind.i64.wrap (IntKind.i64.wrap (v.1+1)+1),k.2.2.2.1,k.2.2.2.2.1,())))[i.1]?.bind fun l=>if 0<=v.2.1/\v.2.1<(l.length:Int)then(((v.2.2.1.set i.1 (c.set (0+v.2.1.toNat) (v.1,d.2.1,d.2.2.1,d.2.2.2.1,d.2.2.2.2.1,()))).set i.1 (f.set (0+v.2.1.toNat) (g.1,IntKind.i64.wrap (v.1+1),g.2.2.1,g.2.2.2.1,g.2.2.2.2.1,()))).set i.1 (j.set (0+v.2.1.toNat) (k.1,k.2.1,IntKind.i64.wrap (IntKind.i64.wrap (v.1+1)+1),k.2.2.2.1,k.2.2.2.2.1,())))[i.1]?.bind fun m=>m[0+v.2.1.toNat]?.bind fun n=>((((v.2.2.1.set i.1 (c.set (0+v.2.1.toNat) (v.1,d.2.1,d.2.2.1,d.2.2.2.1,d.2.2.2.2.1,()))).set i.1 (f.set (0+v.2.1.toNat) (g.1,IntKind.i64.wrap (v.1+1),g.2.2.1,g.2.2.2.1,g.2.2.2.2.1,()))).set i.1 (j.set (0+v.2.1.toNat) (k.1,k.2.1,IntKind.i64.wrap (IntKind.i64.wrap (v.1+1)+1),k.2.2.2.1,k.2.2.2.2.1,()))).set i.1 (m.set (0+v.2.1.toNat) (n.1,n.2.1,n.2.2.1,IntKind.i64.wrap (IntKind.i64.wrap (IntKind.i64.wrap (v.1+1)+1)+1),n.2.2.2.2.1,())))[i.1]?.bind fun o=>if 0<=v.2.1/\v.2.1<(o.length:Int)then((((v.2.2.1.set i.1 (c.set (0+v.2.1.toNat) (v.1,d.2.1,d.2.2.1,d.2.2.2.1,d.2.2.2.2.1,()))).set i.1 (f.set (0+v.2.1.toNat) (g.1,IntKind.i64.wrap (v.1+1),g.2.2.1,g.2.2.2.1,g.2.2.2.2.1,()))).set i.1 (j.set (0+v.2.1.toNat) (k.1,k.2.1,IntKind.i64.wrap (IntKind.i64.wrap (v.1+1)+1),k.2.2.2.1,k.2.2.2.2.1,()))).set i.1 (m.set (0+v.2.1.toNat) (n.1,n.2.1,n.2.2.1,IntKind.i64.wrap (IntKind.i64.wrap (IntKind.i64.wrap (v.1+1)+1)+1),n.2.2.2.2.1,())))[i.1]?.bind fun q=>q[0+v.2.1.toNat]?.bind fun r=>K (.inl (IntKind.i64.wrap (IntKind.i64.wrap (IntKind.i64.wrap (IntKind.i64.wrap (IntKind.i64.wrap (v.1+1)+1)+1)+1)+1),IntKind.i64.wrap (v.2.1+1),((((v.2.2.1.set i.1 (c.set (0+v.2.1.toNat) (v.1,d.2.1,d.2.2.1,d.2.2.2.1,d.2.2.2.2.1,()))).set i.1 (f.set (0+v.2.1.toNat) (g.1,IntKind.i64.wrap (v.1+1),g.2.2.1,g.2.2.2.1,g.2.2.2.2.1,()))).set i.1 (j.set (0+v.2.1.toNat) (k.1,k.2.1,IntKind.i64.wrap (IntKind.i64.wrap (v.1+1)+1),k.2.2.2.1,k.2.2.2.2.1,()))).set i.1 (m.set (0+v.2.1.toNat) (n.1,n.2.1,n.2.2.1,IntKind.i64.wrap (IntKind.i64.wrap (IntKind.i64.wrap (v.1+1)+1)+1),n.2.2.2.2.1,()))).set i.1 (q.set (0+v.2.1.toNat) (r.1,r.2.1,r.2.2.1,r.2.2.2.1,IntKind.i64.wrap (IntKind.i64.wrap (IntKind.i64.wrap (IntKind.i64.wrap (v.1+1)+1)+1)+1),())),()))else none else none else none else none else none else K (.inr (v.1,v.2.2.1,()))
theorem Lh:AX CF:=fun i v R K=>Ac fun _=>Ae (Ac fun _=>Aq (Ac fun _=>Ac fun _=>Ac fun _=>Aq (Ac fun _=>Ac fun _=>Ac fun _=>Aq (Ac fun _=>Ac fun _=>Ac fun _=>Aq (Ac fun _=>Ac fun _=>Ac fun _=>Aq (Ac fun _=>Ac fun _=>Aa)))))) (Aa)
def Uc:Tmpl:=⟨(.nown 0 0 (.slot .i (jk 3 (.slot .i (jk 42 .nil))))),(.tree false 0 (.slice Af) .nil)⟩
def fY:Exs g8 g6:=x1 (.exit 0) fun i p=>⟨jn 1 (.n (p.1)::jn 46 ([])),[some (Cont.tree false 0 (.slice Af) p.2.1 none)]⟩
def g7:=((.i (.v (.v (.v .n)))):Pk Uc.ty _ _)
def vl:Cfg:={ti:=Ar,ents:=[],ann:=[(2,Ao Uc 1 (spP g7) CF fY.E)],lent:=1}
def FB (x:Nat×Int×List (List A2)×Unit):Option (Int×List (List A2)×Unit):=(Ay (fun v=>CF (x.1,()) v _ some) (x.2.1,0,x.2.2.1,())).bind fun p=>some (p.1,p.2.1,())
def Wm:Ent:=⟨219,⟨(.nown 0 0 (.slot .i .nil)),(.tree false 0 (.slice Af) .nil)⟩,⟨(.slot .i .nil),(.tree false 0 (.slice Af) .nil)⟩,FB⟩
theorem g9:CfgOK Go.Proofs.Tryz.prog vl:=hcB all_nil
theorem vk:AP Go.Proofs.Tryz.prog vl (lpc Go.Proofs.Tryz.f219 0):=lkA g9 Uc g7 CF fY [1] Lh
theorem A2l:Ah Go.Proofs.Tryz.prog Wm:=okB g9 Go.Proofs.Tryz.func219 vk
abbrev fW:=Unit
abbrev fT:=Int×Int×List (List A2)×Unit
abbrev fU:=Int×List (List A2)×Unit
def BA (i:fW)(v:fT)(R:Type)(K:fT ⊕ fU->Option R):Option R:=bif decide (v.2.1<(v.2.2.1.length:Int))then if 0<=v.2.1/\v.2.1<(v.2.2.1.length:Int)then v.2.2.1[0+v.2.1.toNat]?.bind fun a=>(FB (0+v.2.1.toNat,v.1,v.2.2.1,())).bind fun b=>K (.inl (b.1,IntKind.i64.wrap (v.2.1+1),b.2.1,()))else none else K (.inr (v.1,v.2.2.1,()))
theorem KS:AX BA:=fun i v R K=>Ae (Aq (Ac fun _=>Ac fun _=>Aa)) (Aa)
def Ub:Tmpl:=⟨(.own 0 (.slot .i (jk 3 (.slot .i (jk 13 .nil))))),(.tree false 0 (.slice Af) .nil)⟩
def fS:Exs fW fU:=x1 (.exit 0) fun i p=>⟨jn 1 (.n (p.1)::jn 17 ([])),[some (Cont.tree false 0 (.slice Af) p.2.1 none)]⟩
def fV:=((.v (.v (.v .n))):Pk Ub.ty _ _)
def vj:Cfg:={ti:=Ar,ents:=[Wm],ann:=[(2,Ao Ub 1 (spP fV) BA fS.E)],lent:=1}
def ET (x:Int×List (List A2)×Unit):Option (Int×List (List A2)×Unit):=(Ay (fun v=>BA () v _ some) (x.1,0,x.2.1,())).bind fun p=>some (p.1,p.2.1,())
def vi:Ent:=⟨154,⟨(.own 0 (.slot .i .nil)),(.tree false 0 (.slice Af) .nil)⟩,⟨(.slot .i .nil),(.tree false 0 (.slice Af) .nil)⟩,ET⟩
theorem fX:CfgOK Go.Proofs.Tryz.prog vj:=hcB (all_cons A2l all_nil)
theorem vh:AP Go.Proofs.Tryz.prog vj (lpc Go.Proofs.Tryz.f154 0):=lkA fX Ub fV BA fS [1] KS
theorem A2k:Ah Go.Proofs.Tryz.prog vi:=okB fX Go.Proofs.Tryz.func154 vh
def Ht (x:Int×List (List A2)×Unit):Option (Int×List (List A2)×Unit):=(ET (x.1,x.2.1,())).bind fun v=>some (v.1,v.2.1,())
def vg:Ent:=⟨72,⟨(.agg (.own 0 .nil) (.slot .i .nil)),(.tree false 0 (.slice Af) .nil)⟩,⟨(.slot .i .nil),(.tree false 0 (.slice Af) .nil)⟩,Ht⟩
theorem A2j:Ah Go.Proofs.Tryz.prog vg:=okA (hcA 1 (all_cons A2k all_nil)) Go.Proofs.Tryz.func72
abbrev fQ:=Nat×Unit
abbrev fN:=Int×Int×List A3×Unit
abbrev fO:=Int×List A3×Unit
def Cu (i:fQ)(v:fN)(R:Type)(K:fN ⊕ fO->Option R):Option R:=v.2.2.1[i.1]?.bind fun a=>bif decide (v.2.1<(a.2.2.2.2.2.2.2.1.length:Int))then v.2.2.1[i.1]?.bind fun b=>if 0<=v.2.1/\v.2.1<(b.2.2.2.2.2.2.2.1.length:Int)then v.2.2.1[i.1]?.bind fun c=>c.2.2.2.2.2.2.2.1[0+v.2.1.toNat]?.bind fun d=>(v.2.2.1.set i.1 (c.1,c.2.1,c.2.2.1,c.2.2.2.1,c.2.2.2.2.1,c.2.2.2.2.2.1,c.2.2.2.2.2.2.1,c.2.2.2.2.2.2.2.1.set (0+v.2.1.toNat) (v.1,d.2.1,()),c.2.2.2.2.2.2.2.2.1,()))[i.1]?.bind fun e=>if 0<=v.2.1/\v.2.1<(e.2.2.2.2.2.2.2.1.length:Int)then(v.2.2.1.set i.1 (c.1,c.2.1,c.2.2.1,c.2.2.2.1,c.2.2.2.2.1,c.2.2.2.2.2.1,c.2.2.2.2.2.2.1,c.2.2.2.2.2.2.2.1.set (0+v.2.1.toNat) (v.1,d.2.1,()),c.2.2.2.2.2.2.2.2.1,()))[i.1]?.bind fun f=>f.2.2.2.2.2.2.2.1[0+v.2.1.toNat]?.bind fun g=>K (.inl (IntKind.i64.wrap (IntKind.i64.wrap (v.1+1)+1),IntKind.i64.wrap (v.2.1+1),(v.2.2.1.set i.1 (c.1,c.2.1,c.2.2.1,c.2.2.2.1,c.2.2.2.2.1,c.2.2.2.2.2.1,c.2.2.2.2.2.2.1,c.2.2.2.2.2.2.2.1.set (0+v.2.1.toNat) (v.1,d.2.1,()),c.2.2.2.2.2.2.2.2.1,())).set i.1 (f.1,f.2.1,f.2.2.1,f.2.2.2.1,f.2.2.2.2.1,f.2.2.2.2.2.1,f.2.2.2.2.2.2.1,f.2.2.2.2.2.2.2.1.set (0+v.2.1.toNat) (g.1,IntKind.i64.wrap (v.1+1),()),f.2.2.2.2.2.2.2.2.1,()),()))else none else none else K (.inr (v.1,v.2.2.1,()))
theorem KT:AX Cu:=fun i v R K=>Ac fun _=>Ae (Ac fun _=>Aq (Ac fun _=>Ac fun _=>Ac fun _=>Aq (Ac fun _=>Ac fun _=>Aa))) (Aa)
def Ua:Tmpl:=⟨(.nown 0 7 (.slot .i (jk 3 (.slot .i (jk 21 .nil))))),(.tree false 0 Ad .nil)⟩
def fM:Exs fQ fO:=x1 (.exit 0) fun i p=>⟨jn 1 (.n (p.1)::jn 25 ([])),[some (Cont.tree false 0 Ad p.2.1 none)]⟩
def fP:=((.i (.v (.v (.v .n)))):Pk Ua.ty _ _)
def vf:Cfg:={ti:=Ar,ents:=[],ann:=[(2,Ao Ua 1 (spP fP) Cu fM.E)],lent:=1}
def EU (x:Nat×Int×List A3×Unit):Option (Int×List A3×Unit):=(Ay (fun v=>Cu (x.1,()) v _ some) (x.2.1,0,x.2.2.1,())).bind fun p=>some (p.1,p.2.1,())
def Wl:Ent:=⟨155,⟨(.nown 0 7 (.slot .i .nil)),(.tree false 0 Ad .nil)⟩,⟨(.slot .i .nil),(.tree false 0 Ad .nil)⟩,EU⟩
theorem fR:CfgOK Go.Proofs.Tryz.prog vf:=hcB all_nil
theorem vd:AP Go.Proofs.Tryz.prog vf (lpc Go.Proofs.Tryz.f155 0):=lkA fR Ua fP Cu fM [1] KT
theorem A2i:Ah Go.Proofs.Tryz.prog Wl:=okB fR Go.Proofs.Tryz.func155 vd
abbrev fK:=Nat×Unit
abbrev fH:=Int×Int×List A3×Unit
abbrev fI:=Int×List A3×Unit
def Dd (i:fK)(v:fH)(R:Type)(K:fH ⊕ fI->Option R):Option R:=v.2.2.1[i.1]?.bind fun a=>bif decide (v.2.1<(a.2.2.2.2.2.2.2.2.1.length:Int))then v.2.2.1[i.1]?.bind fun b=>if 0<=v.2.1/\v.2.1<(b.2.2.2.2.2.2.2.2.1.length:Int)then v.2.2.1[i.1]?.bind fun c=>c.2.2.2.2.2.2.2.2.1[0+v.2.1.toNat]?.bind fun d=>(v.2.2.1.set i.1 (c.1,c.2.1,c.2.2.1,c.2.2.2.1,c.2.2.2.2.1,c.2.2.2.2.2.1,c.2.2.2.2.2.2.1,c.2.2.2.2.2.2.2.1,c.2.2.2.2.2.2.2.2.1.set (0+v.2.1.toNat) (v.1,d.2.1,()),()))[i.1]?.bind fun e=>if 0<=v.2.1/\v.2.1<(e.2.2.2.2.2.2.2.2.1.length:Int)then(v.2.2.1.set i.1 (c.1,c.2.1,c.2.2.1,c.2.2.2.1,c.2.2.2.2.1,c.2.2.2.2.2.1,c.2.2.2.2.2.2.1,c.2.2.2.2.2.2.2.1,c.2.2.2.2.2.2.2.2.1.set (0+v.2.1.toNat) (v.1,d.2.1,()),()))[i.1]?.bind fun f=>f.2.2.2.2.2.2.2.2.1[0+v.2.1.toNat]?.bind fun g=>K (.inl (IntKind.i64.wrap (IntKind.i64.wrap (v.1+1)+1),IntKind.i64.wrap (v.2.1+1),(v.2.2.1.set i.1 (c.1,c.2.1,c.2.2.1,c.2.2.2.1,c.2.2.2.2.1,c.2.2.2.2.2.1,c.2.2.2.2.2.2.1,c.2.2.2.2.2.2.2.1,c.2.2.2.2.2.2.2.2.1.set (0+v.2.1.toNat) (v.1,d.2.1,()),())).set i.1 (f.1,f.2.1,f.2.2.1,f.2.2.2.1,f.2.2.2.2.1,f.2.2.2.2.2.1,f.2.2.2.2.2.2.1,f.2.2.2.2.2.2.2.1,f.2.2.2.2.2.2.2.2.1.set (0+v.2.1.toNat) (g.1,IntKind.i64.wrap (v.1+1),()),()),()))else none else none else K (.inr (v.1,v.2.2.1,()))
theorem LS:AX Dd:=fun i v R K=>Ac fun _=>Ae (Ac fun _=>Aq (Ac fun _=>Ac fun _=>Ac fun _=>Aq (Ac fun _=>Ac fun _=>Aa))) (Aa)
def U9:Tmpl:=⟨(.nown 0 8 (.slot .i (jk 3 (.slot .i (jk 21 .nil))))),(.tree false 0 Ad .nil)⟩
def fG:Exs fK fI:=x1 (.exit 0) fun i p=>⟨jn 1 (.n (p.1)::jn 25 ([])),[some (Cont.tree false 0 Ad p.2.1 none)]⟩
def fJ:=((.i (.v (.v (.v .n)))):Pk U9.ty _ _)
def vc:Cfg:={ti:=Ar,ents:=[],ann:=[(2,Ao U9 1 (spP fJ) Dd fG.E)],lent:=1}
def GD (x:Nat×Int×List A3×Unit):Option (Int×List A3×Unit):=(Ay (fun v=>Dd (x.1,()) v _ some) (x.2.1,0,x.2.2.1,())).bind fun p=>some (p.1,p.2.1,())
def Wk:Ent:=⟨156,⟨(.nown 0 8 (.slot .i .nil)),(.tree false 0 Ad .nil)⟩,⟨(.slot .i .nil),(.tree false 0 Ad .nil)⟩,GD⟩
theorem fL:CfgOK Go.Proofs.Tryz.prog vc:=hcB all_nil
theorem va:AP Go.Proofs.Tryz.prog vc (lpc Go.Proofs.Tryz.f156 0):=lkA fL U9 fJ Dd fG [1] LS
theorem A2h:Ah Go.Proofs.Tryz.prog Wk:=okB fL Go.Proofs.Tryz.func156 va
abbrev fE:=Unit
abbrev fB:=Int×Int×List A3×Unit
abbrev fC:=Int×List A3×Unit
def Bn (i:fE)(v:fB)(R:Type)(K:fB ⊕ fC->Option R):Option R:=bif decide (v.2.1<(v.2.2.1.length:Int))then if 0<=v.2.1/\v.2.1<(v.2.2.1.length:Int)then v.2.2.1[0+v.2.1.toNat]?.bind fun a=>if 0<=v.2.1/\v.2.1<(↑((v.2.2.1.set (0+v.2.1.toNat) (v.1,a.2.1,a.2.2.1,a.2.2.2.1,a.2.2.2.2.1,a.2.2.2.2.2.1,a.2.2.2.2.2.2.1,a.2.2.2.2.2.2.2.1,a.2.2.2.2.2.2.2.2.1,())).length):Int)then(v.2.2.1.set (0+v.2.1.toNat) (v.1,a.2.1,a.2.2.1,a.2.2.2.1,a.2.2.2.2.1,a.2.2.2.2.2.1,a.2.2.2.2.2.2.1,a.2.2.2.2.2.2.2.1,a.2.2.2.2.2.2.2.2.1,()))[0+v.2.1.toNat]?.bind fun b=>if 0<=v.2.1/\v.2.1<(↑(((v.2.2.1.set (0+v.2.1.toNat) (v.1,a.2.1,a.2.2.1,a.2.2.2.1,a.2.2.2.2.1,a.2.2.2.2.2.1,a.2.2.2.2.2.2.1,a.2.2.2.2.2.2.2.1,a.2.2.2.2.2.2.2.2.1,())).set (0+v.2.1.toNat) (b.1,IntKind.i64.wrap (v.1+1),b.2.2.1,b.2.2.2.1,b.2.2.2.2.1,b.2.2.2.2.2.1,b.2.2.2.2.2.2.1,b.2.2.2.2.2.2.2.1,b.2.2.2.2.2.2.2.2.1,())).length):Int)then((v.2.2.1.set (0+v.2.1.toNat) (v.1,a.2.1,a.2.2.1,a.2.2.2.1,a.2.2.2.2.1,a.2.2.2.2.2.1,a.2.2.2.2.2.2.1,a.2.2.2.2.2.2.2.1,a.2.2.2.2.2.2.2.2.1,())).set (0+v.2.1.toNat) (b.1,IntKind.i64.wrap (v.1+1),b.2.2.1,b.2.2.2.1,b.2.2.2.2.1,b.2.2.2.2.2.1,b.2.2.2.2.2.2.1,b.2.2.2.2.2.2.2.1,b.2.2.2.2.2.2.2.2.1,()))[0+v.2.1.toNat]?.bind fun c=>if 0<=v.2.1/\v.2.1<(↑((((v.2.2.1.set (0+v.2.1.toNat) (v.1,a.2.1,a.2.2.1,a.2.2.2.1,a.2.2.2.2.1,a.2.2.2.2.2.1,a.2.2.2.2.2.2.1,a.2.2.2.2.2.2.2.1,a.2.2.2.2.2.2.2.2.1,())).set (0+v.2.1.toNat) (b.1,IntKind.i64.wrap (v.1+1),b.2.2.1,b.2.2.2.1,b.2.2.2.2.1,b.2.2.2.2.2.1,b.2.2.2.2.2.2.1,b.2.2.2.2.2.2.2.1,b.2.2.2.2.2.2.2.2.1,())).set (0+v.2.1.toNat) (c.1,c.2.1,IntKind.i64.wrap (IntKind.i64.wrap (v.1+1)+1),c.2.2.2.1,c.2.2.2.2.1,c.2.2.2.2.2.1,c.2.2.2.2.2.2.1,c.2.2.2.2.2.2.2.1,c.2.2.2.2.2.2.2.2.1,())).length):Int)then(((v.2.2.1.set (0+v.2.1.toNat) (v.1,a.2.1,a.2.2.1,a.2.2.2.1,a.2.2.2.2.1,a.2.2.2.2.2.1,a.2.2.2.2.2.2.1,a.2.2.2.2.2.2.2.1,a.2.2.2.2.2.2.2.2.1,())).set (0+v.2.1.toNat) (b.1,IntKind.i64.wrap (v.1+1),b.2.2.1,b.2.2.2.1,b.2.2.2.2.1,b.2.2.2.2.2.1,b.2.2.2.2.2.2.1,b.2.2.2.2.2.2.2.1,b.2.2.2.2.2.2.2.2.1,())).set (0+v.2.1.toNat) (c.1,c.2.1,IntKind.i64.wrap (IntKind.i64.wrap (v.1+1)+1),c.2.2.2.1,c.2.2.2.2.1,c.2.2.2.2.2.1,c.2.2.2.2.2.2.1,c.2.2.2.2.2.2.2.1,c.2.2.2.2.2.2.2.2.1,()))[0+v.2.1.toNat]?.bind fun d=>if 0<=v.2.1/\v.2.1<(↑(((((v.2.2.1.set (0+v.2.1.toNat) (v.1,a.2.1,a.2.2.1,a.2.2.2.1,a.2.2.2.2.1,a.2.2.2.2.2.1,a.2.2.2.2.2.2.1,a.2.2.2.2.2.2.2.1,a.2.2.2.2.2.2.2.2.1,())).set (0+v.2.1.toNat) (b.1,IntKind.i64.wrap (v.1+1),b.2.2.1,b.2.2.2.1,b.2.2.2.2.1,b.2.2.2.2.2.1,b.2.2.2.2.2.2.1,b.2.2.2.2.2.2.2.1,b.2.2.2.2.2.2.2.2.1,())).set (0+v.2.1.toNat) (c.1,c.2.1,IntKind.i64.wrap (IntKind.i64.wrap (v.1+1)+1),c.2.2.2.1,c.2.2.2.2.1,c.2.2.2.2.2.1,c.2.2.2.2.2.2.1,c.2.2.2.2.2.2.2.1,c.2.2.2.2.2.2.2.2.1,())).set (0+v.2.1.toNat) (d.1,d.2.1,d.2.2.1,IntKind.i64.wrap (IntKind.i64.wrap (IntKind.i64.wrap (v.1+1)+1)+1),d.2.2.2.2.1,d.2.2.2.2.2.1,d.2.2.2.2.2.2.1,d.2.2.2.2.2.2.2.1,d.2.2.2.2.2.2.2.2.1,())).length):Int)then((((v.2.2.1.set (0+v.2.1.toNat) (v.1,a.2.1,a.2.2.1,a.2.2.2.1,a.2.2.2.2.1,a.2.2.2.2.2.1,a.2.2.2.2.2.2.1,a.2.2.2.2.2.2.2.1,a.2.2.2.2.2.2.2.2.1,())).set (0+v.2.1.toNat) (b.1,IntKind.i64.wrap (v.1+1),b.2.2.1,b.2.2.2.1,b.2.2.2.2.1,b.2.2.2.2.2.1,b.2.2.2.2.2.2.1,b.2.2.2.2.2.2.2.1,b.2.2.2.2.2.2.2.2.1,())).set (0+v.2.1.toNat) (c.1,c.2.1,IntKind.i64.wrap (IntKind.i64.wrap (v.1+1)+1),c.2.2.2.1,c.2.2.2.2.1,c.2.2.2.2.2.1,c.2.2.2.2.2.2.1,c.2.2.2.2.2.2.2.1,c.2.2.2.2.2.2.2.2.1,())).set (0+v.2.1.toNat) (d.1,d.2.1,d.2.2.1,IntKind.i64.wrap (IntKind.i64.wrap (IntKind.i64.wrap (v.1+1)+1)+1),d.2.2.2.2.1,d.2.2.2.2.2.1,d.2.2.2.2.2.2.1,d.2.2.2.2.2.2.2.1,d.2.2.2.2.2.2.2.2.1,()))[0+v.2.1.toNat]?.bind fun e=>if 0<=v.2.1/\v.2.1<(↑((((((v.2.2.1.set (0+v.2.1.toNat) (v.1,a.2.1,a.2.2.1,a.2.2.2.1,a.2.2.2.2.1,a.2.2.2.2.2.1,a.2.2.2.2.2.2.1,a.2.2.2.2.2.2.2.1,a.2.2.2.2.2.2.2.2.1,())).set (0+v.2.1.toNat) (b.1,IntKind.i64.wrap (v.1+1),b.2.2.1,b.2.2.2.1,b.2.2.2.2.1,b.2.2.2.2.2.1,b.2.2.2.2.2.2.1,b.2.2.2.2.2.2.2.1,b.2.2.2.2.2.2.2.2.1,())).set (0+v.2.1.toNat) (c.1,c.2.1,IntKind.i64.wrap (IntKind.i64.wrap (v.1+1)+1),c.2.2.2.1,c.2.2.2.2.1,c.2.2.2.2.2.1,c.2.2.2.2.2.2.1,c.2.2.2.2.2.2.2.1,c.2.2.2.2.2.2.2.2.1,())).set (0+v.2.1.toNat) (d.1,d.2.1,d.2.2.1,IntKind.i64.wrap (IntKind.i64.wrap (IntKind.i64.wrap (v.1+1)+1)+1),d.2.2.2.2.1,d.2.2.2.2.2.1,d.2.2.2.2.2.2.1,d.2.2.2.2.2.2.2.1,d.2.2.2.2.2.2.2.2.1,())).set (0+v.2.1.toNat) (e.1,e.2.1,e.2.2.1,e.2.2.2.1,IntKind.i64.wrap (IntKind.i64.wrap (IntKind.i64.wrap (IntKind.i64.wrap (v.1+1)+1)+1)+1),e.2.2.2.2.2.1,e.2.2.2.2.2.2.1,e.2.2.2.2.2.2.2.1,e.2.2.2.2.2.2.2.2.1,())).length):Int)then(((((v.2.2.1.set (0+v.2.1.toNat) (v.1,a.2.1,a.2.2.1,a.2.2.2.1,a.2.2.2.2.1,a.2.2.2.2.2.1,a.2.2.2.2.2.2.1,a.2.2.2.2.2.2.2.1,a.2.2.2.2.2.2.2.2.1,())).set (0+v.2.1.toNat) (b.1,IntKind.i64.wrap (v.1+1),b.2.2.1,b.2.2.2.1,b.2.2.2.2.1,b.2.2.2.2.2.1,b.2.2.2.2.2.2.1,b.2.2.2.2.2.2.2.1,b.2.2.2.2.2.2.2.2.1,())).set (0+v.2.1.toNat) (c.1,c.2.1,IntKind.i64.wrap (IntKind.i64.wrap (v.1+1)+1),c.2.2.2.1,c.2.2.2.2.1,c.2.2.2.2.2.1,c.2.2.2.2.2.2.1,c.2.2.2.2.2.2.2.1,c.2.2.2.2.2.2.2.2.1,())).set (0+v.2.1.toNat) (d.1,d.2.1,d.2.2.1,IntKind.i64.wrap (IntKind.i64.wrap (IntKind.i64.wrap (v.1+1)+1)+1),d.2.2.2.2.1,d.2.2.2.2.2.1,d.2.2.2.2.2.2.1,d.2.2.2.2.2.2.2.1,d.2.2.2.2.2.2.2.2.1,())).set (0+v.2.1.toNat) (e.1,e.2.1,e.2.2.1,e.2.2.2.1,IntKind.i64.wrap (IntKind.i64.wrap (IntKind.i64.wrap (IntKind.i64.wrap (v.1+1)+1)+1)+1),e.2.2.2.2.2.1,e.2.2.2.2.2.2.1,e.2.2.2.2.2.2.2.1,e.2.2.2.2.2.2.2.2.1,()))[0+v.2.1.toNat]?.bind fun f=>if 0<=v.2.1/\v.2.1<(↑(((((((v.2.2.1.set (0+v.2.1.toNat) (v.1,a.2.1,a.2.2.1,a.2.2.2.1,a.2.2.2.2.1,a.2.2.2.2.2.1,a.2.2.2.2.2.2.1,a.2.2.2.2.2.2.2.1,a.2.2.2.2.2.2.2.2.1,())).set (0+v.2.1.toNat) (b.1,IntKind.i64.wrap (v.1+1),b.2.2.1,b.2.2.2.1,b.2.2.2.2.1,b.2.2.2.2.2.1,b.2.2.2.2.2.2.1,b.2.2.2.2.2.2.2.1,b.2.2.2.2.2.2.2.2.1,())).set (0+v.2.1.toNat) (c.1,c.2.1,IntKind.i64.wrap (IntKind.i64.wrap (v.1+1)+1),c.2.2.2.1,c.2.2.2.2.1,c.2.2.2.2.2.1,c.2.2.2.2.2.2.1,c.2.2.2.2.2.2.2.1,c.2.2.2.2.2.2.2.2.1,())).set (0+v.2.1.toNat) (d.1,d.2.1,d.2.2.1,IntKind.i64.wrap (IntKind.i64.wrap (IntKind.i64.wrap (v.1+1)+1)+1),d.2.2.2.2.1,d.2.2.2.2.2.1,d.2.2.2.2.2.2.1,d.2.2.2.2.2.2.2.1,d.2.2.2.2.2.2.2.2.1,())).set (0+v.2.1.toNat) (e.1,e.2.1,e.2.2.1,e.2.2.2.1,IntKind.i64.wrap (IntKind.i64.wrap (IntKind.i64.wrap (IntKind.i64.wrap (v.1+1)+1)+1)+1),e.2.2.2.2.2.1,e.2.2.2.2.2.2.1,e.2.2.2.2.2.2.2.1,e.2.2.2.2.2.2.2.2.1,())).set (0+v.2.1.toNat) (f.1,f.2.1,f.2.2.1,f.2.2.2.1,f.2.2.2.2.1,IntKind.i64.wrap (IntKind.i64.wrap (IntKind.i64.wrap (IntKind.i64.wrap (IntKind.i64.wrap (v.1+1)+1)+1)+1)+1),f.2.2.2.2.2.2.1,f.2.2.2.2.2.2.2.1,f.2.2.2.2.2.2.2.2.1,())).length):Int)then((((((v.2.2.1.set (0+v.2.1.toNat) (v.1,a.2.1,a.2.2.1,a.2.2.2.1,a.2.2.2.2.1,a.2.2.2.2.2.1,a.2.2.2.2.2.2.1,a.2.2.2.2.2.2.2.1,a.2.2.2.2.2.2.2.2.1,())).set (0+v.2.1.toNat) (b.1,IntKind.i64.wrap (v.1+1),b.2.2.1,b.2.2.2.1,b.2.2.2.2.1,b.2.2.2.2.2.1,b.2.2.2.2.2.2.1,b.2.2.2.2.2.2.2.1,b.2.2.2.2.2.2.2.2.1,())).set (0+v.2.1.toNat) (c.1,c.2.1,IntKind.i64.wrap (IntKind.i64.wrap (v.1+1)+1),c.2.2.2.1,c.2.2.2.2.1,c.2.2.2.2.2.1,c.2.2.2.2.2.2.1,c.2.2.2.2.2.2.2.1,c.2.2.2.2.2.2.2.2.1,())).set (0+v.2.1.toNat) (d.1,d.2.1,d.2.2.1,IntKind.i64.wrap (IntKind.i64.wrap (IntKind.i64.wrap (v.1+1)+1)+1),d.2.2.2.2.1,d.2.2.2.2.2.1,d.2.2.2.2.2.2.1,d.2.2.2.2.2.2.2.1,d.2.2.2.2.2.2.2.2.1,())).set (0+v.2.1.toNat) (e.1,e.2.1,e.2.2.1,e.2.2.2.1,IntKind.i64.wrap (IntKind.i64.wrap (IntKind.i64.wrap (IntKind.i64.wrap (v.1+1)+1)+1)+1),e.2.2.2.2.2.1,e.2.2.2.2.2.2.1,e.2.2.2.2.2.2.2.1,e.2.2.2.2.2.2.2.2.1,())).set (0+v.2.1.toNat) (f.1,f.2.1,f.2.2.1,f.2.2.2.1,f.2.2.2.2.1,IntKind.i64.wrap (IntKind.i64.wrap (IntKind.i64.wrap (IntKind.i64.wrap (IntKind.i64.wrap (v.1+1)+1)+1)+1)+1),f.2.2.2.2.2.2.1,f.2.2.2.2.2.2.2.1,f.2.2.2.2.2.2.2.2.1,()))[0+v.2.1.toNat]?.bind fun g=>if 0<=v.2.1/\v.2.1<(↑((((((((v.2.2.1.set (0+v.2.1.toNat) (v.1,a.2.1,a.2.2.1,a.2.2.2.1,a.2.2.2.2.1,a.2.2.2.2.2.1,a.2.2.2.2.2.2.1,a.2.2.2.2.2.2.2.1,a.2.2.2.2.2.2.2.2.1,())).set (0+v.2.1.toNat) (b.1,IntKind.i64.wrap (v.1+1),b.2.2.1,b.2.2.2.1,b.2.2.2.2.1,b.2.2.2.2.2.1,b.2.2.2.2.2.2.1,b.2.2.2.2.2.2.2.1,b.2.2.2.2.2.2.2.2.1,())).set (0+v.2.1.toNat) (c.1,c.2.1,IntKind.i64.wrap (IntKind.i64.wrap (v.1+1)+1),c.2.2.2.1,c.2.2.2.2.1,c.2.2.2.2.2.1,c.2.2.2.2.2.2.1,c.2.2.2.2.2.2.2.1,c.2.2.2.2.2.2.2.2.1,())).set (0+v.2.1.toNat) (d.1,d.2.1,d.2.2.1,IntKind.i64.wrap (IntKind.i64.wrap (IntKind.i64.wrap (v.1+1)+1)+1),d.2.2.2.2.1,d.2.2.2.2.2.1,d.2.2.2.2.2.2.1,d.2.2.2.2.2.2.2.1,d.2.2.2.2.2.2.2.2.1,())).set (0+v.2.1.toNat) (e.1,e.2.1,e.2.2.1,e.2.2.2.1,IntKind.i64.wrap (IntKind.i64.wrap (IntKind.i64.wrap (IntKind.i64.wrap (v.1+1)+1)+1)+1),e.2.2.2.2.2.1,e.2.2.2.2.2.2.1,e.2.2.2.2.2.2.2.1,e.2.2.2.2.2.2.2.2.1,())).set (0+v.2.1.toNat) (f.1,f.2.1,f.2.2.1,f.2.2.2.1,f.2.2.2.2.1,IntKind.i64.wrap (IntKind.i64.wrap (IntKind.i64.wrap (IntKind.i64.wrap (IntKind.i64.wrap (v.1+1)+1)+1)+1)+1),f.2.2.2.2.2.2.1,f.2.2.2.2.2.2.2.1,f.2.2.2.2.2.2.2.2.1,())).set (0+v.2.1.toNat) (g.1,g.2.1,g.2.2.1,g.2.2.2.1,g.2.2.2.2.1,g.2.2.2.2.2.1,IntKind.i64.wrap (IntKind.i64.wrap (IntKind.i64.wrap (IntKind.i64.wrap (IntKind.i64.wrap (IntKind.i64.wrap (v.1+1)+1)+1)+1)+1)+1),g.2.2.2.2.2.2.2.1,g.2.2.2.2.2.2.2.2.1,())).length):Int)then(((((((v.2.2.1.set (0+v.2.1.toNat) (v.1,a.2.1,a.2.2.1,a.2.2.2.1,a.2.2.2.2.1,a.2.2.2.2.2.1,a.2.2.2.2.2.2.1,a.2.2.2.2.2.2.2.1,a.2.2.2.2.2.2.2.2.1,())).set (0+v.2.1.toNat) (b.1,IntKind.i64.wrap (v.1+1),b.2.2.1,b.2.2.2.1,b.2.2.2.2.1,b.2.2.2.2.2.1,b.2.2.2.2.2.2.1,b.2.2.2.2.2.2.2.1,b.2.2.2.2.2.2.2.2.1,())).set (0+v.2.1.toNat) (c.1,c.2.1,IntKind.i64.wrap (IntKind.i64.wrap (v.1+1)+1),c.2.2.2.1,c.2.2.2.2.1,c.2.2.2.2.2.1,c.2.2.2.2.2.2.1,c.2.2.2.2.2.2.2.1,c.2.2.2.2.2.2.2.2.1,())).set (0+v.2.1.toNat) (d.1,d.2.1,d.2.2.1,IntKind.i64.wrap (IntKind.i64.wrap (IntKind.i64.wrap (v.1+1)+1)+1),d.2.2.2.2.1,d.2.2.2.2.2.1,d.2.2.2.2.2.2.1,d.2.2.2.2.2.2.2.1,d.2.2.2.2.2.2.2.2.1,())).set (0+v.2.1.toNat) (e.1,e.2.1,e.2.2.1,e.2.2.2.1,IntKind.i64.wrap (IntKind.i64.wrap (IntKind.i64.wrap (IntKind.i64.wrap (v.1+1)+1)+1)+1),e.2.2.2.2.2.1,e.2.2.2.2.2.2.1,e.2.2.2.2.2.2.2.1,e.2.2.2.2.2.2.2.2.1,())).set (0+v.2.1.toNat) (f.1,f.2.1,f.2.2.1,f.2.2.2.1,f.2.2.2.2.1,IntKind.i64.wrap (IntKind.i64.wrap (IntKind.i64.wrap (IntKind.i64.wrap (IntKind.i64.wrap (v.1+1)+1)+1)+1)+1),f.2.2.2.2.2.2.1,f.2.2.2.2.2.2.2.1,f.2.2.2.2.2.2.2.2.1,())).set (0+v.2.1.toNat) (g.1,g.2.1,g.2.2.1,g.2.2.2.1,g.2.2.2.2.1,g.2.2.2.2.2.1,IntKind.i64.wrap (IntKind.i64.wrap (IntKind.i64.wrap (IntKind.i64.wrap (IntKind.i64.wrap (IntKind.i64.wrap (v.1+1)+1)+1)+1)+1)+1),g.2.2.2.2.2.2.2.1,g.2.2.2.2.2.2.2.2.1,()))[0+v.2.1.toNat]?.bind fun h=>(EU (0+v.2.1.toNat,IntKind.i64.wrap (IntKind.i64.wrap (IntKind.i64.wrap (IntKind.i64.wrap (IntKind.i64.wrap (IntKind.i64.wrap (IntKind.i64.wrap (v.1+1)+1)+1)+1)+1)+1)+1),((((((v.2.2.1.set (0+v.2.1.toNat) (v.1,a.2.1,a.2.2.1,a.2.2.2.1,a.2.2.2.2.1,a.2.2.2.2.2.1,a.2.2.2.2.2.2.1,a.2.2.2.2.2.2.2.1,a.2.2.2.2.2.2.2.2.1,())).set (0+v.2.1.toNat) (b.1,IntKind.i64.wrap (v.1+1),b.2.2.1,b.2.2.2.1,b.2.2.2.2.1,b.2.2.2.2.2.1,b.2.2.2.2.2.2.1,b.2.2.2.2.2.2.2.1,b.2.2.2.2.2.2.2.2.1,())).set (0+v.2.1.toNat) (c.1,c.2.1,IntKind.i64.wrap (IntKind.i64.wrap (v.1+1)+1),c.2.2.2.1,c.2.2.2.2.1,c.2.2.2.2.2.1,c.2.2.2.2.2.2.1,c.2.2.2.2.2.2.2.1,c.2.2.2.2.2.2.2.2.1,())).set (0+v.2.1.toNat) (d.1,d.2.1,d.2.2.1,IntKind.i64.wrap (IntKind.i64.wrap (IntKind.i64.wrap (v.1+1)+1)+1),d.2.2.2.2.1,d.2.2.2.2.2.1,d.2.2.2.2.2.2.1,d.2.2.2.2.2.2.2.1,d.2.2.2.2.2.2.2.2.1,())).set (0+v.2.1.toNat) (e.1,e.2.1,e.2.2.1,e.2.2.2.1,IntKind.i64.wrap (IntKind.i64.wrap (IntKind.i64.wrap (IntKind.i64.wrap (v.1+1)+1)+1)+1),e.2.2.2.2.2.1,e.2.2.2.2.2.2.1,e.2.2.2.2.2.2.2.1,e.2.2.2.2.2.2.2.2.1,())).set (0+v.2.1.toNat) (f.1,f.2.1,f.2.2.1,f.2.2.2.1,f.2.2.2.2.1,IntKind.i64.wrap (IntKind.i64.wrap (IntKind.i64.wrap (IntKind.i64.wrap (IntKind.i64.wrap (v.1+1)+1)+1)+1)+1),f.2.2.2.2.2.2.1,f.2.2.2.2.2.2.2.1,f.2.2.2.2.2.2.2.2.1,())).set (0+v.2.1.toNat) (g.1,g.2.1,g.2.2.1,g.2.2.2.1,g.2.2.2.2.1,g.2.2.2.2.2.1,IntKind.i64.wrap (IntKind.i64.wrap (IntKind.i64.wrap (IntKind.i64.wrap (IntKind.i64.wrap (IntKind.i64.wrap (v.1+1)+1)+1)+1)+1)+1),g.2.2.2.2.2.2.2.1,g.2.2.2.2.2.2.2.2.1,()),())).bind fun j=>if 0<=v.2.1/\v.2.1<(j.2.1.length:Int)then j.2.1[0+v.2.1.toNat]?.bind fun k=>(GD (0+v.2.1.toNat,j.1,j.2.1,())).bind fun l=>K (.inl (l.1,IntKind.i64.wrap (v.2.1+1),l.2.1,()))else none else none else none else none else none else none else none else none else none else K (.inr (v.1,v.2.2.1,()))
theorem K7:AX Bn:=fun i v R K=>Ae (Aq (Ac fun _=>Aq (Ac fun _=>Aq (Ac fun _=>Aq (Ac fun _=>Aq (Ac fun _=>Aq (Ac fun _=>Aq (Ac fun _=>Aq (Ac fun _=>Ac fun _=>Aq (Ac fun _=>Ac fun _=>Aa)))))))))) (Aa)
def U8:Tmpl:=⟨(.own 0 (.slot .i (jk 3 (.slot .i (jk 70 .nil))))),(.tree false 1 Ad .nil)⟩
def fA:Exs fE fC:=x1 (.exit 0) fun i p=>⟨jn 1 (.n (p.1)::jn 74 ([])),[some (Cont.tree false 1 Ad p.2.1 none)]⟩
def fD:=((.v (.v (.v .n))):Pk U8.ty _ _)
def v9:Cfg:={ti:=Ar,ents:=[Wl,Wk],ann:=[(2,Ao U8 1 (spP fD) Bn fA.E)],lent:=1}
def DN (x:Int×List A3×Unit):Option (Int×List A3×Unit):=(Ay (fun v=>Bn () v _ some) (x.1,0,x.2.1,())).bind fun p=>some (p.1,p.2.1,())
def v8:Ent:=⟨73,⟨(.own 0 (.slot .i .nil)),(.tree false 0 Ad .nil)⟩,⟨(.slot .i .nil),(.tree false 1 Ad .nil)⟩,DN⟩
theorem fF:CfgOK Go.Proofs.Tryz.prog v9:=hcB (all_cons A2i (all_cons A2h all_nil))
theorem v7:AP Go.Proofs.Tryz.prog v9 (lpc Go.Proofs.Tryz.f73 0):=lkA fF U8 fD Bn fA [1] K7
theorem A2g:Ah Go.Proofs.Tryz.prog v8:=okB fF Go.Proofs.Tryz.func73 v7
abbrev fv:=Unit
abbrev fq:=Int×Int×List A1×Unit
abbrev fr:=Int×List A1×Unit
def DF (i:fv)(v:fq)(R:Type)(K:fq ⊕ fr->Option R):Option R:=bif decide (v.2.1<(v.2.2.1.length:Int))then if 0<=v.2.1/\v.2.1<(v.2.2.1.length:Int)then v.2.2.1[0+v.2.1.toNat]?.bind fun a=>if 0<=v.2.1/\v.2.1<(↑((v.2.2.1.set (0+v.2.1.toNat) (v.1,a.2.1,())).length):Int)then(v.2.2.1.set (0+v.2.1.toNat) (v.1,a.2.1,()))[0+v.2.1.toNat]?.bind fun b=>K (.inl (IntKind.i64.wrap (IntKind.i64.wrap (v.1+1)+1),IntKind.i64.wrap (v.2.1+1),(v.2.2.1.set (0+v.2.1.toNat) (v.1,a.2.1,())).set (0+v.2.1.toNat) (b.1,IntKind.i64.wrap (v.1+1),()),()))else none else none else K (.inr (v.1,v.2.2.1,()))
theorem Mn:AX DF:=fun i v R K=>Ae (Aq (Ac fun _=>Aq (Ac fun _=>Aa))) (Aa)
def U7:Tmpl:=⟨(.own 0 (.slot .i (jk 3 (.slot .i (jk 21 .nil))))),(.lst false A0 .nil)⟩
def fp:Exs fv fr:=x1 (.exit 0) fun i p=>⟨jn 1 (.n (p.1)::jn 25 ([])),[some (Cont.lst false A0 p.2.1)]⟩
def fu:=((.v (.v (.v .n))):Pk U7.ty _ _)
def v6:Cfg:={ti:=Ar,ents:=[],ann:=[(2,Ao U7 1 (spP fu) DF fp.E)],lent:=1}
def Hv (x:Int×List A1×Unit):Option (Int×List A1×Unit):=(Ay (fun v=>DF () v _ some) (x.1,0,x.2.1,())).bind fun p=>some (p.1,p.2.1,())
def uZ:Ent:=⟨74,⟨(.own 0 (.slot .i .nil)),(.lst false A0 .nil)⟩,⟨(.slot .i .nil),(.lst false A0 .nil)⟩,Hv⟩
theorem fy:CfgOK Go.Proofs.Tryz.prog v6:=hcB all_nil
theorem uY:AP Go.Proofs.Tryz.prog v6 (lpc Go.Proofs.Tryz.f74 0):=lkA fy U7 fu DF fp [1] Mn
theorem A2f:Ah Go.Proofs.Tryz.prog uZ:=okB fy Go.Proofs.Tryz.func74 uY
abbrev fj:=Unit
abbrev fg:=Int×Int×List A1×Unit
abbrev fh:=Int×List A1×Unit
def DE (i:fj)(v:fg)(R:Type)(K:fg ⊕ fh->Option R):Option R:=bif decide (v.2.1<(v.2.2.1.length:Int))then if 0<=v.2.1/\v.2.1<(v.2.2.1.length:Int)then v.2.2.1[0+v.2.1.toNat]?.bind fun a=>if 0<=v.2.1/\v.2.1<(↑((v.2.2.1.set (0+v.2.1.toNat) (v.1,a.2.1,())).length):Int)then(v.2.2.1.set (0+v.2.1.toNat) (v.1,a.2.1,()))[0+v.2.1.toNat]?.bind fun b=>K (.inl (IntKind.i64.wrap (IntKind.i64.wrap (v.1+1)+1),IntKind.i64.wrap (v.2.1+1),(v.2.2.1.set (0+v.2.1.toNat) (v.1,a.2.1,())).set (0+v.2.1.toNat) (b.1,IntKind.i64.wrap (v.1+1),()),()))else none else none else K (.inr (v.1,v.2.2.1,()))
theorem Ml:AX DE:=fun i v R K=>Ae (Aq (Ac fun _=>Aq (Ac fun _=>Aa))) (Aa)
def U6:Tmpl:=⟨(.own 0 (.slot .i (jk 3 (.slot .i (jk 21 .nil))))),(.lst false A0 .nil)⟩
def ff:Exs fj fh:=x1 (.exit 0) fun i p=>⟨jn 1 (.n (p.1)::jn 25 ([])),[some (Cont.lst false A0 p.2.1)]⟩
def fi:=((.v (.v (.v .n))):Pk U6.ty _ _)
def uX:Cfg:={ti:=Ar,ents:=[],ann:=[(2,Ao U6 1 (spP fi) DE ff.E)],lent:=1}
def Hs (x:Int×List A1×Unit):Option (Int×List A1×Unit):=(Ay (fun v=>DE () v _ some) (x.1,0,x.2.1,())).bind fun p=>some (p.1,p.2.1,())
def uW:Ent:=⟨75,⟨(.own 0 (.slot .i .nil)),(.lst false A0 .nil)⟩,⟨(.slot .i .nil),(.lst false A0 .nil)⟩,Hs⟩
theorem fm:CfgOK Go.Proofs.Tryz.prog uX:=hcB all_nil
theorem uV:AP Go.Proofs.Tryz.prog uX (lpc Go.Proofs.Tryz.f75 0):=lkA fm U6 fi DE ff [1] Ml
theorem A2e:Ah Go.Proofs.Tryz.prog uW:=okB fm Go.Proofs.Tryz.func75 uV
def EH (x:Bool×Int×Int×A7):Option (Int×A7):=(Ht (x.2.2.1,x.2.2.2.1,())).bind fun v=>(DN (v.1,x.2.2.2.2.1,())).bind fun a=>(Hv (a.1,x.2.2.2.2.2.1,())).bind fun b=>(Hs (b.1,x.2.2.2.2.2.2.1,())).bind fun c=>some (c.1,v.2.1,a.2.1,b.2.1,c.2.1,())
def uU:Ent:=⟨16,⟨(.agg (.slot .bool (.own 0 (.own 1 (.own 2 (.own 3 (.slot .i .nil)))))) (.slot .i .nil)),(.tree false 0 (.slice Af) (.tree false 0 Ad (.lst false A0 (.lst false A0 .nil))))⟩,⟨(.slot .i .nil),(.tree false 0 (.slice Af) (.tree false 1 Ad (.lst false A0 (.lst false A0 .nil))))⟩,EH⟩
theorem A2d:Ah Go.Proofs.Tryz.prog uU:=okA (hcA 4 (all_cons A2j (all_cons A2g (all_cons A2f (all_cons A2e all_nil))))) Go.Proofs.Tryz.func16
abbrev fb:=List A2×Unit
abbrev eY:=Int×Int×Unit
abbrev eZ:=Int×Unit ⊕ Int×Unit ⊕ Int×Unit ⊕ Int×Unit ⊕ Int×Unit ⊕ Int×Unit
def De (i:fb)(v:eY)(R:Type)(K:eY ⊕ eZ->Option R):Option R:=bif decide (v.2.1<(i.1.length:Int))then(lAt i.1 v.2.1).bind fun a=>bif a.1 != v.1 then K (.inr (.inl (v.1,())))else(lAt i.1 v.2.1).bind fun b=>bif b.2.1 != IntKind.i64.wrap (v.1+1)then K (.inr (.inr (.inl (IntKind.i64.wrap (v.1+1),()))))else(lAt i.1 v.2.1).bind fun c=>bif c.2.2.1 != IntKind.i64.wrap (IntKind.i64.wrap (v.1+1)+1)then K (.inr (.inr (.inr (.inl (IntKind.i64.wrap (IntKind.i64.wrap (v.1+1)+1),())))))else(lAt i.1 v.2.1).bind fun d=>bif d.2.2.2.1 != IntKind.i64.wrap (IntKind.i64.wrap (IntKind.i64.wrap (v.1+1)+1)+1)then K (.inr (.inr (.inr (.inr (.inl (IntKind.i64.wrap (IntKind.i64.wrap (IntKind.i64.wrap (v.1+1)+1)+1),()))))))else(lAt i.1 v.2.1).bind fun e=>bif e.2.2.2.2.1 != IntKind.i64.wrap (IntKind.i64.wrap (IntKind.i64.wrap (IntKind.i64.wrap (v.1+1)+1)+1)+1)then K (.inr (.inr (.inr (.inr (.inr (.inl (IntKind.i64.wrap (IntKind.i64.wrap (IntKind.i64.wrap (IntKind.i64.wrap (v.1+1)+1)+1)+1),())))))))else K (.inl (IntKind.i64.wrap (IntKind.i64.wrap (IntKind.i64.wrap (IntKind.i64.wrap (IntKind.i64.wrap (v.1+1)+1)+1)+1)+1),IntKind.i64.wrap (v.2.1+1),()))else K (.inr (.inr (.inr (.inr (.inr (.inr (v.1,())))))))
theorem LT:AX De:=fun i v R K=>Ae (Ac fun _=>Ae (Aa) (Ac fun _=>Ae (Aa) (Ac fun _=>Ae (Aa) (Ac fun _=>Ae (Aa) (Ac fun _=>Ae (Aa) (Aa)))))) (Aa)
def U5:Tmpl:=⟨(.slot (.slice Af) (.slot .i (jk 3 (.slot .i (jk 52 .nil))))),.nil⟩
def eX:Exs fb eZ:=xs .ret (fun i p=>⟨jn 1 (.n (p.1)::jn 2 (.n (-1)::jn 53 ([]))),[]⟩)<|xs .ret (fun i p=>⟨jn 1 (.n (p.1)::jn 2 (.n (-1)::jn 53 ([]))),[]⟩)<|xs .ret (fun i p=>⟨jn 1 (.n (p.1)::jn 2 (.n (-1)::jn 53 ([]))),[]⟩)<|xs .ret (fun i p=>⟨jn 1 (.n (p.1)::jn 2 (.n (-1)::jn 53 ([]))),[]⟩)<|xs .ret (fun i p=>⟨jn 1 (.n (p.1)::jn 2 (.n (-1)::jn 53 ([]))),[]⟩)<|x1 (.exit 0) fun i p=>⟨jn 1 (.n (p.1)::jn 56 ([])),[]⟩
def fa:=((.i (.v (.v .n))):Pk U5.ty _ _)
def uT:Cfg:={ti:=Ar,ents:=[],ann:=[(2,Ao U5 0 (spP fa) De eX.E)],lent:=0}
def GE (x:List A2×Int×Unit):Option (Int×Unit):=(Ay (fun v=>De (x.1,()) v _ some) (x.2.1,0,())).bind fun p=>Au p (fun p=>some (-1,())) fun p=>Au p (fun p=>some (-1,())) fun p=>Au p (fun p=>some (-1,())) fun p=>Au p (fun p=>some (-1,())) fun p=>Au p (fun p=>some (-1,())) fun p=>some (p.1,())
def Wj:Ent:=⟨220,⟨(.slot (.slice Af) (.slot .i .nil)),.nil⟩,⟨(.slot .i .nil),.nil⟩,GE⟩
theorem fc:CfgOK Go.Proofs.Tryz.prog uT:=hcB all_nil
theorem uS:AP Go.Proofs.Tryz.prog uT (lpc Go.Proofs.Tryz.f220 0):=lkA fc U5 fa De eX [1,4] LT
theorem A2c:Ah Go.Proofs.Tryz.prog Wj:=okB fc Go.Proofs.Tryz.func220 uS
abbrev eV:=List (List A2)×Unit
abbrev eS:=Int×Int×Unit
abbrev eT:=Int×Unit ⊕ Int×Unit
def BS (i:eV)(v:eS)(R:Type)(K:eS ⊕ eT->Option R):Option R:=bif decide (v.2.1<(i.1.length:Int))then(lAt i.1 v.2.1).bind fun a=>(GE (a,v.1,())).bind fun b=>bif decide (b.1<0)then K (.inr (.inl (b.1,())))else K (.inl (b.1,IntKind.i64.wrap (v.2.1+1),()))else K (.inr (.inr (v.1,())))
theorem Lt:AX BS:=fun i v R K=>Ae (Ac fun _=>Ac fun _=>Ae (Aa) (Aa)) (Aa)
def U4:Tmpl:=⟨(.slot (.slice (.slice Af)) (.slot .i (jk 3 (.slot .i (jk 15 .nil))))),.nil⟩
def eR:Exs eV eT:=xs .ret (fun i p=>⟨jn 1 (.n (p.1)::jn 2 (.n (-1)::jn 16 ([]))),[]⟩)<|x1 (.exit 0) fun i p=>⟨jn 1 (.n (p.1)::jn 19 ([])),[]⟩
def eU:=((.i (.v (.v .n))):Pk U4.ty _ _)
def uR:Cfg:={ti:=Ar,ents:=[Wj],ann:=[(2,Ao U4 0 (spP eU) BS eR.E)],lent:=0}
def Gf (x:List (List A2)×Int×Unit):Option (Int×Unit):=(Ay (fun v=>BS (x.1,()) v _ some) (x.2.1,0,())).bind fun p=>Au p (fun p=>some (-1,())) fun p=>some (p.1,())
def uQ:Ent:=⟨157,⟨(.slot (.slice (.slice Af)) (.slot .i .nil)),.nil⟩,⟨(.slot .i .nil),.nil⟩,Gf⟩
theorem eW:CfgOK Go.Proofs.Tryz.prog uR:=hcB (all_cons A2c all_nil)
theorem uP:AP Go.Proofs.Tryz.prog uR (lpc Go.Proofs.Tryz.f157 0):=lkA eW U4 eU BS eR [1,4] Lt
theorem A2b:Ah Go.Proofs.Tryz.prog uQ:=okB eW Go.Proofs.Tryz.func157 uP
def IL (x:A4×Int×Unit):Option (Int×Unit):=(Gf (x.1.1,x.2.1,())).bind fun v=>bif decide (v.1<0)then some (-1,())else some (v.1,())
def uO:Ent:=⟨76,⟨(.slot Bo (.slot .i .nil)),.nil⟩,⟨(.slot .i .nil),.nil⟩,IL⟩
theorem A2a:Ah Go.Proofs.Tryz.prog uO:=okA (hcA 0 (all_cons A2b all_nil)) Go.Proofs.Tryz.func76
abbrev eN:=List A1×Unit
abbrev eJ:=Int×Int×Unit
abbrev eK:=Int×Unit ⊕ Int×Unit ⊕ Int×Unit
def CX (i:eN)(v:eJ)(R:Type)(K:eJ ⊕ eK->Option R):Option R:=bif decide (v.2.1<(i.1.length:Int))then(lAt i.1 v.2.1).bind fun a=>bif a.1 != v.1 then K (.inr (.inl (v.1,())))else(lAt i.1 v.2.1).bind fun b=>bif b.2.1 != IntKind.i64.wrap (v.1+1)then K (.inr (.inr (.inl (IntKind.i64.wrap (v.1+1),()))))else K (.inl (IntKind.i64.wrap (IntKind.i64.wrap (v.1+1)+1),IntKind.i64.wrap (v.2.1+1),()))else K (.inr (.inr (.inr (v.1,()))))
theorem Lu:AX CX:=fun i v R K=>Ae (Ac fun _=>Ae (Aa) (Ac fun _=>Ae (Aa) (Aa))) (Aa)
def U3:Tmpl:=⟨(.slot (.slice A0) (.slot .i (jk 3 (.slot .i (jk 25 .nil))))),.nil⟩
def eI:Exs eN eK:=xs .ret (fun i p=>⟨jn 1 (.n (p.1)::jn 2 (.n (-1)::jn 26 ([]))),[]⟩)<|xs .ret (fun i p=>⟨jn 1 (.n (p.1)::jn 2 (.n (-1)::jn 26 ([]))),[]⟩)<|x1 (.exit 0) fun i p=>⟨jn 1 (.n (p.1)::jn 29 ([])),[]⟩
def eL:=((.i (.v (.v .n))):Pk U3.ty _ _)
def uN:Cfg:={ti:=Ar,ents:=[],ann:=[(2,Ao U3 0 (spP eL) CX eI.E)],lent:=0}
def Gg (x:List A1×Int×Unit):Option (Int×Unit):=(Ay (fun v=>CX (x.1,()) v _ some) (x.2.1,0,())).bind fun p=>Au p (fun p=>some (-1,())) fun p=>Au p (fun p=>some (-1,())) fun p=>some (p.1,())
def Wi:Ent:=⟨158,⟨(.slot (.slice A0) (.slot .i .nil)),.nil⟩,⟨(.slot .i .nil),.nil⟩,Gg⟩
theorem eP:CfgOK Go.Proofs.Tryz.prog uN:=hcB all_nil
theorem uM:AP Go.Proofs.Tryz.prog uN (lpc Go.Proofs.Tryz.f158 0):=lkA eP U3 eL CX eI [1,4] Lu
theorem A29:Ah Go.Proofs.Tryz.prog Wi:=okB eP Go.Proofs.Tryz.func158 uM
abbrev eG:=List A1×Unit
abbrev eD:=Int×Int×Unit
abbrev eE:=Int×Unit ⊕ Int×Unit ⊕ Int×Unit
def E5 (i:eG)(v:eD)(R:Type)(K:eD ⊕ eE->Option R):Option R:=bif decide (v.2.1<(i.1.length:Int))then(lAt i.1 v.2.1).bind fun a=>bif a.1 != v.1 then K (.inr (.inl (v.1,())))else(lAt i.1 v.2.1).bind fun b=>bif b.2.1 != IntKind.i64.wrap (v.1+1)then K (.inr (.inr (.inl (IntKind.i64.wrap (v.1+1),()))))else K (.inl (IntKind.i64.wrap (IntKind.i64.wrap (v.1+1)+1),IntKind.i64.wrap (v.2.1+1),()))else K (.inr (.inr (.inr (v.1,()))))
theorem MU:AX E5:=fun i v R K=>Ae (Ac fun _=>Ae (Aa) (Ac fun _=>Ae (Aa) (Aa))) (Aa)
def U2:Tmpl:=⟨(.slot (.slice A0) (.slot .i (jk 3 (.slot .i (jk 25 .nil))))),.nil⟩
def eC:Exs eG eE:=xs .ret (fun i p=>⟨jn 1 (.n (p.1)::jn 2 (.n (-1)::jn 26 ([]))),[]⟩)<|xs .ret (fun i p=>⟨jn 1 (.n (p.1)::jn 2 (.n (-1)::jn 26 ([]))),[]⟩)<|x1 (.exit 0) fun i p=>⟨jn 1 (.n (p.1)::jn 29 ([])),[]⟩
def eF:=((.i (.v (.v .n))):Pk U2.ty _ _)
def uL:Cfg:={ti:=Ar,ents:=[],ann:=[(2,Ao U2 0 (spP eF) E5 eC.E)],lent:=0}
def Ie (x:List A1×Int×Unit):Option (Int×Unit):=(Ay (fun v=>E5 (x.1,()) v _ some) (x.2.1,0,())).bind fun p=>Au p (fun p=>some (-1,())) fun p=>Au p (fun p=>some (-1,())) fun p=>some (p.1,())
def Wh:Ent:=⟨159,⟨(.slot (.slice A0) (.slot .i .nil)),.nil⟩,⟨(.slot .i .nil),.nil⟩,Ie⟩
theorem eH:CfgOK Go.Proofs.Tryz.prog uL:=hcB all_nil
theorem uK:AP Go.Proofs.Tryz.prog uL (lpc Go.Proofs.Tryz.f159 0):=lkA eH U2 eF E5 eC [1,4] MU
theorem A28:Ah Go.Proofs.Tryz.prog Wh:=okB eH Go.Proofs.Tryz.func159 uK
end
end Go.Ab
