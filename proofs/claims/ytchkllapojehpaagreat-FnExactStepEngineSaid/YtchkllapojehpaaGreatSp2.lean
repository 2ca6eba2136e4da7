import Derived.Test.YtchkllapojehpaaGreatSp1
set_option linter.all false
set_option maxRecDepth 100000
namespace Go.Ab
noncomputable section
abbrev iC:=List A1×List A1×Int×Unit
abbrev iz:=Int×Unit
abbrev iA:=Int×Int×Unit ⊕ Int×Int×Unit ⊕ Int×Int×Unit ⊕ Unit
def Eg (i:iC)(v:iz)(R:Type)(K:iz ⊕ iA->Option R):Option R:=bif decide (v.1<i.2.2.1)then(lAt i.2.1 v.1).bind fun a=>(DZ (a.1,())).bind fun b=>bif !b.1 then K (.inr (.inl (a.1,a.2.1,())))else(GG (a.2.1,())).bind fun c=>bif !c.1 then K (.inr (.inr (.inl (a.1,a.2.1,()))))else bif decide (v.1>0)then(lAt i.1 (IntKind.i64.wrap (v.1-1))).bind fun d=>bif decide (d.1>=a.1)then K (.inr (.inr (.inr (.inl (a.1,a.2.1,())))))else K (.inl (IntKind.i64.wrap (v.1+1),()))else K (.inl (IntKind.i64.wrap (v.1+1),()))else K (.inr (.inr (.inr (.inr ()))))
theorem MQ:Bi Eg:=fun i v R K=>Af (Ac fun _=>Ac fun _=>Af (Aa) (Ac fun _=>Af (Aa) (Af (Ac fun _=>Af (Aa) (Aa)) (Aa)))) (Aa)
def TG:Tmpl:=⟨(.slot (.slice A0) (jk 4 (.slot (.slice A0) (si 2 (jk 30 .nil))))),.nil⟩
def iy:Exs iC iA:=xs .ret (fun i p=>⟨jn 2 (.b (false)::jn 35 ([])),[some (Cont.cells 2 [[AV.pv .i p.1,AV.pv .i p.2.1]])]⟩)<|xs .ret (fun i p=>⟨jn 2 (.b (false)::jn 35 ([])),[some (Cont.cells 2 [[AV.pv .i p.1,AV.pv .i p.2.1]])]⟩)<|xs .ret (fun i p=>⟨jn 2 (.b (false)::jn 35 ([])),[some (Cont.cells 2 [[AV.pv .i p.1,AV.pv .i p.2.1]])]⟩)<|x1 (.exit 0) fun i p=>⟨jn 38 ([]),[]⟩
def iB:=((.i (.i (.i (.v .n)))):Pk TG.ty _ _)
def uf:Cfg:={ti:=Au,ents:=[OT,Zl],ann:=[(2,Ao TG 0 (spP iB) Eg iy.E)],lent:=0}
def D9 (x:List A1×Unit):Option (Bool×Unit):=(AE (fun v=>Eg (x.1,x.1,(x.1.length:Int),()) v _ some) (0,())).bind fun p=>Az p (fun p=>some (false,())) fun p=>Az p (fun p=>some (false,())) fun p=>Az p (fun p=>some (false,())) fun p=>some (true,())
def ue:Ent:=⟨233,⟨(.slot (.slice A0) .nil),.nil⟩,⟨(.slot .bool .nil),.nil⟩,D9⟩
theorem iD:CfgOK Go.Proofs.Tryz.prog uf:=hcB (all_cons OS (all_cons Xr all_nil))
theorem ud:B7 Go.Proofs.Tryz.prog uf (lpc Go.Proofs.Tryz.f233 0):=lkA iD TG iB Eg iy [2] MQ
theorem zE:Ah Go.Proofs.Tryz.prog ue:=okB iD Go.Proofs.Tryz.func233 ud
def CH (x:A3×Unit):Option (Bool×Unit):=(BF (x.1.1,())).bind fun v=>bif !v.1 then some (false,())else(FM (x.1.2.1,())).bind fun v=>bif !v.1 then some (false,())else(BC (x.1.2.2.1,1,3,())).bind fun v=>bif !v.1 then some (false,())else(BC (x.1.2.2.2.1,0,999,())).bind fun v=>bif !v.1 then some (false,())else(BC (x.1.2.2.2.2.1,0,999,())).bind fun v=>bif !v.1 then some (false,())else(BC (x.1.2.2.2.2.2.1,1,1000,())).bind fun v=>bif !v.1 then some (false,())else bif x.1.2.2.1==2 then(KS (x.1.2.2.2.2.2.2.1,())).bind fun v=>bif !v.1 then some (false,())else bif x.1.2.2.1 != 2 then bif x.1.2.2.2.2.2.2.1 != 0 then some (false,())else(DG (x.1.2.2.2.2.2.2.2.1,())).bind fun v=>bif v.1 then(D9 (x.1.2.2.2.2.2.2.2.2.1,())).bind fun v=>some (v.1,())else some (false,())else(DG (x.1.2.2.2.2.2.2.2.1,())).bind fun v=>bif v.1 then(D9 (x.1.2.2.2.2.2.2.2.2.1,())).bind fun v=>some (v.1,())else some (false,())else bif x.1.2.2.1 != 2 then bif x.1.2.2.2.2.2.2.1 != 0 then some (false,())else(DG (x.1.2.2.2.2.2.2.2.1,())).bind fun v=>bif v.1 then(D9 (x.1.2.2.2.2.2.2.2.2.1,())).bind fun v=>some (v.1,())else some (false,())else(DG (x.1.2.2.2.2.2.2.2.1,())).bind fun v=>bif v.1 then(D9 (x.1.2.2.2.2.2.2.2.2.1,())).bind fun v=>some (v.1,())else some (false,())
def Wb:Ent:=⟨192,⟨(.slot Ad .nil),.nil⟩,⟨(.slot .bool .nil),.nil⟩,CH⟩
theorem iw:Ah Go.Proofs.Tryz.prog Wb:=okA (hcA 0 (all_cons MZ (all_cons iV (all_cons Lc (all_cons zI (all_cons zF (all_cons zE all_nil))))))) Go.Proofs.Tryz.func192
def I4 (x:A2×Option Int×Unit):Option (Bool×Unit):=x.2.1.bind fun v=>some (x.1.2.2.1==v,())
def Wa:Ent:=⟨286,⟨(.slot Ae (.slot (.iref .i) .nil)),.nil⟩,⟨(.slot .bool .nil),.nil⟩,I4⟩
theorem zD:Ah Go.Proofs.Tryz.prog Wa:=okA (hcA 0 all_nil) Go.Proofs.Tryz.func286
abbrev iu:=List A2×(Option Int×Unit)×Int×Unit
abbrev iq:=Int×Unit
abbrev ir:=Int×Unit ⊕ Unit
def AK (i:iu)(v:iq)(R:Type)(K:iq ⊕ ir->Option R):Option R:=bif decide (v.1<i.2.2.1)then(lAt i.1 v.1).bind fun a=>(I4 ((a.1,a.2.1,a.2.2.1,a.2.2.2.1,a.2.2.2.2.1,()),i.2.1.1,())).bind fun b=>bif b.1 then K (.inr (.inl (v.1,())))else K (.inl (IntKind.i64.wrap (v.1+1),()))else K (.inr (.inr ()))
theorem GK:Bi AK:=fun i v R K=>Af (Ac fun _=>Ac fun _=>Af (Aa) (Aa)) (Aa)
def TF:Tmpl:=⟨(.slot (.slice Ae) (.slot (.fn 286 (.prod (.iref .i) .unit)) (jk 5 (si 2 (jk 10 .nil))))),.nil⟩
def ip:Exs iu ir:=xs .ret (fun i p=>⟨jn 4 (.n (p.1)::jn 14 ([])),[]⟩)<|x1 (.exit 0) fun i p=>⟨jn 19 ([]),[]⟩
def it:=((.i (.i (.i (.v .n)))):Pk TF.ty _ _)
def uc:Cfg:={ti:=Au,ents:=[Wa],ann:=[(2,Ao TF 0 (spP it) AK ip.E)],lent:=0}
def Cy (x:List A2×(Option Int×Unit)×Unit):Option (Int×Unit):=(AE (fun v=>AK (x.1,x.2.1,(x.1.length:Int),()) v _ some) (0,())).bind fun p=>Az p (fun p=>some (p.1,())) fun p=>some (-1,())
def ub:Ent:=⟨285,⟨(.slot (.slice Ae) (.slot (.fn 286 (.prod (.iref .i) .unit)) .nil)),.nil⟩,⟨(.slot .i .nil),.nil⟩,Cy⟩
theorem iv:CfgOK Go.Proofs.Tryz.prog uc:=hcB (all_cons zD all_nil)
theorem ua:B7 Go.Proofs.Tryz.prog uc (lpc Go.Proofs.Tryz.f285 0):=lkA iv TF it AK ip [4] GK
theorem zC:Ah Go.Proofs.Tryz.prog ub:=okB iv Go.Proofs.Tryz.func285 ua
def Ff (x:List A2×Int×Unit):Option (Int×Unit):=(Cy (x.1,(some x.2.1,()),())).bind fun v=>some (v.1,())
def u9:Ent:=⟨267,⟨(.slot (.slice Ae) (.slot .i .nil)),.nil⟩,⟨(.slot .i .nil),.nil⟩,Ff⟩
theorem io:Ah Go.Proofs.Tryz.prog u9:=okA (hcA 0 (all_cons zC all_nil)) Go.Proofs.Tryz.func267
def Ds (x:A4×A1×Unit):Option (Option A2×Unit):=(lAt x.1.1 x.2.1.1).bind fun v=>(Ff (v,x.2.1.2.1,())).bind fun a=>bif decide (a.1<0)then some (none,())else(lAt v a.1).bind fun v=>some (some v,())
def W9:Ent:=⟨236,⟨(.slot Bo (.slot A0 .nil)),.nil⟩,⟨(.slot (.iref Ae) .nil),.nil⟩,Ds⟩
theorem im:Ah Go.Proofs.Tryz.prog W9:=okA (hcA 0 (all_cons io all_nil)) Go.Proofs.Tryz.func236
def FA (x:A1×Option A4×Unit):Option (Bool×Unit):=x.2.1.bind fun v=>(Ds ((v.1,()),(x.1.1,x.1.2.1,()),())).bind fun v=>some (Option.isNone v.1,())
def W8:Ent:=⟨235,⟨(.slot A0 (.slot (.iref Bo) .nil)),.nil⟩,⟨(.slot .bool .nil),.nil⟩,FA⟩
theorem zB:Ah Go.Proofs.Tryz.prog W8:=okA (hcA 0 (all_cons im all_nil)) Go.Proofs.Tryz.func235
abbrev ik:=List A1×(Option A4×Unit)×Int×Unit
abbrev ig:=Int×Unit
abbrev ii:=Int×Unit ⊕ Unit
def AD (i:ik)(v:ig)(R:Type)(K:ig ⊕ ii->Option R):Option R:=bif decide (v.1<i.2.2.1)then(lAt i.1 v.1).bind fun a=>(FA ((a.1,a.2.1,()),i.2.1.1,())).bind fun b=>bif b.1 then K (.inr (.inl (v.1,())))else K (.inl (IntKind.i64.wrap (v.1+1),()))else K (.inr (.inr ()))
theorem Fy:Bi AD:=fun i v R K=>Af (Ac fun _=>Ac fun _=>Af (Aa) (Aa)) (Aa)
def TE:Tmpl:=⟨(.slot (.slice A0) (.slot (.fn 235 (.prod (.iref Bo) .unit)) (jk 5 (si 2 (jk 10 .nil))))),.nil⟩
def ic:Exs ik ii:=xs .ret (fun i p=>⟨jn 4 (.n (p.1)::jn 14 ([])),[]⟩)<|x1 (.exit 0) fun i p=>⟨jn 19 ([]),[]⟩
def ij:=((.i (.i (.i (.v .n)))):Pk TE.ty _ _)
def u7:Cfg:={ti:=Au,ents:=[W8],ann:=[(2,Ao TE 0 (spP ij) AD ic.E)],lent:=0}
def C2 (x:List A1×(Option A4×Unit)×Unit):Option (Int×Unit):=(AE (fun v=>AD (x.1,x.2.1,(x.1.length:Int),()) v _ some) (0,())).bind fun p=>Az p (fun p=>some (p.1,())) fun p=>some (-1,())
def u6:Ent:=⟨266,⟨(.slot (.slice A0) (.slot (.fn 235 (.prod (.iref Bo) .unit)) .nil)),.nil⟩,⟨(.slot .i .nil),.nil⟩,C2⟩
theorem il:CfgOK Go.Proofs.Tryz.prog u7:=hcB (all_cons zB all_nil)
theorem u5:B7 Go.Proofs.Tryz.prog u7 (lpc Go.Proofs.Tryz.f266 0):=lkA il TE ij AD ic [4] Fy
theorem zA:Ah Go.Proofs.Tryz.prog u6:=okB il Go.Proofs.Tryz.func266 u5
def BH (x:List A1×(Option A4×Unit)×Unit):Option (Bool×Unit):=(C2 (x.1,x.2.1,())).bind fun v=>some (decide (v.1>=0),())
def tZ:Ent:=⟨234,⟨(.slot (.slice A0) (.slot (.fn 235 (.prod (.iref Bo) .unit)) .nil)),.nil⟩,⟨(.slot .bool .nil),.nil⟩,BH⟩
theorem zz:Ah Go.Proofs.Tryz.prog tZ:=okA (hcA 0 (all_cons zA all_nil)) Go.Proofs.Tryz.func234
def Da (x:A4×List A1×Unit):Option (Bool×Unit):=(BH (x.2.1,(some (x.1.1,()),()),())).bind fun v=>some (!v.1,())
def W7:Ent:=⟨193,⟨(.slot Bo (.slot (.slice A0) .nil)),.nil⟩,⟨(.slot .bool .nil),.nil⟩,Da⟩
theorem zx:Ah Go.Proofs.Tryz.prog W7:=okA (hcA 0 (all_cons zz all_nil)) Go.Proofs.Tryz.func193
abbrev i9:=List A3×Int×Bool×List (List A2)×List A3×List A1×List A1×Int×Unit
abbrev i6:=Int×Unit
abbrev i7:=A3 ⊕ A3 ⊕ A3 ⊕ A3 ⊕ A3 ⊕ A3 ⊕ A3 ⊕ A3 ⊕ Unit
def Bw (i:i9)(v:i6)(R:Type)(K:i6 ⊕ i7->Option R):Option R:=bif decide (v.1<i.2.1)then(lAt i.1 v.1).bind fun a=>(CH ((a.1,a.2.1,a.2.2.1,a.2.2.2.1,a.2.2.2.2.1,a.2.2.2.2.2.1,a.2.2.2.2.2.2.1,a.2.2.2.2.2.2.2.1,a.2.2.2.2.2.2.2.2.1,()),())).bind fun b=>bif !b.1 then K (.inr (.inl (a.1,a.2.1,a.2.2.1,a.2.2.2.1,a.2.2.2.2.1,a.2.2.2.2.2.1,a.2.2.2.2.2.2.1,a.2.2.2.2.2.2.2.1,a.2.2.2.2.2.2.2.2.1,())))else bif decide (v.1>0)then(lAt i.2.2.2.2.1 (IntKind.i64.wrap (v.1-1))).bind fun c=>bif decide (c.1>=a.1)then K (.inr (.inr (.inl (a.1,a.2.1,a.2.2.1,a.2.2.2.1,a.2.2.2.2.1,a.2.2.2.2.2.1,a.2.2.2.2.2.2.1,a.2.2.2.2.2.2.2.1,a.2.2.2.2.2.2.2.2.1,()))))else bif decide (a.2.2.2.1>i.2.2.2.2.2.2.2.1)then K (.inr (.inr (.inr (.inl (a.1,a.2.1,a.2.2.1,a.2.2.2.1,a.2.2.2.2.1,a.2.2.2.2.2.1,a.2.2.2.2.2.2.1,a.2.2.2.2.2.2.2.1,a.2.2.2.2.2.2.2.2.1,())))))else bif decide (a.2.2.2.2.2.2.1>i.2.2.2.2.2.2.2.1)then K (.inr (.inr (.inr (.inr (.inl (a.1,a.2.1,a.2.2.1,a.2.2.2.1,a.2.2.2.2.1,a.2.2.2.2.2.1,a.2.2.2.2.2.2.1,a.2.2.2.2.2.2.2.1,a.2.2.2.2.2.2.2.2.1,()))))))else bif a.2.2.1==1 then(Da ((i.2.2.2.1,()),a.2.2.2.2.2.2.2.1,())).bind fun d=>bif !d.1 then K (.inr (.inr (.inr (.inr (.inr (.inl (a.1,a.2.1,a.2.2.1,a.2.2.2.1,a.2.2.2.2.1,a.2.2.2.2.2.1,a.2.2.2.2.2.2.1,a.2.2.2.2.2.2.2.1,a.2.2.2.2.2.2.2.2.1,())))))))else K (.inl (IntKind.i64.wrap (v.1+1),()))else K (.inl (IntKind.i64.wrap (v.1+1),()))else bif decide (a.2.2.2.1>i.2.2.2.2.2.2.2.1)then K (.inr (.inr (.inr (.inr (.inr (.inr (.inl (a.1,a.2.1,a.2.2.1,a.2.2.2.1,a.2.2.2.2.1,a.2.2.2.2.2.1,a.2.2.2.2.2.2.1,a.2.2.2.2.2.2.2.1,a.2.2.2.2.2.2.2.2.1,()))))))))else bif decide (a.2.2.2.2.2.2.1>i.2.2.2.2.2.2.2.1)then K (.inr (.inr (.inr (.inr (.inr (.inr (.inr (.inl (a.1,a.2.1,a.2.2.1,a.2.2.2.1,a.2.2.2.2.1,a.2.2.2.2.2.1,a.2.2.2.2.2.2.1,a.2.2.2.2.2.2.2.1,a.2.2.2.2.2.2.2.2.1,())))))))))else bif a.2.2.1==1 then(Da ((i.2.2.2.1,()),a.2.2.2.2.2.2.2.1,())).bind fun c=>bif !c.1 then K (.inr (.inr (.inr (.inr (.inr (.inr (.inr (.inr (.inl (a.1,a.2.1,a.2.2.1,a.2.2.2.1,a.2.2.2.2.1,a.2.2.2.2.2.1,a.2.2.2.2.2.2.1,a.2.2.2.2.2.2.2.1,a.2.2.2.2.2.2.2.2.1,()))))))))))else K (.inl (IntKind.i64.wrap (v.1+1),()))else K (.inl (IntKind.i64.wrap (v.1+1),()))else K (.inr (.inr (.inr (.inr (.inr (.inr (.inr (.inr (.inr ())))))))))
theorem IO:Bi Bw:=fun i v R K=>Af (Ac fun _=>Ac fun _=>Af (Aa) (Af (Ac fun _=>Af (Aa) (Af (Aa) (Af (Aa) (Af (Ac fun _=>Af (Aa) (Aa)) (Aa))))) (Af (Aa) (Af (Aa) (Af (Ac fun _=>Af (Aa) (Aa)) (Aa)))))) (Aa)
def TD:Tmpl:=⟨(.junk (.ptr 0 0 0 (jk 4 (.slot (.slice Ad) (si 2 (jk 53 .nil)))))),(.cells 6 (.slot .bool (.slot (.slice (.slice Ae)) (.slot (.slice Ad) (.slot (.slice A0) (.slot (.slice A0) (.slot .i .nil)))))) .nil)⟩
def i5:Exs i9 i7:=xs .ret (fun i p=>⟨jn 1 (AV.ptr 0 none 0 0::.b (false)::jn 59 ([])),[some (Cont.cells 6 [[AV.pv .bool i.2.2.1,AV.pv (.slice (.slice Ae)) i.2.2.2.1,AV.pv (.slice Ad) i.2.2.2.2.1,AV.pv (.slice A0) i.2.2.2.2.2.1,AV.pv (.slice A0) i.2.2.2.2.2.2.1,AV.pv .i i.2.2.2.2.2.2.2.1]]),some (Cont.cells 9 [[AV.pv .i p.1,AV.pv .i p.2.1,AV.pv .i p.2.2.1,AV.pv .i p.2.2.2.1,AV.pv .i p.2.2.2.2.1,AV.pv .i p.2.2.2.2.2.1,AV.pv .i p.2.2.2.2.2.2.1,AV.pv (.slice A0) p.2.2.2.2.2.2.2.1,AV.pv (.slice A0) p.2.2.2.2.2.2.2.2.1]])]⟩)<|xs .ret (fun i p=>⟨jn 1 (AV.ptr 0 none 0 0::.b (false)::jn 59 ([])),[some (Cont.cells 6 [[AV.pv .bool i.2.2.1,AV.pv (.slice (.slice Ae)) i.2.2.2.1,AV.pv (.slice Ad) i.2.2.2.2.1,AV.pv (.slice A0) i.2.2.2.2.2.1,AV.pv (.slice A0) i.2.2.2.2.2.2.1,AV.pv .i i.2.2.2.2.2.2.2.1]]),some (Cont.cells 9 [[AV.pv .i p.1,AV.pv .i p.2.1,AV.pv .i p.2.2.1,AV.pv .i p.2.2.2.1,AV.pv .i p.2.2.2.2.1,AV.pv .i p.2.2.2.2.2.1,AV.pv .i p.2.2.2.2.2.2.1,AV.pv (.slice A0) p.2.2.2.2.2.2.2.1,AV.pv (.slice A0) p.2.2.2.2.2.2.2.2.1]])]⟩)<|xs .ret (fun i p=>⟨jn 1 (AV.ptr 0 none 0 0::.b (false)::jn 59 ([])),[some (Cont.cells 6 [[AV.pv .bool i.2.2.1,AV.pv (.slice (.slice Ae)) i.2.2.2.1,AV.pv (.slice Ad) i.2.2.2.2.1,AV.pv (.slice A0) i.2.2.2.2.2.1,AV.pv (.slice A0) i.2.2.2.2.2.2.1,AV.pv .i i.2.2.2.2.2.2.2.1]]),some (Cont.cells 9 [[AV.pv .i p.1,AV.pv .i p.2.1,AV.pv .i p.2.2.1,AV.pv .i p.2.2.2.1,AV.pv .i p.2.2.2.2.1,AV.pv .i p.2.2.2.2.2.1,AV.pv .i p.2.2.2.2.2.2.1,AV.pv (.slice A0) p.2.2.2.2.2.2.2.1,AV.pv (.slice A0) p.2.2.2.2.2.2.2.2.1]])]⟩)<|xs .ret (fun i p=>⟨jn 1 (AV.ptr 0 none 0 0::.b (false)::jn 59 ([])),[some (Cont.cells 6 [[AV.pv .bool i.2.2.1,AV.pv (.slice (.slice Ae)) i.2.2.2.1,AV.pv (.slice Ad) i.2.2.2.2.1,AV.pv (.slice A0) i.2.2.2.2.2.1,AV.pv (.slice A0) i.2.2.2.2.2.2.1,AV.pv .i i.2.2.2.2.2.2.2.1]]),some (Cont.cells 9 [[AV.pv .i p.1,AV.pv .i p.2.1,AV.pv .i p.2.2.1,AV.pv .i p.2.2.2.1,AV.pv .i p.2.2.2.2.1,AV.pv .i p.2.2.2.2.2.1,AV.pv .i p.2.2.2.2.2.2.1,AV.pv (.slice A0) p.2.2.2.2.2.2.2.1,AV.pv (.slice A0) p.2.2.2.2.2.2.2.2.1]])]⟩)<|xs .ret (fun i p=>⟨jn 1 (AV.ptr 0 none 0 0::.b (false)::jn 59 ([])),[some (Cont.cells 6 [[AV.pv .bool i.2.2.1,AV.pv (.slice (.slice Ae)) i.2.2.2.1,AV.pv (.slice Ad) i.2.2.2.2.1,AV.pv (.slice A0) i.2.2.2.2.2.1,AV.pv (.slice A0) i.2.2.2.2.2.2.1,AV.pv .i i.2.2.2.2.2.2.2.1]]),some (Cont.cells 9 [[AV.pv .i p.1,AV.pv .i p.2.1,AV.pv .i p.2.2.1,AV.pv .i p.2.2.2.1,AV.pv .i p.2.2.2.2.1,AV.pv .i p.2.2.2.2.2.1,AV.pv .i p.2.2.2.2.2.2.1,AV.pv (.slice A0) p.2.2.2.2.2.2.2.1,AV.pv (.slice A0) p.2.2.2.2.2.2.2.2.1]])]⟩)<|xs .ret (fun i p=>⟨jn 1 (AV.ptr 0 none 0 0::.b (false)::jn 59 ([])),[some (Cont.cells 6 [[AV.pv .bool i.2.2.1,AV.pv (.slice (.slice Ae)) i.2.2.2.1,AV.pv (.slice Ad) i.2.2.2.2.1,AV.pv (.slice A0) i.2.2.2.2.2.1,AV.pv (.slice A0) i.2.2.2.2.2.2.1,AV.pv .i i.2.2.2.2.2.2.2.1]]),some (Cont.cells 9 [[AV.pv .i p.1,AV.pv .i p.2.1,AV.pv .i p.2.2.1,AV.pv .i p.2.2.2.1,AV.pv .i p.2.2.2.2.1,AV.pv .i p.2.2.2.2.2.1,AV.pv .i p.2.2.2.2.2.2.1,AV.pv (.slice A0) p.2.2.2.2.2.2.2.1,AV.pv (.slice A0) p.2.2.2.2.2.2.2.2.1]])]⟩)<|xs .ret (fun i p=>⟨jn 1 (AV.ptr 0 none 0 0::.b (false)::jn 59 ([])),[some (Cont.cells 6 [[AV.pv .bool i.2.2.1,AV.pv (.slice (.slice Ae)) i.2.2.2.1,AV.pv (.slice Ad) i.2.2.2.2.1,AV.pv (.slice A0) i.2.2.2.2.2.1,AV.pv (.slice A0) i.2.2.2.2.2.2.1,AV.pv .i i.2.2.2.2.2.2.2.1]]),some (Cont.cells 9 [[AV.pv .i p.1,AV.pv .i p.2.1,AV.pv .i p.2.2.1,AV.pv .i p.2.2.2.1,AV.pv .i p.2.2.2.2.1,AV.pv .i p.2.2.2.2.2.1,AV.pv .i p.2.2.2.2.2.2.1,AV.pv (.slice A0) p.2.2.2.2.2.2.2.1,AV.pv (.slice A0) p.2.2.2.2.2.2.2.2.1]])]⟩)<|xs .ret (fun i p=>⟨jn 1 (AV.ptr 0 none 0 0::.b (false)::jn 59 ([])),[some (Cont.cells 6 [[AV.pv .bool i.2.2.1,AV.pv (.slice (.slice Ae)) i.2.2.2.1,AV.pv (.slice Ad) i.2.2.2.2.1,AV.pv (.slice A0) i.2.2.2.2.2.1,AV.pv (.slice A0) i.2.2.2.2.2.2.1,AV.pv .i i.2.2.2.2.2.2.2.1]]),some (Cont.cells 9 [[AV.pv .i p.1,AV.pv .i p.2.1,AV.pv .i p.2.2.1,AV.pv .i p.2.2.2.1,AV.pv .i p.2.2.2.2.1,AV.pv .i p.2.2.2.2.2.1,AV.pv .i p.2.2.2.2.2.2.1,AV.pv (.slice A0) p.2.2.2.2.2.2.2.1,AV.pv (.slice A0) p.2.2.2.2.2.2.2.2.1]])]⟩)<|x1 (.exit 0) fun i p=>⟨jn 1 (AV.ptr 0 none 0 0::jn 60 ([])),[some (Cont.cells 6 [[AV.pv .bool i.2.2.1,AV.pv (.slice (.slice Ae)) i.2.2.2.1,AV.pv (.slice Ad) i.2.2.2.2.1,AV.pv (.slice A0) i.2.2.2.2.2.1,AV.pv (.slice A0) i.2.2.2.2.2.2.1,AV.pv (Ty.int IntKind.i64) i.2.2.2.2.2.2.2.1]])]⟩
def i8:=((.i (.i (.v (.i (.i (.i (.i (.i (.i .n))))))))):Pk TD.ty _ _)
def tS:Cfg:={ti:=Au,ents:=[Wb,W7],ann:=[(2,Ao TD 0 (spP i8) Bw i5.E)],lent:=0}
def C3 (x:A5×Unit):Option (Bool×Unit):=(AE (fun v=>Bw (x.1.2.2.1,(x.1.2.2.1.length:Int),x.1.1,x.1.2.1.1,x.1.2.2.1,x.1.2.2.2.1,x.1.2.2.2.2.1,x.1.2.2.2.2.2.1,()) v _ some) (0,())).bind fun p=>Az p (fun p=>some (false,())) fun p=>Az p (fun p=>some (false,())) fun p=>Az p (fun p=>some (false,())) fun p=>Az p (fun p=>some (false,())) fun p=>Az p (fun p=>some (false,())) fun p=>Az p (fun p=>some (false,())) fun p=>Az p (fun p=>some (false,())) fun p=>Az p (fun p=>some (false,())) fun p=>some (decide ((x.1.2.2.1.length:Int)<=6),())
def tR:Ent:=⟨132,⟨(.slot C1 .nil),.nil⟩,⟨(.slot .bool .nil),.nil⟩,C3⟩
theorem ia:CfgOK Go.Proofs.Tryz.prog tS:=hcB (all_cons iw (all_cons zx all_nil))
theorem tQ:B7 Go.Proofs.Tryz.prog tS (lpc Go.Proofs.Tryz.f132 0):=lkA ia TD i8 Bw i5 [1,2] IO
theorem zw:Ah Go.Proofs.Tryz.prog tR:=okB ia Go.Proofs.Tryz.func132 tQ
def Gh (x:A3×Option Int×Unit):Option (Bool×Unit):=x.2.1.bind fun v=>some (x.1.1==v,())
def W6:Ent:=⟨202,⟨(.slot Ad (.slot (.iref .i) .nil)),.nil⟩,⟨(.slot .bool .nil),.nil⟩,Gh⟩
theorem zu:Ah Go.Proofs.Tryz.prog W6:=okA (hcA 0 all_nil) Go.Proofs.Tryz.func202
abbrev i3:=List A3×(Option Int×Unit)×Int×Unit
abbrev hZ:=Int×Unit
abbrev i1:=Int×Unit ⊕ Unit
def AF (i:i3)(v:hZ)(R:Type)(K:hZ ⊕ i1->Option R):Option R:=bif decide (v.1<i.2.2.1)then(lAt i.1 v.1).bind fun a=>(Gh ((a.1,a.2.1,a.2.2.1,a.2.2.2.1,a.2.2.2.2.1,a.2.2.2.2.2.1,a.2.2.2.2.2.2.1,a.2.2.2.2.2.2.2.1,a.2.2.2.2.2.2.2.2.1,()),i.2.1.1,())).bind fun b=>bif b.1 then K (.inr (.inl (v.1,())))else K (.inl (IntKind.i64.wrap (v.1+1),()))else K (.inr (.inr ()))
theorem FU:Bi AF:=fun i v R K=>Af (Ac fun _=>Ac fun _=>Af (Aa) (Aa)) (Aa)
def TC:Tmpl:=⟨(.slot (.slice Ad) (.slot (.fn 202 (.prod (.iref .i) .unit)) (jk 5 (si 2 (jk 10 .nil))))),.nil⟩
def hY:Exs i3 i1:=xs .ret (fun i p=>⟨jn 4 (.n (p.1)::jn 14 ([])),[]⟩)<|x1 (.exit 0) fun i p=>⟨jn 19 ([]),[]⟩
def i2:=((.i (.i (.i (.v .n)))):Pk TC.ty _ _)
def tP:Cfg:={ti:=Au,ents:=[W6],ann:=[(2,Ao TC 0 (spP i2) AF hY.E)],lent:=0}
def C8 (x:List A3×(Option Int×Unit)×Unit):Option (Int×Unit):=(AE (fun v=>AF (x.1,x.2.1,(x.1.length:Int),()) v _ some) (0,())).bind fun p=>Az p (fun p=>some (p.1,())) fun p=>some (-1,())
def tO:Ent:=⟨201,⟨(.slot (.slice Ad) (.slot (.fn 202 (.prod (.iref .i) .unit)) .nil)),.nil⟩,⟨(.slot .i .nil),.nil⟩,C8⟩
theorem i4:CfgOK Go.Proofs.Tryz.prog tP:=hcB (all_cons zu all_nil)
theorem tN:B7 Go.Proofs.Tryz.prog tP (lpc Go.Proofs.Tryz.f201 0):=lkA i4 TC i2 AF hY [4] FU
theorem zt:Ah Go.Proofs.Tryz.prog tO:=okB i4 Go.Proofs.Tryz.func201 tN
def Dt (x:A5×Int×Unit):Option (Int×Unit):=(C8 (x.1.2.2.1,(some x.2.1,()),())).bind fun v=>some (v.1,())
def W5:Ent:=⟨143,⟨(.slot C1 (.slot .i .nil)),.nil⟩,⟨(.slot .i .nil),.nil⟩,Dt⟩
theorem hX:Ah Go.Proofs.Tryz.prog W5:=okA (hcA 0 (all_cons zt all_nil)) Go.Proofs.Tryz.func143
def Cc (x:A5×Int×Unit):Option (Bool×Unit):=(Dt ((x.1.1,(x.1.2.1.1,()),x.1.2.2.1,x.1.2.2.2.1,x.1.2.2.2.2.1,x.1.2.2.2.2.2.1,()),x.2.1,())).bind fun v=>bif decide (v.1>=0)then(lAt x.1.2.2.1 v.1).bind fun v=>some (v.2.2.1==1,())else some (false,())
def W4:Ent:=⟨135,⟨(.slot C1 (.slot .i .nil)),.nil⟩,⟨(.slot .bool .nil),.nil⟩,Cc⟩
theorem TB:Ah Go.Proofs.Tryz.prog W4:=okA (hcA 0 (all_cons hX all_nil)) Go.Proofs.Tryz.func135
def Hi (x:A1×Option A5×Unit):Option (Bool×Unit):=x.2.1.bind fun v=>(Cc ((v.1,(v.2.1.1,()),v.2.2.1,v.2.2.2.1,v.2.2.2.2.1,v.2.2.2.2.2.1,()),x.1.2.1,())).bind fun v=>some (!v.1,())
def W3:Ent:=⟨134,⟨(.slot A0 (.slot (.iref C1) .nil)),.nil⟩,⟨(.slot .bool .nil),.nil⟩,Hi⟩
theorem zr:Ah Go.Proofs.Tryz.prog W3:=okA (hcA 0 (all_cons TB all_nil)) Go.Proofs.Tryz.func134
abbrev hP:=List A1×(Option A5×Unit)×Int×Unit
abbrev gZ:=Int×Unit
abbrev hL:=Int×Unit ⊕ Unit
def AI (i:hP)(v:gZ)(R:Type)(K:gZ ⊕ hL->Option R):Option R:=bif decide (v.1<i.2.2.1)then(lAt i.1 v.1).bind fun a=>(Hi ((a.1,a.2.1,()),i.2.1.1,())).bind fun b=>bif b.1 then K (.inr (.inl (v.1,())))else K (.inl (IntKind.i64.wrap (v.1+1),()))else K (.inr (.inr ()))
theorem Gl:Bi AI:=fun i v R K=>Af (Ac fun _=>Ac fun _=>Af (Aa) (Aa)) (Aa)
def TA:Tmpl:=⟨(.slot (.slice A0) (.slot (.fn 134 (.prod (.iref C1) .unit)) (jk 5 (si 2 (jk 10 .nil))))),.nil⟩
def gY:Exs hP hL:=xs .ret (fun i p=>⟨jn 4 (.n (p.1)::jn 14 ([])),[]⟩)<|x1 (.exit 0) fun i p=>⟨jn 19 ([]),[]⟩
def hO:=((.i (.i (.i (.v .n)))):Pk TA.ty _ _)
def tM:Cfg:={ti:=Au,ents:=[W3],ann:=[(2,Ao TA 0 (spP hO) AI gY.E)],lent:=0}
def Cn (x:List A1×(Option A5×Unit)×Unit):Option (Int×Unit):=(AE (fun v=>AI (x.1,x.2.1,(x.1.length:Int),()) v _ some) (0,())).bind fun p=>Az p (fun p=>some (p.1,())) fun p=>some (-1,())
def tL:Ent:=⟨194,⟨(.slot (.slice A0) (.slot (.fn 134 (.prod (.iref C1) .unit)) .nil)),.nil⟩,⟨(.slot .i .nil),.nil⟩,Cn⟩
theorem hU:CfgOK Go.Proofs.Tryz.prog tM:=hcB (all_cons zr all_nil)
theorem tK:B7 Go.Proofs.Tryz.prog tM (lpc Go.Proofs.Tryz.f194 0):=lkA hU TA hO AI gY [4] Gl
theorem zq:Ah Go.Proofs.Tryz.prog tL:=okB hU Go.Proofs.Tryz.func194 tK
def Br (x:List A1×(Option A5×Unit)×Unit):Option (Bool×Unit):=(Cn (x.1,x.2.1,())).bind fun v=>some (decide (v.1>=0),())
def tJ:Ent:=⟨133,⟨(.slot (.slice A0) (.slot (.fn 134 (.prod (.iref C1) .unit)) .nil)),.nil⟩,⟨(.slot .bool .nil),.nil⟩,Br⟩
theorem zp:Ah Go.Proofs.Tryz.prog tJ:=okA (hcA 0 (all_cons zq all_nil)) Go.Proofs.Tryz.func133
def Hg (x:A1×Option A5×Unit):Option (Bool×Unit):=x.2.1.bind fun v=>(Cc ((v.1,(v.2.1.1,()),v.2.2.1,v.2.2.2.1,v.2.2.2.2.1,v.2.2.2.2.2.1,()),x.1.1,())).bind fun v=>bif !v.1 then some (true,())else x.2.1.bind fun v=>(Cc ((v.1,(v.2.1.1,()),v.2.2.1,v.2.2.2.1,v.2.2.2.2.1,v.2.2.2.2.2.1,()),x.1.2.1,())).bind fun v=>some (!v.1,())
def W2:Ent:=⟨137,⟨(.slot A0 (.slot (.iref C1) .nil)),.nil⟩,⟨(.slot .bool .nil),.nil⟩,Hg⟩
theorem zo:Ah Go.Proofs.Tryz.prog W2:=okA (hcA 0 (all_cons TB all_nil)) Go.Proofs.Tryz.func137
abbrev gW:=List A1×(Option A5×Unit)×Int×Unit
abbrev gT:=Int×Unit
abbrev gU:=Int×Unit ⊕ Unit
def AH (i:gW)(v:gT)(R:Type)(K:gT ⊕ gU->Option R):Option R:=bif decide (v.1<i.2.2.1)then(lAt i.1 v.1).bind fun a=>(Hg ((a.1,a.2.1,()),i.2.1.1,())).bind fun b=>bif b.1 then K (.inr (.inl (v.1,())))else K (.inl (IntKind.i64.wrap (v.1+1),()))else K (.inr (.inr ()))
theorem Gk:Bi AH:=fun i v R K=>Af (Ac fun _=>Ac fun _=>Af (Aa) (Aa)) (Aa)
def Tz:Tmpl:=⟨(.slot (.slice A0) (.slot (.fn 137 (.prod (.iref C1) .unit)) (jk 5 (si 2 (jk 10 .nil))))),.nil⟩
def gS:Exs gW gU:=xs .ret (fun i p=>⟨jn 4 (.n (p.1)::jn 14 ([])),[]⟩)<|x1 (.exit 0) fun i p=>⟨jn 19 ([]),[]⟩
def gV:=((.i (.i (.i (.v .n)))):Pk Tz.ty _ _)
def tC:Cfg:={ti:=Au,ents:=[W2],ann:=[(2,Ao Tz 0 (spP gV) AH gS.E)],lent:=0}
def Cm (x:List A1×(Option A5×Unit)×Unit):Option (Int×Unit):=(AE (fun v=>AH (x.1,x.2.1,(x.1.length:Int),()) v _ some) (0,())).bind fun p=>Az p (fun p=>some (p.1,())) fun p=>some (-1,())
def tB:Ent:=⟨195,⟨(.slot (.slice A0) (.slot (.fn 137 (.prod (.iref C1) .unit)) .nil)),.nil⟩,⟨(.slot .i .nil),.nil⟩,Cm⟩
theorem gX:CfgOK Go.Proofs.Tryz.prog tC:=hcB (all_cons zo all_nil)
theorem tz:B7 Go.Proofs.Tryz.prog tC (lpc Go.Proofs.Tryz.f195 0):=lkA gX Tz gV AH gS [4] Gk
theorem zl:Ah Go.Proofs.Tryz.prog tB:=okB gX Go.Proofs.Tryz.func195 tz
def Bq (x:List A1×(Option A5×Unit)×Unit):Option (Bool×Unit):=(Cm (x.1,x.2.1,())).bind fun v=>some (decide (v.1>=0),())
def tx:Ent:=⟨136,⟨(.slot (.slice A0) (.slot (.fn 137 (.prod (.iref C1) .unit)) .nil)),.nil⟩,⟨(.slot .bool .nil),.nil⟩,Bq⟩
theorem zk:Ah Go.Proofs.Tryz.prog tx:=okA (hcA 0 (all_cons zl all_nil)) Go.Proofs.Tryz.func136
def G7 (x:A5×Unit):Option (Bool×Unit):=(Gv ((x.1.2.1.1,()),())).bind fun v=>bif v.1 then(Es (x.1.2.2.2.1,())).bind fun v=>bif v.1 then(DH (x.1.2.2.2.2.1,())).bind fun v=>bif v.1 then(EK ((x.1.2.1.1,()),())).bind fun v=>(BC (x.1.2.2.2.2.2.1,v.1,999,())).bind fun v=>bif v.1 then(C3 ((x.1.1,(x.1.2.1.1,()),x.1.2.2.1,x.1.2.2.2.1,x.1.2.2.2.2.1,x.1.2.2.2.2.2.1,()),())).bind fun v=>bif v.1 then(Br (x.1.2.2.2.1,(some (x.1.1,(x.1.2.1.1,()),x.1.2.2.1,x.1.2.2.2.1,x.1.2.2.2.2.1,x.1.2.2.2.2.2.1,()),()),())).bind fun v=>bif !v.1 then(Bq (x.1.2.2.2.2.1,(some (x.1.1,(x.1.2.1.1,()),x.1.2.2.1,x.1.2.2.2.1,x.1.2.2.2.2.1,x.1.2.2.2.2.2.1,()),()),())).bind fun v=>some (!v.1,())else some (false,())else some (false,())else some (false,())else some (false,())else some (false,())else some (false,())
def W0:Ent:=⟨65,⟨(.slot C1 .nil),.nil⟩,⟨(.slot .bool .nil),.nil⟩,G7⟩
theorem zj:Ah Go.Proofs.Tryz.prog W0:=okA (hcA 0 (all_cons A31 (all_cons jl (all_cons TP (all_cons zJ (all_cons Lc (all_cons zw (all_cons zp (all_cons zk all_nil))))))))) Go.Proofs.Tryz.func65
def Im (x:A6×Unit):Option (Bool×Unit):=bif x.1.1==1 then(FM (x.1.2.2.1,())).bind fun v=>(BC (x.1.1,1,6,())).bind fun a=>bif a.1 then(BF (x.1.2.1,())).bind fun b=>bif b.1 then bif v.1 then some (0==0&&(0==0&&(0==0&&(x.1.2.2.2.1==0&&(x.1.2.2.2.2.1==0&&(x.1.2.2.2.2.2.1==0&&true))))),())else some (false,())else some (false,())else some (false,())else bif x.1.1==2 then(DZ (x.1.2.2.2.1,())).bind fun v=>(BC (x.1.1,1,6,())).bind fun a=>bif a.1 then(BF (x.1.2.1,())).bind fun b=>bif b.1 then bif v.1 then some (0==0&&(0==0&&(x.1.2.2.1==0&&(0==0&&(x.1.2.2.2.2.1==0&&(x.1.2.2.2.2.2.1==0&&true))))),())else some (false,())else some (false,())else some (false,())else bif x.1.1==3 then(DZ (x.1.2.2.2.1,())).bind fun v=>bif v.1 then(GG (x.1.2.2.2.2.2.1,())).bind fun v=>(BC (x.1.1,1,6,())).bind fun a=>bif a.1 then(BF (x.1.2.1,())).bind fun b=>bif b.1 then bif v.1 then some (0==0&&(0==0&&(x.1.2.2.1==0&&(0==0&&(x.1.2.2.2.2.1==0&&(0==0&&true))))),())else some (false,())else some (false,())else some (false,())else(BC (x.1.1,1,6,())).bind fun v=>bif v.1 then(BF (x.1.2.1,())).bind fun v=>bif v.1 then some (false,())else some (false,())else some (false,())else bif x.1.1==4 then(DZ (x.1.2.2.2.1,())).bind fun v=>bif v.1 then(BC (x.1.2.2.2.2.1,x.1.2.2.2.1,5,())).bind fun v=>(BC (x.1.1,1,6,())).bind fun a=>bif a.1 then(BF (x.1.2.1,())).bind fun b=>bif b.1 then bif v.1 then some (0==0&&(0==0&&(x.1.2.2.1==0&&(0==0&&(0==0&&(x.1.2.2.2.2.2.1==0&&true))))),())else some (false,())else some (false,())else some (false,())else(BC (x.1.1,1,6,())).bind fun v=>bif v.1 then(BF (x.1.2.1,())).bind fun v=>bif v.1 then some (false,())else some (false,())else some (false,())else(BC (x.1.1,1,6,())).bind fun v=>bif v.1 then(BF (x.1.2.1,())).bind fun v=>bif v.1 then some (0==0&&(0==0&&(x.1.2.2.1==0&&(x.1.2.2.2.1==0&&(x.1.2.2.2.2.1==0&&(x.1.2.2.2.2.2.1==0&&true))))),())else some (false,())else some (false,())
def VZ:Ent:=⟨66,⟨(.slot YOp .nil),.nil⟩,⟨(.slot .bool .nil),.nil⟩,Im⟩
theorem zi:Ah Go.Proofs.Tryz.prog VZ:=okA (hcA 0 (all_cons iV (all_cons Lc (all_cons MZ (all_cons OS (all_cons Xr all_nil)))))) Go.Proofs.Tryz.func66
def DM (x:A3×Int×Unit):Option (Int×Unit):=(C0 (x.1.1,x.2.1,())).bind fun v=>some (v.1,())
def VY:Ent:=⟨197,⟨(.slot Ad (.slot .i .nil)),.nil⟩,⟨(.slot .i .nil),.nil⟩,DM⟩
theorem zh:Ah Go.Proofs.Tryz.prog VY:=okA (hcA 0 (all_cons OQ all_nil)) Go.Proofs.Tryz.func197
abbrev gQ:=List A3×Int×Unit×Int×Unit
abbrev gN:=Int×Int×Unit
abbrev gO:=Int×Unit
def Ax (i:gQ)(v:gN)(R:Type)(K:gN ⊕ gO->Option R):Option R:=bif decide (v.1<v.2.1)then(lAt i.1 (IntKind.i64.wrap (Int.fdiv (IntKind.u64.wrap (IntKind.i64.wrap (v.1+v.2.1))) (2 ^ min (Int.toNat 1) (IntKind.bits IntKind.u64))))).bind fun a=>(DM ((a.1,a.2.1,a.2.2.1,a.2.2.2.1,a.2.2.2.2.1,a.2.2.2.2.2.1,a.2.2.2.2.2.2.1,a.2.2.2.2.2.2.2.1,a.2.2.2.2.2.2.2.2.1,()),i.2.1,())).bind fun b=>bif decide (b.1<0)then K (.inl (IntKind.i64.wrap (IntKind.i64.wrap (Int.fdiv (IntKind.u64.wrap (IntKind.i64.wrap (v.1+v.2.1))) (2 ^ min (Int.toNat 1) (IntKind.bits IntKind.u64)))+1),v.2.1,()))else K (.inl (v.1,IntKind.i64.wrap (Int.fdiv (IntKind.u64.wrap (IntKind.i64.wrap (v.1+v.2.1))) (2 ^ min (Int.toNat 1) (IntKind.bits IntKind.u64))),()))else K (.inr (v.1,()))
theorem EU:Bi Ax:=fun i v R K=>Af (Ac fun _=>Ac fun _=>Af (Aa) (Aa)) (Aa)
def Tx:Tmpl:=⟨(.slot (.slice Ad) (.slot .i (.slot (.fn 197 .unit) (jk 5 (si 3 (jk 38 .nil)))))),.nil⟩
def gM:Exs gQ gO:=x1 (.exit 0) fun i p=>⟨AV.pv (.slice Ad) i.1::.n (i.2.1)::AV.pv (.fn 197 .unit) i.2.2.1::jn 5 (.n (i.2.2.2.1)::.n (p.1)::jn 39 ([])),[]⟩
def gP:=((.i (.i (.i (.i (.v (.v .n)))))):Pk Tx.ty _ _)
def tw:Cfg:={ti:=Au,ents:=[VY],ann:=[(3,Ao Tx 0 (spP gP) Ax gM.E)],lent:=0}
def AU (x:List A3×Int×Unit×Unit):Option (Int×Bool×Unit):=(AE (fun v=>Ax (x.1,x.2.1,x.2.2.1,(x.1.length:Int),()) v _ some) (0,(x.1.length:Int),())).bind fun p=>bif decide (p.1<(x.1.length:Int))then(lAt x.1 p.1).bind fun v=>(DM ((v.1,v.2.1,v.2.2.1,v.2.2.2.1,v.2.2.2.2.1,v.2.2.2.2.2.1,v.2.2.2.2.2.2.1,v.2.2.2.2.2.2.2.1,v.2.2.2.2.2.2.2.2.1,()),x.2.1,())).bind fun v=>some (p.1,v.1==0,())else some (p.1,false,())
def VX:Ent:=⟨196,⟨(.slot (.slice Ad) (.slot .i (.slot (.fn 197 .unit) .nil))),.nil⟩,⟨(.slot .i (.slot .bool .nil)),.nil⟩,AU⟩
theorem gR:CfgOK Go.Proofs.Tryz.prog tw:=hcB (all_cons zh all_nil)
theorem tu:B7 Go.Proofs.Tryz.prog tw (lpc Go.Proofs.Tryz.f196 0):=lkA gR Tx gP Ax gM [0,1,2,8,9] EU
theorem zg:Ah Go.Proofs.Tryz.prog VX:=okB gR Go.Proofs.Tryz.func196 tu
def Fo (x:B3):Option (Int×Int×Int×Int×Int×Int×Int×Bool×Unit):=(CH ((x.1,x.2.1,1,x.2.2.1,0,1000,0,[],[],()),())).bind fun v=>bif !v.1 then some (0,0,0,0,0,0,0,false,())else some (x.1,x.2.1,1,x.2.2.1,0,1000,0,true,())
def VW:Ent:=⟨199,⟨(si 3 .nil),.nil⟩,⟨(.agg (si 7 (.const (AV.nils) (.const (AV.nils) .nil))) (.slot .bool .nil)),.nil⟩,Fo⟩
theorem zf:Ah Go.Proofs.Tryz.prog VW:=okA (hcA 0 (all_cons iw all_nil)) Go.Proofs.Tryz.func199
def VT:Go.Shelf.Ren:=⟨fun|22=>200|29=>238|30=>239|n=>n,fun|24=>36|9=>93|n=>n,fun|n=>n⟩
theorem A56:InsL Go.Proofs.Tryz.prog VT true 9 where
 mixed:=by kernel_rfl
 f22:=⟨ "slices.Insert[[]loop.example/g01924/impl.Transaction,loop.example/g01924/impl.Transaction]",by decide,Go.Proofs.Tryz.func200.trans (congrArg some (by kernel_rfl))⟩
 f29:=⟨_,Go.Proofs.Tryz.func238,by kernel_rfl,by kernel_rfl,by kernel_rfl,by kernel_rfl⟩
 a9:=Go.Proofs.Tryz.isAgg93
 z9:=Go.Proofs.Tryz.sizeOf93
 t0:=Go.Proofs.Tryz.underlying0
 a0:=Go.Proofs.Tryz.isAgg0
 z0:=Go.Proofs.Tryz.sizeOf0
 v0:=Go.Proofs.Tryz.zeroValue0
 t3:=Go.Proofs.Tryz.underlying3
 a3:=Go.Proofs.Tryz.isAgg3
 z3:=Go.Proofs.Tryz.sizeOf3
 v3:=Go.Proofs.Tryz.zeroValue3
 t4:=Go.Proofs.Tryz.underlying4
 a4:=Go.Proofs.Tryz.isAgg4
 z4:=Go.Proofs.Tryz.sizeOf4
 v4:=Go.Proofs.Tryz.zeroValue4
 t24:=Go.Proofs.Tryz.underlying36
 a24:=Go.Proofs.Tryz.isAgg36
 z24:=Go.Proofs.Tryz.sizeOf36
 v24:=Go.Proofs.Tryz.zeroValue36
def Dn (x:Int×List (Int×Int×Int×Int×Int×Int×Int×List (Int×Int×Unit)×List (Int×Int×Unit)×Unit)×List (Int×Int×Int×Int×Int×Int×Int×List (Int×Int×Unit)×List (Int×Int×Unit)×Unit)×Unit):Option (List (Int×Int×Int×Int×Int×Int×Int×List (Int×Int×Unit)×List (Int×Int×Unit)×Unit)×Unit):=PB (α:=Int×Int×Int×Int×Int×Int×Int×List (Int×Int×Unit)×List (Int×Int×Unit)×Unit) 338311270084 x
def A7e:Cfg:={ti:=Au,ents:=[],ann:=[],lent:=2}
def VU:Ent:=⟨200,⟨(.own 0 (.slot Ty.i (.own 1 .nil))),(.tree false 0 (Ty.prod Ty.i (Ty.prod Ty.i (Ty.prod Ty.i (Ty.prod Ty.i (Ty.prod Ty.i (Ty.prod Ty.i (Ty.prod Ty.i (Ty.prod (Ty.slice (Ty.prod
 Ty.i (Ty.prod Ty.i Ty.unit))) (Ty.prod (Ty.slice A0) Ty.unit))))))))) (.tree false 0 (Ty.prod Ty.i (Ty.prod Ty.i (Ty.prod Ty.i (Ty.prod Ty.i (Ty.prod Ty.i (Ty.prod Ty.i (Ty.prod Ty.i (Ty.prod (Ty.slice (Ty.prod
 Ty.i (Ty.prod Ty.i Ty.unit))) (Ty.prod (Ty.slice A0) Ty.unit))))))))) .nil))⟩,⟨(.own 2 .nil),(.gone (.gone (.tree false 0 (Ty.prod Ty.i (Ty.prod Ty.i (Ty.prod Ty.i (Ty.prod Ty.i (Ty.prod Ty.i (Ty.prod Ty.i (Ty.prod Ty.i (Ty.prod (Ty.slice (Ty.prod
 Ty.i (Ty.prod Ty.i Ty.unit))) (Ty.prod (Ty.slice A0) Ty.unit))))))))) .nil)))⟩,Dn⟩
theorem ze:Ah Go.Proofs.Tryz.prog VU:=zZ (ρ:=VT) (t:=Ty.prod Ty.i (Ty.prod Ty.i (Ty.prod Ty.i (Ty.prod Ty.i (Ty.prod Ty.i (Ty.prod Ty.i (Ty.prod Ty.i (Ty.prod (Ty.slice (Ty.prod
 Ty.i (Ty.prod Ty.i Ty.unit))) (Ty.prod (Ty.slice A0) Ty.unit))))))))) vO A56 rfl (by decide) rfl
def A55:Cfg:={ti:=Au,ents:=[VU,VX,VW],ann:=[],lent:=5,hid:=[((5,0),[2,5])],pre:=[(some (0,2))]}
def Ft (x:Int×Int×Int×Int×Int×Int×Bool×Int×A7):Option (Int×Bool×Int×List (List A2)×List A1×List A1×List A3×Unit):=(AU (x.2.2.2.2.2.2.2.2.2.1,x.2.1,(),())).bind fun v=>bif v.2.1 then some (6,x.2.2.2.2.2.2.1,x.2.2.2.2.2.2.2.1,x.2.2.2.2.2.2.2.2.1,x.2.2.2.2.2.2.2.2.2.2.1,x.2.2.2.2.2.2.2.2.2.2.2.1,x.2.2.2.2.2.2.2.2.2.1,())else bif (x.2.2.2.2.2.2.2.2.2.1.length:Int)==6 then some (6,x.2.2.2.2.2.2.1,x.2.2.2.2.2.2.2.1,x.2.2.2.2.2.2.2.2.1,x.2.2.2.2.2.2.2.2.2.2.1,x.2.2.2.2.2.2.2.2.2.2.2.1,x.2.2.2.2.2.2.2.2.2.1,())else(Fo (x.2.1,x.2.2.1,x.2.2.2.2.2.2.2.1,())).bind fun a=>(Dn (v.1,x.2.2.2.2.2.2.2.2.2.1,[(a.1,a.2.1,a.2.2.1,a.2.2.2.1,a.2.2.2.2.1,a.2.2.2.2.2.1,a.2.2.2.2.2.2.1,[],[],())],())).bind fun v=>some (0,x.2.2.2.2.2.2.1,x.2.2.2.2.2.2.2.1,x.2.2.2.2.2.2.2.2.1,x.2.2.2.2.2.2.2.2.2.2.1,x.2.2.2.2.2.2.2.2.2.2.2.1,v.1,())
def VS:Ent:=⟨142,⟨(.ptr 0 0 0 (.agg (si 6 .nil) .nil)),(.cells 6 (.slot .bool (.own 1 (.own 2 (.own 3 (.own 4 (.slot .i .nil)))))) (.tree false 0 (.slice Ae) (.tree false 0 Ad (.lst false A0 (.lst false A0 .nil)))))⟩,⟨(.agg (.slot .i (.const (AV.nils) .nil)) .nil),(.cells 6 (.slot .bool (.own 1 (.own 5 (.own 3 (.own 4 (.slot .i .nil)))))) (.tree false 0 (.slice Ae) (.gone (.lst false A0 (.lst false A0 (.tree false 0 Ad .nil))))))⟩,Ft⟩
theorem zd:Ah Go.Proofs.Tryz.prog VS:=okA (C:=A55) (hcB (all_cons ze (all_cons zg (all_cons zf all_nil)))) Go.Proofs.Tryz.func142
def Dd (x:A1×Option A6×Unit):Option (Bool×Unit):=x.2.1.bind fun v=>some (x.1.1==v.2.1,())
def QC:Ent:=⟨145,⟨(.slot A0 (.slot (.iref YOp) .nil)),.nil⟩,⟨(.slot .bool .nil),.nil⟩,Dd⟩
theorem gL:Ah Go.Proofs.Tryz.prog QC:=okA (hcA 0 all_nil) Go.Proofs.Tryz.func145
abbrev gJ:=List A1×(Option A6×Unit)×Int×Unit
abbrev gG:=Int×Unit
abbrev gH:=Int×Unit ⊕ Unit
def AW (i:gJ)(v:gG)(R:Type)(K:gG ⊕ gH->Option R):Option R:=bif decide (v.1<i.2.2.1)then(lAt i.1 v.1).bind fun a=>(Dd ((a.1,a.2.1,()),i.2.1.1,())).bind fun b=>bif b.1 then K (.inr (.inl (v.1,())))else K (.inl (IntKind.i64.wrap (v.1+1),()))else K (.inr (.inr ()))
theorem GL:Bi AW:=fun i v R K=>Af (Ac fun _=>Ac fun _=>Af (Aa) (Aa)) (Aa)
def Tw:Tmpl:=⟨(.slot (.slice A0) (.slot (.fn 145 (.prod (.iref YOp) .unit)) (jk 5 (si 2 (jk 10 .nil))))),.nil⟩
def gF:Exs gJ gH:=xs .ret (fun i p=>⟨jn 4 (.n (p.1)::jn 14 ([])),[]⟩)<|x1 (.exit 0) fun i p=>⟨jn 19 ([]),[]⟩
def gI:=((.i (.i (.i (.v .n)))):Pk Tw.ty _ _)
def tq:Cfg:={ti:=Au,ents:=[QC],ann:=[(2,Ao Tw 0 (spP gI) AW gF.E)],lent:=0}
def BE (x:List A1×(Option A6×Unit)×Unit):Option (Int×Unit):=(AE (fun v=>AW (x.1,x.2.1,(x.1.length:Int),()) v _ some) (0,())).bind fun p=>Az p (fun p=>some (p.1,())) fun p=>some (-1,())
def VR:Ent:=⟨195,⟨(.slot (.slice A0) (.slot (.fn 145 (.prod (.iref YOp) .unit)) .nil)),.nil⟩,⟨(.slot .i .nil),.nil⟩,BE⟩
theorem gK:CfgOK Go.Proofs.Tryz.prog tq:=hcB (all_cons gL all_nil)
theorem tp:B7 Go.Proofs.Tryz.prog tq (lpc Go.Proofs.Tryz.f195 0):=lkA gK Tw gI AW gF [4] GL
theorem zb:Ah Go.Proofs.Tryz.prog VR:=okB gK Go.Proofs.Tryz.func195 tp
abbrev gD:=A6
abbrev gA:=Int×Int×List A1×Unit
abbrev gB:=Int×List A1×Unit
def Bd (i:gD)(v:gA)(R:Type)(K:gA ⊕ gB->Option R):Option R:=bif decide (v.2.1<(v.2.2.1.length:Int))then if 0<=v.2.1/\v.2.1<(v.2.2.1.length:Int)then v.2.2.1[0+v.2.1.toNat]?.bind fun a=>(Dd ((a.1,a.2.1,()),some (i.1,i.2.1,i.2.2.1,i.2.2.2.1,i.2.2.2.2.1,i.2.2.2.2.2.1,()),())).bind fun b=>bif !b.1 then if 0<=v.1/\v.1<(v.2.2.1.length:Int)then v.2.2.1[0+v.1.toNat]?.bind fun c=>K (.inl (IntKind.i64.wrap (v.1+1),IntKind.i64.wrap (v.2.1+1),v.2.2.1.set (0+v.1.toNat) (a.1,a.2.1,()),()))else none else K (.inl (v.1,IntKind.i64.wrap (v.2.1+1),v.2.2.1,()))else none else K (.inr (v.1,v.2.2.1,()))
theorem Ir:Bi Bd:=fun i v R K=>Af (Ay (Ac fun _=>Ac fun _=>Af (Ay (Ac fun _=>Aa)) (Aa))) (Aa)
def Tv:Tmpl:=⟨(.own 0 (.fn 145 (.ptr 1 0 0 .nil) (jk 3 (si 2 (jk 35 .nil))))),(.lst false A0 (.cells 6 (si 6 .nil) .nil))⟩
def gz:Exs gD gB:=x1 (.exit 0) fun i p=>⟨AV.own 0 none none::jn 4 (.n (p.1)::jn 36 ([])),[some (Cont.lst false A0 p.2.1),some (Cont.cells 6 [[AV.pv .i i.1,AV.pv .i i.2.1,AV.pv .i i.2.2.1,AV.pv .i i.2.2.2.1,AV.pv .i i.2.2.2.2.1,AV.pv .i i.2.2.2.2.2.1]])]⟩
def gC:=((.v (.v (.v (.i (.i (.i (.i (.i (.i .n))))))))):Pk Tv.ty _ _)
def tn:Cfg:={ti:=Au,ents:=[VR,QC],ann:=[(5,Ao Tv 2 (spP gC) Bd gz.E)],lent:=2,cut:=[none]}
def BP (x:List A1×A6):Option (Int×Int×Int×Int×Int×Int×List A1×Unit):=(BE (x.1,(some (x.2.1,x.2.2.1,x.2.2.2.1,x.2.2.2.2.1,x.2.2.2.2.2.1,x.2.2.2.2.2.2.1,()),()),())).bind fun v=>bif v.1==-1 then some (x.2.1,x.2.2.1,x.2.2.2.1,x.2.2.2.2.1,x.2.2.2.2.2.1,x.2.2.2.2.2.2.1,x.1,())else(AE (fun v=>Bd (x.2.1,x.2.2.1,x.2.2.2.1,x.2.2.2.2.1,x.2.2.2.2.2.1,x.2.2.2.2.2.2.1,()) v _ some) (v.1,IntKind.i64.wrap (v.1+1),x.1,())).bind fun p=>if 0<=p.1/\p.1<=(p.2.1.length:Int)/\(p.2.1.length:Int)<=(p.2.1.length:Int)then if(0:Int)<=0/\0<=p.1/\p.1<=(↑((List.take (0+p.1.toNat) p.2.1++List.replicate ((p.2.1.length:Int).toNat-p.1.toNat) (0,0,())++List.drop (0+p.1.toNat+((p.2.1.length:Int).toNat-p.1.toNat)) p.2.1).length):Int)then some (x.2.1,x.2.2.1,x.2.2.2.1,x.2.2.2.2.1,x.2.2.2.2.2.1,x.2.2.2.2.2.2.1,List.take (p.1.toNat-Int.toNat 0) (List.take (0+p.1.toNat) p.2.1++List.replicate ((p.2.1.length:Int).toNat-p.1.toNat) (0,0,())++List.drop (0+p.1.toNat+((p.2.1.length:Int).toNat-p.1.toNat)) p.2.1),())else none else none
def VQ:Ent:=⟨144,⟨(.own 0 (.fn 145 (.ptr 1 0 0 .nil) .nil)),(.lst false A0 (.cells 6 (si 6 .nil) .nil))⟩,⟨(.own 2 .nil),(.gone (.cells 6 (si 6 .nil) (.lst false A0 .nil)))⟩,BP⟩
theorem gE:CfgOK Go.Proofs.Tryz.prog tn:=hcB (all_cons zb (all_cons gL all_nil))
theorem tm:B7 Go.Proofs.Tryz.prog tn (lpc Go.Proofs.Tryz.f144 0):=lkA gE Tv gC Bd gz [0,5] Ir
theorem za:Ah Go.Proofs.Tryz.prog VQ:=okB gE Go.Proofs.Tryz.func144 tm
def Hj (x:A1×Option Int×Unit):Option (Bool×Unit):=x.2.1.bind fun v=>some (x.1.1==v,())
def VP:Ent:=⟨270,⟨(.slot A0 (.slot (.iref .i) .nil)),.nil⟩,⟨(.slot .bool .nil),.nil⟩,Hj⟩
theorem z8:Ah Go.Proofs.Tryz.prog VP:=okA (hcA 0 all_nil) Go.Proofs.Tryz.func270
abbrev gx:=List A1×(Option Int×Unit)×Int×Unit
abbrev gr:=Int×Unit
abbrev gt:=Int×Unit ⊕ Unit
def Bb (i:gx)(v:gr)(R:Type)(K:gr ⊕ gt->Option R):Option R:=bif decide (v.1<i.2.2.1)then(lAt i.1 v.1).bind fun a=>(Hj ((a.1,a.2.1,()),i.2.1.1,())).bind fun b=>bif b.1 then K (.inr (.inl (v.1,())))else K (.inl (IntKind.i64.wrap (v.1+1),()))else K (.inr (.inr ()))
theorem Hs:Bi Bb:=fun i v R K=>Af (Ac fun _=>Ac fun _=>Af (Aa) (Aa)) (Aa)
def Tu:Tmpl:=⟨(.slot (.slice A0) (.slot (.fn 270 (.prod (.iref .i) .unit)) (jk 5 (si 2 (jk 10 .nil))))),.nil⟩
def gq:Exs gx gt:=xs .ret (fun i p=>⟨jn 4 (.n (p.1)::jn 14 ([])),[]⟩)<|x1 (.exit 0) fun i p=>⟨jn 19 ([]),[]⟩
def gu:=((.i (.i (.i (.v .n)))):Pk Tu.ty _ _)
def tk:Cfg:={ti:=Au,ents:=[VP],ann:=[(2,Ao Tu 0 (spP gu) Bb gq.E)],lent:=0}
def BV (x:List A1×(Option Int×Unit)×Unit):Option (Int×Unit):=(AE (fun v=>Bb (x.1,x.2.1,(x.1.length:Int),()) v _ some) (0,())).bind fun p=>Az p (fun p=>some (p.1,())) fun p=>some (-1,())
def tj:Ent:=⟨269,⟨(.slot (.slice A0) (.slot (.fn 270 (.prod (.iref .i) .unit)) .nil)),.nil⟩,⟨(.slot .i .nil),.nil⟩,BV⟩
theorem gy:CfgOK Go.Proofs.Tryz.prog tk:=hcB (all_cons z8 all_nil)
theorem th:B7 Go.Proofs.Tryz.prog tk (lpc Go.Proofs.Tryz.f269 0):=lkA gy Tu gu Bb gq [4] Hs
theorem z7:Ah Go.Proofs.Tryz.prog tj:=okB gy Go.Proofs.Tryz.func269 th
def Io (x:A3×Int×Unit):Option (Int×Unit):=(BV (x.1.2.2.2.2.2.2.2.2.1,(some x.2.1,()),())).bind fun v=>some (v.1,())
def VO:Ent:=⟨240,⟨(.slot Ad (.slot .i .nil)),.nil⟩,⟨(.slot .i .nil),.nil⟩,Io⟩
theorem z6:Ah Go.Proofs.Tryz.prog VO:=okA (hcA 0 (all_cons z7 all_nil)) Go.Proofs.Tryz.func240
abbrev gn:=List A2×Int×Unit
abbrev gk:=Int×Unit
abbrev gl:=Int×Unit ⊕ Int×Unit
def CP (i:gn)(v:gk)(R:Type)(K:gk ⊕ gl->Option R):Option R:=bif decide (v.1>=0)then(lAt i.1 v.1).bind fun a=>bif decide (a.2.2.1>i.2.1)then K (.inl (IntKind.i64.wrap (v.1-1),()))else K (.inr (.inl (v.1,())))else K (.inr (.inr (v.1,())))
theorem MP:Bi CP:=fun i v R K=>Af (Ac fun _=>Af (Aa) (Aa)) (Aa)
def Tt:Tmpl:=⟨(.slot (.slice Ae) (.slot .i (jk 3 (.slot .i (jk 17 .nil))))),.nil⟩
def gj:Exs gn gl:=xs (.exit 0) (fun i p=>⟨jn 5 (.n (p.1)::jn 17 ([])),[]⟩)<|x1 (.exit 0) fun i p=>⟨jn 5 (.n (p.1)::jn 17 ([])),[]⟩
def gm:=((.i (.i (.v .n))):Pk Tt.ty _ _)
def tg:Cfg:={ti:=Au,ents:=[],ann:=[(2,Ao Tt 0 (spP gm) CP gj.E)],lent:=0}
def Il (x:List A2×Int×Unit):Option (Int×Unit):=(AE (fun v=>CP (x.1,x.2.1,()) v _ some) (IntKind.i64.wrap ((x.1.length:Int)-1),())).bind fun p=>Az p (fun p=>some (p.1,())) fun p=>some (p.1,())
def tf:Ent:=⟨271,⟨(.slot (.slice Ae) (.slot .i .nil)),.nil⟩,⟨(.slot .i .nil),.nil⟩,Il⟩
theorem gp:CfgOK Go.Proofs.Tryz.prog tg:=hcB all_nil
theorem te:B7 Go.Proofs.Tryz.prog tg (lpc Go.Proofs.Tryz.f271 0):=lkA gp Tt gm CP gj [5] MP
theorem z5:Ah Go.Proofs.Tryz.prog tf:=okB gp Go.Proofs.Tryz.func271 te
def Gt (x:A4×A3×Int×Unit):Option A6:=(lAt x.1.1 x.2.2.1).bind fun v=>bif x.2.1.2.1==2 then(Il (v,x.2.1.2.2.2.1,())).bind fun a=>bif decide (a.1<0)then some (0,0,0,0,0,3,())else bif x.2.1.2.1==4 then(lAt v a.1).bind fun b=>bif decide (b.2.2.1>x.2.1.2.2.2.1)then some (0,0,0,0,0,3,())else(lAt v a.1).bind fun v=>some (v.1,v.2.1,v.2.2.1,v.2.2.2.1,v.2.2.2.2.1,0,())else(lAt v a.1).bind fun v=>some (v.1,v.2.1,v.2.2.1,v.2.2.2.1,v.2.2.2.2.1,0,())else bif decide (IntKind.i64.wrap ((v.length:Int)-1)<0)then some (0,0,0,0,0,3,())else bif x.2.1.2.1==4 then(lAt v (IntKind.i64.wrap ((v.length:Int)-1))).bind fun a=>bif decide (a.2.2.1>x.2.1.2.2.2.1)then some (0,0,0,0,0,3,())else(lAt v (IntKind.i64.wrap ((v.length:Int)-1))).bind fun v=>some (v.1,v.2.1,v.2.2.1,v.2.2.2.1,v.2.2.2.2.1,0,())else(lAt v (IntKind.i64.wrap ((v.length:Int)-1))).bind fun v=>some (v.1,v.2.1,v.2.2.1,v.2.2.2.1,v.2.2.2.2.1,0,())
def VN:Ent:=⟨241,⟨(.slot Bo (.slot Ad (.slot .i .nil))),.nil⟩,⟨(.agg (si 5 .nil) (.slot .i .nil)),.nil⟩,Gt⟩
theorem yZ:Ah Go.Proofs.Tryz.prog VN:=okA (hcA 0 (all_cons z5 all_nil)) Go.Proofs.Tryz.func241
def CS (x:A1×Option Int×Unit):Option (Bool×Unit):=x.2.1.bind fun v=>some (x.1.2.1==v,())
def QB:Ent:=⟨282,⟨(.slot A0 (.slot (.iref .i) .nil)),.nil⟩,⟨(.slot .bool .nil),.nil⟩,CS⟩
theorem gi:Ah Go.Proofs.Tryz.prog QB:=okA (hcA 0 all_nil) Go.Proofs.Tryz.func282
abbrev gg:=List A1×(Option Int×Unit)×Int×Unit
abbrev gc:=Int×Unit
abbrev ge:=Int×Unit ⊕ Unit
def AQ (i:gg)(v:gc)(R:Type)(K:gc ⊕ ge->Option R):Option R:=bif decide (v.1<i.2.2.1)then(lAt i.1 v.1).bind fun a=>(CS ((a.1,a.2.1,()),i.2.1.1,())).bind fun b=>bif b.1 then K (.inr (.inl (v.1,())))else K (.inl (IntKind.i64.wrap (v.1+1),()))else K (.inr (.inr ()))
theorem GD:Bi AQ:=fun i v R K=>Af (Ac fun _=>Ac fun _=>Af (Aa) (Aa)) (Aa)
def Ts:Tmpl:=⟨(.slot (.slice A0) (.slot (.fn 282 (.prod (.iref .i) .unit)) (jk 5 (si 2 (jk 10 .nil))))),.nil⟩
def gb:Exs gg ge:=xs .ret (fun i p=>⟨jn 4 (.n (p.1)::jn 14 ([])),[]⟩)<|x1 (.exit 0) fun i p=>⟨jn 19 ([]),[]⟩
def gf:=((.i (.i (.i (.v .n)))):Pk Ts.ty _ _)
def td:Cfg:={ti:=Au,ents:=[QB],ann:=[(2,Ao Ts 0 (spP gf) AQ gb.E)],lent:=0}
def BB (x:List A1×(Option Int×Unit)×Unit):Option (Int×Unit):=(AE (fun v=>AQ (x.1,x.2.1,(x.1.length:Int),()) v _ some) (0,())).bind fun p=>Az p (fun p=>some (p.1,())) fun p=>some (-1,())
def VL:Ent:=⟨194,⟨(.slot (.slice A0) (.slot (.fn 282 (.prod (.iref .i) .unit)) .nil)),.nil⟩,⟨(.slot .i .nil),.nil⟩,BB⟩
theorem gh:CfgOK Go.Proofs.Tryz.prog td:=hcB (all_cons gi all_nil)
theorem tc:B7 Go.Proofs.Tryz.prog td (lpc Go.Proofs.Tryz.f194 0):=lkA gh Ts gf AQ gb [4] GD
theorem yY:Ah Go.Proofs.Tryz.prog VL:=okB gh Go.Proofs.Tryz.func194 tc
abbrev g9:=Int×Unit
abbrev g6:=Int×Int×List A1×Unit
abbrev g7:=Int×List A1×Unit
def Be (i:g9)(v:g6)(R:Type)(K:g6 ⊕ g7->Option R):Option R:=bif decide (v.2.1<(v.2.2.1.length:Int))then if 0<=v.2.1/\v.2.1<(v.2.2.1.length:Int)then v.2.2.1[0+v.2.1.toNat]?.bind fun a=>(CS ((a.1,a.2.1,()),some i.1,())).bind fun b=>bif !b.1 then if 0<=v.1/\v.1<(v.2.2.1.length:Int)then v.2.2.1[0+v.1.toNat]?.bind fun c=>K (.inl (IntKind.i64.wrap (v.1+1),IntKind.i64.wrap (v.2.1+1),v.2.2.1.set (0+v.1.toNat) (a.1,a.2.1,()),()))else none else K (.inl (v.1,IntKind.i64.wrap (v.2.1+1),v.2.2.1,()))else none else K (.inr (v.1,v.2.2.1,()))
theorem It:Bi Be:=fun i v R K=>Af (Ay (Ac fun _=>Ac fun _=>Af (Ay (Ac fun _=>Aa)) (Aa))) (Aa)
def Tq:Tmpl:=⟨(.own 0 (.fn 282 (.ptr 1 0 0 .nil) (jk 3 (si 2 (jk 35 .nil))))),(.lst false A0 (.cells 1 (.slot .i .nil) .nil))⟩
def fZ:Exs g9 g7:=x1 (.exit 0) fun i p=>⟨AV.own 0 none none::jn 4 (.n (p.1)::jn 36 ([])),[some (Cont.lst false A0 p.2.1),some (Cont.cells 1 [[AV.pv .i i.1]])]⟩
def g8:=((.v (.v (.v (.i .n)))):Pk Tq.ty _ _)
def ta:Cfg:={ti:=Au,ents:=[VL,QB],ann:=[(5,Ao Tq 2 (spP g8) Be fZ.E)],lent:=2,cut:=[none]}
def Cw (x:List A1×Int×Unit):Option (Int×List A1×Unit):=(BB (x.1,(some x.2.1,()),())).bind fun v=>bif v.1==-1 then some (x.2.1,x.1,())else(AE (fun v=>Be (x.2.1,()) v _ some) (v.1,IntKind.i64.wrap (v.1+1),x.1,())).bind fun p=>if 0<=p.1/\p.1<=(p.2.1.length:Int)/\(p.2.1.length:Int)<=(p.2.1.length:Int)then if(0:Int)<=0/\0<=p.1/\p.1<=(↑((List.take (0+p.1.toNat) p.2.1++List.replicate ((p.2.1.length:Int).toNat-p.1.toNat) (0,0,())++List.drop (0+p.1.toNat+((p.2.1.length:Int).toNat-p.1.toNat)) p.2.1).length):Int)then some (x.2.1,List.take (p.1.toNat-Int.toNat 0) (List.take (0+p.1.toNat) p.2.1++List.replicate ((p.2.1.length:Int).toNat-p.1.toNat) (0,0,())++List.drop (0+p.1.toNat+((p.2.1.length:Int).toNat-p.1.toNat)) p.2.1),())else none else none
def t9:Ent:=⟨281,⟨(.own 0 (.fn 282 (.ptr 1 0 0 .nil) .nil)),(.lst false A0 (.cells 1 (.slot .i .nil) .nil))⟩,⟨(.own 2 .nil),(.gone (.cells 1 (.slot .i .nil) (.lst false A0 .nil)))⟩,Cw⟩
theorem ga:CfgOK Go.Proofs.Tryz.prog ta:=hcB (all_cons yY (all_cons gi all_nil))
theorem t8:B7 Go.Proofs.Tryz.prog ta (lpc Go.Proofs.Tryz.f281 0):=lkA ga Tq g8 Be fZ [0,5] It
theorem yX:Ah Go.Proofs.Tryz.prog t9:=okB ga Go.Proofs.Tryz.func281 t8
def Gu (x:List A1×Int×Unit):Option (List A1×Unit):=(Ci (x.1,())).bind fun v=>(Cw (v.1,x.2.1,())).bind fun v=>some (v.2.1,())
def VK:Ent:=⟨260,⟨(.slot (.slice A0) (.slot .i .nil)),.nil⟩,⟨(.own 0 .nil),(.lst false A0 .nil)⟩,Gu⟩
theorem yW:Ah Go.Proofs.Tryz.prog VK:=okA (hcA 0 (all_cons yX (all_cons Xt all_nil))) Go.Proofs.Tryz.func260
def DF (x:A1×Option Int×Unit):Option (Bool×Unit):=x.2.1.bind fun v=>bif x.1.1==v then some (true,())else x.2.1.bind fun v=>some (x.1.2.1==v,())
def QA:Ent:=⟨283,⟨(.slot A0 (.slot (.iref .i) .nil)),.nil⟩,⟨(.slot .bool .nil),.nil⟩,DF⟩
theorem fX:Ah Go.Proofs.Tryz.prog QA:=okA (hcA 0 all_nil) Go.Proofs.Tryz.func283
abbrev fV:=List A1×(Option Int×Unit)×Int×Unit
abbrev fS:=Int×Unit
abbrev fT:=Int×Unit ⊕ Unit
def B5 (i:fV)(v:fS)(R:Type)(K:fS ⊕ fT->Option R):Option R:=bif decide (v.1<i.2.2.1)then(lAt i.1 v.1).bind fun a=>(DF ((a.1,a.2.1,()),i.2.1.1,())).bind fun b=>bif b.1 then K (.inr (.inl (v.1,())))else K (.inl (IntKind.i64.wrap (v.1+1),()))else K (.inr (.inr ()))
theorem GR:Bi B5:=fun i v R K=>Af (Ac fun _=>Ac fun _=>Af (Aa) (Aa)) (Aa)
def Tp:Tmpl:=⟨(.slot (.slice A0) (.slot (.fn 283 (.prod (.iref .i) .unit)) (jk 5 (si 2 (jk 10 .nil))))),.nil⟩
def fR:Exs fV fT:=xs .ret (fun i p=>⟨jn 4 (.n (p.1)::jn 14 ([])),[]⟩)<|x1 (.exit 0) fun i p=>⟨jn 19 ([]),[]⟩
def fU:=((.i (.i (.i (.v .n)))):Pk Tp.ty _ _)
def t7:Cfg:={ti:=Au,ents:=[QA],ann:=[(2,Ao Tp 0 (spP fU) B5 fR.E)],lent:=0}
def BM (x:List A1×(Option Int×Unit)×Unit):Option (Int×Unit):=(AE (fun v=>B5 (x.1,x.2.1,(x.1.length:Int),()) v _ some) (0,())).bind fun p=>Az p (fun p=>some (p.1,())) fun p=>some (-1,())
def VJ:Ent:=⟨195,⟨(.slot (.slice A0) (.slot (.fn 283 (.prod (.iref .i) .unit)) .nil)),.nil⟩,⟨(.slot .i .nil),.nil⟩,BM⟩
theorem fW:CfgOK Go.Proofs.Tryz.prog t7:=hcB (all_cons fX all_nil)
theorem t6:B7 Go.Proofs.Tryz.prog t7 (lpc Go.Proofs.Tryz.f195 0):=lkA fW Tp fU B5 fR [4] GR
theorem yV:Ah Go.Proofs.Tryz.prog VJ:=okB fW Go.Proofs.Tryz.func195 t6
abbrev fP:=Int×Unit
abbrev fM:=Int×Int×List A1×Unit
abbrev fN:=Int×List A1×Unit
def AY (i:fP)(v:fM)(R:Type)(K:fM ⊕ fN->Option R):Option R:=bif decide (v.2.1<(v.2.2.1.length:Int))then if 0<=v.2.1/\v.2.1<(v.2.2.1.length:Int)then v.2.2.1[0+v.2.1.toNat]?.bind fun a=>(DF ((a.1,a.2.1,()),some i.1,())).bind fun b=>bif !b.1 then if 0<=v.1/\v.1<(v.2.2.1.length:Int)then v.2.2.1[0+v.1.toNat]?.bind fun c=>K (.inl (IntKind.i64.wrap (v.1+1),IntKind.i64.wrap (v.2.1+1),v.2.2.1.set (0+v.1.toNat) (a.1,a.2.1,()),()))else none else K (.inl (v.1,IntKind.i64.wrap (v.2.1+1),v.2.2.1,()))else none else K (.inr (v.1,v.2.2.1,()))
theorem HY:Bi AY:=fun i v R K=>Af (Ay (Ac fun _=>Ac fun _=>Af (Ay (Ac fun _=>Aa)) (Aa))) (Aa)
def To:Tmpl:=⟨(.own 0 (.fn 283 (.ptr 1 0 0 .nil) (jk 3 (si 2 (jk 35 .nil))))),(.lst false A0 (.cells 1 (.slot .i .nil) .nil))⟩
def fL:Exs fP fN:=x1 (.exit 0) fun i p=>⟨AV.own 0 none none::jn 4 (.n (p.1)::jn 36 ([])),[some (Cont.lst false A0 p.2.1),some (Cont.cells 1 [[AV.pv .i i.1]])]⟩
def fO:=((.v (.v (.v (.i .n)))):Pk To.ty _ _)
def t5:Cfg:={ti:=Au,ents:=[VJ,QA],ann:=[(5,Ao To 2 (spP fO) AY fL.E)],lent:=2,cut:=[none]}
def Ch (x:List A1×Int×Unit):Option (Int×List A1×Unit):=(BM (x.1,(some x.2.1,()),())).bind fun v=>bif v.1==-1 then some (x.2.1,x.1,())else(AE (fun v=>AY (x.2.1,()) v _ some) (v.1,IntKind.i64.wrap (v.1+1),x.1,())).bind fun p=>if 0<=p.1/\p.1<=(p.2.1.length:Int)/\(p.2.1.length:Int)<=(p.2.1.length:Int)then if(0:Int)<=0/\0<=p.1/\p.1<=(↑((List.take (0+p.1.toNat) p.2.1++List.replicate ((p.2.1.length:Int).toNat-p.1.toNat) (0,0,())++List.drop (0+p.1.toNat+((p.2.1.length:Int).toNat-p.1.toNat)) p.2.1).length):Int)then some (x.2.1,List.take (p.1.toNat-Int.toNat 0) (List.take (0+p.1.toNat) p.2.1++List.replicate ((p.2.1.length:Int).toNat-p.1.toNat) (0,0,())++List.drop (0+p.1.toNat+((p.2.1.length:Int).toNat-p.1.toNat)) p.2.1),())else none else none
def sZ:Ent:=⟨144,⟨(.own 0 (.fn 283 (.ptr 1 0 0 .nil) .nil)),(.lst false A0 (.cells 1 (.slot .i .nil) .nil))⟩,⟨(.own 2 .nil),(.gone (.cells 1 (.slot .i .nil) (.lst false A0 .nil)))⟩,Ch⟩
theorem fQ:CfgOK Go.Proofs.Tryz.prog t5:=hcB (all_cons yV (all_cons fX all_nil))
theorem sY:B7 Go.Proofs.Tryz.prog t5 (lpc Go.Proofs.Tryz.f144 0):=lkA fQ To fO AY fL [0,5] HY
theorem yU:Ah Go.Proofs.Tryz.prog sZ:=okB fQ Go.Proofs.Tryz.func144 sY
def HS (x:List A1×Int×Unit):Option (List A1×Unit):=(BI (x.1,())).bind fun v=>(Ch (v.1,x.2.1,())).bind fun v=>some (v.2.1,())
def VI:Ent:=⟨261,⟨(.slot (.slice A0) (.slot .i .nil)),.nil⟩,⟨(.own 0 .nil),(.lst false A0 .nil)⟩,HS⟩
theorem yT:Ah Go.Proofs.Tryz.prog VI:=okA (hcA 0 (all_cons yU (all_cons Sj all_nil))) Go.Proofs.Tryz.func261
def A52:Cfg:={ti:=Au,ents:=[VK,VI],ann:=[],lent:=5,hid:=[((0,1),[0])]}
def DE (x:Nat×Bool×Int×A7):Option (Bool×Int×List (List A2)×List A3×List A1×List A1×A9):=x.2.2.2.2.1[x.1]?.bind fun v=>(Gu (x.2.2.2.2.2.1,v.1,())).bind fun v=>x.2.2.2.2.1[x.1]?.bind fun a=>(HS (x.2.2.2.2.2.2.1,a.1,())).bind fun b=>some (x.2.1,x.2.2.1,x.2.2.2.1,x.2.2.2.2.1,x.2.2.2.2.2.1,x.2.2.2.2.2.2.1,v.1,b.1,())
def VH:Ent:=⟨215,⟨(.ptr 0 0 0 (.ptrI 2 0 .nil)),(.cells 6 (.slot .bool (.own 1 (.own 2 (.own 3 (.own 4 (.slot .i .nil)))))) (.tree false 0 (.slice Ae) (.tree false 0 Ad (.lst false A0 (.lst false A0 .nil)))))⟩,⟨.nil,(.cells 6 (.slot .bool (.own 1 (.own 2 (.own 5 (.own 6 (.slot .i .nil)))))) (.tree false 0 (.slice Ae) (.tree false 0 Ad (.lst false A0 (.lst false A0 (.lst false A0 (.lst false A0 .nil)))))))⟩,DE⟩
theorem fK:Ah Go.Proofs.Tryz.prog VH:=okA (C:=A52) (hcB (all_cons yW (all_cons yT all_nil))) Go.Proofs.Tryz.func215
def B8 (x:Nat×Int×Bool×Int×A7):Option (Int×Bool×Int×List (List A2)×List A3×List A1×List A1×A9):=x.2.2.2.2.2.1[x.1]?.bind fun v=>(DE (x.1,x.2.2.1,x.2.2.2.1,x.2.2.2.2.1,x.2.2.2.2.2.1.set x.1 (v.1,v.2.1,3,v.2.2.2.1,v.2.2.2.2.1,v.2.2.2.2.2.1,v.2.2.2.2.2.2.1,v.2.2.2.2.2.2.2.1,v.2.2.2.2.2.2.2.2.1,()),x.2.2.2.2.2.2.1,x.2.2.2.2.2.2.2.1,())).bind fun v=>some (x.2.1,v.1,v.2.1,v.2.2.1,v.2.2.2.1,v.2.2.2.2.1,v.2.2.2.2.2.1,v.2.2.2.2.2.2.1,v.2.2.2.2.2.2.2.1,())
def N0:Ent:=⟨149,⟨(.ptr 0 0 0 (.ptrI 2 0 (.slot .i .nil))),(.cells 6 (.slot .bool (.own 1 (.own 2 (.own 3 (.own 4 (.slot .i .nil)))))) (.tree false 0 (.slice Ae) (.tree false 0 Ad (.lst false A0 (.lst false A0 .nil)))))⟩,⟨(.agg (.slot .i (.const (AV.nils) .nil)) .nil),(.cells 6 (.slot .bool (.own 1 (.own 2 (.own 5 (.own 6 (.slot .i .nil)))))) (.tree false 0 (.slice Ae) (.tree false 1 Ad (.lst false A0 (.lst false A0 (.lst false A0 (.lst false A0 .nil)))))))⟩,B8⟩
theorem Qj:Ah Go.Proofs.Tryz.prog N0:=okA (hcA 5 (all_cons fK all_nil)) Go.Proofs.Tryz.func149
abbrev fI:=List A1×Unit×B3
abbrev fF:=Int×Int×Unit
abbrev fG:=Int×Unit
def AB (i:fI)(v:fF)(R:Type)(K:fF ⊕ fG->Option R):Option R:=bif decide (v.1<v.2.1)then(lAt i.1 (IntKind.i64.wrap (Int.fdiv (IntKind.u64.wrap (IntKind.i64.wrap (v.1+v.2.1))) (2 ^ min (Int.toNat 1) (IntKind.bits IntKind.u64))))).bind fun a=>(BW ((a.1,a.2.1,()),(i.2.2.2.1,i.2.2.2.2.1,()),())).bind fun b=>bif decide (b.1<0)then K (.inl (IntKind.i64.wrap (IntKind.i64.wrap (Int.fdiv (IntKind.u64.wrap (IntKind.i64.wrap (v.1+v.2.1))) (2 ^ min (Int.toNat 1) (IntKind.bits IntKind.u64)))+1),v.2.1,()))else K (.inl (v.1,IntKind.i64.wrap (Int.fdiv (IntKind.u64.wrap (IntKind.i64.wrap (v.1+v.2.1))) (2 ^ min (Int.toNat 1) (IntKind.bits IntKind.u64))),()))else K (.inr (v.1,()))
theorem Fu:Bi AB:=fun i v R K=>Af (Ac fun _=>Ac fun _=>Af (Aa) (Aa)) (Aa)
def Tn:Tmpl:=⟨(.slot (.slice A0) (.junk (.slot (.fn 265 .unit) (.junk (.ptr 0 0 0 (jk 3 (si 3 (jk 38 .nil)))))))),(.cells 2 (si 2 .nil) .nil)⟩
def fE:Exs fI fG:=x1 (.exit 0) fun i p=>⟨AV.pv (.slice A0) i.1::jn 1 (AV.pv (.fn 265 .unit) i.2.1::jn 1 (AV.ptr 0 none 0 0::jn 3 (.n (i.2.2.1)::.n (p.1)::jn 39 ([])))),[some (Cont.cells 2 [[AV.pv .i i.2.2.2.1,AV.pv .i i.2.2.2.2.1]])]⟩
def fH:=((.i (.i (.i (.v (.v (.i (.i .n))))))):Pk Tn.ty _ _)
def sX:Cfg:={ti:=Au,ents:=[QD],ann:=[(3,Ao Tn 0 (spP fH) AB fE.E)],lent:=0}
def B6 (x:List A1×A1×Unit×Unit):Option (Int×Bool×Unit):=(AE (fun v=>AB (x.1,x.2.2.1,(x.1.length:Int),x.2.1.1,x.2.1.2.1,()) v _ some) (0,(x.1.length:Int),())).bind fun p=>bif decide (p.1<(x.1.length:Int))then(lAt x.1 p.1).bind fun v=>(BW ((v.1,v.2.1,()),(x.2.1.1,x.2.1.2.1,()),())).bind fun v=>some (p.1,v.1==0,())else some (p.1,false,())
def VG:Ent:=⟨272,⟨(.slot (.slice A0) (.slot A0 (.slot (.fn 265 .unit) .nil))),.nil⟩,⟨(.slot .i (.slot .bool .nil)),.nil⟩,B6⟩
theorem fJ:CfgOK Go.Proofs.Tryz.prog sX:=hcB (all_cons iM all_nil)
theorem sW:B7 Go.Proofs.Tryz.prog sX (lpc Go.Proofs.Tryz.f272 0):=lkA fJ Tn fH AB fE [0,2,4,8,9] Fu
theorem yS:Ah Go.Proofs.Tryz.prog VG:=okB fJ Go.Proofs.Tryz.func272 sW
def VE:Go.Shelf.Ren:=⟨fun|22=>273|29=>288|30=>289|n=>n,fun|24=>90|9=>204|n=>n,fun|n=>n⟩
theorem A51:InsL Go.Proofs.Tryz.prog VE true 2 where
 mixed:=by kernel_rfl
 f22:=⟨ "slices.Insert[[]loop.example/g01924/impl.ReadMark,loop.example/g01924/impl.ReadMark]",by decide,Go.Proofs.Tryz.func273.trans (congrArg some (by kernel_rfl))⟩
 f29:=⟨_,Go.Proofs.Tryz.func288,by kernel_rfl,by kernel_rfl,by kernel_rfl,by kernel_rfl⟩
 a9:=Go.Proofs.Tryz.isAgg204
 z9:=Go.Proofs.Tryz.sizeOf204
 t0:=Go.Proofs.Tryz.underlying0
 a0:=Go.Proofs.Tryz.isAgg0
 z0:=Go.Proofs.Tryz.sizeOf0
 v0:=Go.Proofs.Tryz.zeroValue0
 t3:=Go.Proofs.Tryz.underlying3
 a3:=Go.Proofs.Tryz.isAgg3
 z3:=Go.Proofs.Tryz.sizeOf3
 v3:=Go.Proofs.Tryz.zeroValue3
 t4:=Go.Proofs.Tryz.underlying4
 a4:=Go.Proofs.Tryz.isAgg4
 z4:=Go.Proofs.Tryz.sizeOf4
 v4:=Go.Proofs.Tryz.zeroValue4
 t24:=Go.Proofs.Tryz.underlying90
 a24:=Go.Proofs.Tryz.isAgg90
 z24:=Go.Proofs.Tryz.sizeOf90
 v24:=Go.Proofs.Tryz.zeroValue90
def CN (x:Int×List (Int×Int×Unit)×List (Int×Int×Unit)×Unit):Option (List (Int×Int×Unit)×Unit):=PB (α:=Int×Int×Unit) 2199023255552 x
def A7d:Cfg:={ti:=Au,ents:=[],ann:=[],lent:=2}
def VF:Ent:=⟨273,⟨(.own 0 (.slot Ty.i (.own 1 .nil))),(.lst false A0 (.lst false A0 .nil))⟩,⟨(.own 2 .nil),(.gone (.gone (.lst false A0 .nil)))⟩,CN⟩
theorem yR:Ah Go.Proofs.Tryz.prog VF:=Ql (ρ:=VE) (t:=A0) jD A51 rfl (by decide) rfl
def A50:Cfg:={ti:=Au,ents:=[VF,VG,Zq],ann:=[],lent:=1,hid:=[((7,1),[0]),((7,13),[0]),((7,14),[0]),((7,15),[0])]}
def Dr (x:Nat×Int×Int×Int×Int×Int×Int×List A3×Unit):Option (Bool×List A3×Unit):=x.2.2.2.2.2.2.2.1[x.1]?.bind fun v=>x.2.2.2.2.2.2.2.1[x.1]?.bind fun v=>bif (v.2.2.2.2.2.2.2.1.length:Int)==60 then some (false,x.2.2.2.2.2.2.2.1,())else x.2.2.2.2.2.2.2.1[x.1]?.bind fun v=>x.2.2.2.2.2.2.2.1[x.1]?.bind fun v=>(B6 (v.2.2.2.2.2.2.2.1,(x.2.1,x.2.2.2.2.1,()),(),())).bind fun v=>bif !v.2.1 then x.2.2.2.2.2.2.2.1[x.1]?.bind fun a=>x.2.2.2.2.2.2.2.1[x.1]?.bind fun b=>(Ce (b.2.2.2.2.2.2.2.1,())).bind fun c=>(CN (v.1,c.1,[(x.2.1,x.2.2.2.2.1,())],())).bind fun v=>x.2.2.2.2.2.2.2.1[x.1]?.bind fun d=>(x.2.2.2.2.2.2.2.1.set x.1 (d.1,d.2.1,d.2.2.1,d.2.2.2.1,d.2.2.2.2.1,d.2.2.2.2.2.1,d.2.2.2.2.2.2.1,v.1,d.2.2.2.2.2.2.2.2.1,()))[x.1]?.bind fun e=>(x.2.2.2.2.2.2.2.1.set x.1 (d.1,d.2.1,d.2.2.1,d.2.2.2.1,d.2.2.2.2.1,d.2.2.2.2.2.1,d.2.2.2.2.2.2.1,v.1,d.2.2.2.2.2.2.2.2.1,()))[x.1]?.bind fun f=>(x.2.2.2.2.2.2.2.1.set x.1 (d.1,d.2.1,d.2.2.1,d.2.2.2.1,d.2.2.2.2.1,d.2.2.2.2.2.1,d.2.2.2.2.2.2.1,v.1,d.2.2.2.2.2.2.2.2.1,()))[x.1]?.bind fun g=>((x.2.2.2.2.2.2.2.1.set x.1 (d.1,d.2.1,d.2.2.1,d.2.2.2.1,d.2.2.2.2.1,d.2.2.2.2.2.1,d.2.2.2.2.2.2.1,v.1,d.2.2.2.2.2.2.2.2.1,())).set x.1 (g.1,g.2.1,g.2.2.1,g.2.2.2.1,mx e.2.2.2.2.1 x.2.2.2.2.1,g.2.2.2.2.2.1,g.2.2.2.2.2.2.1,g.2.2.2.2.2.2.2.1,g.2.2.2.2.2.2.2.2.1,()))[x.1]?.bind fun h=>some (true,((x.2.2.2.2.2.2.2.1.set x.1 (d.1,d.2.1,d.2.2.1,d.2.2.2.1,d.2.2.2.2.1,d.2.2.2.2.2.1,d.2.2.2.2.2.2.1,v.1,d.2.2.2.2.2.2.2.2.1,())).set x.1 (g.1,g.2.1,g.2.2.1,g.2.2.2.1,mx e.2.2.2.2.1 x.2.2.2.2.1,g.2.2.2.2.2.1,g.2.2.2.2.2.2.1,g.2.2.2.2.2.2.2.1,g.2.2.2.2.2.2.2.2.1,())).set x.1 (h.1,h.2.1,h.2.2.1,h.2.2.2.1,h.2.2.2.2.1,mn f.2.2.2.2.2.1 x.2.2.2.2.2.2.1,h.2.2.2.2.2.2.1,h.2.2.2.2.2.2.2.1,h.2.2.2.2.2.2.2.2.1,()),())else x.2.2.2.2.2.2.2.1[x.1]?.bind fun v=>x.2.2.2.2.2.2.2.1[x.1]?.bind fun a=>x.2.2.2.2.2.2.2.1[x.1]?.bind fun b=>(x.2.2.2.2.2.2.2.1.set x.1 (b.1,b.2.1,b.2.2.1,b.2.2.2.1,mx v.2.2.2.2.1 x.2.2.2.2.1,b.2.2.2.2.2.1,b.2.2.2.2.2.2.1,b.2.2.2.2.2.2.2.1,b.2.2.2.2.2.2.2.2.1,()))[x.1]?.bind fun c=>some (true,(x.2.2.2.2.2.2.2.1.set x.1 (b.1,b.2.1,b.2.2.1,b.2.2.2.1,mx v.2.2.2.2.1 x.2.2.2.2.1,b.2.2.2.2.2.1,b.2.2.2.2.2.2.1,b.2.2.2.2.2.2.2.1,b.2.2.2.2.2.2.2.2.1,())).set x.1 (c.1,c.2.1,c.2.2.1,c.2.2.2.1,c.2.2.2.2.1,mn a.2.2.2.2.2.1 x.2.2.2.2.2.2.1,c.2.2.2.2.2.2.1,c.2.2.2.2.2.2.2.1,c.2.2.2.2.2.2.2.2.1,()),())
def VD:Ent:=⟨242,⟨(.ptrI 0 0 (.slot .i (.agg (si 5 .nil) .nil))),(.tree false 0 Ad .nil)⟩,⟨(.slot .bool .nil),(.tree false 1 Ad .nil)⟩,Dr⟩
theorem yQ:Ah Go.Proofs.Tryz.prog VD:=okA (C:=A50) (hcB (all_cons yR (all_cons yS (all_cons lS all_nil)))) Go.Proofs.Tryz.func242
def A4y:Cfg:={ti:=Au,ents:=[N0,VD,VO,VN],ann:=[],lent:=5,pre:=[(some (0,3)),(some (0,4))]}
def Ga (x:Nat×Int×Bool×Int×A7):Option (Int×Int×Bool×Int×A7):=x.2.2.2.2.2.1[x.1]?.bind fun v=>x.2.2.2.2.2.1[x.1]?.bind fun a=>x.2.2.2.2.2.1[x.1]?.bind fun b=>(Io ((v.1,v.2.1,v.2.2.1,v.2.2.2.1,v.2.2.2.2.1,v.2.2.2.2.2.1,v.2.2.2.2.2.2.1,a.2.2.2.2.2.2.2.1,b.2.2.2.2.2.2.2.2.1,()),x.2.1,())).bind fun v=>bif decide (v.1>=0)then x.2.2.2.2.2.1[x.1]?.bind fun c=>x.2.2.2.2.2.1[x.1]?.bind fun d=>if 0<=v.1/\v.1<(d.2.2.2.2.2.2.2.2.1.length:Int)then x.2.2.2.2.2.1[x.1]?.bind fun e=>e.2.2.2.2.2.2.2.2.1[0+v.1.toNat]?.bind fun v=>some (v.2.1,0,x.2.2.1,x.2.2.2.1,x.2.2.2.2.1,x.2.2.2.2.2.1,x.2.2.2.2.2.2.1,x.2.2.2.2.2.2.2.1,())else none else x.2.2.2.2.2.1[x.1]?.bind fun v=>x.2.2.2.2.2.1[x.1]?.bind fun c=>x.2.2.2.2.2.1[x.1]?.bind fun d=>(Gt ((x.2.2.2.2.1,()),(v.1,v.2.1,v.2.2.1,v.2.2.2.1,v.2.2.2.2.1,v.2.2.2.2.2.1,v.2.2.2.2.2.2.1,c.2.2.2.2.2.2.2.1,d.2.2.2.2.2.2.2.2.1,()),x.2.1,())).bind fun v=>bif v.2.2.2.2.2.1 != 0 then(B8 (x.1,v.2.2.2.2.2.1,x.2.2.1,x.2.2.2.1,x.2.2.2.2.1,x.2.2.2.2.2.1,x.2.2.2.2.2.2.1,x.2.2.2.2.2.2.2.1,())).bind fun e=>some (0,v.2.2.2.2.2.1,e.2.1,e.2.2.1,e.2.2.2.1,e.2.2.2.2.1,e.2.2.2.2.2.2.2.1,e.2.2.2.2.2.2.2.2.1,())else(Dr (x.1,x.2.1,v.1,v.2.1,v.2.2.1,v.2.2.2.1,v.2.2.2.2.1,x.2.2.2.2.2.1,())).bind fun e=>bif !e.1 then some (0,6,x.2.2.1,x.2.2.2.1,x.2.2.2.2.1,e.2.1,x.2.2.2.2.2.2.1,x.2.2.2.2.2.2.2.1,())else some (v.2.1,0,x.2.2.1,x.2.2.2.1,x.2.2.2.2.1,e.2.1,x.2.2.2.2.2.2.1,x.2.2.2.2.2.2.2.1,())
def VC:Ent:=⟨203,⟨(.ptr 0 0 0 (.ptrI 2 0 (.slot .i .nil))),(.cells 6 (.slot .bool (.own 1 (.own 2 (.own 3 (.own 4 (.slot .i .nil)))))) (.tree false 0 (.slice Ae) (.tree false 0 Ad (.lst false A0 (.lst false A0 .nil)))))⟩,⟨(si 2 .nil),(.cells 6 (.slot .bool (.own 1 (.own 2 (.own 5 (.own 6 (.slot .i .nil)))))) (.tree false 0 (.slice Ae) (.tree false 1 Ad (.gone (.gone (.lst false A0 (.lst false A0 .nil)))))))⟩,Ga⟩
theorem yN:Ah Go.Proofs.Tryz.prog VC:=okA (C:=A4y) (hcB (all_cons Qj (all_cons yQ (all_cons z6 (all_cons yZ all_nil))))) Go.Proofs.Tryz.func203
abbrev fC:=Nat×B3
abbrev fy:=Int×Bool×Int×List (List A2)×List A3×List A1×List A1×List Int×Unit
abbrev fA:=Bool×Int×List (List A2)×List A3×Int×List Int×A9 ⊕ Bool×Int×List (List A2)×List A3×List A1×List A1×List Int×Unit
def Co (i:fC)(v:fy)(R:Type)(K:fy ⊕ fA->Option R):Option R:=bif decide (v.1<=i.2.1)then(Ga (i.1,v.1,v.2.1,v.2.2.1,v.2.2.2.1,v.2.2.2.2.1,v.2.2.2.2.2.1,v.2.2.2.2.2.2.1,())).bind fun a=>bif a.2.1 != 0 then K (.inr (.inl (a.2.2.1,a.2.2.2.1,a.2.2.2.2.1,a.2.2.2.2.2.1,a.2.1,v.2.2.2.2.2.2.2.1,a.2.2.2.2.2.2.1,a.2.2.2.2.2.2.2.1,())))else if(v.2.2.2.2.2.2.2.1++[a.1]).length<=4398046511104 then K (.inl (IntKind.i64.wrap (v.1+1),a.2.2.1,a.2.2.2.1,a.2.2.2.2.1,a.2.2.2.2.2.1,a.2.2.2.2.2.2.1,a.2.2.2.2.2.2.2.1,v.2.2.2.2.2.2.2.1++[a.1],()))else none else K (.inr (.inr (v.2.1,v.2.2.1,v.2.2.2.1,v.2.2.2.2.1,v.2.2.2.2.2.1,v.2.2.2.2.2.2.1,v.2.2.2.2.2.2.2.1,())))
theorem KZ:Bi Co:=fun i v R K=>Af (Ac fun _=>Af (Aa) (Ay (Aa))) (Aa)
def Tm:Tmpl:=⟨(.ptr 0 0 0 (.ptrI 2 0 (.junk (.slot .i (jk 4 (.ptr 7 0 0 (.ptr 8 0 0 (.slot .i (jk 27 .nil))))))))),(.cells 6 (.slot .bool (.own 1 (.own 2 (.own 5 (.own 6 (.slot .i .nil)))))) (.tree false 0 (.slice Ae) (.tree false 1 Ad (.gone (.gone (.lst false A0 (.lst false A0 (.cells 2 (.slot .i (.const (AV.nils) .nil)) (.cells 2 (.slot .i (.own 9 .nil)) (.lst false .i .nil))))))))))⟩
def fv:Exs fC fA:=xs .ret (fun i p=>⟨jn 8 (AV.ptr 7 none 0 0::AV.ptr 8 none 0 0::jn 28 ([])),[some (Cont.cells 6 [[AV.pv .bool p.1,AV.own 1 none none,AV.own 2 none none,AV.own 15 none none,AV.own 16 none none,AV.pv .i p.2.1]]),some (Cont.tree false 0 (.slice Ae) p.2.2.1 none),some (Cont.tree false 2 Ad p.2.2.2.1 none),some Cont.dead,some Cont.dead,some Cont.dead,some Cont.dead,some (Cont.cells 2 [[AV.pv .i p.2.2.2.2.1,AV.nils]]),some (Cont.cells 2 [[AV.pv .i i.2.2.2.1,AV.own 9 none none]]),some (Cont.lst false .i p.2.2.2.2.2.1),none,none,none,none,none,some (Cont.lst false A0 p.2.2.2.2.2.2.1),some (Cont.lst false A0 p.2.2.2.2.2.2.2.1)]⟩)<|x1 (.exit 0) fun i p=>⟨jn 8 (AV.ptr 7 none 0 0::AV.ptr 8 none 0 0::jn 28 ([])),[some (Cont.cells 6 [[AV.pv .bool p.1,AV.own 1 none none,AV.own 2 none none,AV.own 5 none none,AV.own 6 none none,AV.pv .i p.2.1]]),some (Cont.tree false 0 (.slice Ae) p.2.2.1 none),some (Cont.tree false 1 Ad p.2.2.2.1 none),some Cont.dead,some Cont.dead,some (Cont.lst false A0 p.2.2.2.2.1),some (Cont.lst false A0 p.2.2.2.2.2.1),some (Cont.cells 2 [[AV.pv .i i.2.2.1,AV.nils]]),some (Cont.cells 2 [[AV.pv .i i.2.2.2.1,AV.own 9 none none]]),some (Cont.lst false .i p.2.2.2.2.2.2.1)]⟩
def fB:=((.i (.i (.v (.v (.v (.v (.v (.v (.v (.i (.i (.v .n)))))))))))):Pk Tm.ty _ _)
def sO:Cfg:={ti:=Au,ents:=[VC],ann:=[(3,Ao Tm 5 (spP fB) Co fv.E)],lent:=5,pre:=[(some (0,3)),(some (0,4))]}
def G9 (x:Nat×Int×Int×Bool×Int×A7):Option (Int×Bool×Int×List (List A2)×List A3×List A1×List A1×List Int×Unit):=(AE (fun v=>Co (x.1,x.2.2.1,0,0,()) v _ some) (x.2.1,x.2.2.2.1,x.2.2.2.2.1,x.2.2.2.2.2.1,x.2.2.2.2.2.2.1,x.2.2.2.2.2.2.2.1,x.2.2.2.2.2.2.2.2.1,[],())).bind fun p=>Az p (fun p=>some (p.2.2.2.2.1,p.1,p.2.1,p.2.2.1,p.2.2.2.1,p.2.2.2.2.2.2.1,p.2.2.2.2.2.2.2.1,[],())) fun p=>some (0,p.1,p.2.1,p.2.2.1,p.2.2.2.1,p.2.2.2.2.1,p.2.2.2.2.2.1,p.2.2.2.2.2.2.1,())
def VB:Ent:=⟨146,⟨(.ptr 0 0 0 (.ptrI 2 0 (si 2 .nil))),(.cells 6 (.slot .bool (.own 1 (.own 2 (.own 3 (.own 4 (.slot .i .nil)))))) (.tree false 0 (.slice Ae) (.tree false 0 Ad (.lst false A0 (.lst false A0 .nil)))))⟩,⟨(.agg (.slot .i (.own 7 .nil)) .nil),(.cells 6 (.slot .bool (.own 1 (.own 2 (.own 5 (.own 6 (.slot .i .nil)))))) (.tree false 0 (.slice Ae) (.tree false 1 Ad (.gone (.gone (.lst false A0 (.lst false A0 (.lst false .i .nil))))))))⟩,G9⟩
theorem fD:CfgOK Go.Proofs.Tryz.prog sO:=hcB (all_cons yN all_nil)
theorem sN:B7 Go.Proofs.Tryz.prog sO (lpc Go.Proofs.Tryz.f146 0):=lkA fD Tm fB Co fv [8,9] KZ
theorem yM:Ah Go.Proofs.Tryz.prog VB:=okB fD Go.Proofs.Tryz.func146 sN
def Hf (x:A1×Option Int×Unit):Option (Bool×Unit):=x.2.1.bind fun v=>some (x.1.1==v,())
def VA:Ent:=⟨244,⟨(.slot A0 (.slot (.iref .i) .nil)),.nil⟩,⟨(.slot .bool .nil),.nil⟩,Hf⟩
theorem yL:Ah Go.Proofs.Tryz.prog VA:=okA (hcA 0 all_nil) Go.Proofs.Tryz.func244
abbrev fr:=List A1×(Option Int×Unit)×Int×Unit
abbrev fm:=Int×Unit
abbrev fp:=Int×Unit ⊕ Unit
def Ba (i:fr)(v:fm)(R:Type)(K:fm ⊕ fp->Option R):Option R:=bif decide (v.1<i.2.2.1)then(lAt i.1 v.1).bind fun a=>(Hf ((a.1,a.2.1,()),i.2.1.1,())).bind fun b=>bif b.1 then K (.inr (.inl (v.1,())))else K (.inl (IntKind.i64.wrap (v.1+1),()))else K (.inr (.inr ()))
theorem Hr:Bi Ba:=fun i v R K=>Af (Ac fun _=>Ac fun _=>Af (Aa) (Aa)) (Aa)
def Tl:Tmpl:=⟨(.slot (.slice A0) (.slot (.fn 244 (.prod (.iref .i) .unit)) (jk 5 (si 2 (jk 10 .nil))))),.nil⟩
def fj:Exs fr fp:=xs .ret (fun i p=>⟨jn 4 (.n (p.1)::jn 14 ([])),[]⟩)<|x1 (.exit 0) fun i p=>⟨jn 19 ([]),[]⟩
def fq:=((.i (.i (.i (.v .n)))):Pk Tl.ty _ _)
def sM:Cfg:={ti:=Au,ents:=[VA],ann:=[(2,Ao Tl 0 (spP fq) Ba fj.E)],lent:=0}
def BU (x:List A1×(Option Int×Unit)×Unit):Option (Int×Unit):=(AE (fun v=>Ba (x.1,x.2.1,(x.1.length:Int),()) v _ some) (0,())).bind fun p=>Az p (fun p=>some (p.1,())) fun p=>some (-1,())
def sL:Ent:=⟨194,⟨(.slot (.slice A0) (.slot (.fn 244 (.prod (.iref .i) .unit)) .nil)),.nil⟩,⟨(.slot .i .nil),.nil⟩,BU⟩
theorem fu:CfgOK Go.Proofs.Tryz.prog sM:=hcB (all_cons yL all_nil)
theorem sK:B7 Go.Proofs.Tryz.prog sM (lpc Go.Proofs.Tryz.f194 0):=lkA fu Tl fq Ba fj [4] Hr
theorem yK:Ah Go.Proofs.Tryz.prog sL:=okB fu Go.Proofs.Tryz.func194 sK
def GJ (x:List A1×Int×Unit):Option (Int×Unit):=(BU (x.1,(some x.2.1,()),())).bind fun v=>bif decide (v.1<0)then some (0,())else(lAt x.1 v.1).bind fun v=>some (v.2.1,())
def Vz:Ent:=⟨205,⟨(.slot (.slice A0) (.slot .i .nil)),.nil⟩,⟨(.slot .i .nil),.nil⟩,GJ⟩
theorem fi:Ah Go.Proofs.Tryz.prog Vz:=okA (hcA 0 (all_cons yK all_nil)) Go.Proofs.Tryz.func205
def DD (x:A4×Int×Unit):Option (Option A2×Unit):=(lAt x.1.1 x.2.1).bind fun v=>(lAt v (IntKind.i64.wrap ((v.length:Int)-1))).bind fun v=>some (some v,())
def Vy:Ent:=⟨243,⟨(.slot Bo (.slot .i .nil)),.nil⟩,⟨(.slot (.iref Ae) .nil),.nil⟩,DD⟩
theorem Tk:Ah Go.Proofs.Tryz.prog Vy:=okA (hcA 0 all_nil) Go.Proofs.Tryz.func243
def EJ (x:A4×List A1×A3×Int×Unit):Option (Int×Unit):=(GJ (x.2.1,x.2.2.2.1,())).bind fun v=>(DD ((x.1.1,()),x.2.2.2.1,())).bind fun a=>bif v.1 != 0 then bif x.2.2.1.2.1==1 then bif v.1 != x.2.2.1.1 then some (1,())else bif x.2.2.1.2.1==2 then bif v.1 != x.2.2.1.1 then some (2,())else a.1.bind fun v=>bif decide (v.2.2.1>x.2.2.1.2.2.2.1)then some (2,())else bif x.2.2.1.2.1==4 then a.1.bind fun v=>bif decide (v.2.2.2.1>x.2.2.1.2.2.2.1)then some (3,())else some (0,())else some (0,())else bif x.2.2.1.2.1==4 then a.1.bind fun v=>bif decide (v.2.2.2.1>x.2.2.1.2.2.2.1)then some (3,())else some (0,())else some (0,())else bif x.2.2.1.2.1==2 then bif v.1 != x.2.2.1.1 then some (2,())else a.1.bind fun v=>bif decide (v.2.2.1>x.2.2.1.2.2.2.1)then some (2,())else bif x.2.2.1.2.1==4 then a.1.bind fun v=>bif decide (v.2.2.2.1>x.2.2.1.2.2.2.1)then some (3,())else some (0,())else some (0,())else bif x.2.2.1.2.1==4 then a.1.bind fun v=>bif decide (v.2.2.2.1>x.2.2.1.2.2.2.1)then some (3,())else some (0,())else some (0,())else bif x.2.2.1.2.1==1 then bif x.2.2.1.2.1==2 then a.1.bind fun v=>bif decide (v.2.2.1>x.2.2.1.2.2.2.1)then some (2,())else bif x.2.2.1.2.1==4 then a.1.bind fun v=>bif decide (v.2.2.2.1>x.2.2.1.2.2.2.1)then some (3,())else some (0,())else some (0,())else bif x.2.2.1.2.1==4 then a.1.bind fun v=>bif decide (v.2.2.2.1>x.2.2.1.2.2.2.1)then some (3,())else some (0,())else some (0,())else bif x.2.2.1.2.1==2 then a.1.bind fun v=>bif decide (v.2.2.1>x.2.2.1.2.2.2.1)then some (2,())else bif x.2.2.1.2.1==4 then a.1.bind fun v=>bif decide (v.2.2.2.1>x.2.2.1.2.2.2.1)then some (3,())else some (0,())else some (0,())else bif x.2.2.1.2.1==4 then a.1.bind fun v=>bif decide (v.2.2.2.1>x.2.2.1.2.2.2.1)then some (3,())else some (0,())else some (0,())
def Vx:Ent:=⟨204,⟨(.slot Bo (.slot (.slice A0) (.slot Ad (.slot .i .nil)))),.nil⟩,⟨(.slot .i .nil),.nil⟩,EJ⟩
theorem yJ:Ah Go.Proofs.Tryz.prog Vx:=okA (hcA 0 (all_cons fi (all_cons Tk all_nil))) Go.Proofs.Tryz.func204
def GI (x:A1×Int×Unit):Option (Int×Unit):=(C0 (x.1.1,x.2.1,())).bind fun v=>some (v.1,())
def Vw:Ent:=⟨247,⟨(.slot A0 (.slot .i .nil)),.nil⟩,⟨(.slot .i .nil),.nil⟩,GI⟩
theorem yI:Ah Go.Proofs.Tryz.prog Vw:=okA (hcA 0 (all_cons OQ all_nil)) Go.Proofs.Tryz.func247
abbrev fg:=List A1×Int×Unit×Int×Unit
abbrev fc:=Int×Int×Unit
abbrev fe:=Int×Unit
def AG (i:fg)(v:fc)(R:Type)(K:fc ⊕ fe->Option R):Option R:=bif decide (v.1<v.2.1)then(lAt i.1 (IntKind.i64.wrap (Int.fdiv (IntKind.u64.wrap (IntKind.i64.wrap (v.1+v.2.1))) (2 ^ min (Int.toNat 1) (IntKind.bits IntKind.u64))))).bind fun a=>(GI ((a.1,a.2.1,()),i.2.1,())).bind fun b=>bif decide (b.1<0)then K (.inl (IntKind.i64.wrap (IntKind.i64.wrap (Int.fdiv (IntKind.u64.wrap (IntKind.i64.wrap (v.1+v.2.1))) (2 ^ min (Int.toNat 1) (IntKind.bits IntKind.u64)))+1),v.2.1,()))else K (.inl (v.1,IntKind.i64.wrap (Int.fdiv (IntKind.u64.wrap (IntKind.i64.wrap (v.1+v.2.1))) (2 ^ min (Int.toNat 1) (IntKind.bits IntKind.u64))),()))else K (.inr (v.1,()))
theorem Gf:Bi AG:=fun i v R K=>Af (Ac fun _=>Ac fun _=>Af (Aa) (Aa)) (Aa)
def Tj:Tmpl:=⟨(.slot (.slice A0) (.slot .i (.slot (.fn 247 .unit) (jk 5 (si 3 (jk 38 .nil)))))),.nil⟩
def fb:Exs fg fe:=x1 (.exit 0) fun i p=>⟨AV.pv (.slice A0) i.1::.n (i.2.1)::AV.pv (.fn 247 .unit) i.2.2.1::jn 5 (.n (i.2.2.2.1)::.n (p.1)::jn 39 ([])),[]⟩
def ff:=((.i (.i (.i (.i (.v (.v .n)))))):Pk Tj.ty _ _)
def sJ:Cfg:={ti:=Au,ents:=[Vw],ann:=[(3,Ao Tj 0 (spP ff) AG fb.E)],lent:=0}
def Bh (x:List A1×Int×Unit×Unit):Option (Int×Bool×Unit):=(AE (fun v=>AG (x.1,x.2.1,x.2.2.1,(x.1.length:Int),()) v _ some) (0,(x.1.length:Int),())).bind fun p=>bif decide (p.1<(x.1.length:Int))then(lAt x.1 p.1).bind fun v=>(GI ((v.1,v.2.1,()),x.2.1,())).bind fun v=>some (p.1,v.1==0,())else some (p.1,false,())
def sI:Ent:=⟨246,⟨(.slot (.slice A0) (.slot .i (.slot (.fn 247 .unit) .nil))),.nil⟩,⟨(.slot .i (.slot .bool .nil)),.nil⟩,Bh⟩
theorem fh:CfgOK Go.Proofs.Tryz.prog sJ:=hcB (all_cons yI all_nil)
theorem sH:B7 Go.Proofs.Tryz.prog sJ (lpc Go.Proofs.Tryz.f246 0):=lkA fh Tj ff AG fb [0,1,2,8,9] Gf
theorem yH:Ah Go.Proofs.Tryz.prog sI:=okB fh Go.Proofs.Tryz.func246 sH
def Vv:Go.Shelf.Ren:=⟨fun|22=>248|29=>275|30=>276|n=>n,fun|24=>38|9=>144|n=>n,fun|n=>n⟩
theorem A4x:InsL Go.Proofs.Tryz.prog Vv true 2 where
 mixed:=by kernel_rfl
 f22:=⟨ "slices.Insert[[]loop.example/g01924/impl.Wait,loop.example/g01924/impl.Wait]",by decide,Go.Proofs.Tryz.func248.trans (congrArg some (by kernel_rfl))⟩
 f29:=⟨_,Go.Proofs.Tryz.func275,by kernel_rfl,by kernel_rfl,by kernel_rfl,by kernel_rfl⟩
 a9:=Go.Proofs.Tryz.isAgg144
 z9:=Go.Proofs.Tryz.sizeOf144
 t0:=Go.Proofs.Tryz.underlying0
 a0:=Go.Proofs.Tryz.isAgg0
 z0:=Go.Proofs.Tryz.sizeOf0
 v0:=Go.Proofs.Tryz.zeroValue0
 t3:=Go.Proofs.Tryz.underlying3
 a3:=Go.Proofs.Tryz.isAgg3
 z3:=Go.Proofs.Tryz.sizeOf3
 v3:=Go.Proofs.Tryz.zeroValue3
 t4:=Go.Proofs.Tryz.underlying4
 a4:=Go.Proofs.Tryz.isAgg4
 z4:=Go.Proofs.Tryz.sizeOf4
 v4:=Go.Proofs.Tryz.zeroValue4
 t24:=Go.Proofs.Tryz.underlying38
 a24:=Go.Proofs.Tryz.isAgg38
 z24:=Go.Proofs.Tryz.sizeOf38
 v24:=Go.Proofs.Tryz.zeroValue38
def Fw (x:Int×List (Int×Int×Unit)×List (Int×Int×Unit)×Unit):Option (List (Int×Int×Unit)×Unit):=PB (α:=Int×Int×Unit) 2199023255552 x
def A7c:Cfg:={ti:=Au,ents:=[],ann:=[],lent:=2}
def sG:Ent:=⟨248,⟨(.own 0 (.slot Ty.i (.own 1 .nil))),(.lst false A0 (.lst false A0 .nil))⟩,⟨(.own 2 .nil),(.gone (.gone (.lst false A0 .nil)))⟩,Fw⟩
theorem yG:Ah Go.Proofs.Tryz.prog sG:=Ql (ρ:=Vv) (t:=A0) jF A4x rfl (by decide) rfl
def GH (x:List A1×Int×Int×Unit):Option (Bool×List A1×Unit):=(BI (x.1,())).bind fun v=>(DH (x.1,())).bind fun a=>bif !a.1 then some (false,v.1,())else(BF (x.2.1,())).bind fun b=>bif !b.1 then some (false,v.1,())else(BF (x.2.2.1,())).bind fun c=>bif !c.1 then some (false,v.1,())else bif x.2.1==x.2.2.1 then some (false,v.1,())else(Bh (x.1,x.2.1,(),())).bind fun d=>bif !d.2.1 then(Fw (d.1,v.1,[(x.2.1,x.2.2.1,())],())).bind fun v=>some (true,v.1,())else if 0<=d.1/\d.1<(v.1.length:Int)then v.1[0+d.1.toNat]?.bind fun e=>some (true,v.1.set (0+d.1.toNat) (e.1,x.2.2.1,()),())else none
def Vu:Ent:=⟨207,⟨(.slot (.slice A0) (si 2 .nil)),.nil⟩,⟨(.own 0 (.slot .bool .nil)),(.lst false A0 .nil)⟩,GH⟩
theorem eZ:Ah Go.Proofs.Tryz.prog Vu:=okA (hcA 0 (all_cons yG (all_cons Sj (all_cons TP (all_cons MZ (all_cons yH all_nil)))))) Go.Proofs.Tryz.func207
def He (x:A1×Option (List Int)×Unit):Option (Bool×Unit):=x.2.1.bind fun v=>x.2.1.bind fun a=>(lAt v (IntKind.i64.wrap ((a.length:Int)-1))).bind fun v=>some (x.1.1==v,())
def Vt:Ent:=⟨274,⟨(.slot A0 (.slot (.iref (.slice .i)) .nil)),.nil⟩,⟨(.slot .bool .nil),.nil⟩,He⟩
theorem yF:Ah Go.Proofs.Tryz.prog Vt:=okA (hcA 0 all_nil) Go.Proofs.Tryz.func274
abbrev eX:=List A1×(Option (List Int)×Unit)×Int×Unit
abbrev eU:=Int×Unit
abbrev eV:=Int×Unit ⊕ Unit
def B9 (i:eX)(v:eU)(R:Type)(K:eU ⊕ eV->Option R):Option R:=bif decide (v.1<i.2.2.1)then(lAt i.1 v.1).bind fun a=>(He ((a.1,a.2.1,()),i.2.1.1,())).bind fun b=>bif b.1 then K (.inr (.inl (v.1,())))else K (.inl (IntKind.i64.wrap (v.1+1),()))else K (.inr (.inr ()))
theorem Hq:Bi B9:=fun i v R K=>Af (Ac fun _=>Ac fun _=>Af (Aa) (Aa)) (Aa)
def Ti:Tmpl:=⟨(.slot (.slice A0) (.slot (.fn 274 (.prod (.iref (.slice .i)) .unit)) (jk 5 (si 2 (jk 10 .nil))))),.nil⟩
def eT:Exs eX eV:=xs .ret (fun i p=>⟨jn 4 (.n (p.1)::jn 14 ([])),[]⟩)<|x1 (.exit 0) fun i p=>⟨jn 19 ([]),[]⟩
def eW:=((.i (.i (.i (.v .n)))):Pk Ti.ty _ _)
def sF:Cfg:={ti:=Au,ents:=[Vt],ann:=[(2,Ao Ti 0 (spP eW) B9 eT.E)],lent:=0}
def BT (x:List A1×(Option (List Int)×Unit)×Unit):Option (Int×Unit):=(AE (fun v=>B9 (x.1,x.2.1,(x.1.length:Int),()) v _ some) (0,())).bind fun p=>Az p (fun p=>some (p.1,())) fun p=>some (-1,())
def Vs:Ent:=⟨195,⟨(.slot (.slice A0) (.slot (.fn 274 (.prod (.iref (.slice .i)) .unit)) .nil)),.nil⟩,⟨(.slot .i .nil),.nil⟩,BT⟩
theorem eY:CfgOK Go.Proofs.Tryz.prog sF:=hcB (all_cons yF all_nil)
theorem sE:B7 Go.Proofs.Tryz.prog sF (lpc Go.Proofs.Tryz.f195 0):=lkA eY Ti eW B9 eT [4] Hq
theorem yE:Ah Go.Proofs.Tryz.prog Vs:=okB eY Go.Proofs.Tryz.func195 sE
abbrev eR:=List Int×Int×Int×Unit
abbrev eN:=Int×Unit
abbrev eO:=Int×Unit ⊕ Unit
def CK (i:eR)(v:eN)(R:Type)(K:eN ⊕ eO->Option R):Option R:=bif decide (v.1<i.2.2.1)then(lAt i.1 v.1).bind fun a=>bif i.2.1==a then K (.inr (.inl (v.1,())))else K (.inl (IntKind.i64.wrap (v.1+1),()))else K (.inr (.inr ()))
theorem Ly:Bi CK:=fun i v R K=>Af (Ac fun _=>Af (Aa) (Aa)) (Aa)
def Th:Tmpl:=⟨(.slot (.slice .i) (.slot .i (jk 5 (si 2 (jk 10 .nil))))),.nil⟩
def eM:Exs eR eO:=xs .ret (fun i p=>⟨jn 4 (.n (p.1)::jn 14 ([])),[]⟩)<|x1 (.exit 0) fun i p=>⟨jn 19 ([]),[]⟩
def eP:=((.i (.i (.i (.v .n)))):Pk Th.ty _ _)
def sD:Cfg:={ti:=Au,ents:=[],ann:=[(2,Ao Th 0 (spP eP) CK eM.E)],lent:=0}
def IJ (x:List Int×Int×Unit):Option (Int×Unit):=(AE (fun v=>CK (x.1,x.2.1,(x.1.length:Int),()) v _ some) (0,())).bind fun p=>Az p (fun p=>some (p.1,())) fun p=>some (-1,())
def sC:Ent:=⟨221,⟨(.slot (.slice .i) (.slot .i .nil)),.nil⟩,⟨(.slot .i .nil),.nil⟩,IJ⟩
theorem eS:CfgOK Go.Proofs.Tryz.prog sD:=hcB all_nil
theorem sB:B7 Go.Proofs.Tryz.prog sD (lpc Go.Proofs.Tryz.f221 0):=lkA eS Th eP CK eM [4] Ly
theorem yD:Ah Go.Proofs.Tryz.prog sC:=okB eS Go.Proofs.Tryz.func221 sB
def Fj (x:List Int×Int×Unit):Option (Bool×Unit):=(IJ (x.1,x.2.1,())).bind fun v=>some (decide (v.1>=0),())
def Vr:Ent:=⟨161,⟨(.slot (.slice .i) (.slot .i .nil)),.nil⟩,⟨(.slot .bool .nil),.nil⟩,Fj⟩
theorem yC:Ah Go.Proofs.Tryz.prog Vr:=okA (hcA 0 (all_cons yD all_nil)) Go.Proofs.Tryz.func161
abbrev eK:=List A1×Unit
abbrev eH:=List Int×Unit
abbrev eI:=List Int×Unit ⊕ List Int×List Int×Unit
def Eh (i:eK)(v:eH)(R:Type)(K:eH ⊕ eI->Option R):Option R:=(BT (i.1,(some v.1,()),())).bind fun a=>bif decide (a.1<0)then K (.inr (.inl (v.1,())))else(lAt i.1 a.1).bind fun b=>(Fj (v.1,b.2.1,())).bind fun c=>(lAt i.1 a.1).bind fun d=>if(v.1++[d.2.1]).length<=4398046511104 then bif c.1 then K (.inr (.inr ([d.2.1],v.1++[d.2.1],())))else K (.inl (v.1++[d.2.1],()))else none
theorem MR:Bi Eh:=fun i v R K=>Ac fun _=>Af (Aa) (Ac fun _=>Ac fun _=>Ac fun _=>Ay (Af (Aa) (Aa)))
def Tg:Tmpl:=⟨(.slot (.slice A0) (jk 4 (.ptr 0 0 0 (jk 35 .nil)))),(.cells 1 (.own 1 .nil) (.lst false .i .nil))⟩
def eG:Exs eK eI:=xs .ret (fun i p=>⟨jn 4 (AV.own 1 none none::jn 36 ([])),[some (Cont.cells 1 [[AV.own 1 none none]]),some (Cont.lst false .i p.1)]⟩)<|x1 .ret fun i p=>⟨jn 4 (AV.own 3 none none::jn 36 ([])),[some (Cont.cells 1 [[AV.own 3 none none]]),some Cont.dead,some (Cont.lst false .i p.1),some (Cont.lst false .i p.2.1)]⟩
def eJ:=((.i (.v .n)):Pk Tg.ty _ _)
def sA:Cfg:={ti:=Au,ents:=[Wd,Qf,Vs,Vr],ann:=[(4,Ao Tg 0 (spP eJ) Eh eG.E)],lent:=0}
def JH (x:List A1×Int×Unit):Option (List Int×Unit):=(DH (x.1,())).bind fun v=>bif !v.1 then some ([],())else(BF (x.2.1,())).bind fun v=>bif !v.1 then some ([],())else(AE (fun v=>Eh (x.1,()) v _ some) ([x.2.1],())).bind fun p=>Az p (fun p=>some (p.1,())) fun p=>some (p.2.1,())
def sy:Ent:=⟨245,⟨(.slot (.slice A0) (.slot .i .nil)),.nil⟩,⟨(.own 0 .nil),(.lst false .i .nil)⟩,JH⟩
theorem eL:CfgOK Go.Proofs.Tryz.prog sA:=hcB (all_cons TP (all_cons MZ (all_cons yE (all_cons yC all_nil))))
theorem sx:B7 Go.Proofs.Tryz.prog sA (lpc Go.Proofs.Tryz.f245 0):=lkA eL Tg eJ Eh eG [4] MR
theorem yB:Ah Go.Proofs.Tryz.prog sy:=okB eL Go.Proofs.Tryz.func245 sx
def G5 (x:List A1×Int×Int×Unit):Option (Bool×Unit):=(GH (x.1,x.2.1,x.2.2.1,())).bind fun v=>bif !v.1 then some (false,())else(JH (v.2.1,x.2.1,())).bind fun v=>if 0<=IntKind.i64.wrap ((v.1.length:Int)-1)/\IntKind.i64.wrap ((v.1.length:Int)-1)<(v.1.length:Int)then v.1[0+(IntKind.i64.wrap ((v.1.length:Int)-1)).toNat]?.bind fun v=>some (v==x.2.1,())else none
def Vq:Ent:=⟨206,⟨(.slot (.slice A0) (si 2 .nil)),.nil⟩,⟨(.slot .bool .nil),.nil⟩,G5⟩
theorem yA:Ah Go.Proofs.Tryz.prog Vq:=okA (hcA 0 (all_cons eZ (all_cons yB all_nil))) Go.Proofs.Tryz.func206
def G6 (x:Int×Unit):Option (Bool×Unit):=bif x.1==1 then some (true,())else some (x.1==2,())
def Vp:Ent:=⟨208,⟨(.slot .i .nil),.nil⟩,⟨(.slot .bool .nil),.nil⟩,G6⟩
theorem yz:Ah Go.Proofs.Tryz.prog Vp:=okA (hcA 0 all_nil) Go.Proofs.Tryz.func208
def E5 (x:A1×Int×Unit):Option (Int×Unit):=(C0 (x.1.1,x.2.1,())).bind fun v=>some (v.1,())
def Vo:Ent:=⟨250,⟨(.slot A0 (.slot .i .nil)),.nil⟩,⟨(.slot .i .nil),.nil⟩,E5⟩
theorem yx:Ah Go.Proofs.Tryz.prog Vo:=okA (hcA 0 (all_cons OQ all_nil)) Go.Proofs.Tryz.func250
abbrev eE:=List A1×Int×Unit×Int×Unit
abbrev eB:=Int×Int×Unit
abbrev eC:=Int×Unit
def AA (i:eE)(v:eB)(R:Type)(K:eB ⊕ eC->Option R):Option R:=bif decide (v.1<v.2.1)then(lAt i.1 (IntKind.i64.wrap (Int.fdiv (IntKind.u64.wrap (IntKind.i64.wrap (v.1+v.2.1))) (2 ^ min (Int.toNat 1) (IntKind.bits IntKind.u64))))).bind fun a=>(E5 ((a.1,a.2.1,()),i.2.1,())).bind fun b=>bif decide (b.1<0)then K (.inl (IntKind.i64.wrap (IntKind.i64.wrap (Int.fdiv (IntKind.u64.wrap (IntKind.i64.wrap (v.1+v.2.1))) (2 ^ min (Int.toNat 1) (IntKind.bits IntKind.u64)))+1),v.2.1,()))else K (.inl (v.1,IntKind.i64.wrap (Int.fdiv (IntKind.u64.wrap (IntKind.i64.wrap (v.1+v.2.1))) (2 ^ min (Int.toNat 1) (IntKind.bits IntKind.u64))),()))else K (.inr (v.1,()))
theorem Fb:Bi AA:=fun i v R K=>Af (Ac fun _=>Ac fun _=>Af (Aa) (Aa)) (Aa)
def Tf:Tmpl:=⟨(.slot (.slice A0) (.slot .i (.slot (.fn 250 .unit) (jk 5 (si 3 (jk 38 .nil)))))),.nil⟩
def eA:Exs eE eC:=x1 (.exit 0) fun i p=>⟨AV.pv (.slice A0) i.1::.n (i.2.1)::AV.pv (.fn 250 .unit) i.2.2.1::jn 5 (.n (i.2.2.2.1)::.n (p.1)::jn 39 ([])),[]⟩
def eD:=((.i (.i (.i (.i (.v (.v .n)))))):Pk Tf.ty _ _)
def sw:Cfg:={ti:=Au,ents:=[Vo],ann:=[(3,Ao Tf 0 (spP eD) AA eA.E)],lent:=0}
def AX (x:List A1×Int×Unit×Unit):Option (Int×Bool×Unit):=(AE (fun v=>AA (x.1,x.2.1,x.2.2.1,(x.1.length:Int),()) v _ some) (0,(x.1.length:Int),())).bind fun p=>bif decide (p.1<(x.1.length:Int))then(lAt x.1 p.1).bind fun v=>(E5 ((v.1,v.2.1,()),x.2.1,())).bind fun v=>some (p.1,v.1==0,())else some (p.1,false,())
def sv:Ent:=⟨249,⟨(.slot (.slice A0) (.slot .i (.slot (.fn 250 .unit) .nil))),.nil⟩,⟨(.slot .i (.slot .bool .nil)),.nil⟩,AX⟩
theorem eF:CfgOK Go.Proofs.Tryz.prog sw:=hcB (all_cons yx all_nil)
theorem su:B7 Go.Proofs.Tryz.prog sw (lpc Go.Proofs.Tryz.f249 0):=lkA eF Tf eD AA eA [0,1,2,8,9] Fb
theorem yw:Ah Go.Proofs.Tryz.prog sv:=okB eF Go.Proofs.Tryz.func249 su
def Vn:Go.Shelf.Ren:=⟨fun|22=>251|29=>277|30=>278|n=>n,fun|24=>37|9=>142|n=>n,fun|n=>n⟩
theorem A4u:InsL Go.Proofs.Tryz.prog Vn true 2 where
 mixed:=by kernel_rfl
 f22:=⟨ "slices.Insert[[]loop.example/g01924/impl.Lock,loop.example/g01924/impl.Lock]",by decide,Go.Proofs.Tryz.func251.trans (congrArg some (by kernel_rfl))⟩
 f29:=⟨_,Go.Proofs.Tryz.func277,by kernel_rfl,by kernel_rfl,by kernel_rfl,by kernel_rfl⟩
 a9:=Go.Proofs.Tryz.isAgg142
 z9:=Go.Proofs.Tryz.sizeOf142
 t0:=Go.Proofs.Tryz.underlying0
 a0:=Go.Proofs.Tryz.isAgg0
 z0:=Go.Proofs.Tryz.sizeOf0
 v0:=Go.Proofs.Tryz.zeroValue0
 t3:=Go.Proofs.Tryz.underlying3
 a3:=Go.Proofs.Tryz.isAgg3
 z3:=Go.Proofs.Tryz.sizeOf3
 v3:=Go.Proofs.Tryz.zeroValue3
 t4:=Go.Proofs.Tryz.underlying4
 a4:=Go.Proofs.Tryz.isAgg4
 z4:=Go.Proofs.Tryz.sizeOf4
 v4:=Go.Proofs.Tryz.zeroValue4
 t24:=Go.Proofs.Tryz.underlying37
 a24:=Go.Proofs.Tryz.isAgg37
 z24:=Go.Proofs.Tryz.sizeOf37
 v24:=Go.Proofs.Tryz.zeroValue37
def Fx (x:Int×List (Int×Int×Unit)×List (Int×Int×Unit)×Unit):Option (List (Int×Int×Unit)×Unit):=PB (α:=Int×Int×Unit) 2199023255552 x
def A7b:Cfg:={ti:=Au,ents:=[],ann:=[],lent:=2}
def sl:Ent:=⟨251,⟨(.own 0 (.slot Ty.i (.own 1 .nil))),(.lst false A0 (.lst false A0 .nil))⟩,⟨(.own 2 .nil),(.gone (.gone (.lst false A0 .nil)))⟩,Fx⟩
theorem yt:Ah Go.Proofs.Tryz.prog sl:=Ql (ρ:=Vn) (t:=A0) jG A4u rfl (by decide) rfl
def Fg (x:List A1×Int×Int×Unit):Option (Bool×List A1×Unit):=(Ci (x.1,())).bind fun v=>(Es (x.1,())).bind fun a=>bif !a.1 then some (false,v.1,())else(DZ (x.2.1,())).bind fun b=>bif !b.1 then some (false,v.1,())else(BF (x.2.2.1,())).bind fun c=>bif !c.1 then some (false,v.1,())else(AX (x.1,x.2.1,(),())).bind fun d=>bif d.2.1 then(lAt x.1 d.1).bind fun e=>some (e.2.1==x.2.2.1,v.1,())else(Fx (d.1,v.1,[(x.2.1,x.2.2.1,())],())).bind fun v=>some (true,v.1,())
def Vm:Ent:=⟨209,⟨(.slot (.slice A0) (si 2 .nil)),.nil⟩,⟨(.own 0 (.slot .bool .nil)),(.lst false A0 .nil)⟩,Fg⟩
theorem yr:Ah Go.Proofs.Tryz.prog Vm:=okA (hcA 0 (all_cons yt (all_cons Xt (all_cons jl (all_cons OS (all_cons MZ (all_cons yw all_nil))))))) Go.Proofs.Tryz.func209
def CV (x:A1×Int×Unit):Option (Int×Unit):=(C0 (x.1.1,x.2.1,())).bind fun v=>some (v.1,())
def Vl:Ent:=⟨253,⟨(.slot A0 (.slot .i .nil)),.nil⟩,⟨(.slot .i .nil),.nil⟩,CV⟩
theorem yq:Ah Go.Proofs.Tryz.prog Vl:=okA (hcA 0 (all_cons OQ all_nil)) Go.Proofs.Tryz.func253
abbrev ew:=List A1×Int×Unit×Int×Unit
abbrev er:=Int×Int×Unit
abbrev et:=Int×Unit
def Aq (i:ew)(v:er)(R:Type)(K:er ⊕ et->Option R):Option R:=bif decide (v.1<v.2.1)then(lAt i.1 (IntKind.i64.wrap (Int.fdiv (IntKind.u64.wrap (IntKind.i64.wrap (v.1+v.2.1))) (2 ^ min (Int.toNat 1) (IntKind.bits IntKind.u64))))).bind fun a=>(CV ((a.1,a.2.1,()),i.2.1,())).bind fun b=>bif decide (b.1<0)then K (.inl (IntKind.i64.wrap (IntKind.i64.wrap (Int.fdiv (IntKind.u64.wrap (IntKind.i64.wrap (v.1+v.2.1))) (2 ^ min (Int.toNat 1) (IntKind.bits IntKind.u64)))+1),v.2.1,()))else K (.inl (v.1,IntKind.i64.wrap (Int.fdiv (IntKind.u64.wrap (IntKind.i64.wrap (v.1+v.2.1))) (2 ^ min (Int.toNat 1) (IntKind.bits IntKind.u64))),()))else K (.inr (v.1,()))
theorem Eo:Bi Aq:=fun i v R K=>Af (Ac fun _=>Ac fun _=>Af (Aa) (Aa)) (Aa)
def Te:Tmpl:=⟨(.slot (.slice A0) (.slot .i (.slot (.fn 253 .unit) (jk 5 (si 3 (jk 38 .nil)))))),.nil⟩
def ep:Exs ew et:=x1 (.exit 0) fun i p=>⟨AV.pv (.slice A0) i.1::.n (i.2.1)::AV.pv (.fn 253 .unit) i.2.2.1::jn 5 (.n (i.2.2.2.1)::.n (p.1)::jn 39 ([])),[]⟩
def eu:=((.i (.i (.i (.i (.v (.v .n)))))):Pk Te.ty _ _)
def sk:Cfg:={ti:=Au,ents:=[Vl],ann:=[(3,Ao Te 0 (spP eu) Aq ep.E)],lent:=0}
def AN (x:List A1×Int×Unit×Unit):Option (Int×Bool×Unit):=(AE (fun v=>Aq (x.1,x.2.1,x.2.2.1,(x.1.length:Int),()) v _ some) (0,(x.1.length:Int),())).bind fun p=>bif decide (p.1<(x.1.length:Int))then(lAt x.1 p.1).bind fun v=>(CV ((v.1,v.2.1,()),x.2.1,())).bind fun v=>some (p.1,v.1==0,())else some (p.1,false,())
def Vk:Ent:=⟨252,⟨(.slot (.slice A0) (.slot .i (.slot (.fn 253 .unit) .nil))),.nil⟩,⟨(.slot .i (.slot .bool .nil)),.nil⟩,AN⟩
theorem ez:CfgOK Go.Proofs.Tryz.prog sk:=hcB (all_cons yq all_nil)
theorem sj:B7 Go.Proofs.Tryz.prog sk (lpc Go.Proofs.Tryz.f252 0):=lkA ez Te eu Aq ep [0,1,2,8,9] Eo
theorem yp:Ah Go.Proofs.Tryz.prog Vk:=okB ez Go.Proofs.Tryz.func252 sj
def BS (x:Int×List (List A2)×Unit):Option (Option (Nat×Nat)×List (List A2)×Unit):=if 0<=x.1/\x.1<(x.2.1.length:Int)then x.2.1[0+x.1.toNat]?.bind fun v=>x.2.1[0+x.1.toNat]?.bind fun v=>x.2.1[0+x.1.toNat]?.bind fun a=>if 0<=IntKind.i64.wrap ((v.length:Int)-1)/\IntKind.i64.wrap ((v.length:Int)-1)<(a.length:Int)then some (some (0+x.1.toNat,0+(IntKind.i64.wrap ((v.length:Int)-1)).toNat),x.2.1,())else none else none
def Qz:Ent:=⟨243,⟨(.agg (.own 0 .nil) (.slot .i .nil)),(.tree false 0 (.slice Ae) .nil)⟩,⟨(.mptr 0 0 0 .nil),(.tree false 0 (.slice Ae) .nil)⟩,BS⟩
theorem eo:Ah Go.Proofs.Tryz.prog Qz:=okA (hcA 1 all_nil) Go.Proofs.Tryz.func243
def Vi:Go.Shelf.Ren:=⟨fun|22=>254|29=>279|30=>280|n=>n,fun|24=>91|9=>147|n=>n,fun|n=>n⟩
theorem A4t:InsL Go.Proofs.Tryz.prog Vi true 2 where
 mixed:=by kernel_rfl
 f22:=⟨ "slices.Insert[[]loop.example/g01924/impl.Write,loop.example/g01924/impl.Write]",by decide,Go.Proofs.Tryz.func254.trans (congrArg some (by kernel_rfl))⟩
 f29:=⟨_,Go.Proofs.Tryz.func279,by kernel_rfl,by kernel_rfl,by kernel_rfl,by kernel_rfl⟩
 a9:=Go.Proofs.Tryz.isAgg147
 z9:=Go.Proofs.Tryz.sizeOf147
 t0:=Go.Proofs.Tryz.underlying0
 a0:=Go.Proofs.Tryz.isAgg0
 z0:=Go.Proofs.Tryz.sizeOf0
 v0:=Go.Proofs.Tryz.zeroValue0
 t3:=Go.Proofs.Tryz.underlying3
 a3:=Go.Proofs.Tryz.isAgg3
 z3:=Go.Proofs.Tryz.sizeOf3
 v3:=Go.Proofs.Tryz.zeroValue3
 t4:=Go.Proofs.Tryz.underlying4
 a4:=Go.Proofs.Tryz.isAgg4
 z4:=Go.Proofs.Tryz.sizeOf4
 v4:=Go.Proofs.Tryz.zeroValue4
 t24:=Go.Proofs.Tryz.underlying91
 a24:=Go.Proofs.Tryz.isAgg91
 z24:=Go.Proofs.Tryz.sizeOf91
 v24:=Go.Proofs.Tryz.zeroValue91
def Fa (x:Int×List (Int×Int×Unit)×List (Int×Int×Unit)×Unit):Option (List (Int×Int×Unit)×Unit):=PB (α:=Int×Int×Unit) 2199023255552 x
def A7a:Cfg:={ti:=Au,ents:=[],ann:=[],lent:=2}
def Vj:Ent:=⟨254,⟨(.own 0 (.slot Ty.i (.own 1 .nil))),(.lst false A0 (.lst false A0 .nil))⟩,⟨(.own 2 .nil),(.gone (.gone (.lst false A0 .nil)))⟩,Fa⟩
theorem yn:Ah Go.Proofs.Tryz.prog Vj:=Ql (ρ:=Vi) (t:=A0) jE A4t rfl (by decide) rfl
def A4s:Cfg:={ti:=Au,ents:=[Qz,Vj,Vk,Zp],ann:=[],lent:=2,hid:=[((6,0),[1]),((6,1),[1]),((6,2),[1]),((6,3),[1]),((6,4),[1])],tak:=[254]}
def BK (x:Nat×Int×Int×List A3×List (List A2)×Unit):Option (List A3×List (List A2)×Unit):=x.2.2.2.1[x.1]?.bind fun v=>x.2.2.2.1[x.1]?.bind fun v=>(AN (v.2.2.2.2.2.2.2.2.1,x.2.1,(),())).bind fun v=>x.2.2.2.1[x.1]?.bind fun a=>x.2.2.2.1[x.1]?.bind fun b=>(CG (b.2.2.2.2.2.2.2.2.1,())).bind fun c=>x.2.2.2.1[x.1]?.bind fun d=>bif v.2.1 then(x.2.2.2.1.set x.1 (d.1,d.2.1,d.2.2.1,d.2.2.2.1,d.2.2.2.2.1,d.2.2.2.2.2.1,d.2.2.2.2.2.2.1,d.2.2.2.2.2.2.2.1,c.1,()))[x.1]?.bind fun e=>(x.2.2.2.1.set x.1 (d.1,d.2.1,d.2.2.1,d.2.2.2.1,d.2.2.2.2.1,d.2.2.2.2.2.1,d.2.2.2.2.2.2.1,d.2.2.2.2.2.2.2.1,c.1,()))[x.1]?.bind fun f=>if 0<=v.1/\v.1<(f.2.2.2.2.2.2.2.2.1.length:Int)then(x.2.2.2.1.set x.1 (d.1,d.2.1,d.2.2.1,d.2.2.2.1,d.2.2.2.2.1,d.2.2.2.2.2.1,d.2.2.2.2.2.2.1,d.2.2.2.2.2.2.2.1,c.1,()))[x.1]?.bind fun g=>g.2.2.2.2.2.2.2.2.1[0+v.1.toNat]?.bind fun h=>((x.2.2.2.1.set x.1 (d.1,d.2.1,d.2.2.1,d.2.2.2.1,d.2.2.2.2.1,d.2.2.2.2.2.1,d.2.2.2.2.2.2.1,d.2.2.2.2.2.2.2.1,c.1,())).set x.1 (g.1,g.2.1,g.2.2.1,g.2.2.2.1,g.2.2.2.2.1,g.2.2.2.2.2.1,g.2.2.2.2.2.2.1,g.2.2.2.2.2.2.2.1,g.2.2.2.2.2.2.2.2.1.set (0+v.1.toNat) (h.1,x.2.2.1,()),()))[x.1]?.bind fun j=>(BS (x.2.1,x.2.2.2.2.1,())).bind fun k=>k.1.bind fun l=>k.2.1[l.1]?.bind fun m=>m[l.2]?.bind fun n=>((x.2.2.2.1.set x.1 (d.1,d.2.1,d.2.2.1,d.2.2.2.1,d.2.2.2.2.1,d.2.2.2.2.2.1,d.2.2.2.2.2.2.1,d.2.2.2.2.2.2.2.1,c.1,())).set x.1 (g.1,g.2.1,g.2.2.1,g.2.2.2.1,g.2.2.2.2.1,g.2.2.2.2.2.1,g.2.2.2.2.2.2.1,g.2.2.2.2.2.2.2.1,g.2.2.2.2.2.2.2.2.1.set (0+v.1.toNat) (h.1,x.2.2.1,()),()))[x.1]?.bind fun o=>some (((x.2.2.2.1.set x.1 (d.1,d.2.1,d.2.2.1,d.2.2.2.1,d.2.2.2.2.1,d.2.2.2.2.2.1,d.2.2.2.2.2.2.1,d.2.2.2.2.2.2.2.1,c.1,())).set x.1 (g.1,g.2.1,g.2.2.1,g.2.2.2.1,g.2.2.2.2.1,g.2.2.2.2.2.1,g.2.2.2.2.2.2.1,g.2.2.2.2.2.2.2.1,g.2.2.2.2.2.2.2.2.1.set (0+v.1.toNat) (h.1,x.2.2.1,()),())).set x.1 (o.1,o.2.1,o.2.2.1,o.2.2.2.1,mx j.2.2.2.2.1 n.2.2.2.1,o.2.2.2.2.2.1,o.2.2.2.2.2.2.1,o.2.2.2.2.2.2.2.1,o.2.2.2.2.2.2.2.2.1,()),k.2.1,())else none else(x.2.2.2.1.set x.1 (d.1,d.2.1,d.2.2.1,d.2.2.2.1,d.2.2.2.2.1,d.2.2.2.2.2.1,d.2.2.2.2.2.2.1,d.2.2.2.2.2.2.2.1,c.1,()))[x.1]?.bind fun e=>(x.2.2.2.1.set x.1 (d.1,d.2.1,d.2.2.1,d.2.2.2.1,d.2.2.2.2.1,d.2.2.2.2.2.1,d.2.2.2.2.2.2.1,d.2.2.2.2.2.2.2.1,c.1,()))[x.1]?.bind fun f=>(Fa (v.1,f.2.2.2.2.2.2.2.2.1,[(x.2.1,x.2.2.1,())],())).bind fun v=>(x.2.2.2.1.set x.1 (d.1,d.2.1,d.2.2.1,d.2.2.2.1,d.2.2.2.2.1,d.2.2.2.2.2.1,d.2.2.2.2.2.2.1,d.2.2.2.2.2.2.2.1,c.1,()))[x.1]?.bind fun g=>if 9<=9/\true=true/\x.1=x.1/\8<=8/\8<9 then((x.2.2.2.1.set x.1 (d.1,d.2.1,d.2.2.1,d.2.2.2.1,d.2.2.2.2.1,d.2.2.2.2.2.1,d.2.2.2.2.2.2.1,d.2.2.2.2.2.2.2.1,c.1,())).set x.1 (g.1,g.2.1,g.2.2.1,g.2.2.2.1,g.2.2.2.2.1,g.2.2.2.2.2.1,g.2.2.2.2.2.2.1,g.2.2.2.2.2.2.2.1,v.1,()))[x.1]?.bind fun h=>(BS (x.2.1,x.2.2.2.2.1,())).bind fun j=>j.1.bind fun k=>j.2.1[k.1]?.bind fun l=>l[k.2]?.bind fun m=>((x.2.2.2.1.set x.1 (d.1,d.2.1,d.2.2.1,d.2.2.2.1,d.2.2.2.2.1,d.2.2.2.2.2.1,d.2.2.2.2.2.2.1,d.2.2.2.2.2.2.2.1,c.1,())).set x.1 (g.1,g.2.1,g.2.2.1,g.2.2.2.1,g.2.2.2.2.1,g.2.2.2.2.2.1,g.2.2.2.2.2.2.1,g.2.2.2.2.2.2.2.1,v.1,()))[x.1]?.bind fun n=>some (((x.2.2.2.1.set x.1 (d.1,d.2.1,d.2.2.1,d.2.2.2.1,d.2.2.2.2.1,d.2.2.2.2.2.1,d.2.2.2.2.2.2.1,d.2.2.2.2.2.2.2.1,c.1,())).set x.1 (g.1,g.2.1,g.2.2.1,g.2.2.2.1,g.2.2.2.2.1,g.2.2.2.2.2.1,g.2.2.2.2.2.2.1,g.2.2.2.2.2.2.2.1,v.1,())).set x.1 (n.1,n.2.1,n.2.2.1,n.2.2.2.1,mx h.2.2.2.2.1 m.2.2.2.1,n.2.2.2.2.2.1,n.2.2.2.2.2.2.1,n.2.2.2.2.2.2.2.1,n.2.2.2.2.2.2.2.2.1,()),j.2.1,())else none
def Vh:Ent:=⟨210,⟨(.ptrI 0 0 (.agg (.own 1 .nil) (si 2 .nil))),(.tree false 0 Ad (.tree false 0 (.slice Ae) .nil))⟩,⟨.nil,(.tree false 1 Ad (.tree false 0 (.slice Ae) .nil))⟩,BK⟩
theorem ym:Ah Go.Proofs.Tryz.prog Vh:=okA (C:=A4s) (hcB (all_cons eo (all_cons yn (all_cons yp (all_cons lR all_nil))))) Go.Proofs.Tryz.func210
def A4r:Cfg:={ti:=Au,ents:=[N0,Vh,Vx,Vz,Vq,Vu,Vp,Vm],ann:=[],lent:=5,hid:=[((5,13),[0]),((10,13),[0])],pre:=[(some (0,3)),(some (0,4))]}
def Fs (x:Nat×Int×Int×Bool×Int×A7):Option (Int×Bool×Int×A7):=x.2.2.2.2.2.2.1[x.1]?.bind fun v=>x.2.2.2.2.2.2.1[x.1]?.bind fun a=>x.2.2.2.2.2.2.1[x.1]?.bind fun b=>(EJ ((x.2.2.2.2.2.1,()),x.2.2.2.2.2.2.2.1,(v.1,v.2.1,v.2.2.1,v.2.2.2.1,v.2.2.2.2.1,v.2.2.2.2.2.1,v.2.2.2.2.2.2.1,a.2.2.2.2.2.2.2.1,b.2.2.2.2.2.2.2.2.1,()),x.2.1,())).bind fun v=>(GJ (x.2.2.2.2.2.2.2.1,x.2.1,())).bind fun c=>bif v.1==1 then x.2.2.2.2.2.2.1[x.1]?.bind fun d=>(G5 (x.2.2.2.2.2.2.2.2.1,d.1,c.1,())).bind fun e=>bif e.1 then(B8 (x.1,4,x.2.2.2.1,x.2.2.2.2.1,x.2.2.2.2.2.1,x.2.2.2.2.2.2.1,x.2.2.2.2.2.2.2.1,x.2.2.2.2.2.2.2.2.1,())).bind fun v=>some (v.1,v.2.1,v.2.2.1,v.2.2.2.1,v.2.2.2.2.1,v.2.2.2.2.2.2.2.1,v.2.2.2.2.2.2.2.2.1,())else bif v.1==1 then x.2.2.2.2.2.2.1[x.1]?.bind fun f=>(GH (x.2.2.2.2.2.2.2.2.1,f.1,c.1,())).bind fun g=>some (v.1,x.2.2.2.1,x.2.2.2.2.1,x.2.2.2.2.2.1,x.2.2.2.2.2.2.1,x.2.2.2.2.2.2.2.1,g.2.1,())else bif v.1 != 0 then(B8 (x.1,v.1,x.2.2.2.1,x.2.2.2.2.1,x.2.2.2.2.2.1,x.2.2.2.2.2.2.1,x.2.2.2.2.2.2.2.1,x.2.2.2.2.2.2.2.2.1,())).bind fun v=>some (v.1,v.2.1,v.2.2.1,v.2.2.2.1,v.2.2.2.2.1,v.2.2.2.2.2.2.2.1,v.2.2.2.2.2.2.2.2.1,())else x.2.2.2.2.2.2.1[x.1]?.bind fun v=>(G6 (v.2.1,())).bind fun v=>bif v.1 then x.2.2.2.2.2.2.1[x.1]?.bind fun v=>(Fg (x.2.2.2.2.2.2.2.1,x.2.1,v.1,())).bind fun v=>(BK (x.1,x.2.1,x.2.2.1,x.2.2.2.2.2.2.1,x.2.2.2.2.2.1,())).bind fun f=>some (0,x.2.2.2.1,x.2.2.2.2.1,f.2.1,f.1,v.2.1,x.2.2.2.2.2.2.2.2.1,())else(BK (x.1,x.2.1,x.2.2.1,x.2.2.2.2.2.2.1,x.2.2.2.2.2.1,())).bind fun v=>some (0,x.2.2.2.1,x.2.2.2.2.1,v.2.1,v.1,x.2.2.2.2.2.2.2.1,x.2.2.2.2.2.2.2.2.1,())else bif v.1==1 then x.2.2.2.2.2.2.1[x.1]?.bind fun d=>(GH (x.2.2.2.2.2.2.2.2.1,d.1,c.1,())).bind fun e=>some (v.1,x.2.2.2.1,x.2.2.2.2.1,x.2.2.2.2.2.1,x.2.2.2.2.2.2.1,x.2.2.2.2.2.2.2.1,e.2.1,())else bif v.1 != 0 then(B8 (x.1,v.1,x.2.2.2.1,x.2.2.2.2.1,x.2.2.2.2.2.1,x.2.2.2.2.2.2.1,x.2.2.2.2.2.2.2.1,x.2.2.2.2.2.2.2.2.1,())).bind fun v=>some (v.1,v.2.1,v.2.2.1,v.2.2.2.1,v.2.2.2.2.1,v.2.2.2.2.2.2.2.1,v.2.2.2.2.2.2.2.2.1,())else x.2.2.2.2.2.2.1[x.1]?.bind fun v=>(G6 (v.2.1,())).bind fun v=>bif v.1 then x.2.2.2.2.2.2.1[x.1]?.bind fun v=>(Fg (x.2.2.2.2.2.2.2.1,x.2.1,v.1,())).bind fun v=>(BK (x.1,x.2.1,x.2.2.1,x.2.2.2.2.2.2.1,x.2.2.2.2.2.1,())).bind fun d=>some (0,x.2.2.2.1,x.2.2.2.2.1,d.2.1,d.1,v.2.1,x.2.2.2.2.2.2.2.2.1,())else(BK (x.1,x.2.1,x.2.2.1,x.2.2.2.2.2.2.1,x.2.2.2.2.2.1,())).bind fun v=>some (0,x.2.2.2.1,x.2.2.2.2.1,v.2.1,v.1,x.2.2.2.2.2.2.2.1,x.2.2.2.2.2.2.2.2.1,())
def Vg:Ent:=⟨147,⟨(.ptr 0 0 0 (.ptrI 2 0 (si 2 .nil))),(.cells 6 (.slot .bool (.own 1 (.own 2 (.own 3 (.own 4 (.slot .i .nil)))))) (.tree false 0 (.slice Ae) (.tree false 0 Ad (.lst false A0 (.lst false A0 .nil)))))⟩,⟨(.agg (.slot .i (.const (AV.nils) .nil)) .nil),(.cells 6 (.slot .bool (.own 1 (.own 2 (.own 5 (.own 6 (.slot .i .nil)))))) (.tree false 0 (.slice Ae) (.tree false 1 Ad (.gone (.gone (.lst false A0 (.lst false A0 .nil)))))))⟩,Fs⟩
theorem yl:Ah Go.Proofs.Tryz.prog Vg:=okA (C:=A4r) (hcB (all_cons Qj (all_cons ym (all_cons yJ (all_cons fi (all_cons yA (all_cons eZ (all_cons yz (all_cons yr all_nil))))))))) Go.Proofs.Tryz.func147
def C5 (x:A1×Option A4×Option A3×Unit):Option (Bool×Unit):=x.2.1.bind fun v=>(DD ((v.1,()),x.1.1,())).bind fun v=>v.1.bind fun v=>x.2.2.1.bind fun a=>some (decide (v.2.2.1>a.2.2.2.1),())
def Vf:Ent:=⟨256,⟨(.slot A0 (.slot (.iref Bo) (.slot (.iref Ad) .nil))),.nil⟩,⟨(.slot .bool .nil),.nil⟩,C5⟩
theorem yk:Ah Go.Proofs.Tryz.prog Vf:=okA (hcA 0 (all_cons Tk all_nil)) Go.Proofs.Tryz.func256
abbrev ej:=List A1×(Option A4×Option A3×Unit)×Int×Unit
abbrev eg:=Int×Unit
abbrev eh:=Int×Unit ⊕ Unit
def AM (i:ej)(v:eg)(R:Type)(K:eg ⊕ eh->Option R):Option R:=bif decide (v.1<i.2.2.1)then(lAt i.1 v.1).bind fun a=>(C5 ((a.1,a.2.1,()),i.2.1.1,i.2.1.2.1,())).bind fun b=>bif b.1 then K (.inr (.inl (v.1,())))else K (.inl (IntKind.i64.wrap (v.1+1),()))else K (.inr (.inr ()))
theorem Fz:Bi AM:=fun i v R K=>Af (Ac fun _=>Ac fun _=>Af (Aa) (Aa)) (Aa)
def Td:Tmpl:=⟨(.slot (.slice A0) (.slot (.fn 256 (.prod (.iref Bo) (.prod (.iref Ad) .unit))) (jk 5 (si 2 (jk 10 .nil))))),.nil⟩
def ed:Exs ej eh:=xs .ret (fun i p=>⟨jn 4 (.n (p.1)::jn 14 ([])),[]⟩)<|x1 (.exit 0) fun i p=>⟨jn 19 ([]),[]⟩
def ei:=((.i (.i (.i (.v .n)))):Pk Td.ty _ _)
def sg:Cfg:={ti:=Au,ents:=[Vf],ann:=[(2,Ao Td 0 (spP ei) AM ed.E)],lent:=0}
def Bp (x:List A1×(Option A4×Option A3×Unit)×Unit):Option (Int×Unit):=(AE (fun v=>AM (x.1,x.2.1,(x.1.length:Int),()) v _ some) (0,())).bind fun p=>Az p (fun p=>some (p.1,())) fun p=>some (-1,())
def sf:Ent:=⟨269,⟨(.slot (.slice A0) (.slot (.fn 256 (.prod (.iref Bo) (.prod (.iref Ad) .unit))) .nil)),.nil⟩,⟨(.slot .i .nil),.nil⟩,Bp⟩
theorem ek:CfgOK Go.Proofs.Tryz.prog sg:=hcB (all_cons yk all_nil)
theorem se:B7 Go.Proofs.Tryz.prog sg (lpc Go.Proofs.Tryz.f269 0):=lkA ek Td ei AM ed [4] Fz
theorem yj:Ah Go.Proofs.Tryz.prog sf:=okB ek Go.Proofs.Tryz.func269 se
def Bm (x:List A1×(Option A4×Option A3×Unit)×Unit):Option (Bool×Unit):=(Bp (x.1,x.2.1,())).bind fun v=>some (decide (v.1>=0),())
def sd:Ent:=⟨255,⟨(.slot (.slice A0) (.slot (.fn 256 (.prod (.iref Bo) (.prod (.iref Ad) .unit))) .nil)),.nil⟩,⟨(.slot .bool .nil),.nil⟩,Bm⟩
theorem yi:Ah Go.Proofs.Tryz.prog sd:=okA (hcA 0 (all_cons yj all_nil)) Go.Proofs.Tryz.func255
def Ej (x:A4×A3×Unit):Option (Int×Unit):=(Bm (x.2.1.2.2.2.2.2.2.2.2.1,(some (x.1.1,()),some (x.2.1.1,x.2.1.2.1,x.2.1.2.2.1,x.2.1.2.2.2.1,x.2.1.2.2.2.2.1,x.2.1.2.2.2.2.2.1,x.2.1.2.2.2.2.2.2.1,x.2.1.2.2.2.2.2.2.2.1,x.2.1.2.2.2.2.2.2.2.2.1,()),()),())).bind fun v=>bif !v.1 then some (0,())else bif x.2.1.2.1==2 then some (2,())else bif x.2.1.2.1==4 then some (3,())else some (0,())
def Ve:Ent:=⟨211,⟨(.slot Bo (.slot Ad .nil)),.nil⟩,⟨(.slot .i .nil),.nil⟩,Ej⟩
theorem yh:Ah Go.Proofs.Tryz.prog Ve:=okA (hcA 0 (all_cons yi all_nil)) Go.Proofs.Tryz.func211
abbrev e9:=List A1×Int×List (List A2)×A3
abbrev dV:=Int×Int×Unit
abbrev dX:=Int×Unit
def Cj (i:e9)(v:dV)(R:Type)(K:dV ⊕ dX->Option R):Option R:=bif decide (v.2.1<i.2.1)then(lAt i.1 v.2.1).bind fun a=>K (.inl (mx v.1 a.2.1,IntKind.i64.wrap (v.2.1+1),()))else K (.inr (v.1,()))
theorem Ki:Bi Cj:=fun i v R K=>Af (Ac fun _=>Aa) (Aa)
def Tb:Tmpl:=⟨(jk 2 (.ptr 0 0 0 (.ptr 1 0 0 (.junk (.slot .i (jk 5 (.slot (.slice A0) (si 2 (jk 26 .nil))))))))),(.cells 1 (.slot (.slice (.slice Ae)) .nil) (.cells 9 (si 7 (.slot (.slice A0) (.slot (.slice A0) .nil))) .nil))⟩
def dS:Exs e9 dX:=x1 (.exit 0) fun i p=>⟨jn 2 (AV.ptr 0 none 0 0::AV.ptr 1 none 0 0::jn 1 (.n (p.1)::jn 34 ([]))),[some (Cont.cells 1 [[AV.pv (.slice (.slice Ae)) i.2.2.1]]),some (Cont.cells 9 [[AV.pv .i i.2.2.2.1,AV.pv .i i.2.2.2.2.1,AV.pv .i i.2.2.2.2.2.1,AV.pv .i i.2.2.2.2.2.2.1,AV.pv .i i.2.2.2.2.2.2.2.1,AV.pv .i i.2.2.2.2.2.2.2.2.1,AV.pv .i i.2.2.2.2.2.2.2.2.2.1,AV.pv (.slice A0) i.2.2.2.2.2.2.2.2.2.2.1,AV.pv (.slice A0) i.2.2.2.2.2.2.2.2.2.2.2.1]])]⟩
def dZ:=((.v (.i (.i (.v (.i (.i (.i (.i (.i (.i (.i (.i (.i (.i .n)))))))))))))):Pk Tb.ty _ _)
abbrev e8:=List A1×Int×List (List A2)×Unit
abbrev dU:=Int×Int×Unit
abbrev dW:=Int×Unit
def BL (i:e8)(v:dU)(R:Type)(K:dU ⊕ dW->Option R):Option R:=bif decide (v.2.1<i.2.1)then(lAt i.1 v.2.1).bind fun a=>(DD ((i.2.2.1,()),a.1,())).bind fun b=>b.1.bind fun c=>K (.inl (mx v.1 c.2.2.2.1,IntKind.i64.wrap (v.2.1+1),()))else K (.inr (v.1,()))
theorem Kh:Bi BL:=fun i v R K=>Af (Ac fun _=>Ac fun _=>Ac fun _=>Aa) (Aa)
def Ta:Tmpl:=⟨(jk 2 (.ptr 0 0 0 (jk 2 (.slot .i (jk 17 (.slot (.slice A0) (si 2 (jk 14 .nil)))))))),(.cells 1 (.slot (.slice (.slice Ae)) .nil) .nil)⟩
def dR:Exs e8 dW:=x1 (.exit 2) fun i p=>⟨jn 5 (.n (p.1)::jn 34 ([])),[some (Cont.cells 1 [[AV.pv (.slice (.slice Ae)) i.2.2.1]])]⟩
def dY:=((.v (.i (.i (.v (.i .n))))):Pk Ta.ty _ _)
def Yj:Cfg:={ti:=Au,ents:=[Vy],ann:=[(3,Ao Tb 0 (spP dZ) Cj dS.E),(8,Ao Ta 0 (spP dY) BL dR.E)],lent:=0}
def Ei (x:A4×A3×Unit):Option (Int×Unit):=(AE (fun v=>Cj (x.2.1.2.2.2.2.2.2.2.1,(x.2.1.2.2.2.2.2.2.2.1.length:Int),x.1.1,x.2.1.1,x.2.1.2.1,x.2.1.2.2.1,x.2.1.2.2.2.1,x.2.1.2.2.2.2.1,x.2.1.2.2.2.2.2.1,x.2.1.2.2.2.2.2.2.1,x.2.1.2.2.2.2.2.2.2.1,x.2.1.2.2.2.2.2.2.2.2.1,()) v _ some) (0,0,())).bind fun p=>(AE (fun v=>BL (x.2.1.2.2.2.2.2.2.2.2.1,(x.2.1.2.2.2.2.2.2.2.2.1.length:Int),x.1.1,()) v _ some) (p.1,0,())).bind fun p=>some (p.1,())
def s9:Ent:=⟨257,⟨(.slot Bo (.slot Ad .nil)),.nil⟩,⟨(.slot .i .nil),.nil⟩,Ei⟩
theorem Tc:CfgOK Go.Proofs.Tryz.prog Yj:=hcB (all_cons Tk all_nil)
theorem s7:B7 Go.Proofs.Tryz.prog Yj (lpc Go.Proofs.Tryz.f257 1):=lkA Tc Ta dY BL dR [5] Kh
theorem s8:B7 Go.Proofs.Tryz.prog Yj (lpc Go.Proofs.Tryz.f257 0):=lkA Tc Tb dZ Cj dS [2,3,5] Ki
theorem yg:Ah Go.Proofs.Tryz.prog s9:=okC Tc Go.Proofs.Tryz.func257 s8 s7
abbrev dP:=List A1×Int×List (List A2)×Unit
abbrev dL:=Int×Int×Unit
abbrev dM:=Int×Unit
def C4 (i:dP)(v:dL)(R:Type)(K:dL ⊕ dM->Option R):Option R:=bif decide (v.2.1<i.2.1)then(lAt i.1 v.2.1).bind fun a=>(Ds ((i.2.2.1,()),(a.1,a.2.1,()),())).bind fun b=>b.1.bind fun c=>K (.inl (mn v.1 c.2.2.2.2.1,IntKind.i64.wrap (v.2.1+1),()))else K (.inr (v.1,()))
theorem K0:Bi C4:=fun i v R K=>Af (Ac fun _=>Ac fun _=>Ac fun _=>Aa) (Aa)
def T9:Tmpl:=⟨(jk 2 (.ptr 0 0 0 (jk 2 (.slot .i (jk 3 (.slot (.slice A0) (si 2 (jk 13 .nil)))))))),(.cells 1 (.slot (.slice (.slice Ae)) .nil) .nil)⟩
def dK:Exs dP dM:=x1 (.exit 0) fun i p=>⟨jn 5 (.n (p.1)::jn 19 ([])),[some (Cont.cells 1 [[AV.pv (.slice (.slice Ae)) i.2.2.1]])]⟩
def dN:=((.v (.i (.i (.v (.i .n))))):Pk T9.ty _ _)
def s6:Cfg:={ti:=Au,ents:=[W9],ann:=[(3,Ao T9 0 (spP dN) C4 dK.E)],lent:=0}
def E3 (x:A4×A3×Unit):Option (Int×Unit):=(AE (fun v=>C4 (x.2.1.2.2.2.2.2.2.2.1,(x.2.1.2.2.2.2.2.2.2.1.length:Int),x.1.1,()) v _ some) (1000,0,())).bind fun p=>some (p.1,())
def s5:Ent:=⟨258,⟨(.slot Bo (.slot Ad .nil)),.nil⟩,⟨(.slot .i .nil),.nil⟩,E3⟩
theorem dQ:CfgOK Go.Proofs.Tryz.prog s6:=hcB (all_cons im all_nil)
theorem s4:B7 Go.Proofs.Tryz.prog s6 (lpc Go.Proofs.Tryz.f258 0):=lkA dQ T9 dN C4 dK [5] K0
theorem yf:Ah Go.Proofs.Tryz.prog s5:=okB dQ Go.Proofs.Tryz.func258 s4
def Ey (x:A4×A3×Int×Unit):Option A1:=(Ei ((x.1.1,()),(x.2.1.1,x.2.1.2.1,x.2.1.2.2.1,x.2.1.2.2.2.1,x.2.1.2.2.2.2.1,x.2.1.2.2.2.2.2.1,x.2.1.2.2.2.2.2.2.1,x.2.1.2.2.2.2.2.2.2.1,x.2.1.2.2.2.2.2.2.2.2.1,()),())).bind fun v=>(E3 ((x.1.1,()),(x.2.1.1,x.2.1.2.1,x.2.1.2.2.1,x.2.1.2.2.2.1,x.2.1.2.2.2.2.1,x.2.1.2.2.2.2.2.1,x.2.1.2.2.2.2.2.2.1,x.2.1.2.2.2.2.2.2.2.1,x.2.1.2.2.2.2.2.2.2.2.1,()),())).bind fun a=>some (mx x.2.1.2.2.2.2.1 v.1,mn (mn x.2.1.2.2.2.2.2.1 a.1) x.2.2.1,())
def Qy:Ent:=⟨212,⟨(.slot Bo (.slot Ad (.slot .i .nil))),.nil⟩,⟨(si 2 .nil),.nil⟩,Ey⟩
theorem dJ:Ah Go.Proofs.Tryz.prog Qy:=okA (hcA 0 (all_cons yg (all_cons yf all_nil))) Go.Proofs.Tryz.func212
def CR (x:A1×Option A4×Unit):Option (Bool×Unit):=x.2.1.bind fun v=>(lAt v.1 x.1.1).bind fun v=>some ((v.length:Int)==50,())
def Vd:Ent:=⟨259,⟨(.slot A0 (.slot (.iref Bo) .nil)),.nil⟩,⟨(.slot .bool .nil),.nil⟩,CR⟩
theorem ye:Ah Go.Proofs.Tryz.prog Vd:=okA (hcA 0 all_nil) Go.Proofs.Tryz.func259
abbrev dH:=List A1×(Option A4×Unit)×Int×Unit
abbrev dE:=Int×Unit
abbrev dF:=Int×Unit ⊕ Unit
def AP (i:dH)(v:dE)(R:Type)(K:dE ⊕ dF->Option R):Option R:=bif decide (v.1<i.2.2.1)then(lAt i.1 v.1).bind fun a=>(CR ((a.1,a.2.1,()),i.2.1.1,())).bind fun b=>bif b.1 then K (.inr (.inl (v.1,())))else K (.inl (IntKind.i64.wrap (v.1+1),()))else K (.inr (.inr ()))
theorem GC:Bi AP:=fun i v R K=>Af (Ac fun _=>Ac fun _=>Af (Aa) (Aa)) (Aa)
def T8:Tmpl:=⟨(.slot (.slice A0) (.slot (.fn 259 (.prod (.iref Bo) .unit)) (jk 5 (si 2 (jk 10 .nil))))),.nil⟩
def dD:Exs dH dF:=xs .ret (fun i p=>⟨jn 4 (.n (p.1)::jn 14 ([])),[]⟩)<|x1 (.exit 0) fun i p=>⟨jn 19 ([]),[]⟩
def dG:=((.i (.i (.i (.v .n)))):Pk T8.ty _ _)
def s3:Cfg:={ti:=Au,ents:=[Vd],ann:=[(2,Ao T8 0 (spP dG) AP dD.E)],lent:=0}
def BA (x:List A1×(Option A4×Unit)×Unit):Option (Int×Unit):=(AE (fun v=>AP (x.1,x.2.1,(x.1.length:Int),()) v _ some) (0,())).bind fun p=>Az p (fun p=>some (p.1,())) fun p=>some (-1,())
def rZ:Ent:=⟨269,⟨(.slot (.slice A0) (.slot (.fn 259 (.prod (.iref Bo) .unit)) .nil)),.nil⟩,⟨(.slot .i .nil),.nil⟩,BA⟩
theorem dI:CfgOK Go.Proofs.Tryz.prog s3:=hcB (all_cons ye all_nil)
theorem rY:B7 Go.Proofs.Tryz.prog s3 (lpc Go.Proofs.Tryz.f269 0):=lkA dI T8 dG AP dD [4] GC
theorem yd:Ah Go.Proofs.Tryz.prog rZ:=okB dI Go.Proofs.Tryz.func269 rY
def Bt (x:List A1×(Option A4×Unit)×Unit):Option (Bool×Unit):=(BA (x.1,x.2.1,())).bind fun v=>some (decide (v.1>=0),())
def rX:Ent:=⟨255,⟨(.slot (.slice A0) (.slot (.fn 259 (.prod (.iref Bo) .unit)) .nil)),.nil⟩,⟨(.slot .bool .nil),.nil⟩,Bt⟩
theorem yc:Ah Go.Proofs.Tryz.prog rX:=okA (hcA 0 (all_cons yd all_nil)) Go.Proofs.Tryz.func255
def Ez (x:A4×A3×Unit):Option (Bool×Unit):=(Bt (x.2.1.2.2.2.2.2.2.2.2.1,(some (x.1.1,()),()),())).bind fun v=>some (v.1,())
def Vc:Ent:=⟨213,⟨(.slot Bo (.slot Ad .nil)),.nil⟩,⟨(.slot .bool .nil),.nil⟩,Ez⟩
theorem yb:Ah Go.Proofs.Tryz.prog Vc:=okA (hcA 0 (all_cons yc all_nil)) Go.Proofs.Tryz.func213
def Gr (x:Int×Int×List (List A2)×Unit):Option (Option (Nat×Nat)×List (List A2)×Unit):=if 0<=x.1/\x.1<(x.2.2.1.length:Int)then x.2.2.1[0+x.1.toNat]?.bind fun v=>x.2.2.1[0+x.1.toNat]?.bind fun v=>(Ff (v,x.2.1,())).bind fun v=>bif decide (v.1<0)then some (none,x.2.2.1,())else x.2.2.1[0+x.1.toNat]?.bind fun a=>if 0<=v.1/\v.1<(a.length:Int)then some (some (0+x.1.toNat,0+v.1.toNat),x.2.2.1,())else none else none
def Vb:Ent:=⟨236,⟨(.agg (.own 0 .nil) (.agg (si 2 .nil) .nil)),(.tree false 0 (.slice Ae) .nil)⟩,⟨(.mptr 0 0 0 .nil),(.tree false 0 (.slice Ae) .nil)⟩,Gr⟩
theorem ya:Ah Go.Proofs.Tryz.prog Vb:=okA (hcA 1 (all_cons io all_nil)) Go.Proofs.Tryz.func236
abbrev dC:=Nat×Int×Nat×Int×Bool×Int×A8
abbrev dw:=Int×List (List A2)×Unit
abbrev dy:=List (List A2)×Unit
def Cb (i:dC)(v:dw)(R:Type)(K:dw ⊕ dy->Option R):Option R:=bif decide (v.1<i.2.2.2.1)then i.2.2.2.2.2.2.1[i.2.2.1]?.bind fun a=>if 0<=v.1/\v.1<(a.2.2.2.2.2.2.2.1.length:Int)then i.2.2.2.2.2.2.1[i.2.2.1]?.bind fun b=>b.2.2.2.2.2.2.2.1[0+v.1.toNat]?.bind fun c=>(Gr (c.1,c.2.1,v.2.1,())).bind fun d=>d.1.bind fun e=>d.2.1[e.1]?.bind fun f=>f[e.2]?.bind fun g=>d.1.bind fun h=>d.2.1[h.1]?.bind fun j=>j[h.2]?.bind fun k=>K (.inl (IntKind.i64.wrap (v.1+1),d.2.1.set h.1 (j.set h.2 (k.1,k.2.1,k.2.2.1,mx g.2.2.2.1 i.2.1,k.2.2.2.2.1,())),()))else none else K (.inr (v.2.1,()))
theorem KR:Bi Cb:=fun i v R K=>Af (Ac fun _=>Ay (Ac fun _=>Ac fun _=>Ac fun _=>Ac fun _=>Ac fun _=>Ac fun _=>Ac fun _=>Ac fun _=>Ac fun _=>Aa)) (Aa)
def T6:Tmpl:=⟨(.ptr 0 0 1 (.ptrI 2 0 (.slot .i (jk 35 (.nown 2 7 (si 2 (jk 66 .nil))))))),(.cells 6 (.slot .bool (.own 1 (.own 2 (.own 3 (.own 4 (.slot .i .nil)))))) (.tree false 0 (.slice Ae) (.tree false 1 Ad (.lst false A0 (.lst false A0 .nil)))))⟩
def du:Exs dC dy:=x1 (.exit 0) fun i p=>⟨AV.ptr 0 none 0 1::AV.ptr 2 none i.1 0::.n (i.2.1)::jn 104 ([]),[some (Cont.cells 6 [[AV.pv .bool i.2.2.2.2.1,AV.own 1 none none,AV.own 2 none none,AV.own 3 none none,AV.own 4 none none,AV.pv .i i.2.2.2.2.2.1]]),some (Cont.tree false 0 (.slice Ae) p.1 none),some (Cont.tree false 1 Ad i.2.2.2.2.2.2.1 none),some (Cont.lst false A0 i.2.2.2.2.2.2.2.1),some (Cont.lst false A0 i.2.2.2.2.2.2.2.2.1)]⟩
def dA:=((.i (.i (.i (.i (.v (.i (.i (.v (.i (.i (.i .n))))))))))):Pk T6.ty _ _)
abbrev dB:=Nat×Int×Nat×Int×Bool×Int×A8
abbrev dv:=Int×List (List A2)×Unit
abbrev dx:=List (List A2)×Unit
def Ca (i:dB)(v:dv)(R:Type)(K:dv ⊕ dx->Option R):Option R:=bif decide (v.1<i.2.2.2.1)then i.2.2.2.2.2.2.1[i.2.2.1]?.bind fun a=>if 0<=v.1/\v.1<(a.2.2.2.2.2.2.2.2.1.length:Int)then i.2.2.2.2.2.2.1[i.2.2.1]?.bind fun b=>b.2.2.2.2.2.2.2.2.1[0+v.1.toNat]?.bind fun c=>(BS (c.1,v.2.1,())).bind fun d=>i.2.2.2.2.2.2.1[i.1]?.bind fun e=>d.1.bind fun f=>d.2.1[f.1]?.bind fun g=>g[f.2]?.bind fun h=>if 0<=c.1/\c.1<(↑((d.2.1.set f.1 (g.set f.2 (h.1,h.2.1,h.2.2.1,h.2.2.2.1,e.2.2.2.2.2.1,()))).length):Int)then(d.2.1.set f.1 (g.set f.2 (h.1,h.2.1,h.2.2.1,h.2.2.2.1,e.2.2.2.2.2.1,())))[0+c.1.toNat]?.bind fun j=>i.2.2.2.2.2.2.1[i.1]?.bind fun k=>(d.2.1.set f.1 (g.set f.2 (h.1,h.2.1,h.2.2.1,h.2.2.2.1,e.2.2.2.2.2.1,())))[0+c.1.toNat]?.bind fun l=>if(l++[(k.1,c.2.1,i.2.1,i.2.1,1000,())]).length<=879609302220 then if 0<=c.1/\c.1<(↑((d.2.1.set f.1 (g.set f.2 (h.1,h.2.1,h.2.2.1,h.2.2.2.1,e.2.2.2.2.2.1,()))).length):Int)then(d.2.1.set f.1 (g.set f.2 (h.1,h.2.1,h.2.2.1,h.2.2.2.1,e.2.2.2.2.2.1,())))[0+c.1.toNat]?.bind fun m=>if 1<=1/\true=true/\0+c.1.toNat=0+c.1.toNat/\0<=0/\0<1 then K (.inl (IntKind.i64.wrap (v.1+1),(d.2.1.set f.1 (g.set f.2 (h.1,h.2.1,h.2.2.1,h.2.2.2.1,e.2.2.2.2.2.1,()))).set (0+c.1.toNat) (l++[(k.1,c.2.1,i.2.1,i.2.1,1000,())]),()))else none else none else none else none else none else K (.inr (v.2.1,()))
theorem KQ:Bi Ca:=fun i v R K=>Af (Ac fun _=>Ay (Ac fun _=>Ac fun _=>Ac fun _=>Ac fun _=>Ac fun _=>Ac fun _=>Ac fun _=>Ay (Ac fun _=>Ac fun _=>Ac fun _=>Ay (Ay (Ac fun _=>Ay (Aa)))))) (Aa)
def T5:Tmpl:=⟨(.ptr 0 0 1 (.ptrI 2 0 (.slot .i (jk 59 (.nown 2 8 (si 2 (jk 42 .nil))))))),(.cells 6 (.slot .bool (.own 1 (.own 2 (.own 3 (.own 4 (.slot .i .nil)))))) (.tree false 1 (.slice Ae) (.tree false 1 Ad (.lst false A0 (.lst false A0 .nil)))))⟩
def dt:Exs dB dx:=x1 (.exit 2) fun i p=>⟨jn 107 ([]),[some (Cont.cells 6 [[AV.pv .bool i.2.2.2.2.1,AV.own 1 none none,AV.own 2 none none,AV.own 3 none none,AV.own 4 none none,AV.pv .i i.2.2.2.2.2.1]]),some (Cont.tree false 1 (.slice Ae) p.1 none),some (Cont.tree false 1 Ad i.2.2.2.2.2.2.1 none),some (Cont.lst false A0 i.2.2.2.2.2.2.2.1),some (Cont.lst false A0 i.2.2.2.2.2.2.2.2.1)]⟩
def dz:=((.i (.i (.i (.i (.v (.i (.i (.v (.i (.i (.i .n))))))))))):Pk T5.ty _ _)
def Yh:Cfg:={ti:=Au,ents:=[Vb,Qz,Qy],ann:=[(3,Ao T6 5 (spP dA) Cb du.E),(9,Ao T5 5 (spP dz) Ca dt.E)],lent:=5,hid:=[((0,1),[2]),((0,12),[2]),((12,0),[1]),((12,1),[1]),((12,2),[1]),((12,3),[1]),((12,4),[1]),((12,5),[1])]}
def DL (x:Nat×Int×Bool×Int×A7):Option (Bool×Int×A7):=x.2.2.2.2.2.1[x.1]?.bind fun v=>x.2.2.2.2.2.1[x.1]?.bind fun a=>x.2.2.2.2.2.1[x.1]?.bind fun b=>(Ey ((x.2.2.2.2.1,()),(v.1,v.2.1,v.2.2.1,v.2.2.2.1,v.2.2.2.2.1,v.2.2.2.2.2.1,v.2.2.2.2.2.2.1,a.2.2.2.2.2.2.2.1,b.2.2.2.2.2.2.2.2.1,()),x.2.1,())).bind fun v=>x.2.2.2.2.2.1[x.1]?.bind fun c=>(x.2.2.2.2.2.1.set x.1 (c.1,c.2.1,c.2.2.1,c.2.2.2.1,v.1,c.2.2.2.2.2.1,c.2.2.2.2.2.2.1,c.2.2.2.2.2.2.2.1,c.2.2.2.2.2.2.2.2.1,()))[x.1]?.bind fun d=>((x.2.2.2.2.2.1.set x.1 (c.1,c.2.1,c.2.2.1,c.2.2.2.1,v.1,c.2.2.2.2.2.1,c.2.2.2.2.2.2.1,c.2.2.2.2.2.2.2.1,c.2.2.2.2.2.2.2.2.1,())).set x.1 (d.1,d.2.1,d.2.2.1,d.2.2.2.1,d.2.2.2.2.1,v.2.1,d.2.2.2.2.2.2.1,d.2.2.2.2.2.2.2.1,d.2.2.2.2.2.2.2.2.1,()))[x.1]?.bind fun e=>(((x.2.2.2.2.2.1.set x.1 (c.1,c.2.1,c.2.2.1,c.2.2.2.1,v.1,c.2.2.2.2.2.1,c.2.2.2.2.2.2.1,c.2.2.2.2.2.2.2.1,c.2.2.2.2.2.2.2.2.1,())).set x.1 (d.1,d.2.1,d.2.2.1,d.2.2.2.1,d.2.2.2.2.1,v.2.1,d.2.2.2.2.2.2.1,d.2.2.2.2.2.2.2.1,d.2.2.2.2.2.2.2.2.1,())).set x.1 (e.1,e.2.1,2,e.2.2.2.1,e.2.2.2.2.1,e.2.2.2.2.2.1,e.2.2.2.2.2.2.1,e.2.2.2.2.2.2.2.1,e.2.2.2.2.2.2.2.2.1,()))[x.1]?.bind fun f=>((((x.2.2.2.2.2.1.set x.1 (c.1,c.2.1,c.2.2.1,c.2.2.2.1,v.1,c.2.2.2.2.2.1,c.2.2.2.2.2.2.1,c.2.2.2.2.2.2.2.1,c.2.2.2.2.2.2.2.2.1,())).set x.1 (d.1,d.2.1,d.2.2.1,d.2.2.2.1,d.2.2.2.2.1,v.2.1,d.2.2.2.2.2.2.1,d.2.2.2.2.2.2.2.1,d.2.2.2.2.2.2.2.2.1,())).set x.1 (e.1,e.2.1,2,e.2.2.2.1,e.2.2.2.2.1,e.2.2.2.2.2.1,e.2.2.2.2.2.2.1,e.2.2.2.2.2.2.2.1,e.2.2.2.2.2.2.2.2.1,())).set x.1 (f.1,f.2.1,f.2.2.1,f.2.2.2.1,f.2.2.2.2.1,f.2.2.2.2.2.1,x.2.1,f.2.2.2.2.2.2.2.1,f.2.2.2.2.2.2.2.2.1,()))[x.1]?.bind fun g=>((((x.2.2.2.2.2.1.set x.1 (c.1,c.2.1,c.2.2.1,c.2.2.2.1,v.1,c.2.2.2.2.2.1,c.2.2.2.2.2.2.1,c.2.2.2.2.2.2.2.1,c.2.2.2.2.2.2.2.2.1,())).set x.1 (d.1,d.2.1,d.2.2.1,d.2.2.2.1,d.2.2.2.2.1,v.2.1,d.2.2.2.2.2.2.1,d.2.2.2.2.2.2.2.1,d.2.2.2.2.2.2.2.2.1,())).set x.1 (e.1,e.2.1,2,e.2.2.2.1,e.2.2.2.2.1,e.2.2.2.2.2.1,e.2.2.2.2.2.2.1,e.2.2.2.2.2.2.2.1,e.2.2.2.2.2.2.2.2.1,())).set x.1 (f.1,f.2.1,f.2.2.1,f.2.2.2.1,f.2.2.2.2.1,f.2.2.2.2.2.1,x.2.1,f.2.2.2.2.2.2.2.1,f.2.2.2.2.2.2.2.2.1,()))[x.1]?.bind fun h=>(AE (fun j=>Cb (x.1,x.2.1,x.1,(h.2.2.2.2.2.2.2.1.length:Int),x.2.2.1,x.2.2.2.1,(((x.2.2.2.2.2.1.set x.1 (c.1,c.2.1,c.2.2.1,c.2.2.2.1,v.1,c.2.2.2.2.2.1,c.2.2.2.2.2.2.1,c.2.2.2.2.2.2.2.1,c.2.2.2.2.2.2.2.2.1,())).set x.1 (d.1,d.2.1,d.2.2.1,d.2.2.2.1,d.2.2.2.2.1,v.2.1,d.2.2.2.2.2.2.1,d.2.2.2.2.2.2.2.1,d.2.2.2.2.2.2.2.2.1,())).set x.1 (e.1,e.2.1,2,e.2.2.2.1,e.2.2.2.2.1,e.2.2.2.2.2.1,e.2.2.2.2.2.2.1,e.2.2.2.2.2.2.2.1,e.2.2.2.2.2.2.2.2.1,())).set x.1 (f.1,f.2.1,f.2.2.1,f.2.2.2.1,f.2.2.2.2.1,f.2.2.2.2.2.1,x.2.1,f.2.2.2.2.2.2.2.1,f.2.2.2.2.2.2.2.2.1,()),x.2.2.2.2.2.2.1,x.2.2.2.2.2.2.2.1,()) j _ some) (0,x.2.2.2.2.1,())).bind fun p=>((((x.2.2.2.2.2.1.set x.1 (c.1,c.2.1,c.2.2.1,c.2.2.2.1,v.1,c.2.2.2.2.2.1,c.2.2.2.2.2.2.1,c.2.2.2.2.2.2.2.1,c.2.2.2.2.2.2.2.2.1,())).set x.1 (d.1,d.2.1,d.2.2.1,d.2.2.2.1,d.2.2.2.2.1,v.2.1,d.2.2.2.2.2.2.1,d.2.2.2.2.2.2.2.1,d.2.2.2.2.2.2.2.2.1,())).set x.1 (e.1,e.2.1,2,e.2.2.2.1,e.2.2.2.2.1,e.2.2.2.2.2.1,e.2.2.2.2.2.2.1,e.2.2.2.2.2.2.2.1,e.2.2.2.2.2.2.2.2.1,())).set x.1 (f.1,f.2.1,f.2.2.1,f.2.2.2.1,f.2.2.2.2.1,f.2.2.2.2.2.1,x.2.1,f.2.2.2.2.2.2.2.1,f.2.2.2.2.2.2.2.2.1,()))[x.1]?.bind fun j=>((((x.2.2.2.2.2.1.set x.1 (c.1,c.2.1,c.2.2.1,c.2.2.2.1,v.1,c.2.2.2.2.2.1,c.2.2.2.2.2.2.1,c.2.2.2.2.2.2.2.1,c.2.2.2.2.2.2.2.2.1,())).set x.1 (d.1,d.2.1,d.2.2.1,d.2.2.2.1,d.2.2.2.2.1,v.2.1,d.2.2.2.2.2.2.1,d.2.2.2.2.2.2.2.1,d.2.2.2.2.2.2.2.2.1,())).set x.1 (e.1,e.2.1,2,e.2.2.2.1,e.2.2.2.2.1,e.2.2.2.2.2.1,e.2.2.2.2.2.2.1,e.2.2.2.2.2.2.2.1,e.2.2.2.2.2.2.2.2.1,())).set x.1 (f.1,f.2.1,f.2.2.1,f.2.2.2.1,f.2.2.2.2.1,f.2.2.2.2.2.1,x.2.1,f.2.2.2.2.2.2.2.1,f.2.2.2.2.2.2.2.2.1,()))[x.1]?.bind fun k=>(AE (fun l=>Ca (x.1,x.2.1,x.1,(k.2.2.2.2.2.2.2.2.1.length:Int),x.2.2.1,x.2.2.2.1,(((x.2.2.2.2.2.1.set x.1 (c.1,c.2.1,c.2.2.1,c.2.2.2.1,v.1,c.2.2.2.2.2.1,c.2.2.2.2.2.2.1,c.2.2.2.2.2.2.2.1,c.2.2.2.2.2.2.2.2.1,())).set x.1 (d.1,d.2.1,d.2.2.1,d.2.2.2.1,d.2.2.2.2.1,v.2.1,d.2.2.2.2.2.2.1,d.2.2.2.2.2.2.2.1,d.2.2.2.2.2.2.2.2.1,())).set x.1 (e.1,e.2.1,2,e.2.2.2.1,e.2.2.2.2.1,e.2.2.2.2.2.1,e.2.2.2.2.2.2.1,e.2.2.2.2.2.2.2.1,e.2.2.2.2.2.2.2.2.1,())).set x.1 (f.1,f.2.1,f.2.2.1,f.2.2.2.1,f.2.2.2.2.1,f.2.2.2.2.2.1,x.2.1,f.2.2.2.2.2.2.2.1,f.2.2.2.2.2.2.2.2.1,()),x.2.2.2.2.2.2.1,x.2.2.2.2.2.2.2.1,()) l _ some) (0,p.1,())).bind fun p=>some (x.2.2.1,x.2.2.2.1,p.1,(((x.2.2.2.2.2.1.set x.1 (c.1,c.2.1,c.2.2.1,c.2.2.2.1,v.1,c.2.2.2.2.2.1,c.2.2.2.2.2.2.1,c.2.2.2.2.2.2.2.1,c.2.2.2.2.2.2.2.2.1,())).set x.1 (d.1,d.2.1,d.2.2.1,d.2.2.2.1,d.2.2.2.2.1,v.2.1,d.2.2.2.2.2.2.1,d.2.2.2.2.2.2.2.1,d.2.2.2.2.2.2.2.2.1,())).set x.1 (e.1,e.2.1,2,e.2.2.2.1,e.2.2.2.2.1,e.2.2.2.2.2.1,e.2.2.2.2.2.2.1,e.2.2.2.2.2.2.2.1,e.2.2.2.2.2.2.2.2.1,())).set x.1 (f.1,f.2.1,f.2.2.1,f.2.2.2.1,f.2.2.2.2.1,f.2.2.2.2.2.1,x.2.1,f.2.2.2.2.2.2.2.1,f.2.2.2.2.2.2.2.2.1,()),x.2.2.2.2.2.2.1,x.2.2.2.2.2.2.2.1,())
def Va:Ent:=⟨214,⟨(.ptr 0 0 1 (.ptrI 2 0 (.slot .i .nil))),(.cells 6 (.slot .bool (.own 1 (.own 2 (.own 3 (.own 4 (.slot .i .nil)))))) (.tree false 0 (.slice Ae) (.tree false 0 Ad (.lst false A0 (.lst false A0 .nil)))))⟩,⟨.nil,(.cells 6 (.slot .bool (.own 1 (.own 2 (.own 3 (.own 4 (.slot .i .nil)))))) (.tree false 1 (.slice Ae) (.tree false 1 Ad (.lst false A0 (.lst false A0 .nil)))))⟩,DL⟩
theorem T7:CfgOK Go.Proofs.Tryz.prog Yh:=hcB (all_cons ya (all_cons eo (all_cons dJ all_nil)))
theorem rN:B7 Go.Proofs.Tryz.prog Yh (lpc Go.Proofs.Tryz.f214 1):=lkA T7 T5 dz Ca dt [] KQ
theorem rO:B7 Go.Proofs.Tryz.prog Yh (lpc Go.Proofs.Tryz.f214 0):=lkA T7 T6 dA Cb du [0,1,2] KR
theorem y7:Ah Go.Proofs.Tryz.prog Va:=okC T7 Go.Proofs.Tryz.func214 rO rN
def A4m:Cfg:={ti:=Au,ents:=[N0,Va,VH,Ve,Qy,Vc],ann:=[],lent:=5,pre:=[(some (0,3)),(some (0,4))]}
def EL (x:Nat×Bool×Int×A7):Option (Int×Bool×Int×A7):=x.2.2.2.2.1[x.1]?.bind fun v=>x.2.2.2.2.1[x.1]?.bind fun a=>x.2.2.2.2.1[x.1]?.bind fun b=>(Ej ((x.2.2.2.1,()),(v.1,v.2.1,v.2.2.1,v.2.2.2.1,v.2.2.2.2.1,v.2.2.2.2.2.1,v.2.2.2.2.2.2.1,a.2.2.2.2.2.2.2.1,b.2.2.2.2.2.2.2.2.1,()),())).bind fun v=>bif v.1 != 0 then(B8 (x.1,v.1,x.2.1,x.2.2.1,x.2.2.2.1,x.2.2.2.2.1,x.2.2.2.2.2.1,x.2.2.2.2.2.2.1,())).bind fun v=>some (v.1,v.2.1,v.2.2.1,v.2.2.2.1,v.2.2.2.2.1,v.2.2.2.2.2.2.2.1,v.2.2.2.2.2.2.2.2.1,())else bif x.2.2.1==999 then some (6,x.2.1,x.2.2.1,x.2.2.2.1,x.2.2.2.2.1,x.2.2.2.2.2.1,x.2.2.2.2.2.2.1,())else x.2.2.2.2.1[x.1]?.bind fun v=>x.2.2.2.2.1[x.1]?.bind fun c=>x.2.2.2.2.1[x.1]?.bind fun d=>(Ey ((x.2.2.2.1,()),(v.1,v.2.1,v.2.2.1,v.2.2.2.1,v.2.2.2.2.1,v.2.2.2.2.2.1,v.2.2.2.2.2.2.1,c.2.2.2.2.2.2.2.1,d.2.2.2.2.2.2.2.2.1,()),IntKind.i64.wrap (x.2.2.1+1),())).bind fun v=>bif x.2.1 then bif decide (v.1>=v.2.1)then(B8 (x.1,5,x.2.1,x.2.2.1,x.2.2.2.1,x.2.2.2.2.1,x.2.2.2.2.2.1,x.2.2.2.2.2.2.1,())).bind fun v=>some (v.1,v.2.1,v.2.2.1,v.2.2.2.1,v.2.2.2.2.1,v.2.2.2.2.2.2.2.1,v.2.2.2.2.2.2.2.2.1,())else x.2.2.2.2.1[x.1]?.bind fun v=>x.2.2.2.2.1[x.1]?.bind fun e=>x.2.2.2.2.1[x.1]?.bind fun f=>(Ez ((x.2.2.2.1,()),(v.1,v.2.1,v.2.2.1,v.2.2.2.1,v.2.2.2.2.1,v.2.2.2.2.2.1,v.2.2.2.2.2.2.1,e.2.2.2.2.2.2.2.1,f.2.2.2.2.2.2.2.2.1,()),())).bind fun v=>bif v.1 then(B8 (x.1,5,x.2.1,x.2.2.1,x.2.2.2.1,x.2.2.2.2.1,x.2.2.2.2.2.1,x.2.2.2.2.2.2.1,())).bind fun v=>some (v.1,v.2.1,v.2.2.1,v.2.2.2.1,v.2.2.2.2.1,v.2.2.2.2.2.2.2.1,v.2.2.2.2.2.2.2.2.1,())else(DL (x.1,IntKind.i64.wrap (x.2.2.1+1),x.2.1,IntKind.i64.wrap (x.2.2.1+1),x.2.2.2.1,x.2.2.2.2.1,x.2.2.2.2.2.1,x.2.2.2.2.2.2.1,())).bind fun v=>(DE (x.1,v.1,v.2.1,v.2.2.1,v.2.2.2.1,v.2.2.2.2.1,v.2.2.2.2.2.1,())).bind fun v=>some (0,v.1,v.2.1,v.2.2.1,v.2.2.2.1,v.2.2.2.2.2.2.1,v.2.2.2.2.2.2.2.1,())else x.2.2.2.2.1[x.1]?.bind fun v=>x.2.2.2.2.1[x.1]?.bind fun e=>x.2.2.2.2.1[x.1]?.bind fun f=>(Ez ((x.2.2.2.1,()),(v.1,v.2.1,v.2.2.1,v.2.2.2.1,v.2.2.2.2.1,v.2.2.2.2.2.1,v.2.2.2.2.2.2.1,e.2.2.2.2.2.2.2.1,f.2.2.2.2.2.2.2.2.1,()),())).bind fun v=>bif v.1 then(B8 (x.1,5,x.2.1,x.2.2.1,x.2.2.2.1,x.2.2.2.2.1,x.2.2.2.2.2.1,x.2.2.2.2.2.2.1,())).bind fun v=>some (v.1,v.2.1,v.2.2.1,v.2.2.2.1,v.2.2.2.2.1,v.2.2.2.2.2.2.2.1,v.2.2.2.2.2.2.2.2.1,())else(DL (x.1,IntKind.i64.wrap (x.2.2.1+1),x.2.1,IntKind.i64.wrap (x.2.2.1+1),x.2.2.2.1,x.2.2.2.2.1,x.2.2.2.2.2.1,x.2.2.2.2.2.2.1,())).bind fun v=>(DE (x.1,v.1,v.2.1,v.2.2.1,v.2.2.2.1,v.2.2.2.2.1,v.2.2.2.2.2.1,())).bind fun v=>some (0,v.1,v.2.1,v.2.2.1,v.2.2.2.1,v.2.2.2.2.2.2.1,v.2.2.2.2.2.2.2.1,())
def V9:Ent:=⟨148,⟨(.ptr 0 0 0 (.ptrI 2 0 .nil)),(.cells 6 (.slot .bool (.own 1 (.own 2 (.own 3 (.own 4 (.slot .i .nil)))))) (.tree false 0 (.slice Ae) (.tree false 0 Ad (.lst false A0 (.lst false A0 .nil)))))⟩,⟨(.agg (.slot .i (.const (AV.nils) .nil)) .nil),(.cells 6 (.slot .bool (.own 1 (.own 2 (.own 5 (.own 6 (.slot .i .nil)))))) (.tree false 1 (.slice Ae) (.tree false 1 Ad (.gone (.gone (.lst false A0 (.lst false A0 .nil)))))))⟩,EL⟩
theorem y6:Ah Go.Proofs.Tryz.prog V9:=okA (C:=A4m) (hcB (all_cons Qj (all_cons y7 (all_cons fK (all_cons yh (all_cons dJ (all_cons yb all_nil))))))) Go.Proofs.Tryz.func148
def A4l:Cfg:={ti:=Au,ents:=[VS,VQ,VB,Vg,V9,N0,W4,W5,Sk],ann:=[],lent:=5,pre:=[(some (0,2)),(some (0,3)),(some (0,4))]}
def G8 (x:Int×Int×Int×Int×Int×Int×Bool×Int×A7):Option (Int×Bool×Int×List (List A2)×List A3×List A1×List A1×List Int×Unit):=bif x.1==1 then(Ft (x.1,x.2.1,x.2.2.1,x.2.2.2.1,x.2.2.2.2.1,x.2.2.2.2.2.1,x.2.2.2.2.2.2.1,x.2.2.2.2.2.2.2.1,x.2.2.2.2.2.2.2.2.1,x.2.2.2.2.2.2.2.2.2.1,x.2.2.2.2.2.2.2.2.2.2.1,x.2.2.2.2.2.2.2.2.2.2.2.1,())).bind fun v=>some (v.1,v.2.1,v.2.2.1,v.2.2.2.1,v.2.2.2.2.2.2.1,v.2.2.2.2.1,v.2.2.2.2.2.1,[],())else(Cc ((x.2.2.2.2.2.2.1,(x.2.2.2.2.2.2.2.2.1,()),x.2.2.2.2.2.2.2.2.2.1,x.2.2.2.2.2.2.2.2.2.2.1,x.2.2.2.2.2.2.2.2.2.2.2.1,x.2.2.2.2.2.2.2.1,()),x.2.1,())).bind fun v=>bif !v.1 then some (6,x.2.2.2.2.2.2.1,x.2.2.2.2.2.2.2.1,x.2.2.2.2.2.2.2.2.1,x.2.2.2.2.2.2.2.2.2.1,x.2.2.2.2.2.2.2.2.2.2.1,x.2.2.2.2.2.2.2.2.2.2.2.1,[],())else(Dt ((x.2.2.2.2.2.2.1,(x.2.2.2.2.2.2.2.2.1,()),x.2.2.2.2.2.2.2.2.2.1,x.2.2.2.2.2.2.2.2.2.2.1,x.2.2.2.2.2.2.2.2.2.2.2.1,x.2.2.2.2.2.2.2.1,()),x.2.1,())).bind fun v=>if 0<=v.1/\v.1<(x.2.2.2.2.2.2.2.2.2.1.length:Int)then(BI (x.2.2.2.2.2.2.2.2.2.2.2.1,())).bind fun a=>(BP (a.1,x.1,x.2.1,x.2.2.1,x.2.2.2.1,x.2.2.2.2.1,x.2.2.2.2.2.1,())).bind fun b=>bif b.1==2 then(G9 (0+v.1.toNat,b.2.2.2.1,b.2.2.2.1,x.2.2.2.2.2.2.1,x.2.2.2.2.2.2.2.1,x.2.2.2.2.2.2.2.2.1,x.2.2.2.2.2.2.2.2.2.1,x.2.2.2.2.2.2.2.2.2.2.1,b.2.2.2.2.2.2.1,())).bind fun v=>some (v.1,v.2.1,v.2.2.1,v.2.2.2.1,v.2.2.2.2.1,v.2.2.2.2.2.1,v.2.2.2.2.2.2.1,v.2.2.2.2.2.2.2.1,())else bif b.1==4 then(G9 (0+v.1.toNat,b.2.2.2.1,b.2.2.2.2.1,x.2.2.2.2.2.2.1,x.2.2.2.2.2.2.2.1,x.2.2.2.2.2.2.2.2.1,x.2.2.2.2.2.2.2.2.2.1,x.2.2.2.2.2.2.2.2.2.2.1,b.2.2.2.2.2.2.1,())).bind fun v=>some (v.1,v.2.1,v.2.2.1,v.2.2.2.1,v.2.2.2.2.1,v.2.2.2.2.2.1,v.2.2.2.2.2.2.1,v.2.2.2.2.2.2.2.1,())else bif b.1==3 then(Fs (0+v.1.toNat,b.2.2.2.1,b.2.2.2.2.2.1,x.2.2.2.2.2.2.1,x.2.2.2.2.2.2.2.1,x.2.2.2.2.2.2.2.2.1,x.2.2.2.2.2.2.2.2.2.1,x.2.2.2.2.2.2.2.2.2.2.1,b.2.2.2.2.2.2.1,())).bind fun v=>some (v.1,v.2.1,v.2.2.1,v.2.2.2.1,v.2.2.2.2.1,v.2.2.2.2.2.1,v.2.2.2.2.2.2.1,[],())else bif b.1==5 then(EL (0+v.1.toNat,x.2.2.2.2.2.2.1,x.2.2.2.2.2.2.2.1,x.2.2.2.2.2.2.2.2.1,x.2.2.2.2.2.2.2.2.2.1,x.2.2.2.2.2.2.2.2.2.2.1,b.2.2.2.2.2.2.1,())).bind fun v=>some (v.1,v.2.1,v.2.2.1,v.2.2.2.1,v.2.2.2.2.1,v.2.2.2.2.2.1,v.2.2.2.2.2.2.1,[],())else(B8 (0+v.1.toNat,0,x.2.2.2.2.2.2.1,x.2.2.2.2.2.2.2.1,x.2.2.2.2.2.2.2.2.1,x.2.2.2.2.2.2.2.2.2.1,x.2.2.2.2.2.2.2.2.2.2.1,b.2.2.2.2.2.2.1,())).bind fun v=>some (v.1,v.2.1,v.2.2.1,v.2.2.2.1,v.2.2.2.2.1,v.2.2.2.2.2.2.2.1,v.2.2.2.2.2.2.2.2.1,[],())else none
def V8:Ent:=⟨67,⟨(.ptr 0 0 0 (.agg (si 6 .nil) .nil)),(.cells 6 (.slot .bool (.own 1 (.own 2 (.own 3 (.own 4 (.slot .i .nil)))))) (.tree false 0 (.slice Ae) (.tree false 0 Ad (.lst false A0 (.lst false A0 .nil)))))⟩,⟨(.agg (.slot .i (.own 8 .nil)) .nil),(.cells 6 (.slot .bool (.own 1 (.own 5 (.own 6 (.own 7 (.slot .i .nil)))))) (.tree false 1 (.slice Ae) (.gone (.gone (.gone (.tree false 1 Ad (.lst false A0 (.lst false A0 (.lst false .i .nil)))))))))⟩,G8⟩
theorem y5:Ah Go.Proofs.Tryz.prog V8:=okA (C:=A4l) (hcB (all_cons zd (all_cons za (all_cons yM (all_cons yl (all_cons y6 (all_cons Qj (all_cons TB (all_cons hX (all_cons Sj all_nil)))))))))) Go.Proofs.Tryz.func67
def A4k:Cfg:={ti:=Au,ents:=[V8,Zn,W0,VZ],ann:=[],lent:=0,hid:=[((5,1),[2])]}
def Ek (x:A5×A6×Unit):Option (Bool×Int×Int×List (List A2)×List A3×List A1×List A1×List Int×Unit):=(Gb ((x.1.1,(x.1.2.1.1,()),x.1.2.2.1,x.1.2.2.2.1,x.1.2.2.2.2.1,x.1.2.2.2.2.2.1,()),())).bind fun v=>(G7 ((x.1.1,(x.1.2.1.1,()),x.1.2.2.1,x.1.2.2.2.1,x.1.2.2.2.2.1,x.1.2.2.2.2.2.1,()),())).bind fun a=>bif !a.1 then some (v.1,v.2.1,6,v.2.2.1,v.2.2.2.1,v.2.2.2.2.1,v.2.2.2.2.2.1,[],())else(Im ((x.2.1.1,x.2.1.2.1,x.2.1.2.2.1,x.2.1.2.2.2.1,x.2.1.2.2.2.2.1,x.2.1.2.2.2.2.2.1,()),())).bind fun b=>bif !b.1 then some (v.1,v.2.1,6,v.2.2.1,v.2.2.2.1,v.2.2.2.2.1,v.2.2.2.2.2.1,[],())else(G8 (x.2.1.1,x.2.1.2.1,x.2.1.2.2.1,x.2.1.2.2.2.1,x.2.1.2.2.2.2.1,x.2.1.2.2.2.2.2.1,v.1,v.2.1,v.2.2.1,v.2.2.2.1,v.2.2.2.2.1,v.2.2.2.2.2.1,())).bind fun v=>some (v.2.1,v.2.2.1,v.1,v.2.2.2.1,v.2.2.2.2.1,v.2.2.2.2.2.1,v.2.2.2.2.2.2.1,v.2.2.2.2.2.2.2.1,())
def rM:Ent:=⟨13,⟨(.slot C1 (.slot YOp .nil)),.nil⟩,⟨(.agg (.slot .bool (.own 0 (.own 1 (.own 2 (.own 3 (.slot .i .nil)))))) (.agg (.slot .i (.own 4 .nil)) .nil)),(.tree false 1 (.slice Ae) (.tree false 1 Ad (.lst false A0 (.lst false A0 (.lst false .i .nil)))))⟩,Ek⟩
theorem y4:Ah Go.Proofs.Tryz.prog rM:=okA (C:=A4k) (hcB (all_cons y5 (all_cons A37 (all_cons zj (all_cons zi all_nil))))) Go.Proofs.Tryz.func13
def Ik (x:A2×A2×Unit):Option (Bool×Unit):=bif x.1.1 != x.2.1.1 then some (false,())else bif x.1.2.1 != x.2.1.2.1 then some (false,())else bif x.1.2.2.1 != x.2.1.2.2.1 then some (false,())else bif x.1.2.2.2.1 != x.2.1.2.2.2.1 then some (false,())else bif x.1.2.2.2.2.1 != x.2.1.2.2.2.2.1 then some (false,())else some (true,())
def V7:Ent:=⟨262,⟨(.slot Ae (.slot Ae .nil)),.nil⟩,⟨(.slot .bool .nil),.nil⟩,Ik⟩
theorem y1:Ah Go.Proofs.Tryz.prog V7:=okA (hcA 0 all_nil) Go.Proofs.Tryz.func262
abbrev dq:=List A2×List A2×Unit
abbrev dm:=Int×Unit
abbrev dn:=Unit ⊕ Unit
def DX (i:dq)(v:dm)(R:Type)(K:dm ⊕ dn->Option R):Option R:=bif decide (v.1<(i.1.length:Int))then(lAt i.1 v.1).bind fun a=>(lAt i.2.1 v.1).bind fun b=>(Ik ((a.1,a.2.1,a.2.2.1,a.2.2.2.1,a.2.2.2.2.1,()),(b.1,b.2.1,b.2.2.1,b.2.2.2.1,b.2.2.2.2.1,()),())).bind fun c=>bif !c.1 then K (.inr (.inl ()))else K (.inl (IntKind.i64.wrap (v.1+1),()))else K (.inr (.inr ()))
theorem Mj:Bi DX:=fun i v R K=>Af (Ac fun _=>Ac fun _=>Ac fun _=>Af (Aa) (Aa)) (Aa)
def T4:Tmpl:=⟨(.slot (.slice Ae) (.slot (.slice Ae) (jk 3 (.slot .i (jk 21 .nil))))),.nil⟩
def dl:Exs dq dn:=xs .ret (fun i p=>⟨jn 4 (.b (false)::jn 22 ([])),[]⟩)<|x1 (.exit 0) fun i p=>⟨jn 27 ([]),[]⟩
def dp:=((.i (.i (.v .n))):Pk T4.ty _ _)
def rL:Cfg:={ti:=Au,ents:=[V7],ann:=[(4,Ao T4 0 (spP dp) DX dl.E)],lent:=0}
def HQ (x:List A2×List A2×Unit):Option (Bool×Unit):=bif (x.1.length:Int) != (x.2.1.length:Int)then some (false,())else(AE (fun v=>DX (x.1,x.2.1,()) v _ some) (0,())).bind fun p=>Az p (fun p=>some (false,())) fun p=>some (true,())
def V6:Ent:=⟨216,⟨(.slot (.slice Ae) (.slot (.slice Ae) .nil)),.nil⟩,⟨(.slot .bool .nil),.nil⟩,HQ⟩
theorem dr:CfgOK Go.Proofs.Tryz.prog rL:=hcB (all_cons y1 all_nil)
theorem rK:B7 Go.Proofs.Tryz.prog rL (lpc Go.Proofs.Tryz.f216 0):=lkA dr T4 dp DX dl [4] Mj
theorem xZ:Ah Go.Proofs.Tryz.prog V6:=okB dr Go.Proofs.Tryz.func216 rK
abbrev dj:=List (List A2)×List (List A2)×Unit
abbrev dg:=Int×Unit
abbrev dh:=Unit ⊕ Unit
def DB (i:dj)(v:dg)(R:Type)(K:dg ⊕ dh->Option R):Option R:=bif decide (v.1<(i.1.length:Int))then(lAt i.1 v.1).bind fun a=>(lAt i.2.1 v.1).bind fun b=>(HQ (a,b,())).bind fun c=>bif !c.1 then K (.inr (.inl ()))else K (.inl (IntKind.i64.wrap (v.1+1),()))else K (.inr (.inr ()))
theorem LP:Bi DB:=fun i v R K=>Af (Ac fun _=>Ac fun _=>Ac fun _=>Af (Aa) (Aa)) (Aa)
def T3:Tmpl:=⟨(.slot (.slice (.slice Ae)) (.slot (.slice (.slice Ae)) (jk 3 (.slot .i (jk 21 .nil))))),.nil⟩
def df:Exs dj dh:=xs .ret (fun i p=>⟨jn 4 (.b (false)::jn 22 ([])),[]⟩)<|x1 (.exit 0) fun i p=>⟨jn 27 ([]),[]⟩
def di:=((.i (.i (.v .n))):Pk T3.ty _ _)
def rJ:Cfg:={ti:=Au,ents:=[V6],ann:=[(4,Ao T3 0 (spP di) DB df.E)],lent:=0}
def Ha (x:List (List A2)×List (List A2)×Unit):Option (Bool×Unit):=bif (x.1.length:Int) != (x.2.1.length:Int)then some (false,())else(AE (fun v=>DB (x.1,x.2.1,()) v _ some) (0,())).bind fun p=>Az p (fun p=>some (false,())) fun p=>some (true,())
def rI:Ent:=⟨150,⟨(.slot (.slice (.slice Ae)) (.slot (.slice (.slice Ae)) .nil)),.nil⟩,⟨(.slot .bool .nil),.nil⟩,Ha⟩
theorem dk:CfgOK Go.Proofs.Tryz.prog rJ:=hcB (all_cons xZ all_nil)
theorem rH:B7 Go.Proofs.Tryz.prog rJ (lpc Go.Proofs.Tryz.f150 0):=lkA dk T3 di DB df [4] LP
theorem xY:Ah Go.Proofs.Tryz.prog rI:=okB dk Go.Proofs.Tryz.func150 rH
def Ji (x:A4×A4×Unit):Option (Bool×Unit):=(Ha (x.1.1,x.2.1.1,())).bind fun v=>bif !v.1 then some (false,())else some (true,())
def rG:Ent:=⟨68,⟨(.slot Bo (.slot Bo .nil)),.nil⟩,⟨(.slot .bool .nil),.nil⟩,Ji⟩
theorem xX:Ah Go.Proofs.Tryz.prog rG:=okA (hcA 0 (all_cons xY all_nil)) Go.Proofs.Tryz.func68
def HR (x:A1×A1×Unit):Option (Bool×Unit):=bif x.1.1 != x.2.1.1 then some (false,())else bif x.1.2.1 != x.2.1.2.1 then some (false,())else some (true,())
def V5:Ent:=⟨263,⟨(.slot A0 (.slot A0 .nil)),.nil⟩,⟨(.slot .bool .nil),.nil⟩,HR⟩
theorem xW:Ah Go.Proofs.Tryz.prog V5:=okA (hcA 0 all_nil) Go.Proofs.Tryz.func263
abbrev db:=A9
abbrev d8:=Int×Unit
abbrev d9:=Unit ⊕ Unit
def DC (i:db)(v:d8)(R:Type)(K:d8 ⊕ d9->Option R):Option R:=bif decide (v.1<(i.1.length:Int))then(lAt i.1 v.1).bind fun a=>(lAt i.2.1 v.1).bind fun b=>(HR ((a.1,a.2.1,()),(b.1,b.2.1,()),())).bind fun c=>bif !c.1 then K (.inr (.inl ()))else K (.inl (IntKind.i64.wrap (v.1+1),()))else K (.inr (.inr ()))
theorem LQ:Bi DC:=fun i v R K=>Af (Ac fun _=>Ac fun _=>Ac fun _=>Af (Aa) (Aa)) (Aa)
def T2:Tmpl:=⟨(.slot (.slice A0) (.slot (.slice A0) (jk 3 (.slot .i (jk 21 .nil))))),.nil⟩
def d7:Exs db d9:=xs .ret (fun i p=>⟨jn 4 (.b (false)::jn 22 ([])),[]⟩)<|x1 (.exit 0) fun i p=>⟨jn 27 ([]),[]⟩
def da:=((.i (.i (.v .n))):Pk T2.ty _ _)
def rF:Cfg:={ti:=Au,ents:=[V5],ann:=[(4,Ao T2 0 (spP da) DC d7.E)],lent:=0}
def Hb (x:A9):Option (Bool×Unit):=bif (x.1.length:Int) != (x.2.1.length:Int)then some (false,())else(AE (fun v=>DC (x.1,x.2.1,()) v _ some) (0,())).bind fun p=>Az p (fun p=>some (false,())) fun p=>some (true,())
def rE:Ent:=⟨217,⟨(.slot (.slice A0) (.slot (.slice A0) .nil)),.nil⟩,⟨(.slot .bool .nil),.nil⟩,Hb⟩
theorem de:CfgOK Go.Proofs.Tryz.prog rF:=hcB (all_cons xW all_nil)
theorem rD:B7 Go.Proofs.Tryz.prog rF (lpc Go.Proofs.Tryz.f217 0):=lkA de T2 da DC d7 [4] LQ
theorem xV:Ah Go.Proofs.Tryz.prog rE:=okB de Go.Proofs.Tryz.func217 rD
def Jg (x:A1×A1×Unit):Option (Bool×Unit):=bif x.1.1 != x.2.1.1 then some (false,())else bif x.1.2.1 != x.2.1.2.1 then some (false,())else some (true,())
def V4:Ent:=⟨264,⟨(.slot A0 (.slot A0 .nil)),.nil⟩,⟨(.slot .bool .nil),.nil⟩,Jg⟩
theorem xU:Ah Go.Proofs.Tryz.prog V4:=okA (hcA 0 all_nil) Go.Proofs.Tryz.func264
abbrev d4:=A9
abbrev cX:=Int×Unit
abbrev cY:=Unit ⊕ Unit
def EX (i:d4)(v:cX)(R:Type)(K:cX ⊕ cY->Option R):Option R:=bif decide (v.1<(i.1.length:Int))then(lAt i.1 v.1).bind fun a=>(lAt i.2.1 v.1).bind fun b=>(Jg ((a.1,a.2.1,()),(b.1,b.2.1,()),())).bind fun c=>bif !c.1 then K (.inr (.inl ()))else K (.inl (IntKind.i64.wrap (v.1+1),()))else K (.inr (.inr ()))
theorem Nb:Bi EX:=fun i v R K=>Af (Ac fun _=>Ac fun _=>Ac fun _=>Af (Aa) (Aa)) (Aa)
def T1:Tmpl:=⟨(.slot (.slice A0) (.slot (.slice A0) (jk 3 (.slot .i (jk 21 .nil))))),.nil⟩
def cW:Exs d4 cY:=xs .ret (fun i p=>⟨jn 4 (.b (false)::jn 22 ([])),[]⟩)<|x1 (.exit 0) fun i p=>⟨jn 27 ([]),[]⟩
def cZ:=((.i (.i (.v .n))):Pk T1.ty _ _)
def rC:Cfg:={ti:=Au,ents:=[V4],ann:=[(4,Ao T1 0 (spP cZ) EX cW.E)],lent:=0}
def ID (x:A9):Option (Bool×Unit):=bif (x.1.length:Int) != (x.2.1.length:Int)then some (false,())else(AE (fun v=>EX (x.1,x.2.1,()) v _ some) (0,())).bind fun p=>Az p (fun p=>some (false,())) fun p=>some (true,())
def rB:Ent:=⟨218,⟨(.slot (.slice A0) (.slot (.slice A0) .nil)),.nil⟩,⟨(.slot .bool .nil),.nil⟩,ID⟩
theorem d5:CfgOK Go.Proofs.Tryz.prog rC:=hcB (all_cons xU all_nil)
theorem rA:B7 Go.Proofs.Tryz.prog rC (lpc Go.Proofs.Tryz.f218 0):=lkA d5 T1 cZ EX cW [4] Nb
theorem xT:Ah Go.Proofs.Tryz.prog rB:=okB d5 Go.Proofs.Tryz.func218 rA
def G4 (x:A3×A3×Unit):Option (Bool×Unit):=bif x.1.1 != x.2.1.1 then some (false,())else bif x.1.2.1 != x.2.1.2.1 then some (false,())else bif x.1.2.2.1 != x.2.1.2.2.1 then some (false,())else bif x.1.2.2.2.1 != x.2.1.2.2.2.1 then some (false,())else bif x.1.2.2.2.2.1 != x.2.1.2.2.2.2.1 then some (false,())else bif x.1.2.2.2.2.2.1 != x.2.1.2.2.2.2.2.1 then some (false,())else bif x.1.2.2.2.2.2.2.1 != x.2.1.2.2.2.2.2.2.1 then some (false,())else(Hb (x.1.2.2.2.2.2.2.2.1,x.2.1.2.2.2.2.2.2.2.1,())).bind fun v=>bif !v.1 then some (false,())else(ID (x.1.2.2.2.2.2.2.2.2.1,x.2.1.2.2.2.2.2.2.2.2.1,())).bind fun v=>bif !v.1 then some (false,())else some (true,())
def V3:Ent:=⟨151,⟨(.slot Ad (.slot Ad .nil)),.nil⟩,⟨(.slot .bool .nil),.nil⟩,G4⟩
theorem xS:Ah Go.Proofs.Tryz.prog V3:=okA (hcA 0 (all_cons xV (all_cons xT all_nil))) Go.Proofs.Tryz.func151
abbrev cU:=List A3×List A3×Unit
abbrev cR:=Int×Unit
abbrev cS:=Unit ⊕ Unit
def CD (i:cU)(v:cR)(R:Type)(K:cR ⊕ cS->Option R):Option R:=bif decide (v.1<(i.1.length:Int))then(lAt i.1 v.1).bind fun a=>(lAt i.2.1 v.1).bind fun b=>(G4 ((a.1,a.2.1,a.2.2.1,a.2.2.2.1,a.2.2.2.2.1,a.2.2.2.2.2.1,a.2.2.2.2.2.2.1,a.2.2.2.2.2.2.2.1,a.2.2.2.2.2.2.2.2.1,()),(b.1,b.2.1,b.2.2.1,b.2.2.2.1,b.2.2.2.2.1,b.2.2.2.2.2.1,b.2.2.2.2.2.2.1,b.2.2.2.2.2.2.2.1,b.2.2.2.2.2.2.2.2.1,()),())).bind fun c=>bif !c.1 then K (.inr (.inl ()))else K (.inl (IntKind.i64.wrap (v.1+1),()))else K (.inr (.inr ()))
theorem KO:Bi CD:=fun i v R K=>Af (Ac fun _=>Ac fun _=>Ac fun _=>Af (Aa) (Aa)) (Aa)
def SZ:Tmpl:=⟨(.slot (.slice Ad) (.slot (.slice Ad) (jk 3 (.slot .i (jk 21 .nil))))),.nil⟩
def cQ:Exs cU cS:=xs .ret (fun i p=>⟨jn 4 (.b (false)::jn 22 ([])),[]⟩)<|x1 (.exit 0) fun i p=>⟨jn 27 ([]),[]⟩
def cT:=((.i (.i (.v .n))):Pk SZ.ty _ _)
def rz:Cfg:={ti:=Au,ents:=[V3],ann:=[(4,Ao SZ 0 (spP cT) CD cQ.E)],lent:=0}
def Fn (x:List A3×List A3×Unit):Option (Bool×Unit):=bif (x.1.length:Int) != (x.2.1.length:Int)then some (false,())else(AE (fun v=>CD (x.1,x.2.1,()) v _ some) (0,())).bind fun p=>Az p (fun p=>some (false,())) fun p=>some (true,())
def ry:Ent:=⟨69,⟨(.slot (.slice Ad) (.slot (.slice Ad) .nil)),.nil⟩,⟨(.slot .bool .nil),.nil⟩,Fn⟩
theorem cV:CfgOK Go.Proofs.Tryz.prog rz:=hcB (all_cons xS all_nil)
theorem rx:B7 Go.Proofs.Tryz.prog rz (lpc Go.Proofs.Tryz.f69 0):=lkA cV SZ cT CD cQ [4] KO
theorem xR:Ah Go.Proofs.Tryz.prog ry:=okB cV Go.Proofs.Tryz.func69 rx
def JQ (x:A1×A1×Unit):Option (Bool×Unit):=bif x.1.1 != x.2.1.1 then some (false,())else bif x.1.2.1 != x.2.1.2.1 then some (false,())else some (true,())
def V2:Ent:=⟨152,⟨(.slot A0 (.slot A0 .nil)),.nil⟩,⟨(.slot .bool .nil),.nil⟩,JQ⟩
theorem xQ:Ah Go.Proofs.Tryz.prog V2:=okA (hcA 0 all_nil) Go.Proofs.Tryz.func152
abbrev cO:=A9
abbrev cL:=Int×Unit
abbrev cM:=Unit ⊕ Unit
def FL (i:cO)(v:cL)(R:Type)(K:cL ⊕ cM->Option R):Option R:=bif decide (v.1<(i.1.length:Int))then(lAt i.1 v.1).bind fun a=>(lAt i.2.1 v.1).bind fun b=>(JQ ((a.1,a.2.1,()),(b.1,b.2.1,()),())).bind fun c=>bif !c.1 then K (.inr (.inl ()))else K (.inl (IntKind.i64.wrap (v.1+1),()))else K (.inr (.inr ()))
theorem NX:Bi FL:=fun i v R K=>Af (Ac fun _=>Ac fun _=>Ac fun _=>Af (Aa) (Aa)) (Aa)
def SY:Tmpl:=⟨(.slot (.slice A0) (.slot (.slice A0) (jk 3 (.slot .i (jk 21 .nil))))),.nil⟩
def cK:Exs cO cM:=xs .ret (fun i p=>⟨jn 4 (.b (false)::jn 22 ([])),[]⟩)<|x1 (.exit 0) fun i p=>⟨jn 27 ([]),[]⟩
def cN:=((.i (.i (.v .n))):Pk SY.ty _ _)
def ru:Cfg:={ti:=Au,ents:=[V2],ann:=[(4,Ao SY 0 (spP cN) FL cK.E)],lent:=0}
def Jj (x:A9):Option (Bool×Unit):=bif (x.1.length:Int) != (x.2.1.length:Int)then some (false,())else(AE (fun v=>FL (x.1,x.2.1,()) v _ some) (0,())).bind fun p=>Az p (fun p=>some (false,())) fun p=>some (true,())
def rt:Ent:=⟨70,⟨(.slot (.slice A0) (.slot (.slice A0) .nil)),.nil⟩,⟨(.slot .bool .nil),.nil⟩,Jj⟩
theorem cP:CfgOK Go.Proofs.Tryz.prog ru:=hcB (all_cons xQ all_nil)
theorem rq:B7 Go.Proofs.Tryz.prog ru (lpc Go.Proofs.Tryz.f70 0):=lkA cP SY cN FL cK [4] NX
theorem xP:Ah Go.Proofs.Tryz.prog rt:=okB cP Go.Proofs.Tryz.func70 rq
def JP (x:A1×A1×Unit):Option (Bool×Unit):=bif x.1.1 != x.2.1.1 then some (false,())else bif x.1.2.1 != x.2.1.2.1 then some (false,())else some (true,())
def V1:Ent:=⟨153,⟨(.slot A0 (.slot A0 .nil)),.nil⟩,⟨(.slot .bool .nil),.nil⟩,JP⟩
theorem xO:Ah Go.Proofs.Tryz.prog V1:=okA (hcA 0 all_nil) Go.Proofs.Tryz.func153
abbrev cI:=A9
abbrev cF:=Int×Unit
abbrev cG:=Unit ⊕ Unit
def FJ (i:cI)(v:cF)(R:Type)(K:cF ⊕ cG->Option R):Option R:=bif decide (v.1<(i.1.length:Int))then(lAt i.1 v.1).bind fun a=>(lAt i.2.1 v.1).bind fun b=>(JP ((a.1,a.2.1,()),(b.1,b.2.1,()),())).bind fun c=>bif !c.1 then K (.inr (.inl ()))else K (.inl (IntKind.i64.wrap (v.1+1),()))else K (.inr (.inr ()))
theorem NW:Bi FJ:=fun i v R K=>Af (Ac fun _=>Ac fun _=>Ac fun _=>Af (Aa) (Aa)) (Aa)
def SX:Tmpl:=⟨(.slot (.slice A0) (.slot (.slice A0) (jk 3 (.slot .i (jk 21 .nil))))),.nil⟩
def cE:Exs cI cG:=xs .ret (fun i p=>⟨jn 4 (.b (false)::jn 22 ([])),[]⟩)<|x1 (.exit 0) fun i p=>⟨jn 27 ([]),[]⟩
def cH:=((.i (.i (.v .n))):Pk SX.ty _ _)
def rp:Cfg:={ti:=Au,ents:=[V1],ann:=[(4,Ao SX 0 (spP cH) FJ cE.E)],lent:=0}
def Jh (x:A9):Option (Bool×Unit):=bif (x.1.length:Int) != (x.2.1.length:Int)then some (false,())else(AE (fun v=>FJ (x.1,x.2.1,()) v _ some) (0,())).bind fun p=>Az p (fun p=>some (false,())) fun p=>some (true,())
def rn:Ent:=⟨71,⟨(.slot (.slice A0) (.slot (.slice A0) .nil)),.nil⟩,⟨(.slot .bool .nil),.nil⟩,Jh⟩
theorem cJ:CfgOK Go.Proofs.Tryz.prog rp:=hcB (all_cons xO all_nil)
theorem rm:B7 Go.Proofs.Tryz.prog rp (lpc Go.Proofs.Tryz.f71 0):=lkA cJ SX cH FJ cE [4] NW
theorem xN:Ah Go.Proofs.Tryz.prog rn:=okB cJ Go.Proofs.Tryz.func71 rm
def Er (x:A5×A5×Unit):Option (Bool×Unit):=bif !x.1.1==x.2.1.1 then some (false,())else(Ji ((x.1.2.1.1,()),(x.2.1.2.1.1,()),())).bind fun v=>bif !v.1 then some (false,())else(Fn (x.1.2.2.1,x.2.1.2.2.1,())).bind fun v=>bif !v.1 then some (false,())else(Jj (x.1.2.2.2.1,x.2.1.2.2.2.1,())).bind fun v=>bif !v.1 then some (false,())else(Jh (x.1.2.2.2.2.1,x.2.1.2.2.2.2.1,())).bind fun v=>bif !v.1 then some (false,())else bif x.1.2.2.2.2.2.1 != x.2.1.2.2.2.2.2.1 then some (false,())else some (true,())
def rk:Ent:=⟨14,⟨(.slot C1 (.slot C1 .nil)),.nil⟩,⟨(.slot .bool .nil),.nil⟩,Er⟩
theorem xM:Ah Go.Proofs.Tryz.prog rk:=okA (hcA 0 (all_cons xX (all_cons xR (all_cons xP (all_cons xN all_nil))))) Go.Proofs.Tryz.func14
abbrev cC:=List Int×List Int×Unit
abbrev cy:=Int×Unit
abbrev cA:=Unit ⊕ Unit
def GF (i:cC)(v:cy)(R:Type)(K:cy ⊕ cA->Option R):Option R:=bif decide (v.1<(i.1.length:Int))then(lAt i.1 v.1).bind fun a=>(lAt i.2.1 v.1).bind fun b=>bif a != b then K (.inr (.inl ()))else K (.inl (IntKind.i64.wrap (v.1+1),()))else K (.inr (.inr ()))
theorem Ow:Bi GF:=fun i v R K=>Af (Ac fun _=>Ac fun _=>Af (Aa) (Aa)) (Aa)
def SW:Tmpl:=⟨(.slot (.slice .i) (.slot (.slice .i) (jk 3 (.slot .i (jk 20 .nil))))),.nil⟩
def cx:Exs cC cA:=xs .ret (fun i p=>⟨jn 4 (.b (false)::jn 21 ([])),[]⟩)<|x1 (.exit 0) fun i p=>⟨jn 26 ([]),[]⟩
def cB:=((.i (.i (.v .n))):Pk SW.ty _ _)
def rj:Cfg:={ti:=Au,ents:=[],ann:=[(4,Ao SW 0 (spP cB) GF cx.E)],lent:=0}
def JR (x:List Int×List Int×Unit):Option (Bool×Unit):=bif (x.1.length:Int) != (x.2.1.length:Int)then some (false,())else(AE (fun v=>GF (x.1,x.2.1,()) v _ some) (0,())).bind fun p=>Az p (fun p=>some (false,())) fun p=>some (true,())
def ri:Ent:=⟨24,⟨(.slot (.slice .i) (.slot (.slice .i) .nil)),.nil⟩,⟨(.slot .bool .nil),.nil⟩,JR⟩
theorem cD:CfgOK Go.Proofs.Tryz.prog rj:=hcB all_nil
theorem rf:B7 Go.Proofs.Tryz.prog rj (lpc Go.Proofs.Tryz.f24 0):=lkA cD SW cB GF cx [4] Ow
theorem xL:Ah Go.Proofs.Tryz.prog ri:=okB cD Go.Proofs.Tryz.func24 rf
def Hw (x:(Int×List Int×Unit)×(Int×List Int×Unit)×Unit):Option (Bool×Unit):=bif x.1.1 != x.2.1.1 then some (false,())else(JR (x.1.2.1,x.2.1.2.1,())).bind fun v=>bif !v.1 then some (false,())else some (true,())
def r7:Ent:=⟨15,⟨(.slot Rf (.slot Rf .nil)),.nil⟩,⟨(.slot .bool .nil),.nil⟩,Hw⟩
theorem xI:Ah Go.Proofs.Tryz.prog r7:=okA (hcA 0 (all_cons xL all_nil)) Go.Proofs.Tryz.func15
abbrev cv:=Nat×Unit
abbrev cr:=Int×Int×List (List A2)×Unit
abbrev ct:=Int×List (List A2)×Unit
def CC (i:cv)(v:cr)(R:Type)(K:cr ⊕ ct->Option R):Option R:=v.2.2.1[i.1]?.bind fun a=>bif decide (v.2.1<(a.length:Int))then v.2.2.1[i.1]?.bind fun b=>if 0<=v.2.1/\v.2.1<(b.length:Int)then v.2.2.1[i.1]?.bind fun c=>c[0+v.2.1.toNat]?.bind fun d=>(v.2.2.1.set i.1 (c.set (0+v.2.1.toNat) (v.1,d.2.1,d.2.2.1,d.2.2.2.1,d.2.2.2.2.1,())))[i.1]?.bind fun e=>if 0<=v.2.1/\v.2.1<(e.length:Int)then(v.2.2.1.set i.1 (c.set (0+v.2.1.toNat) (v.1,d.2.1,d.2.2.1,d.2.2.2.1,d.2.2.2.2.1,())))[i.1]?.bind fun f=>f[0+v.2.1.toNat]?.bind fun g=>((v.2.2.1.set i.1 (c.set (0+v.2.1.toNat) (v.1,d.2.1,d.2.2.1,d.2.2.2.1,d.2.2.2.2.1,()))).set i.1 (f.set (0+v.2.1.toNat) (g.1,IntKind.i64.wrap (v.1+1),g.2.2.1,g.2.2.2.1,g.2.2.2.2.1,())))[i.1]?.bind fun h=>if 0<=v.2.1/\v.2.1<(h.length:Int)then((v.2.2.1.set i.1 (c.set (0+v.2.1.toNat) (v.1,d.2.1,d.2.2.1,d.2.2.2.1,d.2.2.2.2.1,()))).set i.1 (f.set (0+v.2.1.toNat) (g.1,IntKind.i64.wrap (v.1+1),g.2.2.1,g.2.2.2.1,g.2.2.2.2.1,())))[i.1]?.bind fun j=>j[0+v.2.1.toNat]?.bind fun k=>(((v.2.2.1.set i.1 (c.set (0+v.2.1.toNat) (v.1,d.2.1,d.2.2.1,d.2.2.2.1,d.2.2.2.2.1,()))).set i.1 (f.set (0+v.2.1.toNat) (g.1,IntKind.i64.wrap (v.1+1),g.2.2.1,g.2.2.2.1,g.2.2.2.2.1,()))).set i.1 (j.set (0+v.2.1.toNat) (k.1,k.2.1,IntKind.i64.wrap (IntKind.i64.wrap (v.1+1)+1),k.2.2.2.1,k.2.2.2.2.1,())))[i.1]?.bind fun l=>if 0<=v.2.1/\v.2.1<(l.length:Int)then(((v.2.2.1.set i.1 (c.set (0+v.2.1.toNat) (v.1,d.2.1,d.2.2.1,d.2.2.2.1,d.2.2.2.2.1,()))).set i.1 (f.set (0+v.2.1.toNat) (g.1,IntKind.i64.wrap (v.1+1),g.2.2.1,g.2.2.2.1,g.2.2.2.2.1,()))).set i.1 (j.set (0+v.2.1.toNat) (k.1,k.2.1,IntKind.i64.wrap (IntKind.i64.wrap (v.1+1)+1),k.2.2.2.1,k.2.2.2.2.1,())))[i.1]?.bind fun m=>m[0+v.2.1.toNat]?.bind fun n=>((((v.2.2.1.set i.1 (c.set (0+v.2.1.toNat) (v.1,d.2.1,d.2.2.1,d.2.2.2.1,d.2.2.2.2.1,()))).set i.1 (f.set (0+v.2.1.toNat) (g.1,IntKind.i64.wrap (v.1+1),g.2.2.1,g.2.2.2.1,g.2.2.2.2.1,()))).set i.1 (j.set (0+v.2.1.toNat) (k.1,k.2.1,IntKind.i64.wrap (IntKind.i64.wrap (v.1+1)+1),k.2.2.2.1,k.2.2.2.2.1,()))).set i.1 (m.set (0+v.2.1.toNat) (n.1,n.2.1,n.2.2.1,IntKind.i64.wrap (IntKind.i64.wrap (IntKind.i64.wrap (v.1+1)+1)+1),n.2.2.2.2.1,())))[i.1]?.bind fun o=>if 0<=v.2.1/\v.2.1<(o.length:Int)then((((v.2.2.1.set i.1 (c.set (0+v.2.1.toNat) (v.1,d.2.1,d.2.2.1,d.2.2.2.1,d.2.2.2.2.1,()))).set i.1 (f.set (0+v.2.1.toNat) (g.1,IntKind.i64.wrap (v.1+1),g.2.2.1,g.2.2.2.1,g.2.2.2.2.1,()))).set i.1 (j.set (0+v.2.1.toNat) (k.1,k.2.1,IntKind.i64.wrap (IntKind.i64.wrap (v.1+1)+1),k.2.2.2.1,k.2.2.2.2.1,()))).set i.1 (m.set (0+v.2.1.toNat) (n.1,n.2.1,n.2.2.1,IntKind.i64.wrap (IntKind.i64.wrap (IntKind.i64.wrap (v.1+1)+1)+1),n.2.2.2.2.1,())))[i.1]?.bind fun q=>q[0+v.2.1.toNat]?.bind fun r=>K (.inl (IntKind.i64.wrap (IntKind.i64.wrap (IntKind.i64.wrap (IntKind.i64.wrap (IntKind.i64.wrap (v.1+1)+1)+1)+1)+1),IntKind.i64.wrap (v.2.1+1),((((v.2.2.1.set i.1 (c.set (0+v.2.1.toNat) (v.1,d.2.1,d.2.2.1,d.2.2.2.1,d.2.2.2.2.1,()))).set i.1 (f.set (0+v.2.1.toNat) (g.1,IntKind.i64.wrap (v.1+1),g.2.2.1,g.2.2.2.1,g.2.2.2.2.1,()))).set i.1 (j.set (0+v.2.1.toNat) (k.1,k.2.1,IntKind.i64.wrap (IntKind.i64.wrap (v.1+1)+1),k.2.2.2.1,k.2.2.2.2.1,()))).set i.1 (m.set (0+v.2.1.toNat) (n.1,n.2.1,n.2.2.1,IntKind.i64.wrap (IntKind.i64.wrap (IntKind.i64.wrap (v.1+1)+1)+1),n.2.2.2.2.1,()))).set i.1 (q.set (0+v.2.1.toNat) (r.1,r.2.1,r.2.2.1,r.2.2.2.1,IntKind.i64.wrap (IntKind.i64.wrap (IntKind.i64.wrap (IntKind.i64.wrap (v.1+1)+1)+1)+1),())),()))else none else none else none else none else none else K (.inr (v.1,v.2.2.1,()))
theorem KN:Bi CC:=fun i v R K=>Ac fun _=>Af (Ac fun _=>Ay (Ac fun _=>Ac fun _=>Ac fun _=>Ay (Ac fun _=>Ac fun _=>Ac fun _=>Ay (Ac fun _=>Ac fun _=>Ac fun _=>Ay (Ac fun _=>Ac fun _=>Ac fun _=>Ay (Ac fun _=>Ac fun _=>Aa)))))) (Aa)
def SV:Tmpl:=⟨(.nown 0 0 (.slot .i (jk 3 (.slot .i (jk 42 .nil))))),(.tree false 0 (.slice Ae) .nil)⟩
def cq:Exs cv ct:=x1 (.exit 0) fun i p=>⟨jn 1 (.n (p.1)::jn 46 ([])),[some (Cont.tree false 0 (.slice Ae) p.2.1 none)]⟩
def cu:=((.i (.v (.v (.v .n)))):Pk SV.ty _ _)
def r6:Cfg:={ti:=Au,ents:=[],ann:=[(2,Ao SV 1 (spP cu) CC cq.E)],lent:=1}
def Fm (x:Nat×Int×List (List A2)×Unit):Option (Int×List (List A2)×Unit):=(AE (fun v=>CC (x.1,()) v _ some) (x.2.1,0,x.2.2.1,())).bind fun p=>some (p.1,p.2.1,())
def V0:Ent:=⟨219,⟨(.nown 0 0 (.slot .i .nil)),(.tree false 0 (.slice Ae) .nil)⟩,⟨(.slot .i .nil),(.tree false 0 (.slice Ae) .nil)⟩,Fm⟩
theorem cw:CfgOK Go.Proofs.Tryz.prog r6:=hcB all_nil
theorem r5:B7 Go.Proofs.Tryz.prog r6 (lpc Go.Proofs.Tryz.f219 0):=lkA cw SV cu CC cq [1] KN
theorem xH:Ah Go.Proofs.Tryz.prog V0:=okB cw Go.Proofs.Tryz.func219 r5
abbrev cn:=Unit
abbrev ck:=Int×Int×List (List A2)×Unit
abbrev cl:=Int×List (List A2)×Unit
def Bz (i:cn)(v:ck)(R:Type)(K:ck ⊕ cl->Option R):Option R:=bif decide (v.2.1<(v.2.2.1.length:Int))then if 0<=v.2.1/\v.2.1<(v.2.2.1.length:Int)then v.2.2.1[0+v.2.1.toNat]?.bind fun a=>(Fm (0+v.2.1.toNat,v.1,v.2.2.1,())).bind fun b=>K (.inl (b.1,IntKind.i64.wrap (v.2.1+1),b.2.1,()))else none else K (.inr (v.1,v.2.2.1,()))
theorem Ks:Bi Bz:=fun i v R K=>Af (Ay (Ac fun _=>Ac fun _=>Aa)) (Aa)
def SU:Tmpl:=⟨(.own 0 (.slot .i (jk 3 (.slot .i (jk 13 .nil))))),(.tree false 0 (.slice Ae) .nil)⟩
def cj:Exs cn cl:=x1 (.exit 0) fun i p=>⟨jn 1 (.n (p.1)::jn 17 ([])),[some (Cont.tree false 0 (.slice Ae) p.2.1 none)]⟩
def cm:=((.v (.v (.v .n))):Pk SU.ty _ _)
def r4:Cfg:={ti:=Au,ents:=[V0],ann:=[(2,Ao SU 1 (spP cm) Bz cj.E)],lent:=1}
def EH (x:Int×List (List A2)×Unit):Option (Int×List (List A2)×Unit):=(AE (fun v=>Bz () v _ some) (x.1,0,x.2.1,())).bind fun p=>some (p.1,p.2.1,())
def qZ:Ent:=⟨154,⟨(.own 0 (.slot .i .nil)),(.tree false 0 (.slice Ae) .nil)⟩,⟨(.slot .i .nil),(.tree false 0 (.slice Ae) .nil)⟩,EH⟩
theorem cp:CfgOK Go.Proofs.Tryz.prog r4:=hcB (all_cons xH all_nil)
theorem qY:B7 Go.Proofs.Tryz.prog r4 (lpc Go.Proofs.Tryz.f154 0):=lkA cp SU cm Bz cj [1] Ks
theorem xG:Ah Go.Proofs.Tryz.prog qZ:=okB cp Go.Proofs.Tryz.func154 qY
def GY (x:Int×List (List A2)×Unit):Option (Int×List (List A2)×Unit):=(EH (x.1,x.2.1,())).bind fun v=>some (v.1,v.2.1,())
def qX:Ent:=⟨72,⟨(.agg (.own 0 .nil) (.slot .i .nil)),(.tree false 0 (.slice Ae) .nil)⟩,⟨(.slot .i .nil),(.tree false 0 (.slice Ae) .nil)⟩,GY⟩
theorem xF:Ah Go.Proofs.Tryz.prog qX:=okA (hcA 1 (all_cons xG all_nil)) Go.Proofs.Tryz.func72
abbrev ch:=Nat×Unit
abbrev cd:=Int×Int×List A3×Unit
abbrev cf:=Int×List A3×Unit
def Ct (i:ch)(v:cd)(R:Type)(K:cd ⊕ cf->Option R):Option R:=v.2.2.1[i.1]?.bind fun a=>bif decide (v.2.1<(a.2.2.2.2.2.2.2.1.length:Int))then v.2.2.1[i.1]?.bind fun b=>if 0<=v.2.1/\v.2.1<(b.2.2.2.2.2.2.2.1.length:Int)then v.2.2.1[i.1]?.bind fun c=>c.2.2.2.2.2.2.2.1[0+v.2.1.toNat]?.bind fun d=>(v.2.2.1.set i.1 (c.1,c.2.1,c.2.2.1,c.2.2.2.1,c.2.2.2.2.1,c.2.2.2.2.2.1,c.2.2.2.2.2.2.1,c.2.2.2.2.2.2.2.1.set (0+v.2.1.toNat) (v.1,d.2.1,()),c.2.2.2.2.2.2.2.2.1,()))[i.1]?.bind fun e=>if 0<=v.2.1/\v.2.1<(e.2.2.2.2.2.2.2.1.length:Int)then(v.2.2.1.set i.1 (c.1,c.2.1,c.2.2.1,c.2.2.2.1,c.2.2.2.2.1,c.2.2.2.2.2.1,c.2.2.2.2.2.2.1,c.2.2.2.2.2.2.2.1.set (0+v.2.1.toNat) (v.1,d.2.1,()),c.2.2.2.2.2.2.2.2.1,()))[i.1]?.bind fun f=>f.2.2.2.2.2.2.2.1[0+v.2.1.toNat]?.bind fun g=>K (.inl (IntKind.i64.wrap (IntKind.i64.wrap (v.1+1)+1),IntKind.i64.wrap (v.2.1+1),(v.2.2.1.set i.1 (c.1,c.2.1,c.2.2.1,c.2.2.2.1,c.2.2.2.2.1,c.2.2.2.2.2.1,c.2.2.2.2.2.2.1,c.2.2.2.2.2.2.2.1.set (0+v.2.1.toNat) (v.1,d.2.1,()),c.2.2.2.2.2.2.2.2.1,())).set i.1 (f.1,f.2.1,f.2.2.1,f.2.2.2.1,f.2.2.2.2.1,f.2.2.2.2.2.1,f.2.2.2.2.2.2.1,f.2.2.2.2.2.2.2.1.set (0+v.2.1.toNat) (g.1,IntKind.i64.wrap (v.1+1),()),f.2.2.2.2.2.2.2.2.1,()),()))else none else none else K (.inr (v.1,v.2.2.1,()))
theorem Kt:Bi Ct:=fun i v R K=>Ac fun _=>Af (Ac fun _=>Ay (Ac fun _=>Ac fun _=>Ac fun _=>Ay (Ac fun _=>Ac fun _=>Aa))) (Aa)
def ST:Tmpl:=⟨(.nown 0 7 (.slot .i (jk 3 (.slot .i (jk 21 .nil))))),(.tree false 0 Ad .nil)⟩
def cc:Exs ch cf:=x1 (.exit 0) fun i p=>⟨jn 1 (.n (p.1)::jn 25 ([])),[some (Cont.tree false 0 Ad p.2.1 none)]⟩
def cg:=((.i (.v (.v (.v .n)))):Pk ST.ty _ _)
def qW:Cfg:={ti:=Au,ents:=[],ann:=[(2,Ao ST 1 (spP cg) Ct cc.E)],lent:=1}
def EI (x:Nat×Int×List A3×Unit):Option (Int×List A3×Unit):=(AE (fun v=>Ct (x.1,()) v _ some) (x.2.1,0,x.2.2.1,())).bind fun p=>some (p.1,p.2.1,())
def UZ:Ent:=⟨155,⟨(.nown 0 7 (.slot .i .nil)),(.tree false 0 Ad .nil)⟩,⟨(.slot .i .nil),(.tree false 0 Ad .nil)⟩,EI⟩
theorem ci:CfgOK Go.Proofs.Tryz.prog qW:=hcB all_nil
theorem qV:B7 Go.Proofs.Tryz.prog qW (lpc Go.Proofs.Tryz.f155 0):=lkA ci ST cg Ct cc [1] Kt
theorem xE:Ah Go.Proofs.Tryz.prog UZ:=okB ci Go.Proofs.Tryz.func155 qV
abbrev c9:=Nat×Unit
abbrev bZ:=Int×Int×List A3×Unit
abbrev c7:=Int×List A3×Unit
def D7 (i:c9)(v:bZ)(R:Type)(K:bZ ⊕ c7->Option R):Option R:=v.2.2.1[i.1]?.bind fun a=>bif decide (v.2.1<(a.2.2.2.2.2.2.2.2.1.length:Int))then v.2.2.1[i.1]?.bind fun b=>if 0<=v.2.1/\v.2.1<(b.2.2.2.2.2.2.2.2.1.length:Int)then v.2.2.1[i.1]?.bind fun c=>c.2.2.2.2.2.2.2.2.1[0+v.2.1.toNat]?.bind fun d=>(v.2.2.1.set i.1 (c.1,c.2.1,c.2.2.1,c.2.2.2.1,c.2.2.2.2.1,c.2.2.2.2.2.1,c.2.2.2.2.2.2.1,c.2.2.2.2.2.2.2.1,c.2.2.2.2.2.2.2.2.1.set (0+v.2.1.toNat) (v.1,d.2.1,()),()))[i.1]?.bind fun e=>if 0<=v.2.1/\v.2.1<(e.2.2.2.2.2.2.2.2.1.length:Int)then(v.2.2.1.set i.1 (c.1,c.2.1,c.2.2.1,c.2.2.2.1,c.2.2.2.2.1,c.2.2.2.2.2.1,c.2.2.2.2.2.2.1,c.2.2.2.2.2.2.2.1,c.2.2.2.2.2.2.2.2.1.set (0+v.2.1.toNat) (v.1,d.2.1,()),()))[i.1]?.bind fun f=>f.2.2.2.2.2.2.2.2.1[0+v.2.1.toNat]?.bind fun g=>K (.inl (IntKind.i64.wrap (IntKind.i64.wrap (v.1+1)+1),IntKind.i64.wrap (v.2.1+1),(v.2.2.1.set i.1 (c.1,c.2.1,c.2.2.1,c.2.2.2.1,c.2.2.2.2.1,c.2.2.2.2.2.1,c.2.2.2.2.2.2.1,c.2.2.2.2.2.2.2.1,c.2.2.2.2.2.2.2.2.1.set (0+v.2.1.toNat) (v.1,d.2.1,()),())).set i.1 (f.1,f.2.1,f.2.2.1,f.2.2.2.1,f.2.2.2.2.1,f.2.2.2.2.2.1,f.2.2.2.2.2.2.1,f.2.2.2.2.2.2.2.1,f.2.2.2.2.2.2.2.2.1.set (0+v.2.1.toNat) (g.1,IntKind.i64.wrap (v.1+1),()),()),()))else none else none else K (.inr (v.1,v.2.2.1,()))
theorem Ll:Bi D7:=fun i v R K=>Ac fun _=>Af (Ac fun _=>Ay (Ac fun _=>Ac fun _=>Ac fun _=>Ay (Ac fun _=>Ac fun _=>Aa))) (Aa)
def SS:Tmpl:=⟨(.nown 0 8 (.slot .i (jk 3 (.slot .i (jk 21 .nil))))),(.tree false 0 Ad .nil)⟩
def bX:Exs c9 c7:=x1 (.exit 0) fun i p=>⟨jn 1 (.n (p.1)::jn 25 ([])),[some (Cont.tree false 0 Ad p.2.1 none)]⟩
def c8:=((.i (.v (.v (.v .n)))):Pk SS.ty _ _)
def qU:Cfg:={ti:=Au,ents:=[],ann:=[(2,Ao SS 1 (spP c8) D7 bX.E)],lent:=1}
def Gp (x:Nat×Int×List A3×Unit):Option (Int×List A3×Unit):=(AE (fun v=>D7 (x.1,()) v _ some) (x.2.1,0,x.2.2.1,())).bind fun p=>some (p.1,p.2.1,())
def UY:Ent:=⟨156,⟨(.nown 0 8 (.slot .i .nil)),(.tree false 0 Ad .nil)⟩,⟨(.slot .i .nil),(.tree false 0 Ad .nil)⟩,Gp⟩
theorem ca:CfgOK Go.Proofs.Tryz.prog qU:=hcB all_nil
theorem qT:B7 Go.Proofs.Tryz.prog qU (lpc Go.Proofs.Tryz.f156 0):=lkA ca SS c8 D7 bX [1] Ll
theorem xD:Ah Go.Proofs.Tryz.prog UY:=okB ca Go.Proofs.Tryz.func156 qT
abbrev bV:=Unit
abbrev bS:=Int×Int×List A3×Unit
abbrev bT:=Int×List A3×Unit
def Bn (i:bV)(v:bS)(R:Type)(K:bS ⊕ bT->Option R):Option R:=bif decide (v.2.1<(v.2.2.1.length:Int))then if 0<=v.2.1/\v.2.1<(v.2.2.1.length:Int)then v.2.2.1[0+v.2.1.toNat]?.bind fun a=>if 0<=v.2.1/\v.2.1<(↑((v.2.2.1.set (0+v.2.1.toNat) (v.1,a.2.1,a.2.2.1,a.2.2.2.1,a.2.2.2.2.1,a.2.2.2.2.2.1,a.2.2.2.2.2.2.1,a.2.2.2.2.2.2.2.1,a.2.2.2.2.2.2.2.2.1,())).length):Int)then(v.2.2.1.set (0+v.2.1.toNat) (v.1,a.2.1,a.2.2.1,a.2.2.2.1,a.2.2.2.2.1,a.2.2.2.2.2.1,a.2.2.2.2.2.2.1,a.2.2.2.2.2.2.2.1,a.2.2.2.2.2.2.2.2.1,()))[0+v.2.1.toNat]?.bind fun b=>if 0<=v.2.1/\v.2.1<(↑(((v.2.2.1.set (0+v.2.1.toNat) (v.1,a.2.1,a.2.2.1,a.2.2.2.1,a.2.2.2.2.1,a.2.2.2.2.2.1,a.2.2.2.2.2.2.1,a.2.2.2.2.2.2.2.1,a.2.2.2.2.2.2.2.2.1,())).set (0+v.2.1.toNat) (b.1,IntKind.i64.wrap (v.1+1),b.2.2.1,b.2.2.2.1,b.2.2.2.2.1,b.2.2.2.2.2.1,b.2.2.2.2.2.2.1,b.2.2.2.2.2.2.2.1,b.2.2.2.2.2.2.2.2.1,())).length):Int)then((v.2.2.1.set (0+v.2.1.toNat) (v.1,a.2.1,a.2.2.1,a.2.2.2.1,a.2.2.2.2.1,a.2.2.2.2.2.1,a.2.2.2.2.2.2.1,a.2.2.2.2.2.2.2.1,a.2.2.2.2.2.2.2.2.1,())).set (0+v.2.1.toNat) (b.1,IntKind.i64.wrap (v.1+1),b.2.2.1,b.2.2.2.1,b.2.2.2.2.1,b.2.2.2.2.2.1,b.2.2.2.2.2.2.1,b.2.2.2.2.2.2.2.1,b.2.2.2.2.2.2.2.2.1,()))[0+v.2.1.toNat]?.bind fun c=>if 0<=v.2.1/\v.2.1<(↑((((v.2.2.1.set (0+v.2.1.toNat) (v.1,a.2.1,a.2.2.1,a.2.2.2.1,a.2.2.2.2.1,a.2.2.2.2.2.1,a.2.2.2.2.2.2.1,a.2.2.2.2.2.2.2.1,a.2.2.2.2.2.2.2.2.1,())).set (0+v.2.1.toNat) (b.1,IntKind.i64.wrap (v.1+1),b.2.2.1,b.2.2.2.1,b.2.2.2.2.1,b.2.2.2.2.2.1,b.2.2.2.2.2.2.1,b.2.2.2.2.2.2.2.1,b.2.2.2.2.2.2.2.2.1,())).set (0+v.2.1.toNat) (c.1,c.2.1,IntKind.i64.wrap (IntKind.i64.wrap (v.1+1)+1),c.2.2.2.1,c.2.2.2.2.1,c.2.2.2.2.2.1,c.2.2.2.2.2.2.1,c.2.2.2.2.2.2.2.1,c.2.2.2.2.2.2.2.2.1,())).length):Int)then(((v.2.2.1.set (0+v.2.1.toNat) (v.1,a.2.1,a.2.2.1,a.2.2.2.1,a.2.2.2.2.1,a.2.2.2.2.2.1,a.2.2.2.2.2.2.1,a.2.2.2.2.2.2.2.1,a.2.2.2.2.2.2.2.2.1,())).set (0+v.2.1.toNat) (b.1,IntKind.i64.wrap (v.1+1),b.2.2.1,b.2.2.2.1,b.2.2.2.2.1,b.2.2.2.2.2.1,b.2.2.2.2.2.2.1,b.2.2.2.2.2.2.2.1,b.2.2.2.2.2.2.2.2.1,())).set (0+v.2.1.toNat) (c.1,c.2.1,IntKind.i64.wrap (IntKind.i64.wrap (v.1+1)+1),c.2.2.2.1,c.2.2.2.2.1,c.2.2.2.2.2.1,c.2.2.2.2.2.2.1,c.2.2.2.2.2.2.2.1,c.2.2.2.2.2.2.2.2.1,()))[0+v.2.1.toNat]?.bind fun d=>if 0<=v.2.1/\v.2.1<(↑(((((v.2.2.1.set (0+v.2.1.toNat) (v.1,a.2.1,a.2.2.1,a.2.2.2.1,a.2.2.2.2.1,a.2.2.2.2.2.1,a.2.2.2.2.2.2.1,a.2.2.2.2.2.2.2.1,a.2.2.2.2.2.2.2.2.1,())).set (0+v.2.1.toNat) (b.1,IntKind.i64.wrap (v.1+1),b.2.2.1,b.2.2.2.1,b.2.2.2.2.1,b.2.2.2.2.2.1,b.2.2.2.2.2.2.1,b.2.2.2.2.2.2.2.1,b.2.2.2.2.2.2.2.2.1,())).set (0+v.2.1.toNat) (c.1,c.2.1,IntKind.i64.wrap (IntKind.i64.wrap (v.1+1)+1),c.2.2.2.1,c.2.2.2.2.1,c.2.2.2.2.2.1,c.2.2.2.2.2.2.1,c.2.2.2.2.2.2.2.1,c.2.2.2.2.2.2.2.2.1,())).set (0+v.2.1.toNat) (d.1,d.2.1,d.2.2.1,IntKind.i64.wrap (IntKind.i64.wrap (IntKind.i64.wrap (v.1+1)+1)+1),d.2.2.2.2.1,d.2.2.2.2.2.1,d.2.2.2.2.2.2.1,d.2.2.2.2.2.2.2.1,d.2.2.2.2.2.2.2.2.1,())).length):Int)then((((v.2.2.1.set (0+v.2.1.toNat) (v.1,a.2.1,a.2.2.1,a.2.2.2.1,a.2.2.2.2.1,a.2.2.2.2.2.1,a.2.2.2.2.2.2.1,a.2.2.2.2.2.2.2.1,a.2.2.2.2.2.2.2.2.1,())).set (0+v.2.1.toNat) (b.1,IntKind.i64.wrap (v.1+1),b.2.2.1,b.2.2.2.1,b.2.2.2.2.1,b.2.2.2.2.2.1,b.2.2.2.2.2.2.1,b.2.2.2.2.2.2.2.1,b.2.2.2.2.2.2.2.2.1,())).set (0+v.2.1.toNat) (c.1,c.2.1,IntKind.i64.wrap (IntKind.i64.wrap (v.1+1)+1),c.2.2.2.1,c.2.2.2.2.1,c.2.2.2.2.2.1,c.2.2.2.2.2.2.1,c.2.2.2.2.2.2.2.1,c.2.2.2.2.2.2.2.2.1,())).set (0+v.2.1.toNat) (d.1,d.2.1,d.2.2.1,IntKind.i64.wrap (IntKind.i64.wrap (IntKind.i64.wrap (v.1+1)+1)+1),d.2.2.2.2.1,d.2.2.2.2.2.1,d.2.2.2.2.2.2.1,d.2.2.2.2.2.2.2.1,d.2.2.2.2.2.2.2.2.1,()))[0+v.2.1.toNat]?.bind fun e=>if 0<=v.2.1/\v.2.1<(↑((((((v.2.2.1.set (0+v.2.1.toNat) (v.1,a.2.1,a.2.2.1,a.2.2.2.1,a.2.2.2.2.1,a.2.2.2.2.2.1,a.2.2.2.2.2.2.1,a.2.2.2.2.2.2.2.1,a.2.2.2.2.2.2.2.2.1,())).set (0+v.2.1.toNat) (b.1,IntKind.i64.wrap (v.1+1),b.2.2.1,b.2.2.2.1,b.2.2.2.2.1,b.2.2.2.2.2.1,b.2.2.2.2.2.2.1,b.2.2.2.2.2.2.2.1,b.2.2.2.2.2.2.2.2.1,())).set (0+v.2.1.toNat) (c.1,c.2.1,IntKind.i64.wrap (IntKind.i64.wrap (v.1+1)+1),c.2.2.2.1,c.2.2.2.2.1,c.2.2.2.2.2.1,c.2.2.2.2.2.2.1,c.2.2.2.2.2.2.2.1,c.2.2.2.2.2.2.2.2.1,())).set (0+v.2.1.toNat) (d.1,d.2.1,d.2.2.1,IntKind.i64.wrap (IntKind.i64.wrap (IntKind.i64.wrap (v.1+1)+1)+1),d.2.2.2.2.1,d.2.2.2.2.2.1,d.2.2.2.2.2.2.1,d.2.2.2.2.2.2.2.1,d.2.2.2.2.2.2.2.2.1,())).set (0+v.2.1.toNat) (e.1,e.2.1,e.2.2.1,e.2.2.2.1,IntKind.i64.wrap (IntKind.i64.wrap (IntKind.i64.wrap (IntKind.i64.wrap (v.1+1)+1)+1)+1),e.2.2.2.2.2.1,e.2.2.2.2.2.2.1,e.2.2.2.2.2.2.2.1,e.2.2.2.2.2.2.2.2.1,())).length):Int)then(((((v.2.2.1.set (0+v.2.1.toNat) (v.1,a.2.1,a.2.2.1,a.2.2.2.1,a.2.2.2.2.1,a.2.2.2.2.2.1,a.2.2.2.2.2.2.1,a.2.2.2.2.2.2.2.1,a.2.2.2.2.2.2.2.2.1,())).set (0+v.2.1.toNat) (b.1,IntKind.i64.wrap (v.1+1),b.2.2.1,b.2.2.2.1,b.2.2.2.2.1,b.2.2.2.2.2.1,b.2.2.2.2.2.2.1,b.2.2.2.2.2.2.2.1,b.2.2.2.2.2.2.2.2.1,())).set (0+v.2.1.toNat) (c.1,c.2.1,IntKind.i64.wrap (IntKind.i64.wrap (v.1+1)+1),c.2.2.2.1,c.2.2.2.2.1,c.2.2.2.2.2.1,c.2.2.2.2.2.2.1,c.2.2.2.2.2.2.2.1,c.2.2.2.2.2.2.2.2.1,())).set (0+v.2.1.toNat) (d.1,d.2.1,d.2.2.1,IntKind.i64.wrap (IntKind.i64.wrap (IntKind.i64.wrap (v.1+1)+1)+1),d.2.2.2.2.1,d.2.2.2.2.2.1,d.2.2.2.2.2.2.1,d.2.2.2.2.2.2.2.1,d.2.2.2.2.2.2.2.2.1,())).set (0+v.2.1.toNat) (e.1,e.2.1,e.2.2.1,e.2.2.2.1,IntKind.i64.wrap (IntKind.i64.wrap (IntKind.i64.wrap (IntKind.i64.wrap (v.1+1)+1)+1)+1),e.2.2.2.2.2.1,e.2.2.2.2.2.2.1,e.2.2.2.2.2.2.2.1,e.2.2.2.2.2.2.2.2.1,()))[0+v.2.1.toNat]?.bind fun f=>if 0<=v.2.1/\v.2.1<(↑(((((((v.2.2.1.set (0+v.2.1.toNat) (v.1,a.2.1,a.2.2.1,a.2.2.2.1,a.2.2.2.2.1,a.2.2.2.2.2.1,a.2.2.2.2.2.2.1,a.2.2.2.2.2.2.2.1,a.2.2.2.2.2.2.2.2.1,())).set (0+v.2.1.toNat) (b.1,IntKind.i64.wrap (v.1+1),b.2.2.1,b.2.2.2.1,b.2.2.2.2.1,b.2.2.2.2.2.1,b.2.2.2.2.2.2.1,b.2.2.2.2.2.2.2.1,b.2.2.2.2.2.2.2.2.1,())).set (0+v.2.1.toNat) (c.1,c.2.1,IntKind.i64.wrap (IntKind.i64.wrap (v.1+1)+1),c.2.2.2.1,c.2.2.2.2.1,c.2.2.2.2.2.1,c.2.2.2.2.2.2.1,c.2.2.2.2.2.2.2.1,c.2.2.2.2.2.2.2.2.1,())).set (0+v.2.1.toNat) (d.1,d.2.1,d.2.2.1,IntKind.i64.wrap (IntKind.i64.wrap (IntKind.i64.wrap (v.1+1)+1)+1),d.2.2.2.2.1,d.2.2.2.2.2.1,d.2.2.2.2.2.2.1,d.2.2.2.2.2.2.2.1,d.2.2.2.2.2.2.2.2.1,())).set (0+v.2.1.toNat) (e.1,e.2.1,e.2.2.1,e.2.2.2.1,IntKind.i64.wrap (IntKind.i64.wrap (IntKind.i64.wrap (IntKind.i64.wrap (v.1+1)+1)+1)+1),e.2.2.2.2.2.1,e.2.2.2.2.2.2.1,e.2.2.2.2.2.2.2.1,e.2.2.2.2.2.2.2.2.1,())).set (0+v.2.1.toNat) (f.1,f.2.1,f.2.2.1,f.2.2.2.1,f.2.2.2.2.1,IntKind.i64.wrap (IntKind.i64.wrap (IntKind.i64.wrap (IntKind.i64.wrap (IntKind.i64.wrap (v.1+1)+1)+1)+1)+1),f.2.2.2.2.2.2.1,f.2.2.2.2.2.2.2.1,f.2.2.2.2.2.2.2.2.1,())).length):Int)then((((((v.2.2.1.set (0+v.2.1.toNat) (v.1,a.2.1,a.2.2.1,a.2.2.2.1,a.2.2.2.2.1,a.2.2.2.2.2.1,a.2.2.2.2.2.2.1,a.2.2.2.2.2.2.2.1,a.2.2.2.2.2.2.2.2.1,())).set (0+v.2.1.toNat) (b.1,IntKind.i64.wrap (v.1+1),b.2.2.1,b.2.2.2.1,b.2.2.2.2.1,b.2.2.2.2.2.1,b.2.2.2.2.2.2.1,b.2.2.2.2.2.2.2.1,b.2.2.2.2.2.2.2.2.1,())).set (0+v.2.1.toNat) (c.1,c.2.1,IntKind.i64.wrap (IntKind.i64.wrap (v.1+1)+1),c.2.2.2.1,c.2.2.2.2.1,c.2.2.2.2.2.1,c.2.2.2.2.2.2.1,c.2.2.2.2.2.2.2.1,c.2.2.2.2.2.2.2.2.1,())).set (0+v.2.1.toNat) (d.1,d.2.1,d.2.2.1,IntKind.i64.wrap (IntKind.i64.wrap (IntKind.i64.wrap (v.1+1)+1)+1),d.2.2.2.2.1,d.2.2.2.2.2.1,d.2.2.2.2.2.2.1,d.2.2.2.2.2.2.2.1,d.2.2.2.2.2.2.2.2.1,())).set (0+v.2.1.toNat) (e.1,e.2.1,e.2.2.1,e.2.2.2.1,IntKind.i64.wrap (IntKind.i64.wrap (IntKind.i64.wrap (IntKind.i64.wrap (v.1+1)+1)+1)+1),e.2.2.2.2.2.1,e.2.2.2.2.2.2.1,e.2.2.2.2.2.2.2.1,e.2.2.2.2.2.2.2.2.1,())).set (0+v.2.1.toNat) (f.1,f.2.1,f.2.2.1,f.2.2.2.1,f.2.2.2.2.1,IntKind.i64.wrap (IntKind.i64.wrap (IntKind.i64.wrap (IntKind.i64.wrap (IntKind.i64.wrap (v.1+1)+1)+1)+1)+1),f.2.2.2.2.2.2.1,f.2.2.2.2.2.2.2.1,f.2.2.2.2.2.2.2.2.1,()))[0+v.2.1.toNat]?.bind fun g=>if 0<=v.2.1/\v.2.1<(↑((((((((v.2.2.1.set (0+v.2.1.toNat) (v.1,a.2.1,a.2.2.1,a.2.2.2.1,a.2.2.2.2.1,a.2.2.2.2.2.1,a.2.2.2.2.2.2.1,a.2.2.2.2.2.2.2.1,a.2.2.2.2.2.2.2.2.1,())).set (0+v.2.1.toNat) (b.1,IntKind.i64.wrap (v.1+1),b.2.2.1,b.2.2.2.1,b.2.2.2.2.1,b.2.2.2.2.2.1,b.2.2.2.2.2.2.1,b.2.2.2.2.2.2.2.1,b.2.2.2.2.2.2.2.2.1,())).set (0+v.2.1.toNat) (c.1,c.2.1,IntKind.i64.wrap (IntKind.i64.wrap (v.1+1)+1),c.2.2.2.1,c.2.2.2.2.1,c.2.2.2.2.2.1,c.2.2.2.2.2.2.1,c.2.2.2.2.2.2.2.1,c.2.2.2.2.2.2.2.2.1,())).set (0+v.2.1.toNat) (d.1,d.2.1,d.2.2.1,IntKind.i64.wrap (IntKind.i64.wrap (IntKind.i64.wrap (v.1+1)+1)+1),d.2.2.2.2.1,d.2.2.2.2.2.1,d.2.2.2.2.2.2.1,d.2.2.2.2.2.2.2.1,d.2.2.2.2.2.2.2.2.1,())).set (0+v.2.1.toNat) (e.1,e.2.1,e.2.2.1,e.2.2.2.1,IntKind.i64.wrap (IntKind.i64.wrap (IntKind.i64.wrap (IntKind.i64.wrap (v.1+1)+1)+1)+1),e.2.2.2.2.2.1,e.2.2.2.2.2.2.1,e.2.2.2.2.2.2.2.1,e.2.2.2.2.2.2.2.2.1,())).set (0+v.2.1.toNat) (f.1,f.2.1,f.2.2.1,f.2.2.2.1,f.2.2.2.2.1,IntKind.i64.wrap (IntKind.i64.wrap (IntKind.i64.wrap (IntKind.i64.wrap (IntKind.i64.wrap (v.1+1)+1)+1)+1)+1),f.2.2.2.2.2.2.1,f.2.2.2.2.2.2.2.1,f.2.2.2.2.2.2.2.2.1,())).set (0+v.2.1.toNat) (g.1,g.2.1,g.2.2.1,g.2.2.2.1,g.2.2.2.2.1,g.2.2.2.2.2.1,IntKind.i64.wrap (IntKind.i64.wrap (IntKind.i64.wrap (IntKind.i64.wrap (IntKind.i64.wrap (IntKind.i64.wrap (v.1+1)+1)+1)+1)+1)+1),g.2.2.2.2.2.2.2.1,g.2.2.2.2.2.2.2.2.1,())).length):Int)then(((((((v.2.2.1.set (0+v.2.1.toNat) (v.1,a.2.1,a.2.2.1,a.2.2.2.1,a.2.2.2.2.1,a.2.2.2.2.2.1,a.2.2.2.2.2.2.1,a.2.2.2.2.2.2.2.1,a.2.2.2.2.2.2.2.2.1,())).set (0+v.2.1.toNat) (b.1,IntKind.i64.wrap (v.1+1),b.2.2.1,b.2.2.2.1,b.2.2.2.2.1,b.2.2.2.2.2.1,b.2.2.2.2.2.2.1,b.2.2.2.2.2.2.2.1,b.2.2.2.2.2.2.2.2.1,())).set (0+v.2.1.toNat) (c.1,c.2.1,IntKind.i64.wrap (IntKind.i64.wrap (v.1+1)+1),c.2.2.2.1,c.2.2.2.2.1,c.2.2.2.2.2.1,c.2.2.2.2.2.2.1,c.2.2.2.2.2.2.2.1,c.2.2.2.2.2.2.2.2.1,())).set (0+v.2.1.toNat) (d.1,d.2.1,d.2.2.1,IntKind.i64.wrap (IntKind.i64.wrap (IntKind.i64.wrap (v.1+1)+1)+1),d.2.2.2.2.1,d.2.2.2.2.2.1,d.2.2.2.2.2.2.1,d.2.2.2.2.2.2.2.1,d.2.2.2.2.2.2.2.2.1,())).set (0+v.2.1.toNat) (e.1,e.2.1,e.2.2.1,e.2.2.2.1,IntKind.i64.wrap (IntKind.i64.wrap (IntKind.i64.wrap (IntKind.i64.wrap (v.1+1)+1)+1)+1),e.2.2.2.2.2.1,e.2.2.2.2.2.2.1,e.2.2.2.2.2.2.2.1,e.2.2.2.2.2.2.2.2.1,())).set (0+v.2.1.toNat) (f.1,f.2.1,f.2.2.1,f.2.2.2.1,f.2.2.2.2.1,IntKind.i64.wrap (IntKind.i64.wrap (IntKind.i64.wrap (IntKind.i64.wrap (IntKind.i64.wrap (v.1+1)+1)+1)+1)+1),f.2.2.2.2.2.2.1,f.2.2.2.2.2.2.2.1,f.2.2.2.2.2.2.2.2.1,())).set (0+v.2.1.toNat) (g.1,g.2.1,g.2.2.1,g.2.2.2.1,g.2.2.2.2.1,g.2.2.2.2.2.1,IntKind.i64.wrap (IntKind.i64.wrap (IntKind.i64.wrap (IntKind.i64.wrap (IntKind.i64.wrap (IntKind.i64.wrap (v.1+1)+1)+1)+1)+1)+1),g.2.2.2.2.2.2.2.1,g.2.2.2.2.2.2.2.2.1,()))[0+v.2.1.toNat]?.bind fun h=>(EI (0+v.2.1.toNat,IntKind.i64.wrap (IntKind.i64.wrap (IntKind.i64.wrap (IntKind.i64.wrap (IntKind.i64.wrap (IntKind.i64.wrap (IntKind.i64.wrap (v.1+1)+1)+1)+1)+1)+1)+1),((((((v.2.2.1.set (0+v.2.1.toNat) (v.1,a.2.1,a.2.2.1,a.2.2.2.1,a.2.2.2.2.1,a.2.2.2.2.2.1,a.2.2.2.2.2.2.1,a.2.2.2.2.2.2.2.1,a.2.2.2.2.2.2.2.2.1,())).set (0+v.2.1.toNat) (b.1,IntKind.i64.wrap (v.1+1),b.2.2.1,b.2.2.2.1,b.2.2.2.2.1,b.2.2.2.2.2.1,b.2.2.2.2.2.2.1,b.2.2.2.2.2.2.2.1,b.2.2.2.2.2.2.2.2.1,())).set (0+v.2.1.toNat) (c.1,c.2.1,IntKind.i64.wrap (IntKind.i64.wrap (v.1+1)+1),c.2.2.2.1,c.2.2.2.2.1,c.2.2.2.2.2.1,c.2.2.2.2.2.2.1,c.2.2.2.2.2.2.2.1,c.2.2.2.2.2.2.2.2.1,())).set (0+v.2.1.toNat) (d.1,d.2.1,d.2.2.1,IntKind.i64.wrap (IntKind.i64.wrap (IntKind.i64.wrap (v.1+1)+1)+1),d.2.2.2.2.1,d.2.2.2.2.2.1,d.2.2.2.2.2.2.1,d.2.2.2.2.2.2.2.1,d.2.2.2.2.2.2.2.2.1,())).set (0+v.2.1.toNat) (e.1,e.2.1,e.2.2.1,e.2.2.2.1,IntKind.i64.wrap (IntKind.i64.wrap (IntKind.i64.wrap (IntKind.i64.wrap (v.1+1)+1)+1)+1),e.2.2.2.2.2.1,e.2.2.2.2.2.2.1,e.2.2.2.2.2.2.2.1,e.2.2.2.2.2.2.2.2.1,())).set (0+v.2.1.toNat) (f.1,f.2.1,f.2.2.1,f.2.2.2.1,f.2.2.2.2.1,IntKind.i64.wrap (IntKind.i64.wrap (IntKind.i64.wrap (IntKind.i64.wrap (IntKind.i64.wrap (v.1+1)+1)+1)+1)+1),f.2.2.2.2.2.2.1,f.2.2.2.2.2.2.2.1,f.2.2.2.2.2.2.2.2.1,())).set (0+v.2.1.toNat) (g.1,g.2.1,g.2.2.1,g.2.2.2.1,g.2.2.2.2.1,g.2.2.2.2.2.1,IntKind.i64.wrap (IntKind.i64.wrap (IntKind.i64.wrap (IntKind.i64.wrap (IntKind.i64.wrap (IntKind.i64.wrap (v.1+1)+1)+1)+1)+1)+1),g.2.2.2.2.2.2.2.1,g.2.2.2.2.2.2.2.2.1,()),())).bind fun j=>if 0<=v.2.1/\v.2.1<(j.2.1.length:Int)then j.2.1[0+v.2.1.toNat]?.bind fun k=>(Gp (0+v.2.1.toNat,j.1,j.2.1,())).bind fun l=>K (.inl (l.1,IntKind.i64.wrap (v.2.1+1),l.2.1,()))else none else none else none else none else none else none else none else none else none else K (.inr (v.1,v.2.2.1,()))
theorem JG:Bi Bn:=fun i v R K=>Af (Ay (Ac fun _=>Ay (Ac fun _=>Ay (Ac fun _=>Ay (Ac fun _=>Ay (Ac fun _=>Ay (Ac fun _=>Ay (Ac fun _=>Ay (Ac fun _=>Ac fun _=>Ay (Ac fun _=>Ac fun _=>Aa)))))))))) (Aa)
def SR:Tmpl:=⟨(.own 0 (.slot .i (jk 3 (.slot .i (jk 70 .nil))))),(.tree false 1 Ad .nil)⟩
def bR:Exs bV bT:=x1 (.exit 0) fun i p=>⟨jn 1 (.n (p.1)::jn 74 ([])),[some (Cont.tree false 1 Ad p.2.1 none)]⟩
def bU:=((.v (.v (.v .n))):Pk SR.ty _ _)
def qS:Cfg:={ti:=Au,ents:=[UZ,UY],ann:=[(2,Ao SR 1 (spP bU) Bn bR.E)],lent:=1}
def DI (x:Int×List A3×Unit):Option (Int×List A3×Unit):=(AE (fun v=>Bn () v _ some) (x.1,0,x.2.1,())).bind fun p=>some (p.1,p.2.1,())
def qR:Ent:=⟨73,⟨(.own 0 (.slot .i .nil)),(.tree false 0 Ad .nil)⟩,⟨(.slot .i .nil),(.tree false 1 Ad .nil)⟩,DI⟩
theorem bW:CfgOK Go.Proofs.Tryz.prog qS:=hcB (all_cons xE (all_cons xD all_nil))
theorem qQ:B7 Go.Proofs.Tryz.prog qS (lpc Go.Proofs.Tryz.f73 0):=lkA bW SR bU Bn bR [1] JG
theorem xC:Ah Go.Proofs.Tryz.prog qR:=okB bW Go.Proofs.Tryz.func73 qQ
abbrev bP:=Unit
abbrev bM:=Int×Int×List A1×Unit
abbrev bN:=Int×List A1×Unit
def DA (i:bP)(v:bM)(R:Type)(K:bM ⊕ bN->Option R):Option R:=bif decide (v.2.1<(v.2.2.1.length:Int))then if 0<=v.2.1/\v.2.1<(v.2.2.1.length:Int)then v.2.2.1[0+v.2.1.toNat]?.bind fun a=>if 0<=v.2.1/\v.2.1<(↑((v.2.2.1.set (0+v.2.1.toNat) (v.1,a.2.1,())).length):Int)then(v.2.2.1.set (0+v.2.1.toNat) (v.1,a.2.1,()))[0+v.2.1.toNat]?.bind fun b=>K (.inl (IntKind.i64.wrap (IntKind.i64.wrap (v.1+1)+1),IntKind.i64.wrap (v.2.1+1),(v.2.2.1.set (0+v.2.1.toNat) (v.1,a.2.1,())).set (0+v.2.1.toNat) (b.1,IntKind.i64.wrap (v.1+1),()),()))else none else none else K (.inr (v.1,v.2.2.1,()))
theorem LO:Bi DA:=fun i v R K=>Af (Ay (Ac fun _=>Ay (Ac fun _=>Aa))) (Aa)
def SQ:Tmpl:=⟨(.own 0 (.slot .i (jk 3 (.slot .i (jk 21 .nil))))),(.lst false A0 .nil)⟩
def bL:Exs bP bN:=x1 (.exit 0) fun i p=>⟨jn 1 (.n (p.1)::jn 25 ([])),[some (Cont.lst false A0 p.2.1)]⟩
def bO:=((.v (.v (.v .n))):Pk SQ.ty _ _)
def qP:Cfg:={ti:=Au,ents:=[],ann:=[(2,Ao SQ 1 (spP bO) DA bL.E)],lent:=1}
def GZ (x:Int×List A1×Unit):Option (Int×List A1×Unit):=(AE (fun v=>DA () v _ some) (x.1,0,x.2.1,())).bind fun p=>some (p.1,p.2.1,())
def qO:Ent:=⟨74,⟨(.own 0 (.slot .i .nil)),(.lst false A0 .nil)⟩,⟨(.slot .i .nil),(.lst false A0 .nil)⟩,GZ⟩
theorem bQ:CfgOK Go.Proofs.Tryz.prog qP:=hcB all_nil
theorem qN:B7 Go.Proofs.Tryz.prog qP (lpc Go.Proofs.Tryz.f74 0):=lkA bQ SQ bO DA bL [1] LO
theorem xB:Ah Go.Proofs.Tryz.prog qO:=okB bQ Go.Proofs.Tryz.func74 qN
abbrev bJ:=Unit
abbrev bG:=Int×Int×List A1×Unit
abbrev bH:=Int×List A1×Unit
def Dz (i:bJ)(v:bG)(R:Type)(K:bG ⊕ bH->Option R):Option R:=bif decide (v.2.1<(v.2.2.1.length:Int))then if 0<=v.2.1/\v.2.1<(v.2.2.1.length:Int)then v.2.2.1[0+v.2.1.toNat]?.bind fun a=>if 0<=v.2.1/\v.2.1<(↑((v.2.2.1.set (0+v.2.1.toNat) (v.1,a.2.1,())).length):Int)then(v.2.2.1.set (0+v.2.1.toNat) (v.1,a.2.1,()))[0+v.2.1.toNat]?.bind fun b=>K (.inl (IntKind.i64.wrap (IntKind.i64.wrap (v.1+1)+1),IntKind.i64.wrap (v.2.1+1),(v.2.2.1.set (0+v.2.1.toNat) (v.1,a.2.1,())).set (0+v.2.1.toNat) (b.1,IntKind.i64.wrap (v.1+1),()),()))else none else none else K (.inr (v.1,v.2.2.1,()))
theorem LN:Bi Dz:=fun i v R K=>Af (Ay (Ac fun _=>Ay (Ac fun _=>Aa))) (Aa)
def SP:Tmpl:=⟨(.own 0 (.slot .i (jk 3 (.slot .i (jk 21 .nil))))),(.lst false A0 .nil)⟩
def bF:Exs bJ bH:=x1 (.exit 0) fun i p=>⟨jn 1 (.n (p.1)::jn 25 ([])),[some (Cont.lst false A0 p.2.1)]⟩
def bI:=((.v (.v (.v .n))):Pk SP.ty _ _)
def qM:Cfg:={ti:=Au,ents:=[],ann:=[(2,Ao SP 1 (spP bI) Dz bF.E)],lent:=1}
def GX (x:Int×List A1×Unit):Option (Int×List A1×Unit):=(AE (fun v=>Dz () v _ some) (x.1,0,x.2.1,())).bind fun p=>some (p.1,p.2.1,())
def qL:Ent:=⟨75,⟨(.own 0 (.slot .i .nil)),(.lst false A0 .nil)⟩,⟨(.slot .i .nil),(.lst false A0 .nil)⟩,GX⟩
theorem bK:CfgOK Go.Proofs.Tryz.prog qM:=hcB all_nil
theorem qK:B7 Go.Proofs.Tryz.prog qM (lpc Go.Proofs.Tryz.f75 0):=lkA bK SP bI Dz bF [1] LN
theorem xA:Ah Go.Proofs.Tryz.prog qL:=okB bK Go.Proofs.Tryz.func75 qK
def Ev (x:Bool×Int×Int×A7):Option (Int×A7):=(GY (x.2.2.1,x.2.2.2.1,())).bind fun v=>(DI (v.1,x.2.2.2.2.1,())).bind fun a=>(GZ (a.1,x.2.2.2.2.2.1,())).bind fun b=>(GX (b.1,x.2.2.2.2.2.2.1,())).bind fun c=>some (c.1,v.2.1,a.2.1,b.2.1,c.2.1,())
def qJ:Ent:=⟨16,⟨(.agg (.slot .bool (.own 0 (.own 1 (.own 2 (.own 3 (.slot .i .nil)))))) (.slot .i .nil)),(.tree false 0 (.slice Ae) (.tree false 0 Ad (.lst false A0 (.lst false A0 .nil))))⟩,⟨(.slot .i .nil),(.tree false 0 (.slice Ae) (.tree false 1 Ad (.lst false A0 (.lst false A0 .nil))))⟩,Ev⟩
theorem xz:Ah Go.Proofs.Tryz.prog qJ:=okA (hcA 4 (all_cons xF (all_cons xC (all_cons xB (all_cons xA all_nil))))) Go.Proofs.Tryz.func16
abbrev bC:=Unit
abbrev bz:=Int×Int×List Int×Unit
abbrev bA:=Int×List Int×Unit
def DV (i:bC)(v:bz)(R:Type)(K:bz ⊕ bA->Option R):Option R:=bif decide (v.2.1<(v.2.2.1.length:Int))then if 0<=v.2.1/\v.2.1<(v.2.2.1.length:Int)then v.2.2.1[0+v.2.1.toNat]?.bind fun a=>K (.inl (IntKind.i64.wrap (v.1+1),IntKind.i64.wrap (v.2.1+1),v.2.2.1.set (0+v.2.1.toNat) v.1,()))else none else K (.inr (v.1,v.2.2.1,()))
theorem Mh:Bi DV:=fun i v R K=>Af (Ay (Ac fun _=>Aa)) (Aa)
def SO:Tmpl:=⟨(.own 0 (.slot .i (jk 3 (.slot .i (jk 13 .nil))))),(.lst false .i .nil)⟩
def bx:Exs bC bA:=x1 (.exit 0) fun i p=>⟨jn 1 (.n (p.1)::jn 17 ([])),[some (Cont.lst false .i p.2.1)]⟩
def bB:=((.v (.v (.v .n))):Pk SO.ty _ _)
def qI:Cfg:={ti:=Au,ents:=[],ann:=[(2,Ao SO 1 (spP bB) DV bx.E)],lent:=1}
def HN (x:Int×List Int×Unit):Option (Int×List Int×Unit):=(AE (fun v=>DV () v _ some) (x.1,0,x.2.1,())).bind fun p=>some (p.1,p.2.1,())
def qH:Ent:=⟨27,⟨(.own 0 (.slot .i .nil)),(.lst false .i .nil)⟩,⟨(.slot .i .nil),(.lst false .i .nil)⟩,HN⟩
theorem bD:CfgOK Go.Proofs.Tryz.prog qI:=hcB all_nil
theorem qG:B7 Go.Proofs.Tryz.prog qI (lpc Go.Proofs.Tryz.f27 0):=lkA bD SO bB DV bx [1] Mh
theorem xy:Ah Go.Proofs.Tryz.prog qH:=okB bD Go.Proofs.Tryz.func27 qG
def HM (x:Int×Int×List Int×Unit):Option (Int×List Int×Unit):=(HN (x.2.1,x.2.2.1,())).bind fun v=>some (v.1,v.2.1,())
def qF:Ent:=⟨17,⟨(.agg (.slot .i (.own 0 .nil)) (.slot .i .nil)),(.lst false .i .nil)⟩,⟨(.slot .i .nil),(.lst false .i .nil)⟩,HM⟩
theorem xx:Ah Go.Proofs.Tryz.prog qF:=okA (hcA 1 (all_cons xy all_nil)) Go.Proofs.Tryz.func17
abbrev bv:=List A2×Unit
abbrev bq:=Int×Int×Unit
abbrev bt:=Int×Unit ⊕ Int×Unit ⊕ Int×Unit ⊕ Int×Unit ⊕ Int×Unit ⊕ Int×Unit
def D8 (i:bv)(v:bq)(R:Type)(K:bq ⊕ bt->Option R):Option R:=bif decide (v.2.1<(i.1.length:Int))then(lAt i.1 v.2.1).bind fun a=>bif a.1 != v.1 then K (.inr (.inl (v.1,())))else(lAt i.1 v.2.1).bind fun b=>bif b.2.1 != IntKind.i64.wrap (v.1+1)then K (.inr (.inr (.inl (IntKind.i64.wrap (v.1+1),()))))else(lAt i.1 v.2.1).bind fun c=>bif c.2.2.1 != IntKind.i64.wrap (IntKind.i64.wrap (v.1+1)+1)then K (.inr (.inr (.inr (.inl (IntKind.i64.wrap (IntKind.i64.wrap (v.1+1)+1),())))))else(lAt i.1 v.2.1).bind fun d=>bif d.2.2.2.1 != IntKind.i64.wrap (IntKind.i64.wrap (IntKind.i64.wrap (v.1+1)+1)+1)then K (.inr (.inr (.inr (.inr (.inl (IntKind.i64.wrap (IntKind.i64.wrap (IntKind.i64.wrap (v.1+1)+1)+1),()))))))else(lAt i.1 v.2.1).bind fun e=>bif e.2.2.2.2.1 != IntKind.i64.wrap (IntKind.i64.wrap (IntKind.i64.wrap (IntKind.i64.wrap (v.1+1)+1)+1)+1)then K (.inr (.inr (.inr (.inr (.inr (.inl (IntKind.i64.wrap (IntKind.i64.wrap (IntKind.i64.wrap (IntKind.i64.wrap (v.1+1)+1)+1)+1),())))))))else K (.inl (IntKind.i64.wrap (IntKind.i64.wrap (IntKind.i64.wrap (IntKind.i64.wrap (IntKind.i64.wrap (v.1+1)+1)+1)+1)+1),IntKind.i64.wrap (v.2.1+1),()))else K (.inr (.inr (.inr (.inr (.inr (.inr (v.1,())))))))
theorem Lm:Bi D8:=fun i v R K=>Af (Ac fun _=>Af (Aa) (Ac fun _=>Af (Aa) (Ac fun _=>Af (Aa) (Ac fun _=>Af (Aa) (Ac fun _=>Af (Aa) (Aa)))))) (Aa)
def SN:Tmpl:=⟨(.slot (.slice Ae) (.slot .i (jk 3 (.slot .i (jk 52 .nil))))),.nil⟩
def bp:Exs bv bt:=xs .ret (fun i p=>⟨jn 1 (.n (p.1)::jn 2 (.n (-1)::jn 53 ([]))),[]⟩)<|xs .ret (fun i p=>⟨jn 1 (.n (p.1)::jn 2 (.n (-1)::jn 53 ([]))),[]⟩)<|xs .ret (fun i p=>⟨jn 1 (.n (p.1)::jn 2 (.n (-1)::jn 53 ([]))),[]⟩)<|xs .ret (fun i p=>⟨jn 1 (.n (p.1)::jn 2 (.n (-1)::jn 53 ([]))),[]⟩)<|xs .ret (fun i p=>⟨jn 1 (.n (p.1)::jn 2 (.n (-1)::jn 53 ([]))),[]⟩)<|x1 (.exit 0) fun i p=>⟨jn 1 (.n (p.1)::jn 56 ([])),[]⟩
def bu:=((.i (.v (.v .n))):Pk SN.ty _ _)
def qE:Cfg:={ti:=Au,ents:=[],ann:=[(2,Ao SN 0 (spP bu) D8 bp.E)],lent:=0}
def Gq (x:List A2×Int×Unit):Option (Int×Unit):=(AE (fun v=>D8 (x.1,()) v _ some) (x.2.1,0,())).bind fun p=>Az p (fun p=>some (-1,())) fun p=>Az p (fun p=>some (-1,())) fun p=>Az p (fun p=>some (-1,())) fun p=>Az p (fun p=>some (-1,())) fun p=>Az p (fun p=>some (-1,())) fun p=>some (p.1,())
def UX:Ent:=⟨220,⟨(.slot (.slice Ae) (.slot .i .nil)),.nil⟩,⟨(.slot .i .nil),.nil⟩,Gq⟩
theorem bw:CfgOK Go.Proofs.Tryz.prog qE:=hcB all_nil
theorem qD:B7 Go.Proofs.Tryz.prog qE (lpc Go.Proofs.Tryz.f220 0):=lkA bw SN bu D8 bp [1,4] Lm
theorem xw:Ah Go.Proofs.Tryz.prog UX:=okB bw Go.Proofs.Tryz.func220 qD
abbrev bn:=List (List A2)×Unit
abbrev bk:=Int×Int×Unit
abbrev bl:=Int×Unit ⊕ Int×Unit
def BR (i:bn)(v:bk)(R:Type)(K:bk ⊕ bl->Option R):Option R:=bif decide (v.2.1<(i.1.length:Int))then(lAt i.1 v.2.1).bind fun a=>(Gq (a,v.1,())).bind fun b=>bif decide (b.1<0)then K (.inr (.inl (b.1,())))else K (.inl (b.1,IntKind.i64.wrap (v.2.1+1),()))else K (.inr (.inr (v.1,())))
theorem KX:Bi BR:=fun i v R K=>Af (Ac fun _=>Ac fun _=>Af (Aa) (Aa)) (Aa)
def SM:Tmpl:=⟨(.slot (.slice (.slice Ae)) (.slot .i (jk 3 (.slot .i (jk 15 .nil))))),.nil⟩
def bj:Exs bn bl:=xs .ret (fun i p=>⟨jn 1 (.n (p.1)::jn 2 (.n (-1)::jn 16 ([]))),[]⟩)<|x1 (.exit 0) fun i p=>⟨jn 1 (.n (p.1)::jn 19 ([])),[]⟩
def bm:=((.i (.v (.v .n))):Pk SM.ty _ _)
def qC:Cfg:={ti:=Au,ents:=[UX],ann:=[(2,Ao SM 0 (spP bm) BR bj.E)],lent:=0}
def G1 (x:List (List A2)×Int×Unit):Option (Int×Unit):=(AE (fun v=>BR (x.1,()) v _ some) (x.2.1,0,())).bind fun p=>Az p (fun p=>some (-1,())) fun p=>some (p.1,())
def qB:Ent:=⟨157,⟨(.slot (.slice (.slice Ae)) (.slot .i .nil)),.nil⟩,⟨(.slot .i .nil),.nil⟩,G1⟩
theorem bo:CfgOK Go.Proofs.Tryz.prog qC:=hcB (all_cons xw all_nil)
theorem qA:B7 Go.Proofs.Tryz.prog qC (lpc Go.Proofs.Tryz.f157 0):=lkA bo SM bm BR bj [1,4] KX
theorem xv:Ah Go.Proofs.Tryz.prog qB:=okB bo Go.Proofs.Tryz.func157 qA
def Ii (x:A4×Int×Unit):Option (Int×Unit):=(G1 (x.1.1,x.2.1,())).bind fun v=>bif decide (v.1<0)then some (-1,())else some (v.1,())
def qz:Ent:=⟨76,⟨(.slot Bo (.slot .i .nil)),.nil⟩,⟨(.slot .i .nil),.nil⟩,Ii⟩
theorem xu:Ah Go.Proofs.Tryz.prog qz:=okA (hcA 0 (all_cons xv all_nil)) Go.Proofs.Tryz.func76
abbrev bh:=List A1×Unit
abbrev bd:=Int×Int×Unit
abbrev bf:=Int×Unit ⊕ Int×Unit ⊕ Int×Unit
def CQ (i:bh)(v:bd)(R:Type)(K:bd ⊕ bf->Option R):Option R:=bif decide (v.2.1<(i.1.length:Int))then(lAt i.1 v.2.1).bind fun a=>bif a.1 != v.1 then K (.inr (.inl (v.1,())))else(lAt i.1 v.2.1).bind fun b=>bif b.2.1 != IntKind.i64.wrap (v.1+1)then K (.inr (.inr (.inl (IntKind.i64.wrap (v.1+1),()))))else K (.inl (IntKind.i64.wrap (IntKind.i64.wrap (v.1+1)+1),IntKind.i64.wrap (v.2.1+1),()))else K (.inr (.inr (.inr (v.1,()))))
theorem KY:Bi CQ:=fun i v R K=>Af (Ac fun _=>Af (Aa) (Ac fun _=>Af (Aa) (Aa))) (Aa)
def SL:Tmpl:=⟨(.slot (.slice A0) (.slot .i (jk 3 (.slot .i (jk 25 .nil))))),.nil⟩
def bc:Exs bh bf:=xs .ret (fun i p=>⟨jn 1 (.n (p.1)::jn 2 (.n (-1)::jn 26 ([]))),[]⟩)<|xs .ret (fun i p=>⟨jn 1 (.n (p.1)::jn 2 (.n (-1)::jn 26 ([]))),[]⟩)<|x1 (.exit 0) fun i p=>⟨jn 1 (.n (p.1)::jn 29 ([])),[]⟩
def bg:=((.i (.v (.v .n))):Pk SL.ty _ _)
def qy:Cfg:={ti:=Au,ents:=[],ann:=[(2,Ao SL 0 (spP bg) CQ bc.E)],lent:=0}
def G2 (x:List A1×Int×Unit):Option (Int×Unit):=(AE (fun v=>CQ (x.1,()) v _ some) (x.2.1,0,())).bind fun p=>Az p (fun p=>some (-1,())) fun p=>Az p (fun p=>some (-1,())) fun p=>some (p.1,())
def UW:Ent:=⟨158,⟨(.slot (.slice A0) (.slot .i .nil)),.nil⟩,⟨(.slot .i .nil),.nil⟩,G2⟩
theorem bi:CfgOK Go.Proofs.Tryz.prog qy:=hcB all_nil
theorem qx:B7 Go.Proofs.Tryz.prog qy (lpc Go.Proofs.Tryz.f158 0):=lkA bi SL bg CQ bc [1,4] KY
theorem xt:Ah Go.Proofs.Tryz.prog UW:=okB bi Go.Proofs.Tryz.func158 qx
end
end Go.Ab
