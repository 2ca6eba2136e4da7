import Derived.Test.YtchkllapojehpaaGreatSp1
set_option linter.all false
set_option maxRecDepth 100000
namespace Go.Ab
noncomputable section
abbrev An8:=List A1×List A1×Int×Unit
abbrev An5:=Int×Unit
abbrev An6:=Int×Int×Unit ⊕ Int×Int×Unit ⊕ Int×Int×Unit ⊕ Unit
def Dz (i:An8)(v:An5)(R:Type)(K:An5 ⊕ An6->Option R):Option R:=bif decide (v.1<i.2.2.1)then(lAt i.2.1 v.1).bind fun a=>(Dl (a.1,())).bind fun b=>bif !b.1 then K (.inr (.inl (a.1,a.2.1,())))else(Gc (a.2.1,())).bind fun c=>bif !c.1 then K (.inr (.inr (.inl (a.1,a.2.1,()))))else bif decide (v.1>0)then(lAt i.1 (IntKind.i64.wrap (v.1-1))).bind fun d=>bif decide (d.1>=a.1)then K (.inr (.inr (.inr (.inl (a.1,a.2.1,())))))else K (.inl (IntKind.i64.wrap (v.1+1),()))else K (.inl (IntKind.i64.wrap (v.1+1),()))else K (.inr (.inr (.inr (.inr ()))))
theorem M4:Bg Dz:=fun i v R K=>Ae (Ac fun _=>Ac fun _=>Ae (Aa) (Ac fun _=>Ae (Aa) (Ae (Ac fun _=>Ae (Aa) (Aa)) (Aa)))) (Aa)
def A6l:Tmpl:=⟨(.slot (.slice A0) (jk 4 (.slot (.slice A0) (si 2 (jk 30 .nil))))),.nil⟩
def An4:Exs An8 An6:=xs .ret (fun i p=>⟨jn 2 (.b (false)::jn 35 ([])),[some (Cont.cells 2 [[AV.pv .i p.1,AV.pv .i p.2.1]])]⟩)<|xs .ret (fun i p=>⟨jn 2 (.b (false)::jn 35 ([])),[some (Cont.cells 2 [[AV.pv .i p.1,AV.pv .i p.2.1]])]⟩)<|xs .ret (fun i p=>⟨jn 2 (.b (false)::jn 35 ([])),[some (Cont.cells 2 [[AV.pv .i p.1,AV.pv .i p.2.1]])]⟩)<|x1 (.exit 0) fun i p=>⟨jn 38 ([]),[]⟩
def An7:=((.i (.i (.i (.v .n)))):Pk A6l.ty _ _)
def qC:Cfg:={ti:=Aw,ents:=[UC,XT],ann:=[(2,Ao A6l 0 (spP An7) Dz An4.E)],lent:=0}
def CG (x:List A1×Unit):Option (Bool×Unit):=(AC (fun v=>Dz (x.1,x.1,(x.1.length:Int),()) v _ some) (0,())).bind fun p=>Az p (fun p=>some (false,())) fun p=>Az p (fun p=>some (false,())) fun p=>Az p (fun p=>some (false,())) fun p=>some (true,())
def WK:Ent:=⟨233,⟨(.slot (.slice A0) .nil),.nil⟩,⟨(.slot .bool .nil),.nil⟩,CG⟩
theorem An9:CfgOK Go.Proofs.Tryz.prog qC:=hcB (all_cons Wd (all_cons iQ all_nil))
theorem Axa:B9 Go.Proofs.Tryz.prog qC (lpc Go.Proofs.Tryz.f233 0):=lkA An9 A6l An7 Dz An4 [2] M4
theorem oX:Ai Go.Proofs.Tryz.prog WK:=okB An9 Go.Proofs.Tryz.func233 Axa
def CL (x:A3×Unit):Option (Bool×Unit):=(BC (x.1.1,())).bind fun v=>bif !v.1 then some (false,())else(ER (x.1.2.1,())).bind fun v=>bif !v.1 then some (false,())else(BL (x.1.2.2.1,1,3,())).bind fun v=>bif !v.1 then some (false,())else(BL (x.1.2.2.2.1,0,999,())).bind fun v=>bif !v.1 then some (false,())else(BL (x.1.2.2.2.2.1,0,999,())).bind fun v=>bif !v.1 then some (false,())else(BL (x.1.2.2.2.2.2.1,1,1000,())).bind fun v=>bif !v.1 then some (false,())else bif x.1.2.2.1==2 then(JT (x.1.2.2.2.2.2.2.1,())).bind fun v=>bif !v.1 then some (false,())else bif x.1.2.2.1 != 2 then bif x.1.2.2.2.2.2.2.1 != 0 then some (false,())else(D6 (x.1.2.2.2.2.2.2.2.1,())).bind fun v=>bif v.1 then(CG (x.1.2.2.2.2.2.2.2.2.1,())).bind fun v=>some (v.1,())else some (false,())else(D6 (x.1.2.2.2.2.2.2.2.1,())).bind fun v=>bif v.1 then(CG (x.1.2.2.2.2.2.2.2.2.1,())).bind fun v=>some (v.1,())else some (false,())else bif x.1.2.2.1 != 2 then bif x.1.2.2.2.2.2.2.1 != 0 then some (false,())else(D6 (x.1.2.2.2.2.2.2.2.1,())).bind fun v=>bif v.1 then(CG (x.1.2.2.2.2.2.2.2.2.1,())).bind fun v=>some (v.1,())else some (false,())else(D6 (x.1.2.2.2.2.2.2.2.1,())).bind fun v=>bif v.1 then(CG (x.1.2.2.2.2.2.2.2.2.1,())).bind fun v=>some (v.1,())else some (false,())
def UB:Ent:=⟨192,⟨(.slot Ad .nil),.nil⟩,⟨(.slot .bool .nil),.nil⟩,CL⟩
theorem i8:Ai Go.Proofs.Tryz.prog UB:=okA (hcA 0 (all_cons VD (all_cons ia (all_cons Sy (all_cons p0 (all_cons oY (all_cons oX all_nil))))))) Go.Proofs.Tryz.func192
def GC (x:A2×Option Int×Unit):Option (Bool×Unit):=x.2.1.bind fun v=>some (x.1.2.2.1==v,())
def UA:Ent:=⟨286,⟨(.slot Af (.slot (.iref .i) .nil)),.nil⟩,⟨(.slot .bool .nil),.nil⟩,GC⟩
theorem oU:Ai Go.Proofs.Tryz.prog UA:=okA (hcA 0 all_nil) Go.Proofs.Tryz.func286
abbrev An2:=List A2×(Option Int×Unit)×Int×Unit
abbrev Amz:=Int×Unit
abbrev An0:=Int×Unit ⊕ Unit
def AF (i:An2)(v:Amz)(R:Type)(K:Amz ⊕ An0->Option R):Option R:=bif decide (v.1<i.2.2.1)then(lAt i.1 v.1).bind fun a=>(GC ((a.1,a.2.1,a.2.2.1,a.2.2.2.1,a.2.2.2.2.1,()),i.2.1.1,())).bind fun b=>bif b.1 then K (.inr (.inl (v.1,())))else K (.inl (IntKind.i64.wrap (v.1+1),()))else K (.inr (.inr ()))
theorem FG:Bg AF:=fun i v R K=>Ae (Ac fun _=>Ac fun _=>Ae (Aa) (Aa)) (Aa)
def A6k:Tmpl:=⟨(.slot (.slice Af) (.slot (.fn 286 (.prod (.iref .i) .unit)) (jk 5 (si 2 (jk 10 .nil))))),.nil⟩
def Amy:Exs An2 An0:=xs .ret (fun i p=>⟨jn 4 (.n (p.1)::jn 14 ([])),[]⟩)<|x1 (.exit 0) fun i p=>⟨jn 19 ([]),[]⟩
def An1:=((.i (.i (.i (.v .n)))):Pk A6k.ty _ _)
def Ax9:Cfg:={ti:=Aw,ents:=[UA],ann:=[(2,Ao A6k 0 (spP An1) AF Amy.E)],lent:=0}
def Cb (x:List A2×(Option Int×Unit)×Unit):Option (Int×Unit):=(AC (fun v=>AF (x.1,x.2.1,(x.1.length:Int),()) v _ some) (0,())).bind fun p=>Az p (fun p=>some (p.1,())) fun p=>some (-1,())
def WJ:Ent:=⟨285,⟨(.slot (.slice Af) (.slot (.fn 286 (.prod (.iref .i) .unit)) .nil)),.nil⟩,⟨(.slot .i .nil),.nil⟩,Cb⟩
theorem An3:CfgOK Go.Proofs.Tryz.prog Ax9:=hcB (all_cons oU all_nil)
theorem Ax8:B9 Go.Proofs.Tryz.prog Ax9 (lpc Go.Proofs.Tryz.f285 0):=lkA An3 A6k An1 AF Amy [4] FG
theorem oO:Ai Go.Proofs.Tryz.prog WJ:=okB An3 Go.Proofs.Tryz.func285 Ax8
def Er (x:List A2×Int×Unit):Option (Int×Unit):=(Cb (x.1,(some x.2.1,()),())).bind fun v=>some (v.1,())
def ff:Ent:=⟨267,⟨(.slot (.slice Af) (.slot .i .nil)),.nil⟩,⟨(.slot .i .nil),.nil⟩,Er⟩
theorem i7:Ai Go.Proofs.Tryz.prog ff:=okA (hcA 0 (all_cons oO all_nil)) Go.Proofs.Tryz.func267
def F7 (x:A4×A1×Unit):Option (Option A2×Unit):=(lAt x.1.1 x.2.1.1).bind fun v=>(Er (v,x.2.1.2.1,())).bind fun a=>bif decide (a.1<0)then some (none,())else(lAt v a.1).bind fun v=>some (some v,())
def Uz:Ent:=⟨236,⟨(.slot Bp (.slot A0 .nil)),.nil⟩,⟨(.slot (.iref Af) .nil),.nil⟩,F7⟩
theorem Yp:Ai Go.Proofs.Tryz.prog Uz:=okA (hcA 0 (all_cons i7 all_nil)) Go.Proofs.Tryz.func236
def Oa (x:A1×Option A4×Unit):Option (Bool×Unit):=x.2.1.bind fun v=>(F7 ((v.1,()),(x.1.1,x.1.2.1,()),())).bind fun v=>some (Option.isNone v.1,())
def Uy:Ent:=⟨235,⟨(.slot A0 (.slot (.iref Bp) .nil)),.nil⟩,⟨(.slot .bool .nil),.nil⟩,Oa⟩
theorem Wa:Ai Go.Proofs.Tryz.prog Uy:=okA (hcA 0 (all_cons Yp all_nil)) Go.Proofs.Tryz.func235
abbrev Amw:=List A1×(Option A4×Unit)×Int×Unit
abbrev Amt:=Int×Unit
abbrev Amu:=Int×Unit ⊕ Unit
def Dj (i:Amw)(v:Amt)(R:Type)(K:Amt ⊕ Amu->Option R):Option R:=bif decide (v.1<i.2.2.1)then(lAt i.1 v.1).bind fun a=>(Oa ((a.1,a.2.1,()),i.2.1.1,())).bind fun b=>bif b.1 then K (.inr (.inl (v.1,())))else K (.inl (IntKind.i64.wrap (v.1+1),()))else K (.inr (.inr ()))
theorem O9:Bg Dj:=fun i v R K=>Ae (Ac fun _=>Ac fun _=>Ae (Aa) (Aa)) (Aa)
def A6j:Tmpl:=⟨(.slot (.slice A0) (.slot (.fn 235 (.prod (.iref Bp) .unit)) (jk 5 (si 2 (jk 10 .nil))))),.nil⟩
def Ams:Exs Amw Amu:=xs .ret (fun i p=>⟨jn 4 (.n (p.1)::jn 14 ([])),[]⟩)<|x1 (.exit 0) fun i p=>⟨jn 19 ([]),[]⟩
def Amv:=((.i (.i (.i (.v .n)))):Pk A6j.ty _ _)
def Ax7:Cfg:={ti:=Aw,ents:=[Uy],ann:=[(2,Ao A6j 0 (spP Amv) Dj Ams.E)],lent:=0}
def IP (x:List A1×(Option A4×Unit)×Unit):Option (Int×Unit):=(AC (fun v=>Dj (x.1,x.2.1,(x.1.length:Int),()) v _ some) (0,())).bind fun p=>Az p (fun p=>some (p.1,())) fun p=>some (-1,())
def WI:Ent:=⟨266,⟨(.slot (.slice A0) (.slot (.fn 235 (.prod (.iref Bp) .unit)) .nil)),.nil⟩,⟨(.slot .i .nil),.nil⟩,IP⟩
theorem Amx:CfgOK Go.Proofs.Tryz.prog Ax7:=hcB (all_cons Wa all_nil)
theorem Ax6:B9 Go.Proofs.Tryz.prog Ax7 (lpc Go.Proofs.Tryz.f266 0):=lkA Amx A6j Amv Dj Ams [4] O9
theorem oG:Ai Go.Proofs.Tryz.prog WI:=okB Amx Go.Proofs.Tryz.func266 Ax6
def Ib (x:List A1×(Option A4×Unit)×Unit):Option (Bool×Unit):=(IP (x.1,x.2.1,())).bind fun v=>some (decide (v.1>=0),())
def WH:Ent:=⟨234,⟨(.slot (.slice A0) (.slot (.fn 235 (.prod (.iref Bp) .unit)) .nil)),.nil⟩,⟨(.slot .bool .nil),.nil⟩,Ib⟩
theorem bJ:Ai Go.Proofs.Tryz.prog WH:=okA (hcA 0 (all_cons oG all_nil)) Go.Proofs.Tryz.func234
def KW (x:A4×List A1×Unit):Option (Bool×Unit):=(Ib (x.2.1,(some (x.1.1,()),()),())).bind fun v=>some (!v.1,())
def Ux:Ent:=⟨193,⟨(.slot Bp (.slot (.slice A0) .nil)),.nil⟩,⟨(.slot .bool .nil),.nil⟩,KW⟩
theorem oz:Ai Go.Proofs.Tryz.prog Ux:=okA (hcA 0 (all_cons bJ all_nil)) Go.Proofs.Tryz.func193
abbrev Amr:=List A3×Int×Bool×List (List A2)×List A3×List A1×List A1×Int×Unit
abbrev Amo:=Int×Unit
abbrev Amp:=A3 ⊕ A3 ⊕ A3 ⊕ A3 ⊕ A3 ⊕ A3 ⊕ A3 ⊕ A3 ⊕ Unit
def Ho (i:Amr)(v:Amo)(R:Type)(K:Amo ⊕ Amp->Option R):Option R:=bif decide (v.1<i.2.1)then(lAt i.1 v.1).bind fun a=>(CL ((a.1,a.2.1,a.2.2.1,a.2.2.2.1,a.2.2.2.2.1,a.2.2.2.2.2.1,a.2.2.2.2.2.2.1,a.2.2.2.2.2.2.2.1,a.2.2.2.2.2.2.2.2.1,()),())).bind fun b=>bif !b.1 then K (.inr (.inl (a.1,a.2.1,a.2.2.1,a.2.2.2.1,a.2.2.2.2.1,a.2.2.2.2.2.1,a.2.2.2.2.2.2.1,a.2.2.2.2.2.2.2.1,a.2.2.2.2.2.2.2.2.1,())))else bif decide (v.1>0)then(lAt i.2.2.2.2.1 (IntKind.i64.wrap (v.1-1))).bind fun c=>bif decide (c.1>=a.1)then K (.inr (.inr (.inl (a.1,a.2.1,a.2.2.1,a.2.2.2.1,a.2.2.2.2.1,a.2.2.2.2.2.1,a.2.2.2.2.2.2.1,a.2.2.2.2.2.2.2.1,a.2.2.2.2.2.2.2.2.1,()))))else bif decide (a.2.2.2.1>i.2.2.2.2.2.2.2.1)then K (.inr (.inr (.inr (.inl (a.1,a.2.1,a.2.2.1,a.2.2.2.1,a.2.2.2.2.1,a.2.2.2.2.2.1,a.2.2.2.2.2.2.1,a.2.2.2.2.2.2.2.1,a.2.2.2.2.2.2.2.2.1,())))))else bif decide (a.2.2.2.2.2.2.1>i.2.2.2.2.2.2.2.1)then K (.inr (.inr (.inr (.inr (.inl (a.1,a.2.1,a.2.2.1,a.2.2.2.1,a.2.2.2.2.1,a.2.2.2.2.2.1,a.2.2.2.2.2.2.1,a.2.2.2.2.2.2.2.1,a.2.2.2.2.2.2.2.2.1,()))))))else bif a.2.2.1==1 then(KW ((i.2.2.2.1,()),a.2.2.2.2.2.2.2.1,())).bind fun d=>bif !d.1 then K (.inr (.inr (.inr (.inr (.inr (.inl (a.1,a.2.1,a.2.2.1,a.2.2.2.1,a.2.2.2.2.1,a.2.2.2.2.2.1,a.2.2.2.2.2.2.1,a.2.2.2.2.2.2.2.1,a.2.2.2.2.2.2.2.2.1,())))))))else K (.inl (IntKind.i64.wrap (v.1+1),()))else K (.inl (IntKind.i64.wrap (v.1+1),()))else bif decide (a.2.2.2.1>i.2.2.2.2.2.2.2.1)then K (.inr (.inr (.inr (.inr (.inr (.inr (.inl (a.1,a.2.1,a.2.2.1,a.2.2.2.1,a.2.2.2.2.1,a.2.2.2.2.2.1,a.2.2.2.2.2.2.1,a.2.2.2.2.2.2.2.1,a.2.2.2.2.2.2.2.2.1,()))))))))else bif decide (a.2.2.2.2.2.2.1>i.2.2.2.2.2.2.2.1)then K (.inr (.inr (.inr (.inr (.inr (.inr (.inr (.inl (a.1,a.2.1,a.2.2.1,a.2.2.2.1,a.2.2.2.2.1,a.2.2.2.2.2.1,a.2.2.2.2.2.2.1,a.2.2.2.2.2.2.2.1,a.2.2.2.2.2.2.2.2.1,())))))))))else bif a.2.2.1==1 then(KW ((i.2.2.2.1,()),a.2.2.2.2.2.2.2.1,())).bind fun c=>bif !c.1 then K (.inr (.inr (.inr (.inr (.inr (.inr (.inr (.inr (.inl (a.1,a.2.1,a.2.2.1,a.2.2.2.1,a.2.2.2.2.1,a.2.2.2.2.2.1,a.2.2.2.2.2.2.1,a.2.2.2.2.2.2.2.1,a.2.2.2.2.2.2.2.2.1,()))))))))))else K (.inl (IntKind.i64.wrap (v.1+1),()))else K (.inl (IntKind.i64.wrap (v.1+1),()))else K (.inr (.inr (.inr (.inr (.inr (.inr (.inr (.inr (.inr ())))))))))
theorem RO:Bg Ho:=fun i v R K=>Ae (Ac fun _=>Ac fun _=>Ae (Aa) (Ae (Ac fun _=>Ae (Aa) (Ae (Aa) (Ae (Aa) (Ae (Ac fun _=>Ae (Aa) (Aa)) (Aa))))) (Ae (Aa) (Ae (Aa) (Ae (Ac fun _=>Ae (Aa) (Aa)) (Aa)))))) (Aa)
def A6i:Tmpl:=⟨(.junk (.ptr 0 0 0 (jk 4 (.slot (.slice Ad) (si 2 (jk 53 .nil)))))),(.cells 6 (.slot .bool (.slot (.slice (.slice Af)) (.slot (.slice Ad) (.slot (.slice A0) (.slot (.slice A0) (.slot .i .nil)))))) .nil)⟩
def Amn:Exs Amr Amp:=xs .ret (fun i p=>⟨jn 1 (AV.ptr 0 none 0 0::.b (false)::jn 59 ([])),[some (Cont.cells 6 [[AV.pv .bool i.2.2.1,AV.pv (.slice (.slice Af)) i.2.2.2.1,AV.pv (.slice Ad) i.2.2.2.2.1,AV.pv (.slice A0) i.2.2.2.2.2.1,AV.pv (.slice A0) i.2.2.2.2.2.2.1,AV.pv .i i.2.2.2.2.2.2.2.1]]),some (Cont.cells 9 [[AV.pv .i p.1,AV.pv .i p.2.1,AV.pv .i p.2.2.1,AV.pv .i p.2.2.2.1,AV.pv .i p.2.2.2.2.1,AV.pv .i p.2.2.2.2.2.1,AV.pv .i p.2.2.2.2.2.2.1,AV.pv (.slice A0) p.2.2.2.2.2.2.2.1,AV.pv (.slice A0) p.2.2.2.2.2.2.2.2.1]])]⟩)<|xs .ret (fun i p=>⟨jn 1 (AV.ptr 0 none 0 0::.b (false)::jn 59 ([])),[some (Cont.cells 6 [[AV.pv .bool i.2.2.1,AV.pv (.slice (.slice Af)) i.2.2.2.1,AV.pv (.slice Ad) i.2.2.2.2.1,AV.pv (.slice A0) i.2.2.2.2.2.1,AV.pv (.slice A0) i.2.2.2.2.2.2.1,AV.pv .i i.2.2.2.2.2.2.2.1]]),some (Cont.cells 9 [[AV.pv .i p.1,AV.pv .i p.2.1,AV.pv .i p.2.2.1,AV.pv .i p.2.2.2.1,AV.pv .i p.2.2.2.2.1,AV.pv .i p.2.2.2.2.2.1,AV.pv .i p.2.2.2.2.2.2.1,AV.pv (.slice A0) p.2.2.2.2.2.2.2.1,AV.pv (.slice A0) p.2.2.2.2.2.2.2.2.1]])]⟩)<|xs .ret (fun i p=>⟨jn 1 (AV.ptr 0 none 0 0::.b (false)::jn 59 ([])),[some (Cont.cells 6 [[AV.pv .bool i.2.2.1,AV.pv (.slice (.slice Af)) i.2.2.2.1,AV.pv (.slice Ad) i.2.2.2.2.1,AV.pv (.slice A0) i.2.2.2.2.2.1,AV.pv (.slice A0) i.2.2.2.2.2.2.1,AV.pv .i i.2.2.2.2.2.2.2.1]]),some (Cont.cells 9 [[AV.pv .i p.1,AV.pv .i p.2.1,AV.pv .i p.2.2.1,AV.pv .i p.2.2.2.1,AV.pv .i p.2.2.2.2.1,AV.pv .i p.2.2.2.2.2.1,AV.pv .i p.2.2.2.2.2.2.1,AV.pv (.slice A0) p.2.2.2.2.2.2.2.1,AV.pv (.slice A0) p.2.2.2.2.2.2.2.2.1]])]⟩)<|xs .ret (fun i p=>⟨jn 1 (AV.ptr 0 none 0 0::.b (false)::jn 59 ([])),[some (Cont.cells 6 [[AV.pv .bool i.2.2.1,AV.pv (.slice (.slice Af)) i.2.2.2.1,AV.pv (.slice Ad) i.2.2.2.2.1,AV.pv (.slice A0) i.2.2.2.2.2.1,AV.pv (.slice A0) i.2.2.2.2.2.2.1,AV.pv .i i.2.2.2.2.2.2.2.1]]),some (Cont.cells 9 [[AV.pv .i p.1,AV.pv .i p.2.1,AV.pv .i p.2.2.1,AV.pv .i p.2.2.2.1,AV.pv .i p.2.2.2.2.1,AV.pv .i p.2.2.2.2.2.1,AV.pv .i p.2.2.2.2.2.2.1,AV.pv (.slice A0) p.2.2.2.2.2.2.2.1,AV.pv (.slice A0) p.2.2.2.2.2.2.2.2.1]])]⟩)<|xs .ret (fun i p=>⟨jn 1 (AV.ptr 0 none 0 0::.b (false)::jn 59 ([])),[some (Cont.cells 6 [[AV.pv .bool i.2.2.1,AV.pv (.slice (.slice Af)) i.2.2.2.1,AV.pv (.slice Ad) i.2.2.2.2.1,AV.pv (.slice A0) i.2.2.2.2.2.1,AV.pv (.slice A0) i.2.2.2.2.2.2.1,AV.pv .i i.2.2.2.2.2.2.2.1]]),some (Cont.cells 9 [[AV.pv .i p.1,AV.pv .i p.2.1,AV.pv .i p.2.2.1,AV.pv .i p.2.2.2.1,AV.pv .i p.2.2.2.2.1,AV.pv .i p.2.2.2.2.2.1,AV.pv .i p.2.2.2.2.2.2.1,AV.pv (.slice A0) p.2.2.2.2.2.2.2.1,AV.pv (.slice A0) p.2.2.2.2.2.2.2.2.1]])]⟩)<|xs .ret (fun i p=>⟨jn 1 (AV.ptr 0 none 0 0::.b (false)::jn 59 ([])),[some (Cont.cells 6 [[AV.pv .bool i.2.2.1,AV.pv (.slice (.slice Af)) i.2.2.2.1,AV.pv (.slice Ad) i.2.2.2.2.1,AV.pv (.slice A0) i.2.2.2.2.2.1,AV.pv (.slice A0) i.2.2.2.2.2.2.1,AV.pv .i i.2.2.2.2.2.2.2.1]]),some (Cont.cells 9 [[AV.pv .i p.1,AV.pv .i p.2.1,AV.pv .i p.2.2.1,AV.pv .i p.2.2.2.1,AV.pv .i p.2.2.2.2.1,AV.pv .i p.2.2.2.2.2.1,AV.pv .i p.2.2.2.2.2.2.1,AV.pv (.slice A0) p.2.2.2.2.2.2.2.1,AV.pv (.slice A0) p.2.2.2.2.2.2.2.2.1]])]⟩)<|xs .ret (fun i p=>⟨jn 1 (AV.ptr 0 none 0 0::.b (false)::jn 59 ([])),[some (Cont.cells 6 [[AV.pv .bool i.2.2.1,AV.pv (.slice (.slice Af)) i.2.2.2.1,AV.pv (.slice Ad) i.2.2.2.2.1,AV.pv (.slice A0) i.2.2.2.2.2.1,AV.pv (.slice A0) i.2.2.2.2.2.2.1,AV.pv .i i.2.2.2.2.2.2.2.1]]),some (Cont.cells 9 [[AV.pv .i p.1,AV.pv .i p.2.1,AV.pv .i p.2.2.1,AV.pv .i p.2.2.2.1,AV.pv .i p.2.2.2.2.1,AV.pv .i p.2.2.2.2.2.1,AV.pv .i p.2.2.2.2.2.2.1,AV.pv (.slice A0) p.2.2.2.2.2.2.2.1,AV.pv (.slice A0) p.2.2.2.2.2.2.2.2.1]])]⟩)<|xs .ret (fun i p=>⟨jn 1 (AV.ptr 0 none 0 0::.b (false)::jn 59 ([])),[some (Cont.cells 6 [[AV.pv .bool i.2.2.1,AV.pv (.slice (.slice Af)) i.2.2.2.1,AV.pv (.slice Ad) i.2.2.2.2.1,AV.pv (.slice A0) i.2.2.2.2.2.1,AV.pv (.slice A0) i.2.2.2.2.2.2.1,AV.pv .i i.2.2.2.2.2.2.2.1]]),some (Cont.cells 9 [[AV.pv .i p.1,AV.pv .i p.2.1,AV.pv .i p.2.2.1,AV.pv .i p.2.2.2.1,AV.pv .i p.2.2.2.2.1,AV.pv .i p.2.2.2.2.2.1,AV.pv .i p.2.2.2.2.2.2.1,AV.pv (.slice A0) p.2.2.2.2.2.2.2.1,AV.pv (.slice A0) p.2.2.2.2.2.2.2.2.1]])]⟩)<|x1 (.exit 0) fun i p=>⟨jn 1 (AV.ptr 0 none 0 0::jn 60 ([])),[some (Cont.cells 6 [[AV.pv .bool i.2.2.1,AV.pv (.slice (.slice Af)) i.2.2.2.1,AV.pv (.slice Ad) i.2.2.2.2.1,AV.pv (.slice A0) i.2.2.2.2.2.1,AV.pv (.slice A0) i.2.2.2.2.2.2.1,AV.pv (Ty.int IntKind.i64) i.2.2.2.2.2.2.2.1]])]⟩
def Amq:=((.i (.i (.v (.i (.i (.i (.i (.i (.i .n))))))))):Pk A6i.ty _ _)
def fe:Cfg:={ti:=Aw,ents:=[UB,Ux],ann:=[(2,Ao A6i 0 (spP Amq) Ho Amn.E)],lent:=0}
def IY (x:A5×Unit):Option (Bool×Unit):=(AC (fun v=>Ho (x.1.2.2.1,(x.1.2.2.1.length:Int),x.1.1,x.1.2.1.1,x.1.2.2.1,x.1.2.2.2.1,x.1.2.2.2.2.1,x.1.2.2.2.2.2.1,()) v _ some) (0,())).bind fun p=>Az p (fun p=>some (false,())) fun p=>Az p (fun p=>some (false,())) fun p=>Az p (fun p=>some (false,())) fun p=>Az p (fun p=>some (false,())) fun p=>Az p (fun p=>some (false,())) fun p=>Az p (fun p=>some (false,())) fun p=>Az p (fun p=>some (false,())) fun p=>Az p (fun p=>some (false,())) fun p=>some (decide ((x.1.2.2.1.length:Int)<=6),())
def fc:Ent:=⟨132,⟨(.slot D9 .nil),.nil⟩,⟨(.slot .bool .nil),.nil⟩,IY⟩
theorem Yo:CfgOK Go.Proofs.Tryz.prog fe:=hcB (all_cons i8 (all_cons oz all_nil))
theorem Awz:B9 Go.Proofs.Tryz.prog fe (lpc Go.Proofs.Tryz.f132 0):=lkA Yo A6i Amq Ho Amn [1,2] RO
theorem ox:Ai Go.Proofs.Tryz.prog fc:=okB Yo Go.Proofs.Tryz.func132 Awz
def Fh (x:A3×Option Int×Unit):Option (Bool×Unit):=x.2.1.bind fun v=>some (x.1.1==v,())
def ZE:Ent:=⟨202,⟨(.slot Ad (.slot (.iref .i) .nil)),.nil⟩,⟨(.slot .bool .nil),.nil⟩,Fh⟩
theorem oq:Ai Go.Proofs.Tryz.prog ZE:=okA (hcA 0 all_nil) Go.Proofs.Tryz.func202
abbrev Aml:=List A3×(Option Int×Unit)×Int×Unit
abbrev Ami:=Int×Unit
abbrev Amj:=Int×Unit ⊕ Unit
def AD (i:Aml)(v:Ami)(R:Type)(K:Ami ⊕ Amj->Option R):Option R:=bif decide (v.1<i.2.2.1)then(lAt i.1 v.1).bind fun a=>(Fh ((a.1,a.2.1,a.2.2.1,a.2.2.2.1,a.2.2.2.2.1,a.2.2.2.2.2.1,a.2.2.2.2.2.2.1,a.2.2.2.2.2.2.2.1,a.2.2.2.2.2.2.2.2.1,()),i.2.1.1,())).bind fun b=>bif b.1 then K (.inr (.inl (v.1,())))else K (.inl (IntKind.i64.wrap (v.1+1),()))else K (.inr (.inr ()))
theorem EW:Bg AD:=fun i v R K=>Ae (Ac fun _=>Ac fun _=>Ae (Aa) (Aa)) (Aa)
def A6h:Tmpl:=⟨(.slot (.slice Ad) (.slot (.fn 202 (.prod (.iref .i) .unit)) (jk 5 (si 2 (jk 10 .nil))))),.nil⟩
def Amh:Exs Aml Amj:=xs .ret (fun i p=>⟨jn 4 (.n (p.1)::jn 14 ([])),[]⟩)<|x1 (.exit 0) fun i p=>⟨jn 19 ([]),[]⟩
def Amk:=((.i (.i (.i (.v .n)))):Pk A6h.ty _ _)
def Awy:Cfg:={ti:=Aw,ents:=[ZE],ann:=[(2,Ao A6h 0 (spP Amk) AD Amh.E)],lent:=0}
def BU (x:List A3×(Option Int×Unit)×Unit):Option (Int×Unit):=(AC (fun v=>AD (x.1,x.2.1,(x.1.length:Int),()) v _ some) (0,())).bind fun p=>Az p (fun p=>some (p.1,())) fun p=>some (-1,())
def WG:Ent:=⟨201,⟨(.slot (.slice Ad) (.slot (.fn 202 (.prod (.iref .i) .unit)) .nil)),.nil⟩,⟨(.slot .i .nil),.nil⟩,BU⟩
theorem Amm:CfgOK Go.Proofs.Tryz.prog Awy:=hcB (all_cons oq all_nil)
theorem Awx:B9 Go.Proofs.Tryz.prog Awy (lpc Go.Proofs.Tryz.f201 0):=lkA Amm A6h Amk AD Amh [4] EW
theorem bG:Ai Go.Proofs.Tryz.prog WG:=okB Amm Go.Proofs.Tryz.func201 Awx
def CX (x:A5×Int×Unit):Option (Int×Unit):=(BU (x.1.2.2.1,(some x.2.1,()),())).bind fun v=>some (v.1,())
def Uw:Ent:=⟨143,⟨(.slot D9 (.slot .i .nil)),.nil⟩,⟨(.slot .i .nil),.nil⟩,CX⟩
theorem i6:Ai Go.Proofs.Tryz.prog Uw:=okA (hcA 0 (all_cons bG all_nil)) Go.Proofs.Tryz.func143
def CY (x:A5×Int×Unit):Option (Bool×Unit):=(CX ((x.1.1,(x.1.2.1.1,()),x.1.2.2.1,x.1.2.2.2.1,x.1.2.2.2.2.1,x.1.2.2.2.2.2.1,()),x.2.1,())).bind fun v=>bif decide (v.1>=0)then(lAt x.1.2.2.1 v.1).bind fun v=>some (v.2.2.1==1,())else some (false,())
def Uv:Ent:=⟨135,⟨(.slot D9 (.slot .i .nil)),.nil⟩,⟨(.slot .bool .nil),.nil⟩,CY⟩
theorem bF:Ai Go.Proofs.Tryz.prog Uv:=okA (hcA 0 (all_cons i6 all_nil)) Go.Proofs.Tryz.func135
def PT (x:A1×Option A5×Unit):Option (Bool×Unit):=x.2.1.bind fun v=>(CY ((v.1,(v.2.1.1,()),v.2.2.1,v.2.2.2.1,v.2.2.2.2.1,v.2.2.2.2.2.1,()),x.1.2.1,())).bind fun v=>some (!v.1,())
def ZD:Ent:=⟨134,⟨(.slot A0 (.slot (.iref D9) .nil)),.nil⟩,⟨(.slot .bool .nil),.nil⟩,PT⟩
theorem od:Ai Go.Proofs.Tryz.prog ZD:=okA (hcA 0 (all_cons bF all_nil)) Go.Proofs.Tryz.func134
abbrev Amf:=List A1×(Option A5×Unit)×Int×Unit
abbrev Amc:=Int×Unit
abbrev Amd:=Int×Unit ⊕ Unit
def DH (i:Amf)(v:Amc)(R:Type)(K:Amc ⊕ Amd->Option R):Option R:=bif decide (v.1<i.2.2.1)then(lAt i.1 v.1).bind fun a=>(PT ((a.1,a.2.1,()),i.2.1.1,())).bind fun b=>bif b.1 then K (.inr (.inl (v.1,())))else K (.inl (IntKind.i64.wrap (v.1+1),()))else K (.inr (.inr ()))
theorem OV:Bg DH:=fun i v R K=>Ae (Ac fun _=>Ac fun _=>Ae (Aa) (Aa)) (Aa)
def A6g:Tmpl:=⟨(.slot (.slice A0) (.slot (.fn 134 (.prod (.iref D9) .unit)) (jk 5 (si 2 (jk 10 .nil))))),.nil⟩
def Amb:Exs Amf Amd:=xs .ret (fun i p=>⟨jn 4 (.n (p.1)::jn 14 ([])),[]⟩)<|x1 (.exit 0) fun i p=>⟨jn 19 ([]),[]⟩
def Ame:=((.i (.i (.i (.v .n)))):Pk A6g.ty _ _)
def Aww:Cfg:={ti:=Aw,ents:=[ZD],ann:=[(2,Ao A6g 0 (spP Ame) DH Amb.E)],lent:=0}
def Jo (x:List A1×(Option A5×Unit)×Unit):Option (Int×Unit):=(AC (fun v=>DH (x.1,x.2.1,(x.1.length:Int),()) v _ some) (0,())).bind fun p=>Az p (fun p=>some (p.1,())) fun p=>some (-1,())
def VQ:Ent:=⟨194,⟨(.slot (.slice A0) (.slot (.fn 134 (.prod (.iref D9) .unit)) .nil)),.nil⟩,⟨(.slot .i .nil),.nil⟩,Jo⟩
theorem Amg:CfgOK Go.Proofs.Tryz.prog Aww:=hcB (all_cons od all_nil)
theorem Awv:B9 Go.Proofs.Tryz.prog Aww (lpc Go.Proofs.Tryz.f194 0):=lkA Amg A6g Ame DH Amb [4] OV
theorem iH:Ai Go.Proofs.Tryz.prog VQ:=okB Amg Go.Proofs.Tryz.func194 Awv
def GX (x:List A1×(Option A5×Unit)×Unit):Option (Bool×Unit):=(Jo (x.1,x.2.1,())).bind fun v=>some (decide (v.1>=0),())
def fa:Ent:=⟨133,⟨(.slot (.slice A0) (.slot (.fn 134 (.prod (.iref D9) .unit)) .nil)),.nil⟩,⟨(.slot .bool .nil),.nil⟩,GX⟩
theorem nZ:Ai Go.Proofs.Tryz.prog fa:=okA (hcA 0 (all_cons iH all_nil)) Go.Proofs.Tryz.func133
def PS (x:A1×Option A5×Unit):Option (Bool×Unit):=x.2.1.bind fun v=>(CY ((v.1,(v.2.1.1,()),v.2.2.1,v.2.2.2.1,v.2.2.2.2.1,v.2.2.2.2.2.1,()),x.1.1,())).bind fun v=>bif !v.1 then some (true,())else x.2.1.bind fun v=>(CY ((v.1,(v.2.1.1,()),v.2.2.1,v.2.2.2.1,v.2.2.2.2.1,v.2.2.2.2.2.1,()),x.1.2.1,())).bind fun v=>some (!v.1,())
def Uu:Ent:=⟨137,⟨(.slot A0 (.slot (.iref D9) .nil)),.nil⟩,⟨(.slot .bool .nil),.nil⟩,PS⟩
theorem nU:Ai Go.Proofs.Tryz.prog Uu:=okA (hcA 0 (all_cons bF all_nil)) Go.Proofs.Tryz.func137
abbrev Am9:=List A1×(Option A5×Unit)×Int×Unit
abbrev Am6:=Int×Unit
abbrev Am7:=Int×Unit ⊕ Unit
def DG (i:Am9)(v:Am6)(R:Type)(K:Am6 ⊕ Am7->Option R):Option R:=bif decide (v.1<i.2.2.1)then(lAt i.1 v.1).bind fun a=>(PS ((a.1,a.2.1,()),i.2.1.1,())).bind fun b=>bif b.1 then K (.inr (.inl (v.1,())))else K (.inl (IntKind.i64.wrap (v.1+1),()))else K (.inr (.inr ()))
theorem OU:Bg DG:=fun i v R K=>Ae (Ac fun _=>Ac fun _=>Ae (Aa) (Aa)) (Aa)
def A6f:Tmpl:=⟨(.slot (.slice A0) (.slot (.fn 137 (.prod (.iref D9) .unit)) (jk 5 (si 2 (jk 10 .nil))))),.nil⟩
def Am5:Exs Am9 Am7:=xs .ret (fun i p=>⟨jn 4 (.n (p.1)::jn 14 ([])),[]⟩)<|x1 (.exit 0) fun i p=>⟨jn 19 ([]),[]⟩
def Am8:=((.i (.i (.i (.v .n)))):Pk A6f.ty _ _)
def Awo:Cfg:={ti:=Aw,ents:=[Uu],ann:=[(2,Ao A6f 0 (spP Am8) DG Am5.E)],lent:=0}
def Jn (x:List A1×(Option A5×Unit)×Unit):Option (Int×Unit):=(AC (fun v=>DG (x.1,x.2.1,(x.1.length:Int),()) v _ some) (0,())).bind fun p=>Az p (fun p=>some (p.1,())) fun p=>some (-1,())
def WF:Ent:=⟨195,⟨(.slot (.slice A0) (.slot (.fn 137 (.prod (.iref D9) .unit)) .nil)),.nil⟩,⟨(.slot .i .nil),.nil⟩,Jn⟩
theorem Ama:CfgOK Go.Proofs.Tryz.prog Awo:=hcB (all_cons nU all_nil)
theorem Awn:B9 Go.Proofs.Tryz.prog Awo (lpc Go.Proofs.Tryz.f195 0):=lkA Ama A6f Am8 DG Am5 [4] OU
theorem nT:Ai Go.Proofs.Tryz.prog WF:=okB Ama Go.Proofs.Tryz.func195 Awn
def GW (x:List A1×(Option A5×Unit)×Unit):Option (Bool×Unit):=(Jn (x.1,x.2.1,())).bind fun v=>some (decide (v.1>=0),())
def eZ:Ent:=⟨136,⟨(.slot (.slice A0) (.slot (.fn 137 (.prod (.iref D9) .unit)) .nil)),.nil⟩,⟨(.slot .bool .nil),.nil⟩,GW⟩
theorem nQ:Ai Go.Proofs.Tryz.prog eZ:=okA (hcA 0 (all_cons nT all_nil)) Go.Proofs.Tryz.func136
def OI (x:A5×Unit):Option (Bool×Unit):=(P3 ((x.1.2.1.1,()),())).bind fun v=>bif v.1 then(Eu (x.1.2.2.2.1,())).bind fun v=>bif v.1 then(Dn (x.1.2.2.2.2.1,())).bind fun v=>bif v.1 then(Np ((x.1.2.1.1,()),())).bind fun v=>(BL (x.1.2.2.2.2.2.1,v.1,999,())).bind fun v=>bif v.1 then(IY ((x.1.1,(x.1.2.1.1,()),x.1.2.2.1,x.1.2.2.2.1,x.1.2.2.2.2.1,x.1.2.2.2.2.2.1,()),())).bind fun v=>bif v.1 then(GX (x.1.2.2.2.1,(some (x.1.1,(x.1.2.1.1,()),x.1.2.2.1,x.1.2.2.2.1,x.1.2.2.2.2.1,x.1.2.2.2.2.2.1,()),()),())).bind fun v=>bif !v.1 then(GW (x.1.2.2.2.2.1,(some (x.1.1,(x.1.2.1.1,()),x.1.2.2.1,x.1.2.2.2.1,x.1.2.2.2.2.1,x.1.2.2.2.2.2.1,()),()),())).bind fun v=>some (!v.1,())else some (false,())else some (false,())else some (false,())else some (false,())else some (false,())else some (false,())
def VP:Ent:=⟨65,⟨(.slot D9 .nil),.nil⟩,⟨(.slot .bool .nil),.nil⟩,OI⟩
theorem nL:Ai Go.Proofs.Tryz.prog VP:=okA (hcA 0 (all_cons sP (all_cons ib (all_cons Wc (all_cons pd (all_cons Sy (all_cons ox (all_cons nZ (all_cons nQ all_nil))))))))) Go.Proofs.Tryz.func65
def Fb (x:A6×Unit):Option (Bool×Unit):=bif x.1.1==1 then(ER (x.1.2.2.1,())).bind fun v=>(BL (x.1.1,1,6,())).bind fun a=>bif a.1 then(BC (x.1.2.1,())).bind fun b=>bif b.1 then bif v.1 then some (0==0&&(0==0&&(0==0&&(x.1.2.2.2.1==0&&(x.1.2.2.2.2.1==0&&(x.1.2.2.2.2.2.1==0&&true))))),())else some (false,())else some (false,())else some (false,())else bif x.1.1==2 then(Dl (x.1.2.2.2.1,())).bind fun v=>(BL (x.1.1,1,6,())).bind fun a=>bif a.1 then(BC (x.1.2.1,())).bind fun b=>bif b.1 then bif v.1 then some (0==0&&(0==0&&(x.1.2.2.1==0&&(0==0&&(x.1.2.2.2.2.1==0&&(x.1.2.2.2.2.2.1==0&&true))))),())else some (false,())else some (false,())else some (false,())else bif x.1.1==3 then(Dl (x.1.2.2.2.1,())).bind fun v=>bif v.1 then(Gc (x.1.2.2.2.2.2.1,())).bind fun v=>(BL (x.1.1,1,6,())).bind fun a=>bif a.1 then(BC (x.1.2.1,())).bind fun b=>bif b.1 then bif v.1 then some (0==0&&(0==0&&(x.1.2.2.1==0&&(0==0&&(x.1.2.2.2.2.1==0&&(0==0&&true))))),())else some (false,())else some (false,())else some (false,())else(BL (x.1.1,1,6,())).bind fun v=>bif v.1 then(BC (x.1.2.1,())).bind fun v=>bif v.1 then some (false,())else some (false,())else some (false,())else bif x.1.1==4 then(Dl (x.1.2.2.2.1,())).bind fun v=>bif v.1 then(BL (x.1.2.2.2.2.1,x.1.2.2.2.1,5,())).bind fun v=>(BL (x.1.1,1,6,())).bind fun a=>bif a.1 then(BC (x.1.2.1,())).bind fun b=>bif b.1 then bif v.1 then some (0==0&&(0==0&&(x.1.2.2.1==0&&(0==0&&(0==0&&(x.1.2.2.2.2.2.1==0&&true))))),())else some (false,())else some (false,())else some (false,())else(BL (x.1.1,1,6,())).bind fun v=>bif v.1 then(BC (x.1.2.1,())).bind fun v=>bif v.1 then some (false,())else some (false,())else some (false,())else(BL (x.1.1,1,6,())).bind fun v=>bif v.1 then(BC (x.1.2.1,())).bind fun v=>bif v.1 then some (0==0&&(0==0&&(x.1.2.2.1==0&&(x.1.2.2.2.1==0&&(x.1.2.2.2.2.1==0&&(x.1.2.2.2.2.2.1==0&&true))))),())else some (false,())else some (false,())
def ZC:Ent:=⟨66,⟨(.slot YOp .nil),.nil⟩,⟨(.slot .bool .nil),.nil⟩,Fb⟩
theorem nI:Ai Go.Proofs.Tryz.prog ZC:=okA (hcA 0 (all_cons ia (all_cons Sy (all_cons VD (all_cons Wd (all_cons iQ all_nil)))))) Go.Proofs.Tryz.func66
def Dc (x:A3×Int×Unit):Option (Int×Unit):=(BO (x.1.1,x.2.1,())).bind fun v=>some (v.1,())
def ZB:Ent:=⟨197,⟨(.slot Ad (.slot .i .nil)),.nil⟩,⟨(.slot .i .nil),.nil⟩,Dc⟩
theorem nD:Ai Go.Proofs.Tryz.prog ZB:=okA (hcA 0 (all_cons PL all_nil)) Go.Proofs.Tryz.func197
abbrev Am3:=List A3×Int×Unit×Int×Unit
abbrev Am0:=Int×Int×Unit
abbrev Am1:=Int×Unit
def Ay (i:Am3)(v:Am0)(R:Type)(K:Am0 ⊕ Am1->Option R):Option R:=bif decide (v.1<v.2.1)then(lAt i.1 (IntKind.i64.wrap (Int.fdiv (IntKind.u64.wrap (IntKind.i64.wrap (v.1+v.2.1))) (2 ^ min (Int.toNat 1) (IntKind.bits IntKind.u64))))).bind fun a=>(Dc ((a.1,a.2.1,a.2.2.1,a.2.2.2.1,a.2.2.2.2.1,a.2.2.2.2.2.1,a.2.2.2.2.2.2.1,a.2.2.2.2.2.2.2.1,a.2.2.2.2.2.2.2.2.1,()),i.2.1,())).bind fun b=>bif decide (b.1<0)then K (.inl (IntKind.i64.wrap (IntKind.i64.wrap (Int.fdiv (IntKind.u64.wrap (IntKind.i64.wrap (v.1+v.2.1))) (2 ^ min (Int.toNat 1) (IntKind.bits IntKind.u64)))+1),v.2.1,()))else K (.inl (v.1,IntKind.i64.wrap (Int.fdiv (IntKind.u64.wrap (IntKind.i64.wrap (v.1+v.2.1))) (2 ^ min (Int.toNat 1) (IntKind.bits IntKind.u64))),()))else K (.inr (v.1,()))
theorem Ee:Bg Ay:=fun i v R K=>Ae (Ac fun _=>Ac fun _=>Ae (Aa) (Aa)) (Aa)
def A6e:Tmpl:=⟨(.slot (.slice Ad) (.slot .i (.slot (.fn 197 .unit) (jk 5 (si 3 (jk 38 .nil)))))),.nil⟩
def Alz:Exs Am3 Am1:=x1 (.exit 0) fun i p=>⟨AV.pv (.slice Ad) i.1::.n (i.2.1)::AV.pv (.fn 197 .unit) i.2.2.1::jn 5 (.n (i.2.2.2.1)::.n (p.1)::jn 39 ([])),[]⟩
def Am2:=((.i (.i (.i (.i (.v (.v .n)))))):Pk A6e.ty _ _)
def Awm:Cfg:={ti:=Aw,ents:=[ZB],ann:=[(3,Ao A6e 0 (spP Am2) Ay Alz.E)],lent:=0}
def AO (x:List A3×Int×Unit×Unit):Option (Int×Bool×Unit):=(AC (fun v=>Ay (x.1,x.2.1,x.2.2.1,(x.1.length:Int),()) v _ some) (0,(x.1.length:Int),())).bind fun p=>bif decide (p.1<(x.1.length:Int))then(lAt x.1 p.1).bind fun v=>(Dc ((v.1,v.2.1,v.2.2.1,v.2.2.2.1,v.2.2.2.2.1,v.2.2.2.2.2.1,v.2.2.2.2.2.2.1,v.2.2.2.2.2.2.2.1,v.2.2.2.2.2.2.2.2.1,()),x.2.1,())).bind fun v=>some (p.1,v.1==0,())else some (p.1,false,())
def Ut:Ent:=⟨196,⟨(.slot (.slice Ad) (.slot .i (.slot (.fn 197 .unit) .nil))),.nil⟩,⟨(.slot .i (.slot .bool .nil)),.nil⟩,AO⟩
theorem Am4:CfgOK Go.Proofs.Tryz.prog Awm:=hcB (all_cons nD all_nil)
theorem Awl:B9 Go.Proofs.Tryz.prog Awm (lpc Go.Proofs.Tryz.f196 0):=lkA Am4 A6e Am2 Ay Alz [0,1,2,8,9] Ee
theorem nC:Ai Go.Proofs.Tryz.prog Ut:=okB Am4 Go.Proofs.Tryz.func196 Awl
def Ey (x:B3):Option (Int×Int×Int×Int×Int×Int×Int×Bool×Unit):=(CL ((x.1,x.2.1,1,x.2.2.1,0,1000,0,[],[],()),())).bind fun v=>bif !v.1 then some (0,0,0,0,0,0,0,false,())else some (x.1,x.2.1,1,x.2.2.1,0,1000,0,true,())
def Us:Ent:=⟨199,⟨(si 3 .nil),.nil⟩,⟨(.agg (si 7 (.const (AV.nils) (.const (AV.nils) .nil))) (.slot .bool .nil)),.nil⟩,Ey⟩
theorem nB:Ai Go.Proofs.Tryz.prog Us:=okA (hcA 0 (all_cons i8 all_nil)) Go.Proofs.Tryz.func199
def Aag:Go.Shelf.Ren:=⟨fun|22=>200|29=>238|30=>239|n=>n,fun|24=>36|9=>93|n=>n,fun|n=>n⟩
theorem ABu:InsL Go.Proofs.Tryz.prog Aag true 9 where
 mixed:=by kernel_rfl
 f22:=⟨ "slices.Insert[[]loop.example/g01924/impl.Transaction,loop.example/g01924/impl.Transaction]",by decide,Go.Proofs.Tryz.func200.trans (congrArg some (by kernel_rfl))⟩
 f29:=⟨_,Go.Proofs.Tryz.func238,by kernel_rfl,by kernel_rfl,by kernel_rfl,by kernel_rfl⟩
 a9:=Go.Proofs.Tryz.isAgg93
 z9:=Go.Proofs.Tryz.sizeOf93
 t0:=Go.Proofs.Tryz.underlying0
 a0:=Go.Proofs.Tryz.isAgg0
 z0:=Go.Proofs.Tryz.sizeOf0
 v0:=Go.Proofs.Tryz.zeroValue0
 t3:=Go.Proofs.Tryz.underlying3
 a3:=Go.Proofs.Tryz.isAgg3
 z3:=Go.Proofs.Tryz.sizeOf3
 v3:=Go.Proofs.Tryz.zeroValue3
 t4:=Go.Proofs.Tryz.underlying4
 a4:=Go.Proofs.Tryz.isAgg4
 z4:=Go.Proofs.Tryz.sizeOf4
 v4:=Go.Proofs.Tryz.zeroValue4
 t24:=Go.Proofs.Tryz.underlying36
 a24:=Go.Proofs.Tryz.isAgg36
 z24:=Go.Proofs.Tryz.sizeOf36
 v24:=Go.Proofs.Tryz.zeroValue36
def CT (x:Int×List (Int×Int×Int×Int×Int×Int×Int×List (Int×Int×Unit)×List (Int×Int×Unit)×Unit)×List (Int×Int×Int×Int×Int×Int×Int×List (Int×Int×Unit)×List (Int×Int×Unit)×Unit)×Unit):Option (List (Int×Int×Int×Int×Int×Int×Int×List (Int×Int×Unit)×List (Int×Int×Unit)×Unit)×Unit):=Pi (α:=Int×Int×Int×Int×Int×Int×Int×List (Int×Int×Unit)×List (Int×Int×Unit)×Unit) 338311270084 x
def qB:Cfg:={ti:=Aw,ents:=[],ann:=[],lent:=2}
def Ur:Ent:=⟨200,⟨(.own 0 (.slot Ty.i (.own 1 .nil))),(.tree false 0 (Ty.prod Ty.i (Ty.prod Ty.i (Ty.prod Ty.i (Ty.prod Ty.i (Ty.prod Ty.i (Ty.prod Ty.i (Ty.prod Ty.i (Ty.prod (Ty.slice (Ty.prod
 Ty.i (Ty.prod Ty.i Ty.unit))) (Ty.prod (Ty.slice A0) Ty.unit))))))))) (.tree false 0 (Ty.prod Ty.i (Ty.prod Ty.i (Ty.prod Ty.i (Ty.prod Ty.i (Ty.prod Ty.i (Ty.prod Ty.i (Ty.prod Ty.i (Ty.prod (Ty.slice (Ty.prod
 Ty.i (Ty.prod Ty.i Ty.unit))) (Ty.prod (Ty.slice A0) Ty.unit))))))))) .nil))⟩,⟨(.own 2 .nil),(.gone (.gone (.tree false 0 (Ty.prod Ty.i (Ty.prod Ty.i (Ty.prod Ty.i (Ty.prod Ty.i (Ty.prod Ty.i (Ty.prod Ty.i (Ty.prod Ty.i (Ty.prod (Ty.slice (Ty.prod
 Ty.i (Ty.prod Ty.i Ty.unit))) (Ty.prod (Ty.slice A0) Ty.unit))))))))) .nil)))⟩,CT⟩
theorem ny:Ai Go.Proofs.Tryz.prog Ur:=py (ρ:=Aag) (t:=Ty.prod Ty.i (Ty.prod Ty.i (Ty.prod Ty.i (Ty.prod Ty.i (Ty.prod Ty.i (Ty.prod Ty.i (Ty.prod Ty.i (Ty.prod (Ty.slice (Ty.prod
 Ty.i (Ty.prod Ty.i Ty.unit))) (Ty.prod (Ty.slice A0) Ty.unit))))))))) gy ABu rfl (by decide) rfl
def ABt:Cfg:={ti:=Aw,ents:=[Ur,Ut,Us],ann:=[],lent:=5,hid:=[((5,0),[2,5])],pre:=[(some (0,2))]}
def EA (x:Int×Int×Int×Int×Int×Int×Bool×Int×A7):Option (Int×Bool×Int×List (List A2)×List A1×List A1×List A3×Unit):=(AO (x.2.2.2.2.2.2.2.2.2.1,x.2.1,(),())).bind fun v=>bif v.2.1 then some (6,x.2.2.2.2.2.2.1,x.2.2.2.2.2.2.2.1,x.2.2.2.2.2.2.2.2.1,x.2.2.2.2.2.2.2.2.2.2.1,x.2.2.2.2.2.2.2.2.2.2.2.1,x.2.2.2.2.2.2.2.2.2.1,())else bif (x.2.2.2.2.2.2.2.2.2.1.length:Int)==6 then some (6,x.2.2.2.2.2.2.1,x.2.2.2.2.2.2.2.1,x.2.2.2.2.2.2.2.2.1,x.2.2.2.2.2.2.2.2.2.2.1,x.2.2.2.2.2.2.2.2.2.2.2.1,x.2.2.2.2.2.2.2.2.2.1,())else(Ey (x.2.1,x.2.2.1,x.2.2.2.2.2.2.2.1,())).bind fun a=>(CT (v.1,x.2.2.2.2.2.2.2.2.2.1,[(a.1,a.2.1,a.2.2.1,a.2.2.2.1,a.2.2.2.2.1,a.2.2.2.2.2.1,a.2.2.2.2.2.2.1,[],[],())],())).bind fun v=>some (0,x.2.2.2.2.2.2.1,x.2.2.2.2.2.2.2.1,x.2.2.2.2.2.2.2.2.1,x.2.2.2.2.2.2.2.2.2.2.1,x.2.2.2.2.2.2.2.2.2.2.2.1,v.1,())
def Uq:Ent:=⟨142,⟨(.ptr 0 0 0 (.agg (si 6 .nil) .nil)),(.cells 6 (.slot .bool (.own 1 (.own 2 (.own 3 (.own 4 (.slot .i .nil)))))) (.tree false 0 (.slice Af) (.tree false 0 Ad (.lst false A0 (.lst false A0 .nil)))))⟩,⟨(.agg (.slot .i (.const (AV.nils) .nil)) .nil),(.cells 6 (.slot .bool (.own 1 (.own 5 (.own 3 (.own 4 (.slot .i .nil)))))) (.tree false 0 (.slice Af) (.gone (.lst false A0 (.lst false A0 (.tree false 0 Ad .nil))))))⟩,EA⟩
theorem ns:Ai Go.Proofs.Tryz.prog Uq:=okA (C:=ABt) (hcB (all_cons ny (all_cons nC (all_cons nB all_nil)))) Go.Proofs.Tryz.func142
def CH (x:A1×Option A6×Unit):Option (Bool×Unit):=x.2.1.bind fun v=>some (x.1.1==v.2.1,())
def Qx:Ent:=⟨145,⟨(.slot A0 (.slot (.iref YOp) .nil)),.nil⟩,⟨(.slot .bool .nil),.nil⟩,CH⟩
theorem Yn:Ai Go.Proofs.Tryz.prog Qx:=okA (hcA 0 all_nil) Go.Proofs.Tryz.func145
abbrev Alx:=List A1×(Option A6×Unit)×Int×Unit
abbrev Alu:=Int×Unit
abbrev Alv:=Int×Unit ⊕ Unit
def AP (i:Alx)(v:Alu)(R:Type)(K:Alu ⊕ Alv->Option R):Option R:=bif decide (v.1<i.2.2.1)then(lAt i.1 v.1).bind fun a=>(CH ((a.1,a.2.1,()),i.2.1.1,())).bind fun b=>bif b.1 then K (.inr (.inl (v.1,())))else K (.inl (IntKind.i64.wrap (v.1+1),()))else K (.inr (.inr ()))
theorem FH:Bg AP:=fun i v R K=>Ae (Ac fun _=>Ac fun _=>Ae (Aa) (Aa)) (Aa)
def A6b:Tmpl:=⟨(.slot (.slice A0) (.slot (.fn 145 (.prod (.iref YOp) .unit)) (jk 5 (si 2 (jk 10 .nil))))),.nil⟩
def Alt:Exs Alx Alv:=xs .ret (fun i p=>⟨jn 4 (.n (p.1)::jn 14 ([])),[]⟩)<|x1 (.exit 0) fun i p=>⟨jn 19 ([]),[]⟩
def Alw:=((.i (.i (.i (.v .n)))):Pk A6b.ty _ _)
def A6c:Cfg:={ti:=Aw,ents:=[Qx],ann:=[(2,Ao A6b 0 (spP Alw) AP Alt.E)],lent:=0}
def Br (x:List A1×(Option A6×Unit)×Unit):Option (Int×Unit):=(AC (fun v=>AP (x.1,x.2.1,(x.1.length:Int),()) v _ some) (0,())).bind fun p=>Az p (fun p=>some (p.1,())) fun p=>some (-1,())
def Up:Ent:=⟨195,⟨(.slot (.slice A0) (.slot (.fn 145 (.prod (.iref YOp) .unit)) .nil)),.nil⟩,⟨(.slot .i .nil),.nil⟩,Br⟩
theorem Aly:CfgOK Go.Proofs.Tryz.prog A6c:=hcB (all_cons Yn all_nil)
theorem Awk:B9 Go.Proofs.Tryz.prog A6c (lpc Go.Proofs.Tryz.f195 0):=lkA Aly A6b Alw AP Alt [4] FH
theorem nr:Ai Go.Proofs.Tryz.prog Up:=okB Aly Go.Proofs.Tryz.func195 Awk
abbrev Alr:=A6
abbrev Alo:=Int×Int×List A1×Unit
abbrev Alp:=Int×List A1×Unit
def Ba (i:Alr)(v:Alo)(R:Type)(K:Alo ⊕ Alp->Option R):Option R:=bif decide (v.2.1<(v.2.2.1.length:Int))then if 0<=v.2.1/\v.2.1<(v.2.2.1.length:Int)then v.2.2.1[0+v.2.1.toNat]?.bind fun a=>(CH ((a.1,a.2.1,()),some (i.1,i.2.1,i.2.2.1,i.2.2.2.1,i.2.2.2.2.1,i.2.2.2.2.2.1,()),())).bind fun b=>bif !b.1 then if 0<=v.1/\v.1<(v.2.2.1.length:Int)then v.2.2.1[0+v.1.toNat]?.bind fun c=>K (.inl (IntKind.i64.wrap (v.1+1),IntKind.i64.wrap (v.2.1+1),v.2.2.1.set (0+v.1.toNat) (a.1,a.2.1,()),()))else none else K (.inl (v.1,IntKind.i64.wrap (v.2.1+1),v.2.2.1,()))else none else K (.inr (v.1,v.2.2.1,()))
theorem GY:Bg Ba:=fun i v R K=>Ae (Aq (Ac fun _=>Ac fun _=>Ae (Aq (Ac fun _=>Aa)) (Aa))) (Aa)
def A6a:Tmpl:=⟨(.own 0 (.fn 145 (.ptr 1 0 0 .nil) (jk 3 (si 2 (jk 35 .nil))))),(.lst false A0 (.cells 6 (si 6 .nil) .nil))⟩
def Aln:Exs Alr Alp:=x1 (.exit 0) fun i p=>⟨AV.own 0 none none::jn 4 (.n (p.1)::jn 36 ([])),[some (Cont.lst false A0 p.2.1),some (Cont.cells 6 [[AV.pv .i i.1,AV.pv .i i.2.1,AV.pv .i i.2.2.1,AV.pv .i i.2.2.2.1,AV.pv .i i.2.2.2.2.1,AV.pv .i i.2.2.2.2.2.1]])]⟩
def Alq:=((.v (.v (.v (.i (.i (.i (.i (.i (.i .n))))))))):Pk A6a.ty _ _)
def qA:Cfg:={ti:=Aw,ents:=[Up,Qx],ann:=[(5,Ao A6a 2 (spP Alq) Ba Aln.E)],lent:=2,cut:=[none]}
def BB (x:List A1×A6):Option (Int×Int×Int×Int×Int×Int×List A1×Unit):=(Br (x.1,(some (x.2.1,x.2.2.1,x.2.2.2.1,x.2.2.2.2.1,x.2.2.2.2.2.1,x.2.2.2.2.2.2.1,()),()),())).bind fun v=>bif v.1==-1 then some (x.2.1,x.2.2.1,x.2.2.2.1,x.2.2.2.2.1,x.2.2.2.2.2.1,x.2.2.2.2.2.2.1,x.1,())else(AC (fun v=>Ba (x.2.1,x.2.2.1,x.2.2.2.1,x.2.2.2.2.1,x.2.2.2.2.2.1,x.2.2.2.2.2.2.1,()) v _ some) (v.1,IntKind.i64.wrap (v.1+1),x.1,())).bind fun p=>if 0<=p.1/\p.1<=(p.2.1.length:Int)/\(p.2.1.length:Int)<=(p.2.1.length:Int)then if(0:Int)<=0/\0<=p.1/\p.1<=(↑((List.take (0+p.1.toNat) p.2.1++List.replicate ((p.2.1.length:Int).toNat-p.1.toNat) (0,0,())++List.drop (0+p.1.toNat+((p.2.1.length:Int).toNat-p.1.toNat)) p.2.1).length):Int)then some (x.2.1,x.2.2.1,x.2.2.2.1,x.2.2.2.2.1,x.2.2.2.2.2.1,x.2.2.2.2.2.2.1,List.take (p.1.toNat-Int.toNat 0) (List.take (0+p.1.toNat) p.2.1++List.replicate ((p.2.1.length:Int).toNat-p.1.toNat) (0,0,())++List.drop (0+p.1.toNat+((p.2.1.length:Int).toNat-p.1.toNat)) p.2.1),())else none else none
def Uo:Ent:=⟨144,⟨(.own 0 (.fn 145 (.ptr 1 0 0 .nil) .nil)),(.lst false A0 (.cells 6 (si 6 .nil) .nil))⟩,⟨(.own 2 .nil),(.gone (.cells 6 (si 6 .nil) (.lst false A0 .nil)))⟩,BB⟩
theorem Als:CfgOK Go.Proofs.Tryz.prog qA:=hcB (all_cons nr (all_cons Yn all_nil))
theorem Awj:B9 Go.Proofs.Tryz.prog qA (lpc Go.Proofs.Tryz.f144 0):=lkA Als A6a Alq Ba Aln [0,5] GY
theorem nq:Ai Go.Proofs.Tryz.prog Uo:=okB Als Go.Proofs.Tryz.func144 Awj
def FZ (x:A1×Option Int×Unit):Option (Bool×Unit):=x.2.1.bind fun v=>some (x.1.1==v,())
def Un:Ent:=⟨270,⟨(.slot A0 (.slot (.iref .i) .nil)),.nil⟩,⟨(.slot .bool .nil),.nil⟩,FZ⟩
theorem np:Ai Go.Proofs.Tryz.prog Un:=okA (hcA 0 all_nil) Go.Proofs.Tryz.func270
abbrev All:=List A1×(Option Int×Unit)×Int×Unit
abbrev Ali:=Int×Unit
abbrev Alj:=Int×Unit ⊕ Unit
def B8 (i:All)(v:Ali)(R:Type)(K:Ali ⊕ Alj->Option R):Option R:=bif decide (v.1<i.2.2.1)then(lAt i.1 v.1).bind fun a=>(FZ ((a.1,a.2.1,()),i.2.1.1,())).bind fun b=>bif b.1 then K (.inr (.inl (v.1,())))else K (.inl (IntKind.i64.wrap (v.1+1),()))else K (.inr (.inr ()))
theorem G6:Bg B8:=fun i v R K=>Ae (Ac fun _=>Ac fun _=>Ae (Aa) (Aa)) (Aa)
def A69:Tmpl:=⟨(.slot (.slice A0) (.slot (.fn 270 (.prod (.iref .i) .unit)) (jk 5 (si 2 (jk 10 .nil))))),.nil⟩
def Alh:Exs All Alj:=xs .ret (fun i p=>⟨jn 4 (.n (p.1)::jn 14 ([])),[]⟩)<|x1 (.exit 0) fun i p=>⟨jn 19 ([]),[]⟩
def Alk:=((.i (.i (.i (.v .n)))):Pk A69.ty _ _)
def Awi:Cfg:={ti:=Aw,ents:=[Un],ann:=[(2,Ao A69 0 (spP Alk) B8 Alh.E)],lent:=0}
def BH (x:List A1×(Option Int×Unit)×Unit):Option (Int×Unit):=(AC (fun v=>B8 (x.1,x.2.1,(x.1.length:Int),()) v _ some) (0,())).bind fun p=>Az p (fun p=>some (p.1,())) fun p=>some (-1,())
def WE:Ent:=⟨269,⟨(.slot (.slice A0) (.slot (.fn 270 (.prod (.iref .i) .unit)) .nil)),.nil⟩,⟨(.slot .i .nil),.nil⟩,BH⟩
theorem Alm:CfgOK Go.Proofs.Tryz.prog Awi:=hcB (all_cons np all_nil)
theorem Awh:B9 Go.Proofs.Tryz.prog Awi (lpc Go.Proofs.Tryz.f269 0):=lkA Alm A69 Alk B8 Alh [4] G6
theorem nn:Ai Go.Proofs.Tryz.prog WE:=okB Alm Go.Proofs.Tryz.func269 Awh
def GT (x:A3×Int×Unit):Option (Int×Unit):=(BH (x.1.2.2.2.2.2.2.2.2.1,(some x.2.1,()),())).bind fun v=>some (v.1,())
def ZA:Ent:=⟨240,⟨(.slot Ad (.slot .i .nil)),.nil⟩,⟨(.slot .i .nil),.nil⟩,GT⟩
theorem nj:Ai Go.Proofs.Tryz.prog ZA:=okA (hcA 0 (all_cons nn all_nil)) Go.Proofs.Tryz.func240
abbrev Alf:=List A2×Int×Unit
abbrev Alc:=Int×Unit
abbrev Ald:=Int×Unit ⊕ Int×Unit
def Cr (i:Alf)(v:Alc)(R:Type)(K:Alc ⊕ Ald->Option R):Option R:=bif decide (v.1>=0)then(lAt i.1 v.1).bind fun a=>bif decide (a.2.2.1>i.2.1)then K (.inl (IntKind.i64.wrap (v.1-1),()))else K (.inr (.inl (v.1,())))else K (.inr (.inr (v.1,())))
theorem M3:Bg Cr:=fun i v R K=>Ae (Ac fun _=>Ae (Aa) (Aa)) (Aa)
def A68:Tmpl:=⟨(.slot (.slice Af) (.slot .i (jk 3 (.slot .i (jk 17 .nil))))),.nil⟩
def Alb:Exs Alf Ald:=xs (.exit 0) (fun i p=>⟨jn 5 (.n (p.1)::jn 17 ([])),[]⟩)<|x1 (.exit 0) fun i p=>⟨jn 5 (.n (p.1)::jn 17 ([])),[]⟩
def Ale:=((.i (.i (.v .n))):Pk A68.ty _ _)
def Awg:Cfg:={ti:=Aw,ents:=[],ann:=[(2,Ao A68 0 (spP Ale) Cr Alb.E)],lent:=0}
def GR (x:List A2×Int×Unit):Option (Int×Unit):=(AC (fun v=>Cr (x.1,x.2.1,()) v _ some) (IntKind.i64.wrap ((x.1.length:Int)-1),())).bind fun p=>Az p (fun p=>some (p.1,())) fun p=>some (p.1,())
def eW:Ent:=⟨271,⟨(.slot (.slice Af) (.slot .i .nil)),.nil⟩,⟨(.slot .i .nil),.nil⟩,GR⟩
theorem Alg:CfgOK Go.Proofs.Tryz.prog Awg:=hcB all_nil
theorem Awf:B9 Go.Proofs.Tryz.prog Awg (lpc Go.Proofs.Tryz.f271 0):=lkA Alg A68 Ale Cr Alb [5] M3
theorem ne:Ai Go.Proofs.Tryz.prog eW:=okB Alg Go.Proofs.Tryz.func271 Awf
def Fp (x:A4×A3×Int×Unit):Option A6:=(lAt x.1.1 x.2.2.1).bind fun v=>bif x.2.1.2.1==2 then(GR (v,x.2.1.2.2.2.1,())).bind fun a=>bif decide (a.1<0)then some (0,0,0,0,0,3,())else bif x.2.1.2.1==4 then(lAt v a.1).bind fun b=>bif decide (b.2.2.1>x.2.1.2.2.2.1)then some (0,0,0,0,0,3,())else(lAt v a.1).bind fun v=>some (v.1,v.2.1,v.2.2.1,v.2.2.2.1,v.2.2.2.2.1,0,())else(lAt v a.1).bind fun v=>some (v.1,v.2.1,v.2.2.1,v.2.2.2.1,v.2.2.2.2.1,0,())else bif decide (IntKind.i64.wrap ((v.length:Int)-1)<0)then some (0,0,0,0,0,3,())else bif x.2.1.2.1==4 then(lAt v (IntKind.i64.wrap ((v.length:Int)-1))).bind fun a=>bif decide (a.2.2.1>x.2.1.2.2.2.1)then some (0,0,0,0,0,3,())else(lAt v (IntKind.i64.wrap ((v.length:Int)-1))).bind fun v=>some (v.1,v.2.1,v.2.2.1,v.2.2.2.1,v.2.2.2.2.1,0,())else(lAt v (IntKind.i64.wrap ((v.length:Int)-1))).bind fun v=>some (v.1,v.2.1,v.2.2.1,v.2.2.2.1,v.2.2.2.2.1,0,())
def Um:Ent:=⟨241,⟨(.slot Bp (.slot Ad (.slot .i .nil))),.nil⟩,⟨(.agg (si 5 .nil) (.slot .i .nil)),.nil⟩,Fp⟩
theorem nc:Ai Go.Proofs.Tryz.prog Um:=okA (hcA 0 (all_cons ne all_nil)) Go.Proofs.Tryz.func241
def Ct (x:A1×Option Int×Unit):Option (Bool×Unit):=x.2.1.bind fun v=>some (x.1.2.1==v,())
def WD:Ent:=⟨282,⟨(.slot A0 (.slot (.iref .i) .nil)),.nil⟩,⟨(.slot .bool .nil),.nil⟩,Ct⟩
theorem i5:Ai Go.Proofs.Tryz.prog WD:=okA (hcA 0 all_nil) Go.Proofs.Tryz.func282
abbrev Al9:=List A1×(Option Int×Unit)×Int×Unit
abbrev Al6:=Int×Unit
abbrev Al7:=Int×Unit ⊕ Unit
def AM (i:Al9)(v:Al6)(R:Type)(K:Al6 ⊕ Al7->Option R):Option R:=bif decide (v.1<i.2.2.1)then(lAt i.1 v.1).bind fun a=>(Ct ((a.1,a.2.1,()),i.2.1.1,())).bind fun b=>bif b.1 then K (.inr (.inl (v.1,())))else K (.inl (IntKind.i64.wrap (v.1+1),()))else K (.inr (.inr ()))
theorem FA:Bg AM:=fun i v R K=>Ae (Ac fun _=>Ac fun _=>Ae (Aa) (Aa)) (Aa)
def A67:Tmpl:=⟨(.slot (.slice A0) (.slot (.fn 282 (.prod (.iref .i) .unit)) (jk 5 (si 2 (jk 10 .nil))))),.nil⟩
def Al5:Exs Al9 Al7:=xs .ret (fun i p=>⟨jn 4 (.n (p.1)::jn 14 ([])),[]⟩)<|x1 (.exit 0) fun i p=>⟨jn 19 ([]),[]⟩
def Al8:=((.i (.i (.i (.v .n)))):Pk A67.ty _ _)
def Awe:Cfg:={ti:=Aw,ents:=[WD],ann:=[(2,Ao A67 0 (spP Al8) AM Al5.E)],lent:=0}
def Bo (x:List A1×(Option Int×Unit)×Unit):Option (Int×Unit):=(AC (fun v=>AM (x.1,x.2.1,(x.1.length:Int),()) v _ some) (0,())).bind fun p=>Az p (fun p=>some (p.1,())) fun p=>some (-1,())
def Ul:Ent:=⟨194,⟨(.slot (.slice A0) (.slot (.fn 282 (.prod (.iref .i) .unit)) .nil)),.nil⟩,⟨(.slot .i .nil),.nil⟩,Bo⟩
theorem Ala:CfgOK Go.Proofs.Tryz.prog Awe:=hcB (all_cons i5 all_nil)
theorem Awd:B9 Go.Proofs.Tryz.prog Awe (lpc Go.Proofs.Tryz.f194 0):=lkA Ala A67 Al8 AM Al5 [4] FA
theorem mW:Ai Go.Proofs.Tryz.prog Ul:=okB Ala Go.Proofs.Tryz.func194 Awd
abbrev Al4:=Int×Unit
abbrev Al1:=Int×Int×List A1×Unit
abbrev Al2:=Int×List A1×Unit
def Bb (i:Al4)(v:Al1)(R:Type)(K:Al1 ⊕ Al2->Option R):Option R:=bif decide (v.2.1<(v.2.2.1.length:Int))then if 0<=v.2.1/\v.2.1<(v.2.2.1.length:Int)then v.2.2.1[0+v.2.1.toNat]?.bind fun a=>(Ct ((a.1,a.2.1,()),some i.1,())).bind fun b=>bif !b.1 then if 0<=v.1/\v.1<(v.2.2.1.length:Int)then v.2.2.1[0+v.1.toNat]?.bind fun c=>K (.inl (IntKind.i64.wrap (v.1+1),IntKind.i64.wrap (v.2.1+1),v.2.2.1.set (0+v.1.toNat) (a.1,a.2.1,()),()))else none else K (.inl (v.1,IntKind.i64.wrap (v.2.1+1),v.2.2.1,()))else none else K (.inr (v.1,v.2.2.1,()))
theorem GZ:Bg Bb:=fun i v R K=>Ae (Aq (Ac fun _=>Ac fun _=>Ae (Aq (Ac fun _=>Aa)) (Aa))) (Aa)
def A66:Tmpl:=⟨(.own 0 (.fn 282 (.ptr 1 0 0 .nil) (jk 3 (si 2 (jk 35 .nil))))),(.lst false A0 (.cells 1 (.slot .i .nil) .nil))⟩
def Al0:Exs Al4 Al2:=x1 (.exit 0) fun i p=>⟨AV.own 0 none none::jn 4 (.n (p.1)::jn 36 ([])),[some (Cont.lst false A0 p.2.1),some (Cont.cells 1 [[AV.pv .i i.1]])]⟩
def Al3:=((.v (.v (.v (.i .n)))):Pk A66.ty _ _)
def eV:Cfg:={ti:=Aw,ents:=[Ul,WD],ann:=[(5,Ao A66 2 (spP Al3) Bb Al0.E)],lent:=2,cut:=[none]}
def Ca (x:List A1×Int×Unit):Option (Int×List A1×Unit):=(Bo (x.1,(some x.2.1,()),())).bind fun v=>bif v.1==-1 then some (x.2.1,x.1,())else(AC (fun v=>Bb (x.2.1,()) v _ some) (v.1,IntKind.i64.wrap (v.1+1),x.1,())).bind fun p=>if 0<=p.1/\p.1<=(p.2.1.length:Int)/\(p.2.1.length:Int)<=(p.2.1.length:Int)then if(0:Int)<=0/\0<=p.1/\p.1<=(↑((List.take (0+p.1.toNat) p.2.1++List.replicate ((p.2.1.length:Int).toNat-p.1.toNat) (0,0,())++List.drop (0+p.1.toNat+((p.2.1.length:Int).toNat-p.1.toNat)) p.2.1).length):Int)then some (x.2.1,List.take (p.1.toNat-Int.toNat 0) (List.take (0+p.1.toNat) p.2.1++List.replicate ((p.2.1.length:Int).toNat-p.1.toNat) (0,0,())++List.drop (0+p.1.toNat+((p.2.1.length:Int).toNat-p.1.toNat)) p.2.1),())else none else none
def eU:Ent:=⟨281,⟨(.own 0 (.fn 282 (.ptr 1 0 0 .nil) .nil)),(.lst false A0 (.cells 1 (.slot .i .nil) .nil))⟩,⟨(.own 2 .nil),(.gone (.cells 1 (.slot .i .nil) (.lst false A0 .nil)))⟩,Ca⟩
theorem Ym:CfgOK Go.Proofs.Tryz.prog eV:=hcB (all_cons mW (all_cons i5 all_nil))
theorem Awc:B9 Go.Proofs.Tryz.prog eV (lpc Go.Proofs.Tryz.f281 0):=lkA Ym A66 Al3 Bb Al0 [0,5] GZ
theorem mU:Ai Go.Proofs.Tryz.prog eU:=okB Ym Go.Proofs.Tryz.func281 Awc
def Fq (x:List A1×Int×Unit):Option (List A1×Unit):=(Cg (x.1,())).bind fun v=>(Ca (v.1,x.2.1,())).bind fun v=>some (v.2.1,())
def Zz:Ent:=⟨260,⟨(.slot (.slice A0) (.slot .i .nil)),.nil⟩,⟨(.own 0 .nil),(.lst false A0 .nil)⟩,Fq⟩
theorem bl:Ai Go.Proofs.Tryz.prog Zz:=okA (hcA 0 (all_cons mU (all_cons iW all_nil))) Go.Proofs.Tryz.func260
def D4 (x:A1×Option Int×Unit):Option (Bool×Unit):=x.2.1.bind fun v=>bif x.1.1==v then some (true,())else x.2.1.bind fun v=>some (x.1.2.1==v,())
def SJ:Ent:=⟨283,⟨(.slot A0 (.slot (.iref .i) .nil)),.nil⟩,⟨(.slot .bool .nil),.nil⟩,D4⟩
theorem i4:Ai Go.Proofs.Tryz.prog SJ:=okA (hcA 0 all_nil) Go.Proofs.Tryz.func283
abbrev Akz:=List A1×(Option Int×Unit)×Int×Unit
abbrev Akw:=Int×Unit
abbrev Akx:=Int×Unit ⊕ Unit
def AX (i:Akz)(v:Akw)(R:Type)(K:Akw ⊕ Akx->Option R):Option R:=bif decide (v.1<i.2.2.1)then(lAt i.1 v.1).bind fun a=>(D4 ((a.1,a.2.1,()),i.2.1.1,())).bind fun b=>bif b.1 then K (.inr (.inl (v.1,())))else K (.inl (IntKind.i64.wrap (v.1+1),()))else K (.inr (.inr ()))
theorem FS:Bg AX:=fun i v R K=>Ae (Ac fun _=>Ac fun _=>Ae (Aa) (Aa)) (Aa)
def A64:Tmpl:=⟨(.slot (.slice A0) (.slot (.fn 283 (.prod (.iref .i) .unit)) (jk 5 (si 2 (jk 10 .nil))))),.nil⟩
def Akv:Exs Akz Akx:=xs .ret (fun i p=>⟨jn 4 (.n (p.1)::jn 14 ([])),[]⟩)<|x1 (.exit 0) fun i p=>⟨jn 19 ([]),[]⟩
def Aky:=((.i (.i (.i (.v .n)))):Pk A64.ty _ _)
def eT:Cfg:={ti:=Aw,ents:=[SJ],ann:=[(2,Ao A64 0 (spP Aky) AX Akv.E)],lent:=0}
def Bz (x:List A1×(Option Int×Unit)×Unit):Option (Int×Unit):=(AC (fun v=>AX (x.1,x.2.1,(x.1.length:Int),()) v _ some) (0,())).bind fun p=>Az p (fun p=>some (p.1,())) fun p=>some (-1,())
def Zy:Ent:=⟨195,⟨(.slot (.slice A0) (.slot (.fn 283 (.prod (.iref .i) .unit)) .nil)),.nil⟩,⟨(.slot .i .nil),.nil⟩,Bz⟩
theorem Yl:CfgOK Go.Proofs.Tryz.prog eT:=hcB (all_cons i4 all_nil)
theorem Awb:B9 Go.Proofs.Tryz.prog eT (lpc Go.Proofs.Tryz.f195 0):=lkA Yl A64 Aky AX Akv [4] FS
theorem mO:Ai Go.Proofs.Tryz.prog Zy:=okB Yl Go.Proofs.Tryz.func195 Awb
abbrev Akt:=Int×Unit
abbrev Akq:=Int×Int×List A1×Unit
abbrev Akr:=Int×List A1×Unit
def AU (i:Akt)(v:Akq)(R:Type)(K:Akq ⊕ Akr->Option R):Option R:=bif decide (v.2.1<(v.2.2.1.length:Int))then if 0<=v.2.1/\v.2.1<(v.2.2.1.length:Int)then v.2.2.1[0+v.2.1.toNat]?.bind fun a=>(D4 ((a.1,a.2.1,()),some i.1,())).bind fun b=>bif !b.1 then if 0<=v.1/\v.1<(v.2.2.1.length:Int)then v.2.2.1[0+v.1.toNat]?.bind fun c=>K (.inl (IntKind.i64.wrap (v.1+1),IntKind.i64.wrap (v.2.1+1),v.2.2.1.set (0+v.1.toNat) (a.1,a.2.1,()),()))else none else K (.inl (v.1,IntKind.i64.wrap (v.2.1+1),v.2.2.1,()))else none else K (.inr (v.1,v.2.2.1,()))
theorem Gx:Bg AU:=fun i v R K=>Ae (Aq (Ac fun _=>Ac fun _=>Ae (Aq (Ac fun _=>Aa)) (Aa))) (Aa)
def A63:Tmpl:=⟨(.own 0 (.fn 283 (.ptr 1 0 0 .nil) (jk 3 (si 2 (jk 35 .nil))))),(.lst false A0 (.cells 1 (.slot .i .nil) .nil))⟩
def Akp:Exs Akt Akr:=x1 (.exit 0) fun i p=>⟨AV.own 0 none none::jn 4 (.n (p.1)::jn 36 ([])),[some (Cont.lst false A0 p.2.1),some (Cont.cells 1 [[AV.pv .i i.1]])]⟩
def Aks:=((.v (.v (.v (.i .n)))):Pk A63.ty _ _)
def Awa:Cfg:={ti:=Aw,ents:=[Zy,SJ],ann:=[(5,Ao A63 2 (spP Aks) AU Akp.E)],lent:=2,cut:=[none]}
def C2 (x:List A1×Int×Unit):Option (Int×List A1×Unit):=(Bz (x.1,(some x.2.1,()),())).bind fun v=>bif v.1==-1 then some (x.2.1,x.1,())else(AC (fun v=>AU (x.2.1,()) v _ some) (v.1,IntKind.i64.wrap (v.1+1),x.1,())).bind fun p=>if 0<=p.1/\p.1<=(p.2.1.length:Int)/\(p.2.1.length:Int)<=(p.2.1.length:Int)then if(0:Int)<=0/\0<=p.1/\p.1<=(↑((List.take (0+p.1.toNat) p.2.1++List.replicate ((p.2.1.length:Int).toNat-p.1.toNat) (0,0,())++List.drop (0+p.1.toNat+((p.2.1.length:Int).toNat-p.1.toNat)) p.2.1).length):Int)then some (x.2.1,List.take (p.1.toNat-Int.toNat 0) (List.take (0+p.1.toNat) p.2.1++List.replicate ((p.2.1.length:Int).toNat-p.1.toNat) (0,0,())++List.drop (0+p.1.toNat+((p.2.1.length:Int).toNat-p.1.toNat)) p.2.1),())else none else none
def SI:Ent:=⟨144,⟨(.own 0 (.fn 283 (.ptr 1 0 0 .nil) .nil)),(.lst false A0 (.cells 1 (.slot .i .nil) .nil))⟩,⟨(.own 2 .nil),(.gone (.cells 1 (.slot .i .nil) (.lst false A0 .nil)))⟩,C2⟩
theorem Aku:CfgOK Go.Proofs.Tryz.prog Awa:=hcB (all_cons mO (all_cons i4 all_nil))
theorem Aw9:B9 Go.Proofs.Tryz.prog Awa (lpc Go.Proofs.Tryz.f144 0):=lkA Aku A63 Aks AU Akp [0,5] Gx
theorem bj:Ai Go.Proofs.Tryz.prog SI:=okB Aku Go.Proofs.Tryz.func144 Aw9
def Gr (x:List A1×Int×Unit):Option (List A1×Unit):=(BP (x.1,())).bind fun v=>(C2 (v.1,x.2.1,())).bind fun v=>some (v.2.1,())
def Uk:Ent:=⟨261,⟨(.slot (.slice A0) (.slot .i .nil)),.nil⟩,⟨(.own 0 .nil),(.lst false A0 .nil)⟩,Gr⟩
theorem mJ:Ai Go.Proofs.Tryz.prog Uk:=okA (hcA 0 (all_cons bj (all_cons Z5 all_nil))) Go.Proofs.Tryz.func261
def jL:Cfg:={ti:=Aw,ents:=[Zz,Uk],ann:=[],lent:=5,hid:=[((0,1),[0])]}
def D3 (x:Nat×Bool×Int×A7):Option (Bool×Int×List (List A2)×List A3×List A1×List A1×A9):=x.2.2.2.2.1[x.1]?.bind fun v=>(Fq (x.2.2.2.2.2.1,v.1,())).bind fun v=>x.2.2.2.2.1[x.1]?.bind fun a=>(Gr (x.2.2.2.2.2.2.1,a.1,())).bind fun b=>some (x.2.1,x.2.2.1,x.2.2.2.1,x.2.2.2.2.1,x.2.2.2.2.2.1,x.2.2.2.2.2.2.1,v.1,b.1,())
def Zx:Ent:=⟨215,⟨(.ptr 0 0 0 (.ptrI 2 0 .nil)),(.cells 6 (.slot .bool (.own 1 (.own 2 (.own 3 (.own 4 (.slot .i .nil)))))) (.tree false 0 (.slice Af) (.tree false 0 Ad (.lst false A0 (.lst false A0 .nil)))))⟩,⟨.nil,(.cells 6 (.slot .bool (.own 1 (.own 2 (.own 5 (.own 6 (.slot .i .nil)))))) (.tree false 0 (.slice Af) (.tree false 0 Ad (.lst false A0 (.lst false A0 (.lst false A0 (.lst false A0 .nil)))))))⟩,D3⟩
theorem i3:Ai Go.Proofs.Tryz.prog Zx:=okA (C:=jL) (hcB (all_cons bl (all_cons mJ all_nil))) Go.Proofs.Tryz.func215
def B5 (x:Nat×Int×Bool×Int×A7):Option (Int×Bool×Int×List (List A2)×List A3×List A1×List A1×A9):=x.2.2.2.2.2.1[x.1]?.bind fun v=>(D3 (x.1,x.2.2.1,x.2.2.2.1,x.2.2.2.2.1,x.2.2.2.2.2.1.set x.1 (v.1,v.2.1,3,v.2.2.2.1,v.2.2.2.2.1,v.2.2.2.2.2.1,v.2.2.2.2.2.2.1,v.2.2.2.2.2.2.2.1,v.2.2.2.2.2.2.2.2.1,()),x.2.2.2.2.2.2.1,x.2.2.2.2.2.2.2.1,())).bind fun v=>some (x.2.1,v.1,v.2.1,v.2.2.1,v.2.2.2.1,v.2.2.2.2.1,v.2.2.2.2.2.1,v.2.2.2.2.2.2.1,v.2.2.2.2.2.2.2.1,())
def SH:Ent:=⟨149,⟨(.ptr 0 0 0 (.ptrI 2 0 (.slot .i .nil))),(.cells 6 (.slot .bool (.own 1 (.own 2 (.own 3 (.own 4 (.slot .i .nil)))))) (.tree false 0 (.slice Af) (.tree false 0 Ad (.lst false A0 (.lst false A0 .nil)))))⟩,⟨(.agg (.slot .i (.const (AV.nils) .nil)) .nil),(.cells 6 (.slot .bool (.own 1 (.own 2 (.own 5 (.own 6 (.slot .i .nil)))))) (.tree false 0 (.slice Af) (.tree false 1 Ad (.lst false A0 (.lst false A0 (.lst false A0 (.lst false A0 .nil)))))))⟩,B5⟩
theorem Yk:Ai Go.Proofs.Tryz.prog SH:=okA (hcA 5 (all_cons i3 all_nil)) Go.Proofs.Tryz.func149
abbrev Akn:=List A1×Unit×B3
abbrev Akk:=Int×Int×Unit
abbrev Akl:=Int×Unit
def AB (i:Akn)(v:Akk)(R:Type)(K:Akk ⊕ Akl->Option R):Option R:=bif decide (v.1<v.2.1)then(lAt i.1 (IntKind.i64.wrap (Int.fdiv (IntKind.u64.wrap (IntKind.i64.wrap (v.1+v.2.1))) (2 ^ min (Int.toNat 1) (IntKind.bits IntKind.u64))))).bind fun a=>(BI ((a.1,a.2.1,()),(i.2.2.2.1,i.2.2.2.2.1,()),())).bind fun b=>bif decide (b.1<0)then K (.inl (IntKind.i64.wrap (IntKind.i64.wrap (Int.fdiv (IntKind.u64.wrap (IntKind.i64.wrap (v.1+v.2.1))) (2 ^ min (Int.toNat 1) (IntKind.bits IntKind.u64)))+1),v.2.1,()))else K (.inl (v.1,IntKind.i64.wrap (Int.fdiv (IntKind.u64.wrap (IntKind.i64.wrap (v.1+v.2.1))) (2 ^ min (Int.toNat 1) (IntKind.bits IntKind.u64))),()))else K (.inr (v.1,()))
theorem EC:Bg AB:=fun i v R K=>Ae (Ac fun _=>Ac fun _=>Ae (Aa) (Aa)) (Aa)
def A62:Tmpl:=⟨(.slot (.slice A0) (.junk (.slot (.fn 265 .unit) (.junk (.ptr 0 0 0 (jk 3 (si 3 (jk 38 .nil)))))))),(.cells 2 (si 2 .nil) .nil)⟩
def Akj:Exs Akn Akl:=x1 (.exit 0) fun i p=>⟨AV.pv (.slice A0) i.1::jn 1 (AV.pv (.fn 265 .unit) i.2.1::jn 1 (AV.ptr 0 none 0 0::jn 3 (.n (i.2.2.1)::.n (p.1)::jn 39 ([])))),[some (Cont.cells 2 [[AV.pv .i i.2.2.2.1,AV.pv .i i.2.2.2.2.1]])]⟩
def Akm:=((.i (.i (.i (.v (.v (.i (.i .n))))))):Pk A62.ty _ _)
def Aw8:Cfg:={ti:=Aw,ents:=[SK],ann:=[(3,Ao A62 0 (spP Akm) AB Akj.E)],lent:=0}
def AY (x:List A1×A1×Unit×Unit):Option (Int×Bool×Unit):=(AC (fun v=>AB (x.1,x.2.2.1,(x.1.length:Int),x.2.1.1,x.2.1.2.1,()) v _ some) (0,(x.1.length:Int),())).bind fun p=>bif decide (p.1<(x.1.length:Int))then(lAt x.1 p.1).bind fun v=>(BI ((v.1,v.2.1,()),(x.2.1.1,x.2.1.2.1,()),())).bind fun v=>some (p.1,v.1==0,())else some (p.1,false,())
def Uj:Ent:=⟨272,⟨(.slot (.slice A0) (.slot A0 (.slot (.fn 265 .unit) .nil))),.nil⟩,⟨(.slot .i (.slot .bool .nil)),.nil⟩,AY⟩
theorem Ako:CfgOK Go.Proofs.Tryz.prog Aw8:=hcB (all_cons i9 all_nil)
theorem Aw7:B9 Go.Proofs.Tryz.prog Aw8 (lpc Go.Proofs.Tryz.f272 0):=lkA Ako A62 Akm AB Akj [0,2,4,8,9] EC
theorem mC:Ai Go.Proofs.Tryz.prog Uj:=okB Ako Go.Proofs.Tryz.func272 Aw7
def Aad:Go.Shelf.Ren:=⟨fun|22=>273|29=>288|30=>289|n=>n,fun|24=>90|9=>204|n=>n,fun|n=>n⟩
theorem ABs:InsL Go.Proofs.Tryz.prog Aad true 2 where
 mixed:=by kernel_rfl
 f22:=⟨ "slices.Insert[[]loop.example/g01924/impl.ReadMark,loop.example/g01924/impl.ReadMark]",by decide,Go.Proofs.Tryz.func273.trans (congrArg some (by kernel_rfl))⟩
 f29:=⟨_,Go.Proofs.Tryz.func288,by kernel_rfl,by kernel_rfl,by kernel_rfl,by kernel_rfl⟩
 a9:=Go.Proofs.Tryz.isAgg204
 z9:=Go.Proofs.Tryz.sizeOf204
 t0:=Go.Proofs.Tryz.underlying0
 a0:=Go.Proofs.Tryz.isAgg0
 z0:=Go.Proofs.Tryz.sizeOf0
 v0:=Go.Proofs.Tryz.zeroValue0
 t3:=Go.Proofs.Tryz.underlying3
 a3:=Go.Proofs.Tryz.isAgg3
 z3:=Go.Proofs.Tryz.sizeOf3
 v3:=Go.Proofs.Tryz.zeroValue3
 t4:=Go.Proofs.Tryz.underlying4
 a4:=Go.Proofs.Tryz.isAgg4
 z4:=Go.Proofs.Tryz.sizeOf4
 v4:=Go.Proofs.Tryz.zeroValue4
 t24:=Go.Proofs.Tryz.underlying90
 a24:=Go.Proofs.Tryz.isAgg90
 z24:=Go.Proofs.Tryz.sizeOf90
 v24:=Go.Proofs.Tryz.zeroValue90
def Cp (x:Int×List (Int×Int×Unit)×List (Int×Int×Unit)×Unit):Option (List (Int×Int×Unit)×Unit):=Pi (α:=Int×Int×Unit) 2199023255552 x
def AJr:Cfg:={ti:=Aw,ents:=[],ann:=[],lent:=2}
def Ui:Ent:=⟨273,⟨(.own 0 (.slot Ty.i (.own 1 .nil))),(.lst false A0 (.lst false A0 .nil))⟩,⟨(.own 2 .nil),(.gone (.gone (.lst false A0 .nil)))⟩,Cp⟩
theorem mB:Ai Go.Proofs.Tryz.prog Ui:=Qe (ρ:=Aad) (t:=A0) YQ ABs rfl (by decide) rfl
def bh:Cfg:={ti:=Aw,ents:=[Ui,Uj,XW],ann:=[],lent:=1,hid:=[((7,1),[0]),((7,13),[0]),((7,14),[0]),((7,15),[0])]}
def CW (x:Nat×Int×Int×Int×Int×Int×Int×List A3×Unit):Option (Bool×List A3×Unit):=x.2.2.2.2.2.2.2.1[x.1]?.bind fun v=>x.2.2.2.2.2.2.2.1[x.1]?.bind fun v=>bif (v.2.2.2.2.2.2.2.1.length:Int)==60 then some (false,x.2.2.2.2.2.2.2.1,())else x.2.2.2.2.2.2.2.1[x.1]?.bind fun v=>x.2.2.2.2.2.2.2.1[x.1]?.bind fun v=>(AY (v.2.2.2.2.2.2.2.1,(x.2.1,x.2.2.2.2.1,()),(),())).bind fun v=>bif !v.2.1 then x.2.2.2.2.2.2.2.1[x.1]?.bind fun a=>x.2.2.2.2.2.2.2.1[x.1]?.bind fun b=>(Ch (b.2.2.2.2.2.2.2.1,())).bind fun c=>(Cp (v.1,c.1,[(x.2.1,x.2.2.2.2.1,())],())).bind fun v=>x.2.2.2.2.2.2.2.1[x.1]?.bind fun d=>(x.2.2.2.2.2.2.2.1.set x.1 (d.1,d.2.1,d.2.2.1,d.2.2.2.1,d.2.2.2.2.1,d.2.2.2.2.2.1,d.2.2.2.2.2.2.1,v.1,d.2.2.2.2.2.2.2.2.1,()))[x.1]?.bind fun e=>(x.2.2.2.2.2.2.2.1.set x.1 (d.1,d.2.1,d.2.2.1,d.2.2.2.1,d.2.2.2.2.1,d.2.2.2.2.2.1,d.2.2.2.2.2.2.1,v.1,d.2.2.2.2.2.2.2.2.1,()))[x.1]?.bind fun f=>(x.2.2.2.2.2.2.2.1.set x.1 (d.1,d.2.1,d.2.2.1,d.2.2.2.1,d.2.2.2.2.1,d.2.2.2.2.2.1,d.2.2.2.2.2.2.1,v.1,d.2.2.2.2.2.2.2.2.1,()))[x.1]?.bind fun g=>((x.2.2.2.2.2.2.2.1.set x.1 (d.1,d.2.1,d.2.2.1,d.2.2.2.1,d.2.2.2.2.1,d.2.2.2.2.2.1,d.2.2.2.2.2.2.1,v.1,d.2.2.2.2.2.2.2.2.1,())).set x.1 (g.1,g.2.1,g.2.2.1,g.2.2.2.1,mx e.2.2.2.2.1 x.2.2.2.2.1,g.2.2.2.2.2.1,g.2.2.2.2.2.2.1,g.2.2.2.2.2.2.2.1,g.2.2.2.2.2.2.2.2.1,()))[x.1]?.bind fun h=>some (true,((x.2.2.2.2.2.2.2.1.set x.1 (d.1,d.2.1,d.2.2.1,d.2.2.2.1,d.2.2.2.2.1,d.2.2.2.2.2.1,d.2.2.2.2.2.2.1,v.1,d.2.2.2.2.2.2.2.2.1,())).set x.1 (g.1,g.2.1,g.2.2.1,g.2.2.2.1,mx e.2.2.2.2.1 x.2.2.2.2.1,g.2.2.2.2.2.1,g.2.2.2.2.2.2.1,g.2.2.2.2.2.2.2.1,g.2.2.2.2.2.2.2.2.1,())).set x.1 (h.1,h.2.1,h.2.2.1,h.2.2.2.1,h.2.2.2.2.1,mn f.2.2.2.2.2.1 x.2.2.2.2.2.2.1,h.2.2.2.2.2.2.1,h.2.2.2.2.2.2.2.1,h.2.2.2.2.2.2.2.2.1,()),())else x.2.2.2.2.2.2.2.1[x.1]?.bind fun v=>x.2.2.2.2.2.2.2.1[x.1]?.bind fun a=>x.2.2.2.2.2.2.2.1[x.1]?.bind fun b=>(x.2.2.2.2.2.2.2.1.set x.1 (b.1,b.2.1,b.2.2.1,b.2.2.2.1,mx v.2.2.2.2.1 x.2.2.2.2.1,b.2.2.2.2.2.1,b.2.2.2.2.2.2.1,b.2.2.2.2.2.2.2.1,b.2.2.2.2.2.2.2.2.1,()))[x.1]?.bind fun c=>some (true,(x.2.2.2.2.2.2.2.1.set x.1 (b.1,b.2.1,b.2.2.1,b.2.2.2.1,mx v.2.2.2.2.1 x.2.2.2.2.1,b.2.2.2.2.2.1,b.2.2.2.2.2.2.1,b.2.2.2.2.2.2.2.1,b.2.2.2.2.2.2.2.2.1,())).set x.1 (c.1,c.2.1,c.2.2.1,c.2.2.2.1,c.2.2.2.2.1,mn a.2.2.2.2.2.1 x.2.2.2.2.2.2.1,c.2.2.2.2.2.2.1,c.2.2.2.2.2.2.2.1,c.2.2.2.2.2.2.2.2.1,()),())
def Uh:Ent:=⟨242,⟨(.ptrI 0 0 (.slot .i (.agg (si 5 .nil) .nil))),(.tree false 0 Ad .nil)⟩,⟨(.slot .bool .nil),(.tree false 1 Ad .nil)⟩,CW⟩
theorem my:Ai Go.Proofs.Tryz.prog Uh:=okA (C:=bh) (hcB (all_cons mB (all_cons mC (all_cons qo all_nil)))) Go.Proofs.Tryz.func242
def xg:Cfg:={ti:=Aw,ents:=[SH,Uh,ZA,Um],ann:=[],lent:=5,pre:=[(some (0,3)),(some (0,4))]}
def Fa (x:Nat×Int×Bool×Int×A7):Option (Int×Int×Bool×Int×A7):=x.2.2.2.2.2.1[x.1]?.bind fun v=>x.2.2.2.2.2.1[x.1]?.bind fun a=>x.2.2.2.2.2.1[x.1]?.bind fun b=>(GT ((v.1,v.2.1,v.2.2.1,v.2.2.2.1,v.2.2.2.2.1,v.2.2.2.2.2.1,v.2.2.2.2.2.2.1,a.2.2.2.2.2.2.2.1,b.2.2.2.2.2.2.2.2.1,()),x.2.1,())).bind fun v=>bif decide (v.1>=0)then x.2.2.2.2.2.1[x.1]?.bind fun c=>x.2.2.2.2.2.1[x.1]?.bind fun d=>if 0<=v.1/\v.1<(d.2.2.2.2.2.2.2.2.1.length:Int)then x.2.2.2.2.2.1[x.1]?.bind fun e=>e.2.2.2.2.2.2.2.2.1[0+v.1.toNat]?.bind fun v=>some (v.2.1,0,x.2.2.1,x.2.2.2.1,x.2.2.2.2.1,x.2.2.2.2.2.1,x.2.2.2.2.2.2.1,x.2.2.2.2.2.2.2.1,())else none else x.2.2.2.2.2.1[x.1]?.bind fun v=>x.2.2.2.2.2.1[x.1]?.bind fun c=>x.2.2.2.2.2.1[x.1]?.bind fun d=>(Fp ((x.2.2.2.2.1,()),(v.1,v.2.1,v.2.2.1,v.2.2.2.1,v.2.2.2.2.1,v.2.2.2.2.2.1,v.2.2.2.2.2.2.1,c.2.2.2.2.2.2.2.1,d.2.2.2.2.2.2.2.2.1,()),x.2.1,())).bind fun v=>bif v.2.2.2.2.2.1 != 0 then(B5 (x.1,v.2.2.2.2.2.1,x.2.2.1,x.2.2.2.1,x.2.2.2.2.1,x.2.2.2.2.2.1,x.2.2.2.2.2.2.1,x.2.2.2.2.2.2.2.1,())).bind fun e=>some (0,v.2.2.2.2.2.1,e.2.1,e.2.2.1,e.2.2.2.1,e.2.2.2.2.1,e.2.2.2.2.2.2.2.1,e.2.2.2.2.2.2.2.2.1,())else(CW (x.1,x.2.1,v.1,v.2.1,v.2.2.1,v.2.2.2.1,v.2.2.2.2.1,x.2.2.2.2.2.1,())).bind fun e=>bif !e.1 then some (0,6,x.2.2.1,x.2.2.2.1,x.2.2.2.2.1,e.2.1,x.2.2.2.2.2.2.1,x.2.2.2.2.2.2.2.1,())else some (v.2.1,0,x.2.2.1,x.2.2.2.1,x.2.2.2.2.1,e.2.1,x.2.2.2.2.2.2.1,x.2.2.2.2.2.2.2.1,())
def Ug:Ent:=⟨203,⟨(.ptr 0 0 0 (.ptrI 2 0 (.slot .i .nil))),(.cells 6 (.slot .bool (.own 1 (.own 2 (.own 3 (.own 4 (.slot .i .nil)))))) (.tree false 0 (.slice Af) (.tree false 0 Ad (.lst false A0 (.lst false A0 .nil)))))⟩,⟨(si 2 .nil),(.cells 6 (.slot .bool (.own 1 (.own 2 (.own 5 (.own 6 (.slot .i .nil)))))) (.tree false 0 (.slice Af) (.tree false 1 Ad (.gone (.gone (.lst false A0 (.lst false A0 .nil)))))))⟩,Fa⟩
theorem mm:Ai Go.Proofs.Tryz.prog Ug:=okA (C:=xg) (hcB (all_cons Yk (all_cons my (all_cons nj (all_cons nc all_nil))))) Go.Proofs.Tryz.func203
abbrev Akh:=Nat×B3
abbrev Ake:=Int×Bool×Int×List (List A2)×List A3×List A1×List A1×List Int×Unit
abbrev Akf:=Bool×Int×List (List A2)×List A3×Int×List Int×A9 ⊕ Bool×Int×List (List A2)×List A3×List A1×List A1×List Int×Unit
def C6 (i:Akh)(v:Ake)(R:Type)(K:Ake ⊕ Akf->Option R):Option R:=bif decide (v.1<=i.2.1)then(Fa (i.1,v.1,v.2.1,v.2.2.1,v.2.2.2.1,v.2.2.2.2.1,v.2.2.2.2.2.1,v.2.2.2.2.2.2.1,())).bind fun a=>bif a.2.1 != 0 then K (.inr (.inl (a.2.2.1,a.2.2.2.1,a.2.2.2.2.1,a.2.2.2.2.2.1,a.2.1,v.2.2.2.2.2.2.2.1,a.2.2.2.2.2.2.1,a.2.2.2.2.2.2.2.1,())))else if(v.2.2.2.2.2.2.2.1++[a.1]).length<=4398046511104 then K (.inl (IntKind.i64.wrap (v.1+1),a.2.2.1,a.2.2.2.1,a.2.2.2.2.1,a.2.2.2.2.2.1,a.2.2.2.2.2.2.1,a.2.2.2.2.2.2.2.1,v.2.2.2.2.2.2.2.1++[a.1],()))else none else K (.inr (.inr (v.2.1,v.2.2.1,v.2.2.2.1,v.2.2.2.2.1,v.2.2.2.2.2.1,v.2.2.2.2.2.2.1,v.2.2.2.2.2.2.2.1,())))
theorem K6:Bg C6:=fun i v R K=>Ae (Ac fun _=>Ae (Aa) (Aq (Aa))) (Aa)
def A60:Tmpl:=⟨(.ptr 0 0 0 (.ptrI 2 0 (.junk (.slot .i (jk 4 (.ptr 7 0 0 (.ptr 8 0 0 (.slot .i (jk 27 .nil))))))))),(.cells 6 (.slot .bool (.own 1 (.own 2 (.own 5 (.own 6 (.slot .i .nil)))))) (.tree false 0 (.slice Af) (.tree false 1 Ad (.gone (.gone (.lst false A0 (.lst false A0 (.cells 2 (.slot .i (.const (AV.nils) .nil)) (.cells 2 (.slot .i (.own 9 .nil)) (.lst false .i .nil))))))))))⟩
def Akd:Exs Akh Akf:=xs .ret (fun i p=>⟨jn 8 (AV.ptr 7 none 0 0::AV.ptr 8 none 0 0::jn 28 ([])),[some (Cont.cells 6 [[AV.pv .bool p.1,AV.own 1 none none,AV.own 2 none none,AV.own 15 none none,AV.own 16 none none,AV.pv .i p.2.1]]),some (Cont.tree false 0 (.slice Af) p.2.2.1 none),some (Cont.tree false 2 Ad p.2.2.2.1 none),some Cont.dead,some Cont.dead,some Cont.dead,some Cont.dead,some (Cont.cells 2 [[AV.pv .i p.2.2.2.2.1,AV.nils]]),some (Cont.cells 2 [[AV.pv .i i.2.2.2.1,AV.own 9 none none]]),some (Cont.lst false .i p.2.2.2.2.2.1),none,none,none,none,none,some (Cont.lst false A0 p.2.2.2.2.2.2.1),some (Cont.lst false A0 p.2.2.2.2.2.2.2.1)]⟩)<|x1 (.exit 0) fun i p=>⟨jn 8 (AV.ptr 7 none 0 0::AV.ptr 8 none 0 0::jn 28 ([])),[some (Cont.cells 6 [[AV.pv .bool p.1,AV.own 1 none none,AV.own 2 none none,AV.own 5 none none,AV.own 6 none none,AV.pv .i p.2.1]]),some (Cont.tree false 0 (.slice Af) p.2.2.1 none),some (Cont.tree false 1 Ad p.2.2.2.1 none),some Cont.dead,some Cont.dead,some (Cont.lst false A0 p.2.2.2.2.1),some (Cont.lst false A0 p.2.2.2.2.2.1),some (Cont.cells 2 [[AV.pv .i i.2.2.1,AV.nils]]),some (Cont.cells 2 [[AV.pv .i i.2.2.2.1,AV.own 9 none none]]),some (Cont.lst false .i p.2.2.2.2.2.2.1)]⟩
def Akg:=((.i (.i (.v (.v (.v (.v (.v (.v (.v (.i (.i (.v .n)))))))))))):Pk A60.ty _ _)
def qz:Cfg:={ti:=Aw,ents:=[Ug],ann:=[(3,Ao A60 5 (spP Akg) C6 Akd.E)],lent:=5,pre:=[(some (0,3)),(some (0,4))]}
def F9 (x:Nat×Int×Int×Bool×Int×A7):Option (Int×Bool×Int×List (List A2)×List A3×List A1×List A1×List Int×Unit):=(AC (fun v=>C6 (x.1,x.2.2.1,0,0,()) v _ some) (x.2.1,x.2.2.2.1,x.2.2.2.2.1,x.2.2.2.2.2.1,x.2.2.2.2.2.2.1,x.2.2.2.2.2.2.2.1,x.2.2.2.2.2.2.2.2.1,[],())).bind fun p=>Az p (fun p=>some (p.2.2.2.2.1,p.1,p.2.1,p.2.2.1,p.2.2.2.1,p.2.2.2.2.2.2.1,p.2.2.2.2.2.2.2.1,[],())) fun p=>some (0,p.1,p.2.1,p.2.2.1,p.2.2.2.1,p.2.2.2.2.1,p.2.2.2.2.2.1,p.2.2.2.2.2.2.1,())
def Uf:Ent:=⟨146,⟨(.ptr 0 0 0 (.ptrI 2 0 (si 2 .nil))),(.cells 6 (.slot .bool (.own 1 (.own 2 (.own 3 (.own 4 (.slot .i .nil)))))) (.tree false 0 (.slice Af) (.tree false 0 Ad (.lst false A0 (.lst false A0 .nil)))))⟩,⟨(.agg (.slot .i (.own 7 .nil)) .nil),(.cells 6 (.slot .bool (.own 1 (.own 2 (.own 5 (.own 6 (.slot .i .nil)))))) (.tree false 0 (.slice Af) (.tree false 1 Ad (.gone (.gone (.lst false A0 (.lst false A0 (.lst false .i .nil))))))))⟩,F9⟩
theorem Aki:CfgOK Go.Proofs.Tryz.prog qz:=hcB (all_cons mm all_nil)
theorem Aw1:B9 Go.Proofs.Tryz.prog qz (lpc Go.Proofs.Tryz.f146 0):=lkA Aki A60 Akg C6 Akd [8,9] K6
theorem ml:Ai Go.Proofs.Tryz.prog Uf:=okB Aki Go.Proofs.Tryz.func146 Aw1
def FY (x:A1×Option Int×Unit):Option (Bool×Unit):=x.2.1.bind fun v=>some (x.1.1==v,())
def xf:Ent:=⟨244,⟨(.slot A0 (.slot (.iref .i) .nil)),.nil⟩,⟨(.slot .bool .nil),.nil⟩,FY⟩
theorem Akc:Ai Go.Proofs.Tryz.prog xf:=okA (hcA 0 all_nil) Go.Proofs.Tryz.func244
abbrev Aka:=List A1×(Option Int×Unit)×Int×Unit
abbrev Ak7:=Int×Unit
abbrev Ak8:=Int×Unit ⊕ Unit
def B7 (i:Aka)(v:Ak7)(R:Type)(K:Ak7 ⊕ Ak8->Option R):Option R:=bif decide (v.1<i.2.2.1)then(lAt i.1 v.1).bind fun a=>(FY ((a.1,a.2.1,()),i.2.1.1,())).bind fun b=>bif b.1 then K (.inr (.inl (v.1,())))else K (.inl (IntKind.i64.wrap (v.1+1),()))else K (.inr (.inr ()))
theorem G5:Bg B7:=fun i v R K=>Ae (Ac fun _=>Ac fun _=>Ae (Aa) (Aa)) (Aa)
def A5z:Tmpl:=⟨(.slot (.slice A0) (.slot (.fn 244 (.prod (.iref .i) .unit)) (jk 5 (si 2 (jk 10 .nil))))),.nil⟩
def Ak6:Exs Aka Ak8:=xs .ret (fun i p=>⟨jn 4 (.n (p.1)::jn 14 ([])),[]⟩)<|x1 (.exit 0) fun i p=>⟨jn 19 ([]),[]⟩
def Ak9:=((.i (.i (.i (.v .n)))):Pk A5z.ty _ _)
def Aw0:Cfg:={ti:=Aw,ents:=[xf],ann:=[(2,Ao A5z 0 (spP Ak9) B7 Ak6.E)],lent:=0}
def BG (x:List A1×(Option Int×Unit)×Unit):Option (Int×Unit):=(AC (fun v=>B7 (x.1,x.2.1,(x.1.length:Int),()) v _ some) (0,())).bind fun p=>Az p (fun p=>some (p.1,())) fun p=>some (-1,())
def cj:Ent:=⟨194,⟨(.slot (.slice A0) (.slot (.fn 244 (.prod (.iref .i) .unit)) .nil)),.nil⟩,⟨(.slot .i .nil),.nil⟩,BG⟩
theorem Akb:CfgOK Go.Proofs.Tryz.prog Aw0:=hcB (all_cons Akc all_nil)
theorem Avz:B9 Go.Proofs.Tryz.prog Aw0 (lpc Go.Proofs.Tryz.f194 0):=lkA Akb A5z Ak9 B7 Ak6 [4] G5
theorem sA:Ai Go.Proofs.Tryz.prog cj:=okB Akb Go.Proofs.Tryz.func194 Avz
def FD (x:List A1×Int×Unit):Option (Int×Unit):=(BG (x.1,(some x.2.1,()),())).bind fun v=>bif decide (v.1<0)then some (0,())else(lAt x.1 v.1).bind fun v=>some (v.2.1,())
def Yj:Ent:=⟨205,⟨(.slot (.slice A0) (.slot .i .nil)),.nil⟩,⟨(.slot .i .nil),.nil⟩,FD⟩
theorem mj:Ai Go.Proofs.Tryz.prog Yj:=okA (hcA 0 (all_cons sA all_nil)) Go.Proofs.Tryz.func205
def D2 (x:A4×Int×Unit):Option (Option A2×Unit):=(lAt x.1.1 x.2.1).bind fun v=>(lAt v (IntKind.i64.wrap ((v.length:Int)-1))).bind fun v=>some (some v,())
def eR:Ent:=⟨243,⟨(.slot Bp (.slot .i .nil)),.nil⟩,⟨(.slot (.iref Af) .nil),.nil⟩,D2⟩
theorem i2:Ai Go.Proofs.Tryz.prog eR:=okA (hcA 0 all_nil) Go.Proofs.Tryz.func243
def DV (x:A4×List A1×A3×Int×Unit):Option (Int×Unit):=(FD (x.2.1,x.2.2.2.1,())).bind fun v=>(D2 ((x.1.1,()),x.2.2.2.1,())).bind fun a=>bif v.1 != 0 then bif x.2.2.1.2.1==1 then bif v.1 != x.2.2.1.1 then some (1,())else bif x.2.2.1.2.1==2 then bif v.1 != x.2.2.1.1 then some (2,())else a.1.bind fun v=>bif decide (v.2.2.1>x.2.2.1.2.2.2.1)then some (2,())else bif x.2.2.1.2.1==4 then a.1.bind fun v=>bif decide (v.2.2.2.1>x.2.2.1.2.2.2.1)then some (3,())else some (0,())else some (0,())else bif x.2.2.1.2.1==4 then a.1.bind fun v=>bif decide (v.2.2.2.1>x.2.2.1.2.2.2.1)then some (3,())else some (0,())else some (0,())else bif x.2.2.1.2.1==2 then bif v.1 != x.2.2.1.1 then some (2,())else a.1.bind fun v=>bif decide (v.2.2.1>x.2.2.1.2.2.2.1)then some (2,())else bif x.2.2.1.2.1==4 then a.1.bind fun v=>bif decide (v.2.2.2.1>x.2.2.1.2.2.2.1)then some (3,())else some (0,())else some (0,())else bif x.2.2.1.2.1==4 then a.1.bind fun v=>bif decide (v.2.2.2.1>x.2.2.1.2.2.2.1)then some (3,())else some (0,())else some (0,())else bif x.2.2.1.2.1==1 then bif x.2.2.1.2.1==2 then a.1.bind fun v=>bif decide (v.2.2.1>x.2.2.1.2.2.2.1)then some (2,())else bif x.2.2.1.2.1==4 then a.1.bind fun v=>bif decide (v.2.2.2.1>x.2.2.1.2.2.2.1)then some (3,())else some (0,())else some (0,())else bif x.2.2.1.2.1==4 then a.1.bind fun v=>bif decide (v.2.2.2.1>x.2.2.1.2.2.2.1)then some (3,())else some (0,())else some (0,())else bif x.2.2.1.2.1==2 then a.1.bind fun v=>bif decide (v.2.2.1>x.2.2.1.2.2.2.1)then some (2,())else bif x.2.2.1.2.1==4 then a.1.bind fun v=>bif decide (v.2.2.2.1>x.2.2.1.2.2.2.1)then some (3,())else some (0,())else some (0,())else bif x.2.2.1.2.1==4 then a.1.bind fun v=>bif decide (v.2.2.2.1>x.2.2.1.2.2.2.1)then some (3,())else some (0,())else some (0,())
def eP:Ent:=⟨204,⟨(.slot Bp (.slot (.slice A0) (.slot Ad (.slot .i .nil)))),.nil⟩,⟨(.slot .i .nil),.nil⟩,DV⟩
theorem sy:Ai Go.Proofs.Tryz.prog eP:=okA (hcA 0 (all_cons mj (all_cons i2 all_nil))) Go.Proofs.Tryz.func204
def FC (x:A1×Int×Unit):Option (Int×Unit):=(BO (x.1.1,x.2.1,())).bind fun v=>some (v.1,())
def Yi:Ent:=⟨247,⟨(.slot A0 (.slot .i .nil)),.nil⟩,⟨(.slot .i .nil),.nil⟩,FC⟩
theorem sx:Ai Go.Proofs.Tryz.prog Yi:=okA (hcA 0 (all_cons PL all_nil)) Go.Proofs.Tryz.func247
abbrev Ak5:=List A1×Int×Unit×Int×Unit
abbrev Ak2:=Int×Int×Unit
abbrev Ak3:=Int×Unit
def AE (i:Ak5)(v:Ak2)(R:Type)(K:Ak2 ⊕ Ak3->Option R):Option R:=bif decide (v.1<v.2.1)then(lAt i.1 (IntKind.i64.wrap (Int.fdiv (IntKind.u64.wrap (IntKind.i64.wrap (v.1+v.2.1))) (2 ^ min (Int.toNat 1) (IntKind.bits IntKind.u64))))).bind fun a=>(FC ((a.1,a.2.1,()),i.2.1,())).bind fun b=>bif decide (b.1<0)then K (.inl (IntKind.i64.wrap (IntKind.i64.wrap (Int.fdiv (IntKind.u64.wrap (IntKind.i64.wrap (v.1+v.2.1))) (2 ^ min (Int.toNat 1) (IntKind.bits IntKind.u64)))+1),v.2.1,()))else K (.inl (v.1,IntKind.i64.wrap (Int.fdiv (IntKind.u64.wrap (IntKind.i64.wrap (v.1+v.2.1))) (2 ^ min (Int.toNat 1) (IntKind.bits IntKind.u64))),()))else K (.inr (v.1,()))
theorem Fg:Bg AE:=fun i v R K=>Ae (Ac fun _=>Ac fun _=>Ae (Aa) (Aa)) (Aa)
def A5y:Tmpl:=⟨(.slot (.slice A0) (.slot .i (.slot (.fn 247 .unit) (jk 5 (si 3 (jk 38 .nil)))))),.nil⟩
def Ak1:Exs Ak5 Ak3:=x1 (.exit 0) fun i p=>⟨AV.pv (.slice A0) i.1::.n (i.2.1)::AV.pv (.fn 247 .unit) i.2.2.1::jn 5 (.n (i.2.2.2.1)::.n (p.1)::jn 39 ([])),[]⟩
def Ak4:=((.i (.i (.i (.i (.v (.v .n)))))):Pk A5y.ty _ _)
def mg:Cfg:={ti:=Aw,ents:=[Yi],ann:=[(3,Ao A5y 0 (spP Ak4) AE Ak1.E)],lent:=0}
def Be (x:List A1×Int×Unit×Unit):Option (Int×Bool×Unit):=(AC (fun v=>AE (x.1,x.2.1,x.2.2.1,(x.1.length:Int),()) v _ some) (0,(x.1.length:Int),())).bind fun p=>bif decide (p.1<(x.1.length:Int))then(lAt x.1 p.1).bind fun v=>(FC ((v.1,v.2.1,()),x.2.1,())).bind fun v=>some (p.1,v.1==0,())else some (p.1,false,())
def mf:Ent:=⟨246,⟨(.slot (.slice A0) (.slot .i (.slot (.fn 247 .unit) .nil))),.nil⟩,⟨(.slot .i (.slot .bool .nil)),.nil⟩,Be⟩
theorem cP:CfgOK Go.Proofs.Tryz.prog mg:=hcB (all_cons sx all_nil)
theorem Avy:B9 Go.Proofs.Tryz.prog mg (lpc Go.Proofs.Tryz.f246 0):=lkA cP A5y Ak4 AE Ak1 [0,1,2,8,9] Fg
theorem sw:Ai Go.Proofs.Tryz.prog mf:=okB cP Go.Proofs.Tryz.func246 Avy
def Aa7:Go.Shelf.Ren:=⟨fun|22=>248|29=>275|30=>276|n=>n,fun|24=>38|9=>144|n=>n,fun|n=>n⟩
theorem ABr:InsL Go.Proofs.Tryz.prog Aa7 true 2 where
 mixed:=by kernel_rfl
 f22:=⟨ "slices.Insert[[]loop.example/g01924/impl.Wait,loop.example/g01924/impl.Wait]",by decide,Go.Proofs.Tryz.func248.trans (congrArg some (by kernel_rfl))⟩
 f29:=⟨_,Go.Proofs.Tryz.func275,by kernel_rfl,by kernel_rfl,by kernel_rfl,by kernel_rfl⟩
 a9:=Go.Proofs.Tryz.isAgg144
 z9:=Go.Proofs.Tryz.sizeOf144
 t0:=Go.Proofs.Tryz.underlying0
 a0:=Go.Proofs.Tryz.isAgg0
 z0:=Go.Proofs.Tryz.sizeOf0
 v0:=Go.Proofs.Tryz.zeroValue0
 t3:=Go.Proofs.Tryz.underlying3
 a3:=Go.Proofs.Tryz.isAgg3
 z3:=Go.Proofs.Tryz.sizeOf3
 v3:=Go.Proofs.Tryz.zeroValue3
 t4:=Go.Proofs.Tryz.underlying4
 a4:=Go.Proofs.Tryz.isAgg4
 z4:=Go.Proofs.Tryz.sizeOf4
 v4:=Go.Proofs.Tryz.zeroValue4
 t24:=Go.Proofs.Tryz.underlying38
 a24:=Go.Proofs.Tryz.isAgg38
 z24:=Go.Proofs.Tryz.sizeOf38
 v24:=Go.Proofs.Tryz.zeroValue38
def EH (x:Int×List (Int×Int×Unit)×List (Int×Int×Unit)×Unit):Option (List (Int×Int×Unit)×Unit):=Pi (α:=Int×Int×Unit) 2199023255552 x
def AJq:Cfg:={ti:=Aw,ents:=[],ann:=[],lent:=2}
def ci:Ent:=⟨248,⟨(.own 0 (.slot Ty.i (.own 1 .nil))),(.lst false A0 (.lst false A0 .nil))⟩,⟨(.own 2 .nil),(.gone (.gone (.lst false A0 .nil)))⟩,EH⟩
theorem sv:Ai Go.Proofs.Tryz.prog ci:=Qe (ρ:=Aa7) (t:=A0) YS ABr rfl (by decide) rfl
def FB (x:List A1×Int×Int×Unit):Option (Bool×List A1×Unit):=(BP (x.1,())).bind fun v=>(Dn (x.1,())).bind fun a=>bif !a.1 then some (false,v.1,())else(BC (x.2.1,())).bind fun b=>bif !b.1 then some (false,v.1,())else(BC (x.2.2.1,())).bind fun c=>bif !c.1 then some (false,v.1,())else bif x.2.1==x.2.2.1 then some (false,v.1,())else(Be (x.1,x.2.1,(),())).bind fun d=>bif !d.2.1 then(EH (d.1,v.1,[(x.2.1,x.2.2.1,())],())).bind fun v=>some (true,v.1,())else if 0<=d.1/\d.1<(v.1.length:Int)then v.1[0+d.1.toNat]?.bind fun e=>some (true,v.1.set (0+d.1.toNat) (e.1,x.2.2.1,()),())else none
def eN:Ent:=⟨207,⟨(.slot (.slice A0) (si 2 .nil)),.nil⟩,⟨(.own 0 (.slot .bool .nil)),(.lst false A0 .nil)⟩,FB⟩
theorem md:Ai Go.Proofs.Tryz.prog eN:=okA (hcA 0 (all_cons sv (all_cons Z5 (all_cons Wc (all_cons VD (all_cons sw all_nil)))))) Go.Proofs.Tryz.func207
def FX (x:A1×Option (List Int)×Unit):Option (Bool×Unit):=x.2.1.bind fun v=>x.2.1.bind fun a=>(lAt v (IntKind.i64.wrap ((a.length:Int)-1))).bind fun v=>some (x.1.1==v,())
def Yh:Ent:=⟨274,⟨(.slot A0 (.slot (.iref (.slice .i)) .nil)),.nil⟩,⟨(.slot .bool .nil),.nil⟩,FX⟩
theorem su:Ai Go.Proofs.Tryz.prog Yh:=okA (hcA 0 all_nil) Go.Proofs.Tryz.func274
abbrev Ak0:=List A1×(Option (List Int)×Unit)×Int×Unit
abbrev Ajx:=Int×Unit
abbrev Ajy:=Int×Unit ⊕ Unit
def B6 (i:Ak0)(v:Ajx)(R:Type)(K:Ajx ⊕ Ajy->Option R):Option R:=bif decide (v.1<i.2.2.1)then(lAt i.1 v.1).bind fun a=>(FX ((a.1,a.2.1,()),i.2.1.1,())).bind fun b=>bif b.1 then K (.inr (.inl (v.1,())))else K (.inl (IntKind.i64.wrap (v.1+1),()))else K (.inr (.inr ()))
theorem G4:Bg B6:=fun i v R K=>Ae (Ac fun _=>Ac fun _=>Ae (Aa) (Aa)) (Aa)
def A5w:Tmpl:=⟨(.slot (.slice A0) (.slot (.fn 274 (.prod (.iref (.slice .i)) .unit)) (jk 5 (si 2 (jk 10 .nil))))),.nil⟩
def Ajw:Exs Ak0 Ajy:=xs .ret (fun i p=>⟨jn 4 (.n (p.1)::jn 14 ([])),[]⟩)<|x1 (.exit 0) fun i p=>⟨jn 19 ([]),[]⟩
def Ajz:=((.i (.i (.i (.v .n)))):Pk A5w.ty _ _)
def mb:Cfg:={ti:=Aw,ents:=[Yh],ann:=[(2,Ao A5w 0 (spP Ajz) B6 Ajw.E)],lent:=0}
def BF (x:List A1×(Option (List Int)×Unit)×Unit):Option (Int×Unit):=(AC (fun v=>B6 (x.1,x.2.1,(x.1.length:Int),()) v _ some) (0,())).bind fun p=>Az p (fun p=>some (p.1,())) fun p=>some (-1,())
def eL:Ent:=⟨195,⟨(.slot (.slice A0) (.slot (.fn 274 (.prod (.iref (.slice .i)) .unit)) .nil)),.nil⟩,⟨(.slot .i .nil),.nil⟩,BF⟩
theorem cO:CfgOK Go.Proofs.Tryz.prog mb:=hcB (all_cons su all_nil)
theorem Avx:B9 Go.Proofs.Tryz.prog mb (lpc Go.Proofs.Tryz.f195 0):=lkA cO A5w Ajz B6 Ajw [4] G4
theorem ss:Ai Go.Proofs.Tryz.prog eL:=okB cO Go.Proofs.Tryz.func195 Avx
abbrev Aju:=List Int×Int×Int×Unit
abbrev Ajr:=Int×Unit
abbrev Ajs:=Int×Unit ⊕ Unit
def Cm (i:Aju)(v:Ajr)(R:Type)(K:Ajr ⊕ Ajs->Option R):Option R:=bif decide (v.1<i.2.2.1)then(lAt i.1 v.1).bind fun a=>bif i.2.1==a then K (.inr (.inl (v.1,())))else K (.inl (IntKind.i64.wrap (v.1+1),()))else K (.inr (.inr ()))
theorem KJ:Bg Cm:=fun i v R K=>Ae (Ac fun _=>Ae (Aa) (Aa)) (Aa)
def A5v:Tmpl:=⟨(.slot (.slice .i) (.slot .i (jk 5 (si 2 (jk 10 .nil))))),.nil⟩
def Ajq:Exs Aju Ajs:=xs .ret (fun i p=>⟨jn 4 (.n (p.1)::jn 14 ([])),[]⟩)<|x1 (.exit 0) fun i p=>⟨jn 19 ([]),[]⟩
def Ajt:=((.i (.i (.i (.v .n)))):Pk A5v.ty _ _)
def Avw:Cfg:={ti:=Aw,ents:=[],ann:=[(2,Ao A5v 0 (spP Ajt) Cm Ajq.E)],lent:=0}
def Hw (x:List Int×Int×Unit):Option (Int×Unit):=(AC (fun v=>Cm (x.1,x.2.1,(x.1.length:Int),()) v _ some) (0,())).bind fun p=>Az p (fun p=>some (p.1,())) fun p=>some (-1,())
def ch:Ent:=⟨221,⟨(.slot (.slice .i) (.slot .i .nil)),.nil⟩,⟨(.slot .i .nil),.nil⟩,Hw⟩
theorem Ajv:CfgOK Go.Proofs.Tryz.prog Avw:=hcB all_nil
theorem Avv:B9 Go.Proofs.Tryz.prog Avw (lpc Go.Proofs.Tryz.f221 0):=lkA Ajv A5v Ajt Cm Ajq [4] KJ
theorem sr:Ai Go.Proofs.Tryz.prog ch:=okB Ajv Go.Proofs.Tryz.func221 Avv
def E6 (x:List Int×Int×Unit):Option (Bool×Unit):=(Hw (x.1,x.2.1,())).bind fun v=>some (decide (v.1>=0),())
def eK:Ent:=⟨161,⟨(.slot (.slice .i) (.slot .i .nil)),.nil⟩,⟨(.slot .bool .nil),.nil⟩,E6⟩
theorem sq:Ai Go.Proofs.Tryz.prog eK:=okA (hcA 0 (all_cons sr all_nil)) Go.Proofs.Tryz.func161
abbrev Ajo:=List A1×Unit
abbrev Ajl:=List Int×Unit
abbrev Ajm:=List Int×Unit ⊕ List Int×List Int×Unit
def DA (i:Ajo)(v:Ajl)(R:Type)(K:Ajl ⊕ Ajm->Option R):Option R:=(BF (i.1,(some v.1,()),())).bind fun a=>bif decide (a.1<0)then K (.inr (.inl (v.1,())))else(lAt i.1 a.1).bind fun b=>(E6 (v.1,b.2.1,())).bind fun c=>(lAt i.1 a.1).bind fun d=>if(v.1++[d.2.1]).length<=4398046511104 then bif c.1 then K (.inr (.inr ([d.2.1],v.1++[d.2.1],())))else K (.inl (v.1++[d.2.1],()))else none
theorem M5:Bg DA:=fun i v R K=>Ac fun _=>Ae (Aa) (Ac fun _=>Ac fun _=>Ac fun _=>Aq (Ae (Aa) (Aa)))
def A5u:Tmpl:=⟨(.slot (.slice A0) (jk 4 (.ptr 0 0 0 (jk 35 .nil)))),(.cells 1 (.own 1 .nil) (.lst false .i .nil))⟩
def Ajk:Exs Ajo Ajm:=xs .ret (fun i p=>⟨jn 4 (AV.own 1 none none::jn 36 ([])),[some (Cont.cells 1 [[AV.own 1 none none]]),some (Cont.lst false .i p.1)]⟩)<|x1 .ret fun i p=>⟨jn 4 (AV.own 3 none none::jn 36 ([])),[some (Cont.cells 1 [[AV.own 3 none none]]),some Cont.dead,some (Cont.lst false .i p.1),some (Cont.lst false .i p.2.1)]⟩
def Ajn:=((.i (.v .n)):Pk A5u.ty _ _)
def Avu:Cfg:={ti:=Aw,ents:=[Rl,XS,eL,eK],ann:=[(4,Ao A5u 0 (spP Ajn) DA Ajk.E)],lent:=0}
def IA (x:List A1×Int×Unit):Option (List Int×Unit):=(Dn (x.1,())).bind fun v=>bif !v.1 then some ([],())else(BC (x.2.1,())).bind fun v=>bif !v.1 then some ([],())else(AC (fun v=>DA (x.1,()) v _ some) ([x.2.1],())).bind fun p=>Az p (fun p=>some (p.1,())) fun p=>some (p.2.1,())
def cg:Ent:=⟨245,⟨(.slot (.slice A0) (.slot .i .nil)),.nil⟩,⟨(.own 0 .nil),(.lst false .i .nil)⟩,IA⟩
theorem Ajp:CfgOK Go.Proofs.Tryz.prog Avu:=hcB (all_cons Wc (all_cons VD (all_cons ss (all_cons sq all_nil))))
theorem Avt:B9 Go.Proofs.Tryz.prog Avu (lpc Go.Proofs.Tryz.f245 0):=lkA Ajp A5u Ajn DA Ajk [4] M5
theorem so:Ai Go.Proofs.Tryz.prog cg:=okB Ajp Go.Proofs.Tryz.func245 Avt
def F5 (x:List A1×Int×Int×Unit):Option (Bool×Unit):=(FB (x.1,x.2.1,x.2.2.1,())).bind fun v=>bif !v.1 then some (false,())else(IA (v.2.1,x.2.1,())).bind fun v=>if 0<=IntKind.i64.wrap ((v.1.length:Int)-1)/\IntKind.i64.wrap ((v.1.length:Int)-1)<(v.1.length:Int)then v.1[0+(IntKind.i64.wrap ((v.1.length:Int)-1)).toNat]?.bind fun v=>some (v==x.2.1,())else none
def eJ:Ent:=⟨206,⟨(.slot (.slice A0) (si 2 .nil)),.nil⟩,⟨(.slot .bool .nil),.nil⟩,F5⟩
theorem sn:Ai Go.Proofs.Tryz.prog eJ:=okA (hcA 0 (all_cons md (all_cons so all_nil))) Go.Proofs.Tryz.func206
def F6 (x:Int×Unit):Option (Bool×Unit):=bif x.1==1 then some (true,())else some (x.1==2,())
def eI:Ent:=⟨208,⟨(.slot .i .nil),.nil⟩,⟨(.slot .bool .nil),.nil⟩,F6⟩
theorem sm:Ai Go.Proofs.Tryz.prog eI:=okA (hcA 0 all_nil) Go.Proofs.Tryz.func208
def Dp (x:A1×Int×Unit):Option (Int×Unit):=(BO (x.1.1,x.2.1,())).bind fun v=>some (v.1,())
def m7:Ent:=⟨250,⟨(.slot A0 (.slot .i .nil)),.nil⟩,⟨(.slot .i .nil),.nil⟩,Dp⟩
theorem A5t:Ai Go.Proofs.Tryz.prog m7:=okA (hcA 0 (all_cons PL all_nil)) Go.Proofs.Tryz.func250
abbrev Ajc:=List A1×Int×Unit×Int×Unit
abbrev Aj8:=Int×Int×Unit
abbrev Aj9:=Int×Unit
def AA (i:Ajc)(v:Aj8)(R:Type)(K:Aj8 ⊕ Aj9->Option R):Option R:=bif decide (v.1<v.2.1)then(lAt i.1 (IntKind.i64.wrap (Int.fdiv (IntKind.u64.wrap (IntKind.i64.wrap (v.1+v.2.1))) (2 ^ min (Int.toNat 1) (IntKind.bits IntKind.u64))))).bind fun a=>(Dp ((a.1,a.2.1,()),i.2.1,())).bind fun b=>bif decide (b.1<0)then K (.inl (IntKind.i64.wrap (IntKind.i64.wrap (Int.fdiv (IntKind.u64.wrap (IntKind.i64.wrap (v.1+v.2.1))) (2 ^ min (Int.toNat 1) (IntKind.bits IntKind.u64)))+1),v.2.1,()))else K (.inl (v.1,IntKind.i64.wrap (Int.fdiv (IntKind.u64.wrap (IntKind.i64.wrap (v.1+v.2.1))) (2 ^ min (Int.toNat 1) (IntKind.bits IntKind.u64))),()))else K (.inr (v.1,()))
theorem En:Bg AA:=fun i v R K=>Ae (Ac fun _=>Ac fun _=>Ae (Aa) (Aa)) (Aa)
def A5r:Tmpl:=⟨(.slot (.slice A0) (.slot .i (.slot (.fn 250 .unit) (jk 5 (si 3 (jk 38 .nil)))))),.nil⟩
def Aj7:Exs Ajc Aj9:=x1 (.exit 0) fun i p=>⟨AV.pv (.slice A0) i.1::.n (i.2.1)::AV.pv (.fn 250 .unit) i.2.2.1::jn 5 (.n (i.2.2.2.1)::.n (p.1)::jn 39 ([])),[]⟩
def Aja:=((.i (.i (.i (.i (.v (.v .n)))))):Pk A5r.ty _ _)
def Avq:Cfg:={ti:=Aw,ents:=[m7],ann:=[(3,Ao A5r 0 (spP Aja) AA Aj7.E)],lent:=0}
def AQ (x:List A1×Int×Unit×Unit):Option (Int×Bool×Unit):=(AC (fun v=>AA (x.1,x.2.1,x.2.2.1,(x.1.length:Int),()) v _ some) (0,(x.1.length:Int),())).bind fun p=>bif decide (p.1<(x.1.length:Int))then(lAt x.1 p.1).bind fun v=>(Dp ((v.1,v.2.1,()),x.2.1,())).bind fun v=>some (p.1,v.1==0,())else some (p.1,false,())
def A3g:Ent:=⟨249,⟨(.slot (.slice A0) (.slot .i (.slot (.fn 250 .unit) .nil))),.nil⟩,⟨(.slot .i (.slot .bool .nil)),.nil⟩,AQ⟩
theorem Ajd:CfgOK Go.Proofs.Tryz.prog Avq:=hcB (all_cons A5t all_nil)
theorem Avp:B9 Go.Proofs.Tryz.prog Avq (lpc Go.Proofs.Tryz.f249 0):=lkA Ajd A5r Aja AA Aj7 [0,1,2,8,9] En
theorem Ajb:Ai Go.Proofs.Tryz.prog A3g:=okB Ajd Go.Proofs.Tryz.func249 Avp
def A9x:Go.Shelf.Ren:=⟨fun|22=>251|29=>277|30=>278|n=>n,fun|24=>37|9=>142|n=>n,fun|n=>n⟩
theorem ABq:InsL Go.Proofs.Tryz.prog A9x true 2 where
 mixed:=by kernel_rfl
 f22:=⟨ "slices.Insert[[]loop.example/g01924/impl.Lock,loop.example/g01924/impl.Lock]",by decide,Go.Proofs.Tryz.func251.trans (congrArg some (by kernel_rfl))⟩
 f29:=⟨_,Go.Proofs.Tryz.func277,by kernel_rfl,by kernel_rfl,by kernel_rfl,by kernel_rfl⟩
 a9:=Go.Proofs.Tryz.isAgg142
 z9:=Go.Proofs.Tryz.sizeOf142
 t0:=Go.Proofs.Tryz.underlying0
 a0:=Go.Proofs.Tryz.isAgg0
 z0:=Go.Proofs.Tryz.sizeOf0
 v0:=Go.Proofs.Tryz.zeroValue0
 t3:=Go.Proofs.Tryz.underlying3
 a3:=Go.Proofs.Tryz.isAgg3
 z3:=Go.Proofs.Tryz.sizeOf3
 v3:=Go.Proofs.Tryz.zeroValue3
 t4:=Go.Proofs.Tryz.underlying4
 a4:=Go.Proofs.Tryz.isAgg4
 z4:=Go.Proofs.Tryz.sizeOf4
 v4:=Go.Proofs.Tryz.zeroValue4
 t24:=Go.Proofs.Tryz.underlying37
 a24:=Go.Proofs.Tryz.isAgg37
 z24:=Go.Proofs.Tryz.sizeOf37
 v24:=Go.Proofs.Tryz.zeroValue37
def EI (x:Int×List (Int×Int×Unit)×List (Int×Int×Unit)×Unit):Option (List (Int×Int×Unit)×Unit):=Pi (α:=Int×Int×Unit) 2199023255552 x
def Azy:Cfg:={ti:=Aw,ents:=[],ann:=[],lent:=2}
def A9y:Ent:=⟨251,⟨(.own 0 (.slot Ty.i (.own 1 .nil))),(.lst false A0 (.lst false A0 .nil))⟩,⟨(.own 2 .nil),(.gone (.gone (.lst false A0 .nil)))⟩,EI⟩
theorem Aj6:Ai Go.Proofs.Tryz.prog A9y:=Qe (ρ:=A9x) (t:=A0) YT ABq rfl (by decide) rfl
def Es (x:List A1×Int×Int×Unit):Option (Bool×List A1×Unit):=(Cg (x.1,())).bind fun v=>(Eu (x.1,())).bind fun a=>bif !a.1 then some (false,v.1,())else(Dl (x.2.1,())).bind fun b=>bif !b.1 then some (false,v.1,())else(BC (x.2.2.1,())).bind fun c=>bif !c.1 then some (false,v.1,())else(AQ (x.1,x.2.1,(),())).bind fun d=>bif d.2.1 then(lAt x.1 d.1).bind fun e=>some (e.2.1==x.2.2.1,v.1,())else(EI (d.1,v.1,[(x.2.1,x.2.2.1,())],())).bind fun v=>some (true,v.1,())
def Ue:Ent:=⟨209,⟨(.slot (.slice A0) (si 2 .nil)),.nil⟩,⟨(.own 0 (.slot .bool .nil)),(.lst false A0 .nil)⟩,Es⟩
theorem lY:Ai Go.Proofs.Tryz.prog Ue:=okA (hcA 0 (all_cons Aj6 (all_cons iW (all_cons ib (all_cons Wd (all_cons VD (all_cons Ajb all_nil))))))) Go.Proofs.Tryz.func209
def Cu (x:A1×Int×Unit):Option (Int×Unit):=(BO (x.1.1,x.2.1,())).bind fun v=>some (v.1,())
def VO:Ent:=⟨253,⟨(.slot A0 (.slot .i .nil)),.nil⟩,⟨(.slot .i .nil),.nil⟩,Cu⟩
theorem iG:Ai Go.Proofs.Tryz.prog VO:=okA (hcA 0 (all_cons PL all_nil)) Go.Proofs.Tryz.func253
abbrev Aj4:=List A1×Int×Unit×Int×Unit
abbrev Aiy:=Int×Int×Unit
abbrev Aj0:=Int×Unit
def Ar (i:Aj4)(v:Aiy)(R:Type)(K:Aiy ⊕ Aj0->Option R):Option R:=bif decide (v.1<v.2.1)then(lAt i.1 (IntKind.i64.wrap (Int.fdiv (IntKind.u64.wrap (IntKind.i64.wrap (v.1+v.2.1))) (2 ^ min (Int.toNat 1) (IntKind.bits IntKind.u64))))).bind fun a=>(Cu ((a.1,a.2.1,()),i.2.1,())).bind fun b=>bif decide (b.1<0)then K (.inl (IntKind.i64.wrap (IntKind.i64.wrap (Int.fdiv (IntKind.u64.wrap (IntKind.i64.wrap (v.1+v.2.1))) (2 ^ min (Int.toNat 1) (IntKind.bits IntKind.u64)))+1),v.2.1,()))else K (.inl (v.1,IntKind.i64.wrap (Int.fdiv (IntKind.u64.wrap (IntKind.i64.wrap (v.1+v.2.1))) (2 ^ min (Int.toNat 1) (IntKind.bits IntKind.u64))),()))else K (.inr (v.1,()))
theorem DI:Bg Ar:=fun i v R K=>Ae (Ac fun _=>Ac fun _=>Ae (Aa) (Aa)) (Aa)
def A5o:Tmpl:=⟨(.slot (.slice A0) (.slot .i (.slot (.fn 253 .unit) (jk 5 (si 3 (jk 38 .nil)))))),.nil⟩
def Aiw:Exs Aj4 Aj0:=x1 (.exit 0) fun i p=>⟨AV.pv (.slice A0) i.1::.n (i.2.1)::AV.pv (.fn 253 .unit) i.2.2.1::jn 5 (.n (i.2.2.2.1)::.n (p.1)::jn 39 ([])),[]⟩
def Aj2:=((.i (.i (.i (.i (.v (.v .n)))))):Pk A5o.ty _ _)
def wY:Cfg:={ti:=Aw,ents:=[VO],ann:=[(3,Ao A5o 0 (spP Aj2) Ar Aiw.E)],lent:=0}
def AI (x:List A1×Int×Unit×Unit):Option (Int×Bool×Unit):=(AC (fun v=>Ar (x.1,x.2.1,x.2.2.1,(x.1.length:Int),()) v _ some) (0,(x.1.length:Int),())).bind fun p=>bif decide (p.1<(x.1.length:Int))then(lAt x.1 p.1).bind fun v=>(Cu ((v.1,v.2.1,()),x.2.1,())).bind fun v=>some (p.1,v.1==0,())else some (p.1,false,())
def lR:Ent:=⟨252,⟨(.slot (.slice A0) (.slot .i (.slot (.fn 253 .unit) .nil))),.nil⟩,⟨(.slot .i (.slot .bool .nil)),.nil⟩,AI⟩
theorem lQ:CfgOK Go.Proofs.Tryz.prog wY:=hcB (all_cons iG all_nil)
theorem Avn:B9 Go.Proofs.Tryz.prog wY (lpc Go.Proofs.Tryz.f252 0):=lkA lQ A5o Aj2 Ar Aiw [0,1,2,8,9] DI
theorem A5q:Ai Go.Proofs.Tryz.prog lR:=okB lQ Go.Proofs.Tryz.func252 Avn
def BE (x:Int×List (List A2)×Unit):Option (Option (Nat×Nat)×List (List A2)×Unit):=if 0<=x.1/\x.1<(x.2.1.length:Int)then x.2.1[0+x.1.toNat]?.bind fun v=>x.2.1[0+x.1.toNat]?.bind fun v=>x.2.1[0+x.1.toNat]?.bind fun a=>if 0<=IntKind.i64.wrap ((v.length:Int)-1)/\IntKind.i64.wrap ((v.length:Int)-1)<(a.length:Int)then some (some (0+x.1.toNat,0+(IntKind.i64.wrap ((v.length:Int)-1)).toNat),x.2.1,())else none else none
def VN:Ent:=⟨243,⟨(.agg (.own 0 .nil) (.slot .i .nil)),(.tree false 0 (.slice Af) .nil)⟩,⟨(.mptr 0 0 0 .nil),(.tree false 0 (.slice Af) .nil)⟩,BE⟩
theorem lP:Ai Go.Proofs.Tryz.prog VN:=okA (hcA 1 all_nil) Go.Proofs.Tryz.func243
def A9t:Go.Shelf.Ren:=⟨fun|22=>254|29=>279|30=>280|n=>n,fun|24=>91|9=>147|n=>n,fun|n=>n⟩
theorem ABp:InsL Go.Proofs.Tryz.prog A9t true 2 where
 mixed:=by kernel_rfl
 f22:=⟨ "slices.Insert[[]loop.example/g01924/impl.Write,loop.example/g01924/impl.Write]",by decide,Go.Proofs.Tryz.func254.trans (congrArg some (by kernel_rfl))⟩
 f29:=⟨_,Go.Proofs.Tryz.func279,by kernel_rfl,by kernel_rfl,by kernel_rfl,by kernel_rfl⟩
 a9:=Go.Proofs.Tryz.isAgg147
 z9:=Go.Proofs.Tryz.sizeOf147
 t0:=Go.Proofs.Tryz.underlying0
 a0:=Go.Proofs.Tryz.isAgg0
 z0:=Go.Proofs.Tryz.sizeOf0
 v0:=Go.Proofs.Tryz.zeroValue0
 t3:=Go.Proofs.Tryz.underlying3
 a3:=Go.Proofs.Tryz.isAgg3
 z3:=Go.Proofs.Tryz.sizeOf3
 v3:=Go.Proofs.Tryz.zeroValue3
 t4:=Go.Proofs.Tryz.underlying4
 a4:=Go.Proofs.Tryz.isAgg4
 z4:=Go.Proofs.Tryz.sizeOf4
 v4:=Go.Proofs.Tryz.zeroValue4
 t24:=Go.Proofs.Tryz.underlying91
 a24:=Go.Proofs.Tryz.isAgg91
 z24:=Go.Proofs.Tryz.sizeOf91
 v24:=Go.Proofs.Tryz.zeroValue91
def Em (x:Int×List (Int×Int×Unit)×List (Int×Int×Unit)×Unit):Option (List (Int×Int×Unit)×Unit):=Pi (α:=Int×Int×Unit) 2199023255552 x
def A2y:Cfg:={ti:=Aw,ents:=[],ann:=[],lent:=2}
def eC:Ent:=⟨254,⟨(.own 0 (.slot Ty.i (.own 1 .nil))),(.lst false A0 (.lst false A0 .nil))⟩,⟨(.own 2 .nil),(.gone (.gone (.lst false A0 .nil)))⟩,Em⟩
theorem sl:Ai Go.Proofs.Tryz.prog eC:=Qe (ρ:=A9t) (t:=A0) YR ABp rfl (by decide) rfl
def ABo:Cfg:={ti:=Aw,ents:=[VN,eC,lR,XV],ann:=[],lent:=2,hid:=[((6,0),[1]),((6,1),[1]),((6,2),[1]),((6,3),[1]),((6,4),[1])],tak:=[254]}
def Bw (x:Nat×Int×Int×List A3×List (List A2)×Unit):Option (List A3×List (List A2)×Unit):=x.2.2.2.1[x.1]?.bind fun v=>x.2.2.2.1[x.1]?.bind fun v=>(AI (v.2.2.2.2.2.2.2.2.1,x.2.1,(),())).bind fun v=>x.2.2.2.1[x.1]?.bind fun a=>x.2.2.2.1[x.1]?.bind fun b=>(CK (b.2.2.2.2.2.2.2.2.1,())).bind fun c=>x.2.2.2.1[x.1]?.bind fun d=>bif v.2.1 then(x.2.2.2.1.set x.1 (d.1,d.2.1,d.2.2.1,d.2.2.2.1,d.2.2.2.2.1,d.2.2.2.2.2.1,d.2.2.2.2.2.2.1,d.2.2.2.2.2.2.2.1,c.1,()))[x.1]?.bind fun e=>(x.2.2.2.1.set x.1 (d.1,d.2.1,d.2.2.1,d.2.2.2.1,d.2.2.2.2.1,d.2.2.2.2.2.1,d.2.2.2.2.2.2.1,d.2.2.2.2.2.2.2.1,c.1,()))[x.1]?.bind fun f=>if 0<=v.1/\v.1<(f.2.2.2.2.2.2.2.2.1.length:Int)then(x.2.2.2.1.set x.1 (d.1,d.2.1,d.2.2.1,d.2.2.2.1,d.2.2.2.2.1,d.2.2.2.2.2.1,d.2.2.2.2.2.2.1,d.2.2.2.2.2.2.2.1,c.1,()))[x.1]?.bind fun g=>g.2.2.2.2.2.2.2.2.1[0+v.1.toNat]?.bind fun h=>((x.2.2.2.1.set x.1 (d.1,d.2.1,d.2.2.1,d.2.2.2.1,d.2.2.2.2.1,d.2.2.2.2.2.1,d.2.2.2.2.2.2.1,d.2.2.2.2.2.2.2.1,c.1,())).set x.1 (g.1,g.2.1,g.2.2.1,g.2.2.2.1,g.2.2.2.2.1,g.2.2.2.2.2.1,g.2.2.2.2.2.2.1,g.2.2.2.2.2.2.2.1,g.2.2.2.2.2.2.2.2.1.set (0+v.1.toNat) (h.1,x.2.2.1,()),()))[x.1]?.bind fun j=>(BE (x.2.1,x.2.2.2.2.1,())).bind fun k=>k.1.bind fun l=>k.2.1[l.1]?.bind fun m=>m[l.2]?.bind fun n=>((x.2.2.2.1.set x.1 (d.1,d.2.1,d.2.2.1,d.2.2.2.1,d.2.2.2.2.1,d.2.2.2.2.2.1,d.2.2.2.2.2.2.1,d.2.2.2.2.2.2.2.1,c.1,())).set x.1 (g.1,g.2.1,g.2.2.1,g.2.2.2.1,g.2.2.2.2.1,g.2.2.2.2.2.1,g.2.2.2.2.2.2.1,g.2.2.2.2.2.2.2.1,g.2.2.2.2.2.2.2.2.1.set (0+v.1.toNat) (h.1,x.2.2.1,()),()))[x.1]?.bind fun o=>some (((x.2.2.2.1.set x.1 (d.1,d.2.1,d.2.2.1,d.2.2.2.1,d.2.2.2.2.1,d.2.2.2.2.2.1,d.2.2.2.2.2.2.1,d.2.2.2.2.2.2.2.1,c.1,())).set x.1 (g.1,g.2.1,g.2.2.1,g.2.2.2.1,g.2.2.2.2.1,g.2.2.2.2.2.1,g.2.2.2.2.2.2.1,g.2.2.2.2.2.2.2.1,g.2.2.2.2.2.2.2.2.1.set (0+v.1.toNat) (h.1,x.2.2.1,()),())).set x.1 (o.1,o.2.1,o.2.2.1,o.2.2.2.1,mx j.2.2.2.2.1 n.2.2.2.1,o.2.2.2.2.2.1,o.2.2.2.2.2.2.1,o.2.2.2.2.2.2.2.1,o.2.2.2.2.2.2.2.2.1,()),k.2.1,())else none else(x.2.2.2.1.set x.1 (d.1,d.2.1,d.2.2.1,d.2.2.2.1,d.2.2.2.2.1,d.2.2.2.2.2.1,d.2.2.2.2.2.2.1,d.2.2.2.2.2.2.2.1,c.1,()))[x.1]?.bind fun e=>(x.2.2.2.1.set x.1 (d.1,d.2.1,d.2.2.1,d.2.2.2.1,d.2.2.2.2.1,d.2.2.2.2.2.1,d.2.2.2.2.2.2.1,d.2.2.2.2.2.2.2.1,c.1,()))[x.1]?.bind fun f=>(Em (v.1,f.2.2.2.2.2.2.2.2.1,[(x.2.1,x.2.2.1,())],())).bind fun v=>(x.2.2.2.1.set x.1 (d.1,d.2.1,d.2.2.1,d.2.2.2.1,d.2.2.2.2.1,d.2.2.2.2.2.1,d.2.2.2.2.2.2.1,d.2.2.2.2.2.2.2.1,c.1,()))[x.1]?.bind fun g=>if 9<=9/\true=true/\x.1=x.1/\8<=8/\8<9 then((x.2.2.2.1.set x.1 (d.1,d.2.1,d.2.2.1,d.2.2.2.1,d.2.2.2.2.1,d.2.2.2.2.2.1,d.2.2.2.2.2.2.1,d.2.2.2.2.2.2.2.1,c.1,())).set x.1 (g.1,g.2.1,g.2.2.1,g.2.2.2.1,g.2.2.2.2.1,g.2.2.2.2.2.1,g.2.2.2.2.2.2.1,g.2.2.2.2.2.2.2.1,v.1,()))[x.1]?.bind fun h=>(BE (x.2.1,x.2.2.2.2.1,())).bind fun j=>j.1.bind fun k=>j.2.1[k.1]?.bind fun l=>l[k.2]?.bind fun m=>((x.2.2.2.1.set x.1 (d.1,d.2.1,d.2.2.1,d.2.2.2.1,d.2.2.2.2.1,d.2.2.2.2.2.1,d.2.2.2.2.2.2.1,d.2.2.2.2.2.2.2.1,c.1,())).set x.1 (g.1,g.2.1,g.2.2.1,g.2.2.2.1,g.2.2.2.2.1,g.2.2.2.2.2.1,g.2.2.2.2.2.2.1,g.2.2.2.2.2.2.2.1,v.1,()))[x.1]?.bind fun n=>some (((x.2.2.2.1.set x.1 (d.1,d.2.1,d.2.2.1,d.2.2.2.1,d.2.2.2.2.1,d.2.2.2.2.2.1,d.2.2.2.2.2.2.1,d.2.2.2.2.2.2.2.1,c.1,())).set x.1 (g.1,g.2.1,g.2.2.1,g.2.2.2.1,g.2.2.2.2.1,g.2.2.2.2.2.1,g.2.2.2.2.2.2.1,g.2.2.2.2.2.2.2.1,v.1,())).set x.1 (n.1,n.2.1,n.2.2.1,n.2.2.2.1,mx h.2.2.2.2.1 m.2.2.2.1,n.2.2.2.2.2.1,n.2.2.2.2.2.2.1,n.2.2.2.2.2.2.2.1,n.2.2.2.2.2.2.2.2.1,()),j.2.1,())else none
def eB:Ent:=⟨210,⟨(.ptrI 0 0 (.agg (.own 1 .nil) (si 2 .nil))),(.tree false 0 Ad (.tree false 0 (.slice Af) .nil))⟩,⟨.nil,(.tree false 1 Ad (.tree false 0 (.slice Af) .nil))⟩,Bw⟩
theorem sk:Ai Go.Proofs.Tryz.prog eB:=okA (C:=ABo) (hcB (all_cons lP (all_cons sl (all_cons A5q (all_cons Z4 all_nil))))) Go.Proofs.Tryz.func210
def rH:Cfg:={ti:=Aw,ents:=[SH,eB,eP,Yj,eJ,eN,eI,Ue],ann:=[],lent:=5,hid:=[((5,13),[0]),((10,13),[0])],pre:=[(some (0,3)),(some (0,4))]}
def Ez (x:Nat×Int×Int×Bool×Int×A7):Option (Int×Bool×Int×A7):=x.2.2.2.2.2.2.1[x.1]?.bind fun v=>x.2.2.2.2.2.2.1[x.1]?.bind fun a=>x.2.2.2.2.2.2.1[x.1]?.bind fun b=>(DV ((x.2.2.2.2.2.1,()),x.2.2.2.2.2.2.2.1,(v.1,v.2.1,v.2.2.1,v.2.2.2.1,v.2.2.2.2.1,v.2.2.2.2.2.1,v.2.2.2.2.2.2.1,a.2.2.2.2.2.2.2.1,b.2.2.2.2.2.2.2.2.1,()),x.2.1,())).bind fun v=>(FD (x.2.2.2.2.2.2.2.1,x.2.1,())).bind fun c=>bif v.1==1 then x.2.2.2.2.2.2.1[x.1]?.bind fun d=>(F5 (x.2.2.2.2.2.2.2.2.1,d.1,c.1,())).bind fun e=>bif e.1 then(B5 (x.1,4,x.2.2.2.1,x.2.2.2.2.1,x.2.2.2.2.2.1,x.2.2.2.2.2.2.1,x.2.2.2.2.2.2.2.1,x.2.2.2.2.2.2.2.2.1,())).bind fun v=>some (v.1,v.2.1,v.2.2.1,v.2.2.2.1,v.2.2.2.2.1,v.2.2.2.2.2.2.2.1,v.2.2.2.2.2.2.2.2.1,())else bif v.1==1 then x.2.2.2.2.2.2.1[x.1]?.bind fun f=>(FB (x.2.2.2.2.2.2.2.2.1,f.1,c.1,())).bind fun g=>some (v.1,x.2.2.2.1,x.2.2.2.2.1,x.2.2.2.2.2.1,x.2.2.2.2.2.2.1,x.2.2.2.2.2.2.2.1,g.2.1,())else bif v.1 != 0 then(B5 (x.1,v.1,x.2.2.2.1,x.2.2.2.2.1,x.2.2.2.2.2.1,x.2.2.2.2.2.2.1,x.2.2.2.2.2.2.2.1,x.2.2.2.2.2.2.2.2.1,())).bind fun v=>some (v.1,v.2.1,v.2.2.1,v.2.2.2.1,v.2.2.2.2.1,v.2.2.2.2.2.2.2.1,v.2.2.2.2.2.2.2.2.1,())else x.2.2.2.2.2.2.1[x.1]?.bind fun v=>(F6 (v.2.1,())).bind fun v=>bif v.1 then x.2.2.2.2.2.2.1[x.1]?.bind fun v=>(Es (x.2.2.2.2.2.2.2.1,x.2.1,v.1,())).bind fun v=>(Bw (x.1,x.2.1,x.2.2.1,x.2.2.2.2.2.2.1,x.2.2.2.2.2.1,())).bind fun f=>some (0,x.2.2.2.1,x.2.2.2.2.1,f.2.1,f.1,v.2.1,x.2.2.2.2.2.2.2.2.1,())else(Bw (x.1,x.2.1,x.2.2.1,x.2.2.2.2.2.2.1,x.2.2.2.2.2.1,())).bind fun v=>some (0,x.2.2.2.1,x.2.2.2.2.1,v.2.1,v.1,x.2.2.2.2.2.2.2.1,x.2.2.2.2.2.2.2.2.1,())else bif v.1==1 then x.2.2.2.2.2.2.1[x.1]?.bind fun d=>(FB (x.2.2.2.2.2.2.2.2.1,d.1,c.1,())).bind fun e=>some (v.1,x.2.2.2.1,x.2.2.2.2.1,x.2.2.2.2.2.1,x.2.2.2.2.2.2.1,x.2.2.2.2.2.2.2.1,e.2.1,())else bif v.1 != 0 then(B5 (x.1,v.1,x.2.2.2.1,x.2.2.2.2.1,x.2.2.2.2.2.1,x.2.2.2.2.2.2.1,x.2.2.2.2.2.2.2.1,x.2.2.2.2.2.2.2.2.1,())).bind fun v=>some (v.1,v.2.1,v.2.2.1,v.2.2.2.1,v.2.2.2.2.1,v.2.2.2.2.2.2.2.1,v.2.2.2.2.2.2.2.2.1,())else x.2.2.2.2.2.2.1[x.1]?.bind fun v=>(F6 (v.2.1,())).bind fun v=>bif v.1 then x.2.2.2.2.2.2.1[x.1]?.bind fun v=>(Es (x.2.2.2.2.2.2.2.1,x.2.1,v.1,())).bind fun v=>(Bw (x.1,x.2.1,x.2.2.1,x.2.2.2.2.2.2.1,x.2.2.2.2.2.1,())).bind fun d=>some (0,x.2.2.2.1,x.2.2.2.2.1,d.2.1,d.1,v.2.1,x.2.2.2.2.2.2.2.2.1,())else(Bw (x.1,x.2.1,x.2.2.1,x.2.2.2.2.2.2.1,x.2.2.2.2.2.1,())).bind fun v=>some (0,x.2.2.2.1,x.2.2.2.2.1,v.2.1,v.1,x.2.2.2.2.2.2.2.1,x.2.2.2.2.2.2.2.2.1,())
def Yg:Ent:=⟨147,⟨(.ptr 0 0 0 (.ptrI 2 0 (si 2 .nil))),(.cells 6 (.slot .bool (.own 1 (.own 2 (.own 3 (.own 4 (.slot .i .nil)))))) (.tree false 0 (.slice Af) (.tree false 0 Ad (.lst false A0 (.lst false A0 .nil)))))⟩,⟨(.agg (.slot .i (.const (AV.nils) .nil)) .nil),(.cells 6 (.slot .bool (.own 1 (.own 2 (.own 5 (.own 6 (.slot .i .nil)))))) (.tree false 0 (.slice Af) (.tree false 1 Ad (.gone (.gone (.lst false A0 (.lst false A0 .nil)))))))⟩,Ez⟩
theorem sj:Ai Go.Proofs.Tryz.prog Yg:=okA (C:=rH) (hcB (all_cons Yk (all_cons sk (all_cons sy (all_cons mj (all_cons sn (all_cons md (all_cons sm (all_cons lY all_nil))))))))) Go.Proofs.Tryz.func147
def BR (x:A1×Option A4×Option A3×Unit):Option (Bool×Unit):=x.2.1.bind fun v=>(D2 ((v.1,()),x.1.1,())).bind fun v=>v.1.bind fun v=>x.2.2.1.bind fun a=>some (decide (v.2.2.1>a.2.2.2.1),())
def Yf:Ent:=⟨256,⟨(.slot A0 (.slot (.iref Bp) (.slot (.iref Ad) .nil))),.nil⟩,⟨(.slot .bool .nil),.nil⟩,BR⟩
theorem sg:Ai Go.Proofs.Tryz.prog Yf:=okA (hcA 0 (all_cons i2 all_nil)) Go.Proofs.Tryz.func256
abbrev cM:=List A1×(Option A4×Option A3×Unit)×Int×Unit
abbrev cJ:=Int×Unit
abbrev cK:=Int×Unit ⊕ Unit
def AG (i:cM)(v:cJ)(R:Type)(K:cJ ⊕ cK->Option R):Option R:=bif decide (v.1<i.2.2.1)then(lAt i.1 v.1).bind fun a=>(BR ((a.1,a.2.1,()),i.2.1.1,i.2.1.2.1,())).bind fun b=>bif b.1 then K (.inr (.inl (v.1,())))else K (.inl (IntKind.i64.wrap (v.1+1),()))else K (.inr (.inr ()))
theorem EJ:Bg AG:=fun i v R K=>Ae (Ac fun _=>Ac fun _=>Ae (Aa) (Aa)) (Aa)
def W7:Tmpl:=⟨(.slot (.slice A0) (.slot (.fn 256 (.prod (.iref Bp) (.prod (.iref Ad) .unit))) (jk 5 (si 2 (jk 10 .nil))))),.nil⟩
def cI:Exs cM cK:=xs .ret (fun i p=>⟨jn 4 (.n (p.1)::jn 14 ([])),[]⟩)<|x1 (.exit 0) fun i p=>⟨jn 19 ([]),[]⟩
def cL:=((.i (.i (.i (.v .n)))):Pk W7.ty _ _)
def lK:Cfg:={ti:=Aw,ents:=[Yf],ann:=[(2,Ao W7 0 (spP cL) AG cI.E)],lent:=0}
def Bj (x:List A1×(Option A4×Option A3×Unit)×Unit):Option (Int×Unit):=(AC (fun v=>AG (x.1,x.2.1,(x.1.length:Int),()) v _ some) (0,())).bind fun p=>Az p (fun p=>some (p.1,())) fun p=>some (-1,())
def lJ:Ent:=⟨269,⟨(.slot (.slice A0) (.slot (.fn 256 (.prod (.iref Bp) (.prod (.iref Ad) .unit))) .nil)),.nil⟩,⟨(.slot .i .nil),.nil⟩,Bj⟩
theorem cN:CfgOK Go.Proofs.Tryz.prog lK:=hcB (all_cons sg all_nil)
theorem lI:B9 Go.Proofs.Tryz.prog lK (lpc Go.Proofs.Tryz.f269 0):=lkA cN W7 cL AG cI [4] EJ
theorem sf:Ai Go.Proofs.Tryz.prog lJ:=okB cN Go.Proofs.Tryz.func269 lI
def Bh (x:List A1×(Option A4×Option A3×Unit)×Unit):Option (Bool×Unit):=(Bj (x.1,x.2.1,())).bind fun v=>some (decide (v.1>=0),())
def lH:Ent:=⟨255,⟨(.slot (.slice A0) (.slot (.fn 256 (.prod (.iref Bp) (.prod (.iref Ad) .unit))) .nil)),.nil⟩,⟨(.slot .bool .nil),.nil⟩,Bh⟩
theorem sd:Ai Go.Proofs.Tryz.prog lH:=okA (hcA 0 (all_cons sf all_nil)) Go.Proofs.Tryz.func255
def DC (x:A4×A3×Unit):Option (Int×Unit):=(Bh (x.2.1.2.2.2.2.2.2.2.2.1,(some (x.1.1,()),some (x.2.1.1,x.2.1.2.1,x.2.1.2.2.1,x.2.1.2.2.2.1,x.2.1.2.2.2.2.1,x.2.1.2.2.2.2.2.1,x.2.1.2.2.2.2.2.2.1,x.2.1.2.2.2.2.2.2.2.1,x.2.1.2.2.2.2.2.2.2.2.1,()),()),())).bind fun v=>bif !v.1 then some (0,())else bif x.2.1.2.1==2 then some (2,())else bif x.2.1.2.1==4 then some (3,())else some (0,())
def eA:Ent:=⟨211,⟨(.slot Bp (.slot Ad .nil)),.nil⟩,⟨(.slot .i .nil),.nil⟩,DC⟩
theorem s9:Ai Go.Proofs.Tryz.prog eA:=okA (hcA 0 (all_cons sd all_nil)) Go.Proofs.Tryz.func211
abbrev Aiv:=List A1×Int×List (List A2)×A3
abbrev Aip:=Int×Int×Unit
abbrev Air:=Int×Unit
def C3 (i:Aiv)(v:Aip)(R:Type)(K:Aip ⊕ Air->Option R):Option R:=bif decide (v.2.1<i.2.1)then(lAt i.1 v.2.1).bind fun a=>K (.inl (mx v.1 a.2.1,IntKind.i64.wrap (v.2.1+1),()))else K (.inr (v.1,()))
theorem Jh:Bg C3:=fun i v R K=>Ae (Ac fun _=>Aa) (Aa)
def A5m:Tmpl:=⟨(jk 2 (.ptr 0 0 0 (.ptr 1 0 0 (.junk (.slot .i (jk 5 (.slot (.slice A0) (si 2 (jk 26 .nil))))))))),(.cells 1 (.slot (.slice (.slice Af)) .nil) (.cells 9 (si 7 (.slot (.slice A0) (.slot (.slice A0) .nil))) .nil))⟩
def Ain:Exs Aiv Air:=x1 (.exit 0) fun i p=>⟨jn 2 (AV.ptr 0 none 0 0::AV.ptr 1 none 0 0::jn 1 (.n (p.1)::jn 34 ([]))),[some (Cont.cells 1 [[AV.pv (.slice (.slice Af)) i.2.2.1]]),some (Cont.cells 9 [[AV.pv .i i.2.2.2.1,AV.pv .i i.2.2.2.2.1,AV.pv .i i.2.2.2.2.2.1,AV.pv .i i.2.2.2.2.2.2.1,AV.pv .i i.2.2.2.2.2.2.2.1,AV.pv .i i.2.2.2.2.2.2.2.2.1,AV.pv .i i.2.2.2.2.2.2.2.2.2.1,AV.pv (.slice A0) i.2.2.2.2.2.2.2.2.2.2.1,AV.pv (.slice A0) i.2.2.2.2.2.2.2.2.2.2.2.1]])]⟩
def Ait:=((.v (.i (.i (.v (.i (.i (.i (.i (.i (.i (.i (.i (.i (.i .n)))))))))))))):Pk A5m.ty _ _)
abbrev Aiu:=List A1×Int×List (List A2)×Unit
abbrev Aio:=Int×Int×Unit
abbrev Aiq:=Int×Unit
def Bx (i:Aiu)(v:Aio)(R:Type)(K:Aio ⊕ Aiq->Option R):Option R:=bif decide (v.2.1<i.2.1)then(lAt i.1 v.2.1).bind fun a=>(D2 ((i.2.2.1,()),a.1,())).bind fun b=>b.1.bind fun c=>K (.inl (mx v.1 c.2.2.2.1,IntKind.i64.wrap (v.2.1+1),()))else K (.inr (v.1,()))
theorem Jg:Bg Bx:=fun i v R K=>Ae (Ac fun _=>Ac fun _=>Ac fun _=>Aa) (Aa)
def A5l:Tmpl:=⟨(jk 2 (.ptr 0 0 0 (jk 2 (.slot .i (jk 17 (.slot (.slice A0) (si 2 (jk 14 .nil)))))))),(.cells 1 (.slot (.slice (.slice Af)) .nil) .nil)⟩
def Aim:Exs Aiu Aiq:=x1 (.exit 2) fun i p=>⟨jn 5 (.n (p.1)::jn 34 ([])),[some (Cont.cells 1 [[AV.pv (.slice (.slice Af)) i.2.2.1]])]⟩
def Ais:=((.v (.i (.i (.v (.i .n))))):Pk A5l.ty _ _)
def Acl:Cfg:={ti:=Aw,ents:=[eR],ann:=[(3,Ao A5m 0 (spP Ait) C3 Ain.E),(8,Ao A5l 0 (spP Ais) Bx Aim.E)],lent:=0}
def DB (x:A4×A3×Unit):Option (Int×Unit):=(AC (fun v=>C3 (x.2.1.2.2.2.2.2.2.2.1,(x.2.1.2.2.2.2.2.2.2.1.length:Int),x.1.1,x.2.1.1,x.2.1.2.1,x.2.1.2.2.1,x.2.1.2.2.2.1,x.2.1.2.2.2.2.1,x.2.1.2.2.2.2.2.1,x.2.1.2.2.2.2.2.2.1,x.2.1.2.2.2.2.2.2.2.1,x.2.1.2.2.2.2.2.2.2.2.1,()) v _ some) (0,0,())).bind fun p=>(AC (fun v=>Bx (x.2.1.2.2.2.2.2.2.2.2.1,(x.2.1.2.2.2.2.2.2.2.2.1.length:Int),x.1.1,()) v _ some) (p.1,0,())).bind fun p=>some (p.1,())
def lE:Ent:=⟨257,⟨(.slot Bp (.slot Ad .nil)),.nil⟩,⟨(.slot .i .nil),.nil⟩,DB⟩
theorem A5n:CfgOK Go.Proofs.Tryz.prog Acl:=hcB (all_cons i2 all_nil)
theorem Avl:B9 Go.Proofs.Tryz.prog Acl (lpc Go.Proofs.Tryz.f257 1):=lkA A5n A5l Ais Bx Aim [5] Jg
theorem Avm:B9 Go.Proofs.Tryz.prog Acl (lpc Go.Proofs.Tryz.f257 0):=lkA A5n A5m Ait C3 Ain [2,3,5] Jh
theorem s8:Ai Go.Proofs.Tryz.prog lE:=okC A5n Go.Proofs.Tryz.func257 Avm Avl
abbrev Ail:=List A1×Int×List (List A2)×Unit
abbrev Aih:=Int×Int×Unit
abbrev Aii:=Int×Unit
def BQ (i:Ail)(v:Aih)(R:Type)(K:Aih ⊕ Aii->Option R):Option R:=bif decide (v.2.1<i.2.1)then(lAt i.1 v.2.1).bind fun a=>(F7 ((i.2.2.1,()),(a.1,a.2.1,()),())).bind fun b=>b.1.bind fun c=>K (.inl (mn v.1 c.2.2.2.2.1,IntKind.i64.wrap (v.2.1+1),()))else K (.inr (v.1,()))
theorem IX:Bg BQ:=fun i v R K=>Ae (Ac fun _=>Ac fun _=>Ac fun _=>Aa) (Aa)
def A5k:Tmpl:=⟨(jk 2 (.ptr 0 0 0 (jk 2 (.slot .i (jk 3 (.slot (.slice A0) (si 2 (jk 13 .nil)))))))),(.cells 1 (.slot (.slice (.slice Af)) .nil) .nil)⟩
def Aig:Exs Ail Aii:=x1 (.exit 0) fun i p=>⟨jn 5 (.n (p.1)::jn 19 ([])),[some (Cont.cells 1 [[AV.pv (.slice (.slice Af)) i.2.2.1]])]⟩
def Aij:=((.v (.i (.i (.v (.i .n))))):Pk A5k.ty _ _)
def A9l:Cfg:={ti:=Aw,ents:=[Uz],ann:=[(3,Ao A5k 0 (spP Aij) BQ Aig.E)],lent:=0}
def Dm (x:A4×A3×Unit):Option (Int×Unit):=(AC (fun v=>BQ (x.2.1.2.2.2.2.2.2.2.1,(x.2.1.2.2.2.2.2.2.2.1.length:Int),x.1.1,()) v _ some) (1000,0,())).bind fun p=>some (p.1,())
def A3f:Ent:=⟨258,⟨(.slot Bp (.slot Ad .nil)),.nil⟩,⟨(.slot .i .nil),.nil⟩,Dm⟩
theorem A0r:CfgOK Go.Proofs.Tryz.prog A9l:=hcB (all_cons Yp all_nil)
theorem Avk:B9 Go.Proofs.Tryz.prog A9l (lpc Go.Proofs.Tryz.f258 0):=lkA A0r A5k Aij BQ Aig [5] IX
theorem Aik:Ai Go.Proofs.Tryz.prog A3f:=okB A0r Go.Proofs.Tryz.func258 Avk
def DN (x:A4×A3×Int×Unit):Option A1:=(DB ((x.1.1,()),(x.2.1.1,x.2.1.2.1,x.2.1.2.2.1,x.2.1.2.2.2.1,x.2.1.2.2.2.2.1,x.2.1.2.2.2.2.2.1,x.2.1.2.2.2.2.2.2.1,x.2.1.2.2.2.2.2.2.2.1,x.2.1.2.2.2.2.2.2.2.2.1,()),())).bind fun v=>(Dm ((x.1.1,()),(x.2.1.1,x.2.1.2.1,x.2.1.2.2.1,x.2.1.2.2.2.1,x.2.1.2.2.2.2.1,x.2.1.2.2.2.2.2.1,x.2.1.2.2.2.2.2.2.1,x.2.1.2.2.2.2.2.2.2.1,x.2.1.2.2.2.2.2.2.2.2.1,()),())).bind fun a=>some (mx x.2.1.2.2.2.2.1 v.1,mn (mn x.2.1.2.2.2.2.2.1 a.1) x.2.2.1,())
def lD:Ent:=⟨212,⟨(.slot Bp (.slot Ad (.slot .i .nil))),.nil⟩,⟨(si 2 .nil),.nil⟩,DN⟩
theorem A5j:Ai Go.Proofs.Tryz.prog lD:=okA (hcA 0 (all_cons s8 (all_cons Aik all_nil))) Go.Proofs.Tryz.func212
def Cs (x:A1×Option A4×Unit):Option (Bool×Unit):=x.2.1.bind fun v=>(lAt v.1 x.1.1).bind fun v=>some ((v.length:Int)==50,())
def Ye:Ent:=⟨259,⟨(.slot A0 (.slot (.iref Bp) .nil)),.nil⟩,⟨(.slot .bool .nil),.nil⟩,Cs⟩
theorem s7:Ai Go.Proofs.Tryz.prog Ye:=okA (hcA 0 all_nil) Go.Proofs.Tryz.func259
abbrev cG:=List A1×(Option A4×Unit)×Int×Unit
abbrev cD:=Int×Unit
abbrev cE:=Int×Unit ⊕ Unit
def AL (i:cG)(v:cD)(R:Type)(K:cD ⊕ cE->Option R):Option R:=bif decide (v.1<i.2.2.1)then(lAt i.1 v.1).bind fun a=>(Cs ((a.1,a.2.1,()),i.2.1.1,())).bind fun b=>bif b.1 then K (.inr (.inl (v.1,())))else K (.inl (IntKind.i64.wrap (v.1+1),()))else K (.inr (.inr ()))
theorem Fz:Bg AL:=fun i v R K=>Ae (Ac fun _=>Ac fun _=>Ae (Aa) (Aa)) (Aa)
def W6:Tmpl:=⟨(.slot (.slice A0) (.slot (.fn 259 (.prod (.iref Bp) .unit)) (jk 5 (si 2 (jk 10 .nil))))),.nil⟩
def cC:Exs cG cE:=xs .ret (fun i p=>⟨jn 4 (.n (p.1)::jn 14 ([])),[]⟩)<|x1 (.exit 0) fun i p=>⟨jn 19 ([]),[]⟩
def cF:=((.i (.i (.i (.v .n)))):Pk W6.ty _ _)
def lB:Cfg:={ti:=Aw,ents:=[Ye],ann:=[(2,Ao W6 0 (spP cF) AL cC.E)],lent:=0}
def Bn (x:List A1×(Option A4×Unit)×Unit):Option (Int×Unit):=(AC (fun v=>AL (x.1,x.2.1,(x.1.length:Int),()) v _ some) (0,())).bind fun p=>Az p (fun p=>some (p.1,())) fun p=>some (-1,())
def lA:Ent:=⟨269,⟨(.slot (.slice A0) (.slot (.fn 259 (.prod (.iref Bp) .unit)) .nil)),.nil⟩,⟨(.slot .i .nil),.nil⟩,Bn⟩
theorem cH:CfgOK Go.Proofs.Tryz.prog lB:=hcB (all_cons s7 all_nil)
theorem lz:B9 Go.Proofs.Tryz.prog lB (lpc Go.Proofs.Tryz.f269 0):=lkA cH W6 cF AL cC [4] Fz
theorem s6:Ai Go.Proofs.Tryz.prog lA:=okB cH Go.Proofs.Tryz.func269 lz
def Bl (x:List A1×(Option A4×Unit)×Unit):Option (Bool×Unit):=(Bn (x.1,x.2.1,())).bind fun v=>some (decide (v.1>=0),())
def ly:Ent:=⟨255,⟨(.slot (.slice A0) (.slot (.fn 259 (.prod (.iref Bp) .unit)) .nil)),.nil⟩,⟨(.slot .bool .nil),.nil⟩,Bl⟩
theorem s5:Ai Go.Proofs.Tryz.prog ly:=okA (hcA 0 (all_cons s6 all_nil)) Go.Proofs.Tryz.func255
def DP (x:A4×A3×Unit):Option (Bool×Unit):=(Bl (x.2.1.2.2.2.2.2.2.2.2.1,(some (x.1.1,()),()),())).bind fun v=>some (v.1,())
def Yd:Ent:=⟨213,⟨(.slot Bp (.slot Ad .nil)),.nil⟩,⟨(.slot .bool .nil),.nil⟩,DP⟩
theorem s4:Ai Go.Proofs.Tryz.prog Yd:=okA (hcA 0 (all_cons s5 all_nil)) Go.Proofs.Tryz.func213
def Fo (x:Int×Int×List (List A2)×Unit):Option (Option (Nat×Nat)×List (List A2)×Unit):=if 0<=x.1/\x.1<(x.2.2.1.length:Int)then x.2.2.1[0+x.1.toNat]?.bind fun v=>x.2.2.1[0+x.1.toNat]?.bind fun v=>(Er (v,x.2.1,())).bind fun v=>bif decide (v.1<0)then some (none,x.2.2.1,())else x.2.2.1[0+x.1.toNat]?.bind fun a=>if 0<=v.1/\v.1<(a.length:Int)then some (some (0+x.1.toNat,0+v.1.toNat),x.2.2.1,())else none else none
def Yc:Ent:=⟨236,⟨(.agg (.own 0 .nil) (.agg (si 2 .nil) .nil)),(.tree false 0 (.slice Af) .nil)⟩,⟨(.mptr 0 0 0 .nil),(.tree false 0 (.slice Af) .nil)⟩,Fo⟩
theorem s3:Ai Go.Proofs.Tryz.prog Yc:=okA (hcA 1 (all_cons i7 all_nil)) Go.Proofs.Tryz.func236
abbrev Aif:=Nat×Int×Nat×Int×Bool×Int×A8
abbrev Ai9:=Int×List (List A2)×Unit
abbrev Aib:=List (List A2)×Unit
def BW (i:Aif)(v:Ai9)(R:Type)(K:Ai9 ⊕ Aib->Option R):Option R:=bif decide (v.1<i.2.2.2.1)then i.2.2.2.2.2.2.1[i.2.2.1]?.bind fun a=>if 0<=v.1/\v.1<(a.2.2.2.2.2.2.2.1.length:Int)then i.2.2.2.2.2.2.1[i.2.2.1]?.bind fun b=>b.2.2.2.2.2.2.2.1[0+v.1.toNat]?.bind fun c=>(Fo (c.1,c.2.1,v.2.1,())).bind fun d=>d.1.bind fun e=>d.2.1[e.1]?.bind fun f=>f[e.2]?.bind fun g=>d.1.bind fun h=>d.2.1[h.1]?.bind fun j=>j[h.2]?.bind fun k=>K (.inl (IntKind.i64.wrap (v.1+1),d.2.1.set h.1 (j.set h.2 (k.1,k.2.1,k.2.2.1,mx g.2.2.2.1 i.2.1,k.2.2.2.2.1,())),()))else none else K (.inr (v.2.1,()))
theorem JS:Bg BW:=fun i v R K=>Ae (Ac fun _=>Aq (Ac fun _=>Ac fun _=>Ac fun _=>Ac fun _=>Ac fun _=>Ac fun _=>Ac fun _=>Ac fun _=>Ac fun _=>Aa)) (Aa)
def A5g:Tmpl:=⟨(.ptr 0 0 1 (.ptrI 2 0 (.slot .i (jk 35 (.nown 2 7 (si 2 (jk 66 .nil))))))),(.cells 6 (.slot .bool (.own 1 (.own 2 (.own 3 (.own 4 (.slot .i .nil)))))) (.tree false 0 (.slice Af) (.tree false 1 Ad (.lst false A0 (.lst false A0 .nil)))))⟩
def Ai7:Exs Aif Aib:=x1 (.exit 0) fun i p=>⟨AV.ptr 0 none 0 1::AV.ptr 2 none i.1 0::.n (i.2.1)::jn 104 ([]),[some (Cont.cells 6 [[AV.pv .bool i.2.2.2.2.1,AV.own 1 none none,AV.own 2 none none,AV.own 3 none none,AV.own 4 none none,AV.pv .i i.2.2.2.2.2.1]]),some (Cont.tree false 0 (.slice Af) p.1 none),some (Cont.tree false 1 Ad i.2.2.2.2.2.2.1 none),some (Cont.lst false A0 i.2.2.2.2.2.2.2.1),some (Cont.lst false A0 i.2.2.2.2.2.2.2.2.1)]⟩
def Aid:=((.i (.i (.i (.i (.v (.i (.i (.v (.i (.i (.i .n))))))))))):Pk A5g.ty _ _)
abbrev Aie:=Nat×Int×Nat×Int×Bool×Int×A8
abbrev Ai8:=Int×List (List A2)×Unit
abbrev Aia:=List (List A2)×Unit
def BV (i:Aie)(v:Ai8)(R:Type)(K:Ai8 ⊕ Aia->Option R):Option R:=bif decide (v.1<i.2.2.2.1)then i.2.2.2.2.2.2.1[i.2.2.1]?.bind fun a=>if 0<=v.1/\v.1<(a.2.2.2.2.2.2.2.2.1.length:Int)then i.2.2.2.2.2.2.1[i.2.2.1]?.bind fun b=>b.2.2.2.2.2.2.2.2.1[0+v.1.toNat]?.bind fun c=>(BE (c.1,v.2.1,())).bind fun d=>i.2.2.2.2.2.2.1[i.1]?.bind fun e=>d.1.bind fun f=>d.2.1[f.1]?.bind fun g=>g[f.2]?.bind fun h=>if 0<=c.1/\c.1<(↑((d.2.1.set f.1 (g.set f.2 (h.1,h.2.1,h.2.2.1,h.2.2.2.1,e.2.2.2.2.2.1,()))).length):Int)then(d.2.1.set f.1 (g.set f.2 (h.1,h.2.1,h.2.2.1,h.2.2.2.1,e.2.2.2.2.2.1,())))[0+c.1.toNat]?.bind fun j=>i.2.2.2.2.2.2.1[i.1]?.bind fun k=>(d.2.1.set f.1 (g.set f.2 (h.1,h.2.1,h.2.2.1,h.2.2.2.1,e.2.2.2.2.2.1,())))[0+c.1.toNat]?.bind fun l=>if(l++[(k.1,c.2.1,i.2.1,i.2.1,1000,())]).length<=879609302220 then if 0<=c.1/\c.1<(↑((d.2.1.set f.1 (g.set f.2 (h.1,h.2.1,h.2.2.1,h.2.2.2.1,e.2.2.2.2.2.1,()))).length):Int)then(d.2.1.set f.1 (g.set f.2 (h.1,h.2.1,h.2.2.1,h.2.2.2.1,e.2.2.2.2.2.1,())))[0+c.1.toNat]?.bind fun m=>if 1<=1/\true=true/\0+c.1.toNat=0+c.1.toNat/\0<=0/\0<1 then K (.inl (IntKind.i64.wrap (v.1+1),(d.2.1.set f.1 (g.set f.2 (h.1,h.2.1,h.2.2.1,h.2.2.2.1,e.2.2.2.2.2.1,()))).set (0+c.1.toNat) (l++[(k.1,c.2.1,i.2.1,i.2.1,1000,())]),()))else none else none else none else none else none else K (.inr (v.2.1,()))
theorem JR:Bg BV:=fun i v R K=>Ae (Ac fun _=>Aq (Ac fun _=>Ac fun _=>Ac fun _=>Ac fun _=>Ac fun _=>Ac fun _=>Ac fun _=>Aq (Ac fun _=>Ac fun _=>Ac fun _=>Aq (Aq (Ac fun _=>Aq (Aa)))))) (Aa)
def A5f:Tmpl:=⟨(.ptr 0 0 1 (.ptrI 2 0 (.slot .i (jk 59 (.nown 2 8 (si 2 (jk 42 .nil))))))),(.cells 6 (.slot .bool (.own 1 (.own 2 (.own 3 (.own 4 (.slot .i .nil)))))) (.tree false 1 (.slice Af) (.tree false 1 Ad (.lst false A0 (.lst false A0 .nil)))))⟩
def Ai6:Exs Aie Aia:=x1 (.exit 2) fun i p=>⟨jn 107 ([]),[some (Cont.cells 6 [[AV.pv .bool i.2.2.2.2.1,AV.own 1 none none,AV.own 2 none none,AV.own 3 none none,AV.own 4 none none,AV.pv .i i.2.2.2.2.2.1]]),some (Cont.tree false 1 (.slice Af) p.1 none),some (Cont.tree false 1 Ad i.2.2.2.2.2.2.1 none),some (Cont.lst false A0 i.2.2.2.2.2.2.2.1),some (Cont.lst false A0 i.2.2.2.2.2.2.2.2.1)]⟩
def Aic:=((.i (.i (.i (.i (.v (.i (.i (.v (.i (.i (.i .n))))))))))):Pk A5f.ty _ _)
def ip:Cfg:={ti:=Aw,ents:=[Yc,VN,lD],ann:=[(3,Ao A5g 5 (spP Aid) BW Ai7.E),(9,Ao A5f 5 (spP Aic) BV Ai6.E)],lent:=5,hid:=[((0,1),[2]),((0,12),[2]),((12,0),[1]),((12,1),[1]),((12,2),[1]),((12,3),[1]),((12,4),[1]),((12,5),[1])]}
def Db (x:Nat×Int×Bool×Int×A7):Option (Bool×Int×A7):=x.2.2.2.2.2.1[x.1]?.bind fun v=>x.2.2.2.2.2.1[x.1]?.bind fun a=>x.2.2.2.2.2.1[x.1]?.bind fun b=>(DN ((x.2.2.2.2.1,()),(v.1,v.2.1,v.2.2.1,v.2.2.2.1,v.2.2.2.2.1,v.2.2.2.2.2.1,v.2.2.2.2.2.2.1,a.2.2.2.2.2.2.2.1,b.2.2.2.2.2.2.2.2.1,()),x.2.1,())).bind fun v=>x.2.2.2.2.2.1[x.1]?.bind fun c=>(x.2.2.2.2.2.1.set x.1 (c.1,c.2.1,c.2.2.1,c.2.2.2.1,v.1,c.2.2.2.2.2.1,c.2.2.2.2.2.2.1,c.2.2.2.2.2.2.2.1,c.2.2.2.2.2.2.2.2.1,()))[x.1]?.bind fun d=>((x.2.2.2.2.2.1.set x.1 (c.1,c.2.1,c.2.2.1,c.2.2.2.1,v.1,c.2.2.2.2.2.1,c.2.2.2.2.2.2.1,c.2.2.2.2.2.2.2.1,c.2.2.2.2.2.2.2.2.1,())).set x.1 (d.1,d.2.1,d.2.2.1,d.2.2.2.1,d.2.2.2.2.1,v.2.1,d.2.2.2.2.2.2.1,d.2.2.2.2.2.2.2.1,d.2.2.2.2.2.2.2.2.1,()))[x.1]?.bind fun e=>(((x.2.2.2.2.2.1.set x.1 (c.1,c.2.1,c.2.2.1,c.2.2.2.1,v.1,c.2.2.2.2.2.1,c.2.2.2.2.2.2.1,c.2.2.2.2.2.2.2.1,c.2.2.2.2.2.2.2.2.1,())).set x.1 (d.1,d.2.1,d.2.2.1,d.2.2.2.1,d.2.2.2.2.1,v.2.1,d.2.2.2.2.2.2.1,d.2.2.2.2.2.2.2.1,d.2.2.2.2.2.2.2.2.1,())).set x.1 (e.1,e.2.1,2,e.2.2.2.1,e.2.2.2.2.1,e.2.2.2.2.2.1,e.2.2.2.2.2.2.1,e.2.2.2.2.2.2.2.1,e.2.2.2.2.2.2.2.2.1,()))[x.1]?.bind fun f=>((((x.2.2.2.2.2.1.set x.1 (c.1,c.2.1,c.2.2.1,c.2.2.2.1,v.1,c.2.2.2.2.2.1,c.2.2.2.2.2.2.1,c.2.2.2.2.2.2.2.1,c.2.2.2.2.2.2.2.2.1,())).set x.1 (d.1,d.2.1,d.2.2.1,d.2.2.2.1,d.2.2.2.2.1,v.2.1,d.2.2.2.2.2.2.1,d.2.2.2.2.2.2.2.1,d.2.2.2.2.2.2.2.2.1,())).set x.1 (e.1,e.2.1,2,e.2.2.2.1,e.2.2.2.2.1,e.2.2.2.2.2.1,e.2.2.2.2.2.2.1,e.2.2.2.2.2.2.2.1,e.2.2.2.2.2.2.2.2.1,())).set x.1 (f.1,f.2.1,f.2.2.1,f.2.2.2.1,f.2.2.2.2.1,f.2.2.2.2.2.1,x.2.1,f.2.2.2.2.2.2.2.1,f.2.2.2.2.2.2.2.2.1,()))[x.1]?.bind fun g=>((((x.2.2.2.2.2.1.set x.1 (c.1,c.2.1,c.2.2.1,c.2.2.2.1,v.1,c.2.2.2.2.2.1,c.2.2.2.2.2.2.1,c.2.2.2.2.2.2.2.1,c.2.2.2.2.2.2.2.2.1,())).set x.1 (d.1,d.2.1,d.2.2.1,d.2.2.2.1,d.2.2.2.2.1,v.2.1,d.2.2.2.2.2.2.1,d.2.2.2.2.2.2.2.1,d.2.2.2.2.2.2.2.2.1,())).set x.1 (e.1,e.2.1,2,e.2.2.2.1,e.2.2.2.2.1,e.2.2.2.2.2.1,e.2.2.2.2.2.2.1,e.2.2.2.2.2.2.2.1,e.2.2.2.2.2.2.2.2.1,())).set x.1 (f.1,f.2.1,f.2.2.1,f.2.2.2.1,f.2.2.2.2.1,f.2.2.2.2.2.1,x.2.1,f.2.2.2.2.2.2.2.1,f.2.2.2.2.2.2.2.2.1,()))[x.1]?.bind fun h=>(AC (fun j=>BW (x.1,x.2.1,x.1,(h.2.2.2.2.2.2.2.1.length:Int),x.2.2.1,x.2.2.2.1,(((x.2.2.2.2.2.1.set x.1 (c.1,c.2.1,c.2.2.1,c.2.2.2.1,v.1,c.2.2.2.2.2.1,c.2.2.2.2.2.2.1,c.2.2.2.2.2.2.2.1,c.2.2.2.2.2.2.2.2.1,())).set x.1 (d.1,d.2.1,d.2.2.1,d.2.2.2.1,d.2.2.2.2.1,v.2.1,d.2.2.2.2.2.2.1,d.2.2.2.2.2.2.2.1,d.2.2.2.2.2.2.2.2.1,())).set x.1 (e.1,e.2.1,2,e.2.2.2.1,e.2.2.2.2.1,e.2.2.2.2.2.1,e.2.2.2.2.2.2.1,e.2.2.2.2.2.2.2.1,e.2.2.2.2.2.2.2.2.1,())).set x.1 (f.1,f.2.1,f.2.2.1,f.2.2.2.1,f.2.2.2.2.1,f.2.2.2.2.2.1,x.2.1,f.2.2.2.2.2.2.2.1,f.2.2.2.2.2.2.2.2.1,()),x.2.2.2.2.2.2.1,x.2.2.2.2.2.2.2.1,()) j _ some) (0,x.2.2.2.2.1,())).bind fun p=>((((x.2.2.2.2.2.1.set x.1 (c.1,c.2.1,c.2.2.1,c.2.2.2.1,v.1,c.2.2.2.2.2.1,c.2.2.2.2.2.2.1,c.2.2.2.2.2.2.2.1,c.2.2.2.2.2.2.2.2.1,())).set x.1 (d.1,d.2.1,d.2.2.1,d.2.2.2.1,d.2.2.2.2.1,v.2.1,d.2.2.2.2.2.2.1,d.2.2.2.2.2.2.2.1,d.2.2.2.2.2.2.2.2.1,())).set x.1 (e.1,e.2.1,2,e.2.2.2.1,e.2.2.2.2.1,e.2.2.2.2.2.1,e.2.2.2.2.2.2.1,e.2.2.2.2.2.2.2.1,e.2.2.2.2.2.2.2.2.1,())).set x.1 (f.1,f.2.1,f.2.2.1,f.2.2.2.1,f.2.2.2.2.1,f.2.2.2.2.2.1,x.2.1,f.2.2.2.2.2.2.2.1,f.2.2.2.2.2.2.2.2.1,()))[x.1]?.bind fun j=>((((x.2.2.2.2.2.1.set x.1 (c.1,c.2.1,c.2.2.1,c.2.2.2.1,v.1,c.2.2.2.2.2.1,c.2.2.2.2.2.2.1,c.2.2.2.2.2.2.2.1,c.2.2.2.2.2.2.2.2.1,())).set x.1 (d.1,d.2.1,d.2.2.1,d.2.2.2.1,d.2.2.2.2.1,v.2.1,d.2.2.2.2.2.2.1,d.2.2.2.2.2.2.2.1,d.2.2.2.2.2.2.2.2.1,())).set x.1 (e.1,e.2.1,2,e.2.2.2.1,e.2.2.2.2.1,e.2.2.2.2.2.1,e.2.2.2.2.2.2.1,e.2.2.2.2.2.2.2.1,e.2.2.2.2.2.2.2.2.1,())).set x.1 (f.1,f.2.1,f.2.2.1,f.2.2.2.1,f.2.2.2.2.1,f.2.2.2.2.2.1,x.2.1,f.2.2.2.2.2.2.2.1,f.2.2.2.2.2.2.2.2.1,()))[x.1]?.bind fun k=>(AC (fun l=>BV (x.1,x.2.1,x.1,(k.2.2.2.2.2.2.2.2.1.length:Int),x.2.2.1,x.2.2.2.1,(((x.2.2.2.2.2.1.set x.1 (c.1,c.2.1,c.2.2.1,c.2.2.2.1,v.1,c.2.2.2.2.2.1,c.2.2.2.2.2.2.1,c.2.2.2.2.2.2.2.1,c.2.2.2.2.2.2.2.2.1,())).set x.1 (d.1,d.2.1,d.2.2.1,d.2.2.2.1,d.2.2.2.2.1,v.2.1,d.2.2.2.2.2.2.1,d.2.2.2.2.2.2.2.1,d.2.2.2.2.2.2.2.2.1,())).set x.1 (e.1,e.2.1,2,e.2.2.2.1,e.2.2.2.2.1,e.2.2.2.2.2.1,e.2.2.2.2.2.2.1,e.2.2.2.2.2.2.2.1,e.2.2.2.2.2.2.2.2.1,())).set x.1 (f.1,f.2.1,f.2.2.1,f.2.2.2.1,f.2.2.2.2.1,f.2.2.2.2.2.1,x.2.1,f.2.2.2.2.2.2.2.1,f.2.2.2.2.2.2.2.2.1,()),x.2.2.2.2.2.2.1,x.2.2.2.2.2.2.2.1,()) l _ some) (0,p.1,())).bind fun p=>some (x.2.2.1,x.2.2.2.1,p.1,(((x.2.2.2.2.2.1.set x.1 (c.1,c.2.1,c.2.2.1,c.2.2.2.1,v.1,c.2.2.2.2.2.1,c.2.2.2.2.2.2.1,c.2.2.2.2.2.2.2.1,c.2.2.2.2.2.2.2.2.1,())).set x.1 (d.1,d.2.1,d.2.2.1,d.2.2.2.1,d.2.2.2.2.1,v.2.1,d.2.2.2.2.2.2.1,d.2.2.2.2.2.2.2.1,d.2.2.2.2.2.2.2.2.1,())).set x.1 (e.1,e.2.1,2,e.2.2.2.1,e.2.2.2.2.1,e.2.2.2.2.2.1,e.2.2.2.2.2.2.1,e.2.2.2.2.2.2.2.1,e.2.2.2.2.2.2.2.2.1,())).set x.1 (f.1,f.2.1,f.2.2.1,f.2.2.2.1,f.2.2.2.2.1,f.2.2.2.2.2.1,x.2.1,f.2.2.2.2.2.2.2.1,f.2.2.2.2.2.2.2.2.1,()),x.2.2.2.2.2.2.1,x.2.2.2.2.2.2.2.1,())
def ez:Ent:=⟨214,⟨(.ptr 0 0 1 (.ptrI 2 0 (.slot .i .nil))),(.cells 6 (.slot .bool (.own 1 (.own 2 (.own 3 (.own 4 (.slot .i .nil)))))) (.tree false 0 (.slice Af) (.tree false 0 Ad (.lst false A0 (.lst false A0 .nil)))))⟩,⟨.nil,(.cells 6 (.slot .bool (.own 1 (.own 2 (.own 3 (.own 4 (.slot .i .nil)))))) (.tree false 1 (.slice Af) (.tree false 1 Ad (.lst false A0 (.lst false A0 .nil)))))⟩,Db⟩
theorem Zk:CfgOK Go.Proofs.Tryz.prog ip:=hcB (all_cons s3 (all_cons lP (all_cons A5j all_nil)))
theorem Avc:B9 Go.Proofs.Tryz.prog ip (lpc Go.Proofs.Tryz.f214 1):=lkA Zk A5f Aic BV Ai6 [] JR
theorem Avd:B9 Go.Proofs.Tryz.prog ip (lpc Go.Proofs.Tryz.f214 0):=lkA Zk A5g Aid BW Ai7 [0,1,2] JS
theorem rZ:Ai Go.Proofs.Tryz.prog ez:=okC Zk Go.Proofs.Tryz.func214 Avd Avc
def rG:Cfg:={ti:=Aw,ents:=[SH,ez,Zx,eA,lD,Yd],ann:=[],lent:=5,pre:=[(some (0,3)),(some (0,4))]}
def DW (x:Nat×Bool×Int×A7):Option (Int×Bool×Int×A7):=x.2.2.2.2.1[x.1]?.bind fun v=>x.2.2.2.2.1[x.1]?.bind fun a=>x.2.2.2.2.1[x.1]?.bind fun b=>(DC ((x.2.2.2.1,()),(v.1,v.2.1,v.2.2.1,v.2.2.2.1,v.2.2.2.2.1,v.2.2.2.2.2.1,v.2.2.2.2.2.2.1,a.2.2.2.2.2.2.2.1,b.2.2.2.2.2.2.2.2.1,()),())).bind fun v=>bif v.1 != 0 then(B5 (x.1,v.1,x.2.1,x.2.2.1,x.2.2.2.1,x.2.2.2.2.1,x.2.2.2.2.2.1,x.2.2.2.2.2.2.1,())).bind fun v=>some (v.1,v.2.1,v.2.2.1,v.2.2.2.1,v.2.2.2.2.1,v.2.2.2.2.2.2.2.1,v.2.2.2.2.2.2.2.2.1,())else bif x.2.2.1==999 then some (6,x.2.1,x.2.2.1,x.2.2.2.1,x.2.2.2.2.1,x.2.2.2.2.2.1,x.2.2.2.2.2.2.1,())else x.2.2.2.2.1[x.1]?.bind fun v=>x.2.2.2.2.1[x.1]?.bind fun c=>x.2.2.2.2.1[x.1]?.bind fun d=>(DN ((x.2.2.2.1,()),(v.1,v.2.1,v.2.2.1,v.2.2.2.1,v.2.2.2.2.1,v.2.2.2.2.2.1,v.2.2.2.2.2.2.1,c.2.2.2.2.2.2.2.1,d.2.2.2.2.2.2.2.2.1,()),IntKind.i64.wrap (x.2.2.1+1),())).bind fun v=>bif x.2.1 then bif decide (v.1>=v.2.1)then(B5 (x.1,5,x.2.1,x.2.2.1,x.2.2.2.1,x.2.2.2.2.1,x.2.2.2.2.2.1,x.2.2.2.2.2.2.1,())).bind fun v=>some (v.1,v.2.1,v.2.2.1,v.2.2.2.1,v.2.2.2.2.1,v.2.2.2.2.2.2.2.1,v.2.2.2.2.2.2.2.2.1,())else x.2.2.2.2.1[x.1]?.bind fun v=>x.2.2.2.2.1[x.1]?.bind fun e=>x.2.2.2.2.1[x.1]?.bind fun f=>(DP ((x.2.2.2.1,()),(v.1,v.2.1,v.2.2.1,v.2.2.2.1,v.2.2.2.2.1,v.2.2.2.2.2.1,v.2.2.2.2.2.2.1,e.2.2.2.2.2.2.2.1,f.2.2.2.2.2.2.2.2.1,()),())).bind fun v=>bif v.1 then(B5 (x.1,5,x.2.1,x.2.2.1,x.2.2.2.1,x.2.2.2.2.1,x.2.2.2.2.2.1,x.2.2.2.2.2.2.1,())).bind fun v=>some (v.1,v.2.1,v.2.2.1,v.2.2.2.1,v.2.2.2.2.1,v.2.2.2.2.2.2.2.1,v.2.2.2.2.2.2.2.2.1,())else(Db (x.1,IntKind.i64.wrap (x.2.2.1+1),x.2.1,IntKind.i64.wrap (x.2.2.1+1),x.2.2.2.1,x.2.2.2.2.1,x.2.2.2.2.2.1,x.2.2.2.2.2.2.1,())).bind fun v=>(D3 (x.1,v.1,v.2.1,v.2.2.1,v.2.2.2.1,v.2.2.2.2.1,v.2.2.2.2.2.1,())).bind fun v=>some (0,v.1,v.2.1,v.2.2.1,v.2.2.2.1,v.2.2.2.2.2.2.1,v.2.2.2.2.2.2.2.1,())else x.2.2.2.2.1[x.1]?.bind fun v=>x.2.2.2.2.1[x.1]?.bind fun e=>x.2.2.2.2.1[x.1]?.bind fun f=>(DP ((x.2.2.2.1,()),(v.1,v.2.1,v.2.2.1,v.2.2.2.1,v.2.2.2.2.1,v.2.2.2.2.2.1,v.2.2.2.2.2.2.1,e.2.2.2.2.2.2.2.1,f.2.2.2.2.2.2.2.2.1,()),())).bind fun v=>bif v.1 then(B5 (x.1,5,x.2.1,x.2.2.1,x.2.2.2.1,x.2.2.2.2.1,x.2.2.2.2.2.1,x.2.2.2.2.2.2.1,())).bind fun v=>some (v.1,v.2.1,v.2.2.1,v.2.2.2.1,v.2.2.2.2.1,v.2.2.2.2.2.2.2.1,v.2.2.2.2.2.2.2.2.1,())else(Db (x.1,IntKind.i64.wrap (x.2.2.1+1),x.2.1,IntKind.i64.wrap (x.2.2.1+1),x.2.2.2.1,x.2.2.2.2.1,x.2.2.2.2.2.1,x.2.2.2.2.2.2.1,())).bind fun v=>(D3 (x.1,v.1,v.2.1,v.2.2.1,v.2.2.2.1,v.2.2.2.2.1,v.2.2.2.2.2.1,())).bind fun v=>some (0,v.1,v.2.1,v.2.2.1,v.2.2.2.1,v.2.2.2.2.2.2.1,v.2.2.2.2.2.2.2.1,())
def ew:Ent:=⟨148,⟨(.ptr 0 0 0 (.ptrI 2 0 .nil)),(.cells 6 (.slot .bool (.own 1 (.own 2 (.own 3 (.own 4 (.slot .i .nil)))))) (.tree false 0 (.slice Af) (.tree false 0 Ad (.lst false A0 (.lst false A0 .nil)))))⟩,⟨(.agg (.slot .i (.const (AV.nils) .nil)) .nil),(.cells 6 (.slot .bool (.own 1 (.own 2 (.own 5 (.own 6 (.slot .i .nil)))))) (.tree false 1 (.slice Af) (.tree false 1 Ad (.gone (.gone (.lst false A0 (.lst false A0 .nil)))))))⟩,DW⟩
theorem rY:Ai Go.Proofs.Tryz.prog ew:=okA (C:=rG) (hcB (all_cons Yk (all_cons rZ (all_cons i3 (all_cons s9 (all_cons A5j (all_cons s4 all_nil))))))) Go.Proofs.Tryz.func148
def rF:Cfg:={ti:=Aw,ents:=[Uq,Uo,Uf,Yg,ew,SH,Uv,Uw,VS],ann:=[],lent:=5,pre:=[(some (0,2)),(some (0,3)),(some (0,4))]}
def F8 (x:Int×Int×Int×Int×Int×Int×Bool×Int×A7):Option (Int×Bool×Int×List (List A2)×List A3×List A1×List A1×List Int×Unit):=bif x.1==1 then(EA (x.1,x.2.1,x.2.2.1,x.2.2.2.1,x.2.2.2.2.1,x.2.2.2.2.2.1,x.2.2.2.2.2.2.1,x.2.2.2.2.2.2.2.1,x.2.2.2.2.2.2.2.2.1,x.2.2.2.2.2.2.2.2.2.1,x.2.2.2.2.2.2.2.2.2.2.1,x.2.2.2.2.2.2.2.2.2.2.2.1,())).bind fun v=>some (v.1,v.2.1,v.2.2.1,v.2.2.2.1,v.2.2.2.2.2.2.1,v.2.2.2.2.1,v.2.2.2.2.2.1,[],())else(CY ((x.2.2.2.2.2.2.1,(x.2.2.2.2.2.2.2.2.1,()),x.2.2.2.2.2.2.2.2.2.1,x.2.2.2.2.2.2.2.2.2.2.1,x.2.2.2.2.2.2.2.2.2.2.2.1,x.2.2.2.2.2.2.2.1,()),x.2.1,())).bind fun v=>bif !v.1 then some (6,x.2.2.2.2.2.2.1,x.2.2.2.2.2.2.2.1,x.2.2.2.2.2.2.2.2.1,x.2.2.2.2.2.2.2.2.2.1,x.2.2.2.2.2.2.2.2.2.2.1,x.2.2.2.2.2.2.2.2.2.2.2.1,[],())else(CX ((x.2.2.2.2.2.2.1,(x.2.2.2.2.2.2.2.2.1,()),x.2.2.2.2.2.2.2.2.2.1,x.2.2.2.2.2.2.2.2.2.2.1,x.2.2.2.2.2.2.2.2.2.2.2.1,x.2.2.2.2.2.2.2.1,()),x.2.1,())).bind fun v=>if 0<=v.1/\v.1<(x.2.2.2.2.2.2.2.2.2.1.length:Int)then(BP (x.2.2.2.2.2.2.2.2.2.2.2.1,())).bind fun a=>(BB (a.1,x.1,x.2.1,x.2.2.1,x.2.2.2.1,x.2.2.2.2.1,x.2.2.2.2.2.1,())).bind fun b=>bif b.1==2 then(F9 (0+v.1.toNat,b.2.2.2.1,b.2.2.2.1,x.2.2.2.2.2.2.1,x.2.2.2.2.2.2.2.1,x.2.2.2.2.2.2.2.2.1,x.2.2.2.2.2.2.2.2.2.1,x.2.2.2.2.2.2.2.2.2.2.1,b.2.2.2.2.2.2.1,())).bind fun v=>some (v.1,v.2.1,v.2.2.1,v.2.2.2.1,v.2.2.2.2.1,v.2.2.2.2.2.1,v.2.2.2.2.2.2.1,v.2.2.2.2.2.2.2.1,())else bif b.1==4 then(F9 (0+v.1.toNat,b.2.2.2.1,b.2.2.2.2.1,x.2.2.2.2.2.2.1,x.2.2.2.2.2.2.2.1,x.2.2.2.2.2.2.2.2.1,x.2.2.2.2.2.2.2.2.2.1,x.2.2.2.2.2.2.2.2.2.2.1,b.2.2.2.2.2.2.1,())).bind fun v=>some (v.1,v.2.1,v.2.2.1,v.2.2.2.1,v.2.2.2.2.1,v.2.2.2.2.2.1,v.2.2.2.2.2.2.1,v.2.2.2.2.2.2.2.1,())else bif b.1==3 then(Ez (0+v.1.toNat,b.2.2.2.1,b.2.2.2.2.2.1,x.2.2.2.2.2.2.1,x.2.2.2.2.2.2.2.1,x.2.2.2.2.2.2.2.2.1,x.2.2.2.2.2.2.2.2.2.1,x.2.2.2.2.2.2.2.2.2.2.1,b.2.2.2.2.2.2.1,())).bind fun v=>some (v.1,v.2.1,v.2.2.1,v.2.2.2.1,v.2.2.2.2.1,v.2.2.2.2.2.1,v.2.2.2.2.2.2.1,[],())else bif b.1==5 then(DW (0+v.1.toNat,x.2.2.2.2.2.2.1,x.2.2.2.2.2.2.2.1,x.2.2.2.2.2.2.2.2.1,x.2.2.2.2.2.2.2.2.2.1,x.2.2.2.2.2.2.2.2.2.2.1,b.2.2.2.2.2.2.1,())).bind fun v=>some (v.1,v.2.1,v.2.2.1,v.2.2.2.1,v.2.2.2.2.1,v.2.2.2.2.2.1,v.2.2.2.2.2.2.1,[],())else(B5 (0+v.1.toNat,0,x.2.2.2.2.2.2.1,x.2.2.2.2.2.2.2.1,x.2.2.2.2.2.2.2.2.1,x.2.2.2.2.2.2.2.2.2.1,x.2.2.2.2.2.2.2.2.2.2.1,b.2.2.2.2.2.2.1,())).bind fun v=>some (v.1,v.2.1,v.2.2.1,v.2.2.2.1,v.2.2.2.2.1,v.2.2.2.2.2.2.2.1,v.2.2.2.2.2.2.2.2.1,[],())else none
def eu:Ent:=⟨67,⟨(.ptr 0 0 0 (.agg (si 6 .nil) .nil)),(.cells 6 (.slot .bool (.own 1 (.own 2 (.own 3 (.own 4 (.slot .i .nil)))))) (.tree false 0 (.slice Af) (.tree false 0 Ad (.lst false A0 (.lst false A0 .nil)))))⟩,⟨(.agg (.slot .i (.own 8 .nil)) .nil),(.cells 6 (.slot .bool (.own 1 (.own 5 (.own 6 (.own 7 (.slot .i .nil)))))) (.tree false 1 (.slice Af) (.gone (.gone (.gone (.tree false 1 Ad (.lst false A0 (.lst false A0 (.lst false .i .nil)))))))))⟩,F8⟩
theorem rX:Ai Go.Proofs.Tryz.prog eu:=okA (C:=rF) (hcB (all_cons ns (all_cons nq (all_cons ml (all_cons sj (all_cons rY (all_cons Yk (all_cons bF (all_cons i6 (all_cons Z5 all_nil)))))))))) Go.Proofs.Tryz.func67
def Ih (x:A2×A2×Unit):Option (Bool×Unit):=bif x.1.1 != x.2.1.1 then some (false,())else bif x.1.2.1 != x.2.1.2.1 then some (false,())else bif x.1.2.2.1 != x.2.1.2.2.1 then some (false,())else bif x.1.2.2.2.1 != x.2.1.2.2.2.1 then some (false,())else bif x.1.2.2.2.2.1 != x.2.1.2.2.2.2.1 then some (false,())else some (true,())
def iz:Ent:=⟨262,⟨(.slot Af (.slot Af .nil)),.nil⟩,⟨(.slot .bool .nil),.nil⟩,Ih⟩
theorem A5d:Ai Go.Proofs.Tryz.prog iz:=okA (hcA 0 all_nil) Go.Proofs.Tryz.func262
abbrev Ahz:=List A2×List A2×Unit
abbrev Ahv:=Int×Unit
abbrev Ahw:=Unit ⊕ Unit
def EE (i:Ahz)(v:Ahv)(R:Type)(K:Ahv ⊕ Ahw->Option R):Option R:=bif decide (v.1<(i.1.length:Int))then(lAt i.1 v.1).bind fun a=>(lAt i.2.1 v.1).bind fun b=>(Ih ((a.1,a.2.1,a.2.2.1,a.2.2.2.1,a.2.2.2.2.1,()),(b.1,b.2.1,b.2.2.1,b.2.2.2.1,b.2.2.2.2.1,()),())).bind fun c=>bif !c.1 then K (.inr (.inl ()))else K (.inl (IntKind.i64.wrap (v.1+1),()))else K (.inr (.inr ()))
theorem Nn:Bg EE:=fun i v R K=>Ae (Ac fun _=>Ac fun _=>Ac fun _=>Ae (Aa) (Aa)) (Aa)
def A5b:Tmpl:=⟨(.slot (.slice Af) (.slot (.slice Af) (jk 3 (.slot .i (jk 21 .nil))))),.nil⟩
def Ahu:Exs Ahz Ahw:=xs .ret (fun i p=>⟨jn 4 (.b (false)::jn 22 ([])),[]⟩)<|x1 (.exit 0) fun i p=>⟨jn 27 ([]),[]⟩
def Ahx:=((.i (.i (.v .n))):Pk A5b.ty _ _)
def A9a:Cfg:={ti:=Aw,ents:=[iz],ann:=[(4,Ao A5b 0 (spP Ahx) EE Ahu.E)],lent:=0}
def HQ (x:List A2×List A2×Unit):Option (Bool×Unit):=bif (x.1.length:Int) != (x.2.1.length:Int)then some (false,())else(AC (fun v=>EE (x.1,x.2.1,()) v _ some) (0,())).bind fun p=>Az p (fun p=>some (false,())) fun p=>some (true,())
def wM:Ent:=⟨216,⟨(.slot (.slice Af) (.slot (.slice Af) .nil)),.nil⟩,⟨(.slot .bool .nil),.nil⟩,HQ⟩
theorem zR:CfgOK Go.Proofs.Tryz.prog A9a:=hcB (all_cons A5d all_nil)
theorem Av9:B9 Go.Proofs.Tryz.prog A9a (lpc Go.Proofs.Tryz.f216 0):=lkA zR A5b Ahx EE Ahu [4] Nn
theorem Ahy:Ai Go.Proofs.Tryz.prog wM:=okB zR Go.Proofs.Tryz.func216 Av9
abbrev Ahs:=List (List A2)×List (List A2)×Unit
abbrev Aho:=Int×Unit
abbrev Ahp:=Unit ⊕ Unit
def E3 (i:Ahs)(v:Aho)(R:Type)(K:Aho ⊕ Ahp->Option R):Option R:=bif decide (v.1<(i.1.length:Int))then(lAt i.1 v.1).bind fun a=>(lAt i.2.1 v.1).bind fun b=>(HQ (a,b,())).bind fun c=>bif !c.1 then K (.inr (.inl ()))else K (.inl (IntKind.i64.wrap (v.1+1),()))else K (.inr (.inr ()))
theorem N1:Bg E3:=fun i v R K=>Ae (Ac fun _=>Ac fun _=>Ac fun _=>Ae (Aa) (Aa)) (Aa)
def A5a:Tmpl:=⟨(.slot (.slice (.slice Af)) (.slot (.slice (.slice Af)) (jk 3 (.slot .i (jk 21 .nil))))),.nil⟩
def Ahn:Exs Ahs Ahp:=xs .ret (fun i p=>⟨jn 4 (.b (false)::jn 22 ([])),[]⟩)<|x1 (.exit 0) fun i p=>⟨jn 27 ([]),[]⟩
def Ahq:=((.i (.i (.v .n))):Pk A5a.ty _ _)
def Av8:Cfg:={ti:=Aw,ents:=[wM],ann:=[(4,Ao A5a 0 (spP Ahq) E3 Ahn.E)],lent:=0}
def He (x:List (List A2)×List (List A2)×Unit):Option (Bool×Unit):=bif (x.1.length:Int) != (x.2.1.length:Int)then some (false,())else(AC (fun v=>E3 (x.1,x.2.1,()) v _ some) (0,())).bind fun p=>Az p (fun p=>some (false,())) fun p=>some (true,())
def A3e:Ent:=⟨150,⟨(.slot (.slice (.slice Af)) (.slot (.slice (.slice Af)) .nil)),.nil⟩,⟨(.slot .bool .nil),.nil⟩,He⟩
theorem Aht:CfgOK Go.Proofs.Tryz.prog Av8:=hcB (all_cons Ahy all_nil)
theorem Av7:B9 Go.Proofs.Tryz.prog Av8 (lpc Go.Proofs.Tryz.f150 0):=lkA Aht A5a Ahq E3 Ahn [4] N1
theorem Ahr:Ai Go.Proofs.Tryz.prog A3e:=okB Aht Go.Proofs.Tryz.func150 Av7
def Jv (x:A4×A4×Unit):Option (Bool×Unit):=(He (x.1.1,x.2.1.1,())).bind fun v=>bif !v.1 then some (false,())else some (true,())
def lq:Ent:=⟨68,⟨(.slot Bp (.slot Bp .nil)),.nil⟩,⟨(.slot .bool .nil),.nil⟩,Jv⟩
theorem rV:Ai Go.Proofs.Tryz.prog lq:=okA (hcA 0 (all_cons Ahr all_nil)) Go.Proofs.Tryz.func68
def HS (x:A1×A1×Unit):Option (Bool×Unit):=bif x.1.1 != x.2.1.1 then some (false,())else bif x.1.2.1 != x.2.1.2.1 then some (false,())else some (true,())
def et:Ent:=⟨263,⟨(.slot A0 (.slot A0 .nil)),.nil⟩,⟨(.slot .bool .nil),.nil⟩,HS⟩
theorem rU:Ai Go.Proofs.Tryz.prog et:=okA (hcA 0 all_nil) Go.Proofs.Tryz.func263
abbrev Ahm:=A9
abbrev Ahj:=Int×Unit
abbrev Ahk:=Unit ⊕ Unit
def E4 (i:Ahm)(v:Ahj)(R:Type)(K:Ahj ⊕ Ahk->Option R):Option R:=bif decide (v.1<(i.1.length:Int))then(lAt i.1 v.1).bind fun a=>(lAt i.2.1 v.1).bind fun b=>(HS ((a.1,a.2.1,()),(b.1,b.2.1,()),())).bind fun c=>bif !c.1 then K (.inr (.inl ()))else K (.inl (IntKind.i64.wrap (v.1+1),()))else K (.inr (.inr ()))
theorem N2:Bg E4:=fun i v R K=>Ae (Ac fun _=>Ac fun _=>Ac fun _=>Ae (Aa) (Aa)) (Aa)
def A59:Tmpl:=⟨(.slot (.slice A0) (.slot (.slice A0) (jk 3 (.slot .i (jk 21 .nil))))),.nil⟩
def Ahi:Exs Ahm Ahk:=xs .ret (fun i p=>⟨jn 4 (.b (false)::jn 22 ([])),[]⟩)<|x1 (.exit 0) fun i p=>⟨jn 27 ([]),[]⟩
def Ahl:=((.i (.i (.v .n))):Pk A59.ty _ _)
def lm:Cfg:={ti:=Aw,ents:=[et],ann:=[(4,Ao A59 0 (spP Ahl) E4 Ahi.E)],lent:=0}
def Hf (x:A9):Option (Bool×Unit):=bif (x.1.length:Int) != (x.2.1.length:Int)then some (false,())else(AC (fun v=>E4 (x.1,x.2.1,()) v _ some) (0,())).bind fun p=>Az p (fun p=>some (false,())) fun p=>some (true,())
def cf:Ent:=⟨217,⟨(.slot (.slice A0) (.slot (.slice A0) .nil)),.nil⟩,⟨(.slot .bool .nil),.nil⟩,Hf⟩
theorem cB:CfgOK Go.Proofs.Tryz.prog lm:=hcB (all_cons rU all_nil)
theorem Av6:B9 Go.Proofs.Tryz.prog lm (lpc Go.Proofs.Tryz.f217 0):=lkA cB A59 Ahl E4 Ahi [4] N2
theorem rT:Ai Go.Proofs.Tryz.prog cf:=okB cB Go.Proofs.Tryz.func217 Av6
def Jt (x:A1×A1×Unit):Option (Bool×Unit):=bif x.1.1 != x.2.1.1 then some (false,())else bif x.1.2.1 != x.2.1.2.1 then some (false,())else some (true,())
def WB:Ent:=⟨264,⟨(.slot A0 (.slot A0 .nil)),.nil⟩,⟨(.slot .bool .nil),.nil⟩,Jt⟩
theorem qH:Ai Go.Proofs.Tryz.prog WB:=okA (hcA 0 all_nil) Go.Proofs.Tryz.func264
abbrev Ahh:=A9
abbrev Ahb:=Int×Unit
abbrev Ahd:=Unit ⊕ Unit
def FI (i:Ahh)(v:Ahb)(R:Type)(K:Ahb ⊕ Ahd->Option R):Option R:=bif decide (v.1<(i.1.length:Int))then(lAt i.1 v.1).bind fun a=>(lAt i.2.1 v.1).bind fun b=>(Jt ((a.1,a.2.1,()),(b.1,b.2.1,()),())).bind fun c=>bif !c.1 then K (.inr (.inl ()))else K (.inl (IntKind.i64.wrap (v.1+1),()))else K (.inr (.inr ()))
theorem OB:Bg FI:=fun i v R K=>Ae (Ac fun _=>Ac fun _=>Ac fun _=>Ae (Aa) (Aa)) (Aa)
def A56:Tmpl:=⟨(.slot (.slice A0) (.slot (.slice A0) (jk 3 (.slot .i (jk 21 .nil))))),.nil⟩
def Ah9:Exs Ahh Ahd:=xs .ret (fun i p=>⟨jn 4 (.b (false)::jn 22 ([])),[]⟩)<|x1 (.exit 0) fun i p=>⟨jn 27 ([]),[]⟩
def Ahf:=((.i (.i (.v .n))):Pk A56.ty _ _)
def qy:Cfg:={ti:=Aw,ents:=[WB],ann:=[(4,Ao A56 0 (spP Ahf) FI Ah9.E)],lent:=0}
def IQ (x:A9):Option (Bool×Unit):=bif (x.1.length:Int) != (x.2.1.length:Int)then some (false,())else(AC (fun v=>FI (x.1,x.2.1,()) v _ some) (0,())).bind fun p=>Az p (fun p=>some (false,())) fun p=>some (true,())
def ra:Ent:=⟨218,⟨(.slot (.slice A0) (.slot (.slice A0) .nil)),.nil⟩,⟨(.slot .bool .nil),.nil⟩,IQ⟩
theorem i1:CfgOK Go.Proofs.Tryz.prog qy:=hcB (all_cons qH all_nil)
theorem Av5:B9 Go.Proofs.Tryz.prog qy (lpc Go.Proofs.Tryz.f218 0):=lkA i1 A56 Ahf FI Ah9 [4] OB
theorem A57:Ai Go.Proofs.Tryz.prog ra:=okB i1 Go.Proofs.Tryz.func218 Av5
def Gq (x:A3×A3×Unit):Option (Bool×Unit):=bif x.1.1 != x.2.1.1 then some (false,())else bif x.1.2.1 != x.2.1.2.1 then some (false,())else bif x.1.2.2.1 != x.2.1.2.2.1 then some (false,())else bif x.1.2.2.2.1 != x.2.1.2.2.2.1 then some (false,())else bif x.1.2.2.2.2.1 != x.2.1.2.2.2.2.1 then some (false,())else bif x.1.2.2.2.2.2.1 != x.2.1.2.2.2.2.2.1 then some (false,())else bif x.1.2.2.2.2.2.2.1 != x.2.1.2.2.2.2.2.2.1 then some (false,())else(Hf (x.1.2.2.2.2.2.2.2.1,x.2.1.2.2.2.2.2.2.2.1,())).bind fun v=>bif !v.1 then some (false,())else(IQ (x.1.2.2.2.2.2.2.2.2.1,x.2.1.2.2.2.2.2.2.2.2.1,())).bind fun v=>bif !v.1 then some (false,())else some (true,())
def Yb:Ent:=⟨151,⟨(.slot Ad (.slot Ad .nil)),.nil⟩,⟨(.slot .bool .nil),.nil⟩,Gq⟩
theorem rS:Ai Go.Proofs.Tryz.prog Yb:=okA (hcA 0 (all_cons rT (all_cons A57 all_nil))) Go.Proofs.Tryz.func151
abbrev Ah6:=List A3×List A3×Unit
abbrev Ah3:=Int×Unit
abbrev Ah4:=Unit ⊕ Unit
def D8 (i:Ah6)(v:Ah3)(R:Type)(K:Ah3 ⊕ Ah4->Option R):Option R:=bif decide (v.1<(i.1.length:Int))then(lAt i.1 v.1).bind fun a=>(lAt i.2.1 v.1).bind fun b=>(Gq ((a.1,a.2.1,a.2.2.1,a.2.2.2.1,a.2.2.2.2.1,a.2.2.2.2.2.1,a.2.2.2.2.2.2.1,a.2.2.2.2.2.2.2.1,a.2.2.2.2.2.2.2.2.1,()),(b.1,b.2.1,b.2.2.1,b.2.2.2.1,b.2.2.2.2.1,b.2.2.2.2.2.1,b.2.2.2.2.2.2.1,b.2.2.2.2.2.2.2.1,b.2.2.2.2.2.2.2.2.1,()),())).bind fun c=>bif !c.1 then K (.inr (.inl ()))else K (.inl (IntKind.i64.wrap (v.1+1),()))else K (.inr (.inr ()))
theorem Ls:Bg D8:=fun i v R K=>Ae (Ac fun _=>Ac fun _=>Ac fun _=>Ae (Aa) (Aa)) (Aa)
def A54:Tmpl:=⟨(.slot (.slice Ad) (.slot (.slice Ad) (jk 3 (.slot .i (jk 21 .nil))))),.nil⟩
def Ah2:Exs Ah6 Ah4:=xs .ret (fun i p=>⟨jn 4 (.b (false)::jn 22 ([])),[]⟩)<|x1 (.exit 0) fun i p=>⟨jn 27 ([]),[]⟩
def Ah5:=((.i (.i (.v .n))):Pk A54.ty _ _)
def A8v:Cfg:={ti:=Aw,ents:=[Yb],ann:=[(4,Ao A54 0 (spP Ah5) D8 Ah2.E)],lent:=0}
def G1 (x:List A3×List A3×Unit):Option (Bool×Unit):=bif (x.1.length:Int) != (x.2.1.length:Int)then some (false,())else(AC (fun v=>D8 (x.1,x.2.1,()) v _ some) (0,())).bind fun p=>Az p (fun p=>some (false,())) fun p=>some (true,())
def cd:Ent:=⟨69,⟨(.slot (.slice Ad) (.slot (.slice Ad) .nil)),.nil⟩,⟨(.slot .bool .nil),.nil⟩,G1⟩
theorem Ah7:CfgOK Go.Proofs.Tryz.prog A8v:=hcB (all_cons rS all_nil)
theorem Av3:B9 Go.Proofs.Tryz.prog A8v (lpc Go.Proofs.Tryz.f69 0):=lkA Ah7 A54 Ah5 D8 Ah2 [4] Ls
theorem rR:Ai Go.Proofs.Tryz.prog cd:=okB Ah7 Go.Proofs.Tryz.func69 Av3
def K8 (x:A1×A1×Unit):Option (Bool×Unit):=bif x.1.1 != x.2.1.1 then some (false,())else bif x.1.2.1 != x.2.1.2.1 then some (false,())else some (true,())
def lf:Ent:=⟨152,⟨(.slot A0 (.slot A0 .nil)),.nil⟩,⟨(.slot .bool .nil),.nil⟩,K8⟩
theorem A52:Ai Go.Proofs.Tryz.prog lf:=okA (hcA 0 all_nil) Go.Proofs.Tryz.func152
abbrev cy:=A9
abbrev cv:=Int×Unit
abbrev cw:=Unit ⊕ Unit
def Gg (i:cy)(v:cv)(R:Type)(K:cv ⊕ cw->Option R):Option R:=bif decide (v.1<(i.1.length:Int))then(lAt i.1 v.1).bind fun a=>(lAt i.2.1 v.1).bind fun b=>(K8 ((a.1,a.2.1,()),(b.1,b.2.1,()),())).bind fun c=>bif !c.1 then K (.inr (.inl ()))else K (.inl (IntKind.i64.wrap (v.1+1),()))else K (.inr (.inr ()))
theorem OZ:Bg Gg:=fun i v R K=>Ae (Ac fun _=>Ac fun _=>Ac fun _=>Ae (Aa) (Aa)) (Aa)
def W5:Tmpl:=⟨(.slot (.slice A0) (.slot (.slice A0) (jk 3 (.slot .i (jk 21 .nil))))),.nil⟩
def cu:Exs cy cw:=xs .ret (fun i p=>⟨jn 4 (.b (false)::jn 22 ([])),[]⟩)<|x1 (.exit 0) fun i p=>⟨jn 27 ([]),[]⟩
def cx:=((.i (.i (.v .n))):Pk W5.ty _ _)
def le:Cfg:={ti:=Aw,ents:=[lf],ann:=[(4,Ao W5 0 (spP cx) Gg cu.E)],lent:=0}
def Jw (x:A9):Option (Bool×Unit):=bif (x.1.length:Int) != (x.2.1.length:Int)then some (false,())else(AC (fun v=>Gg (x.1,x.2.1,()) v _ some) (0,())).bind fun p=>Az p (fun p=>some (false,())) fun p=>some (true,())
def lc:Ent:=⟨70,⟨(.slot (.slice A0) (.slot (.slice A0) .nil)),.nil⟩,⟨(.slot .bool .nil),.nil⟩,Jw⟩
theorem cA:CfgOK Go.Proofs.Tryz.prog le:=hcB (all_cons A52 all_nil)
theorem la:B9 Go.Proofs.Tryz.prog le (lpc Go.Proofs.Tryz.f70 0):=lkA cA W5 cx Gg cu [4] OZ
theorem rQ:Ai Go.Proofs.Tryz.prog lc:=okB cA Go.Proofs.Tryz.func70 la
def K7 (x:A1×A1×Unit):Option (Bool×Unit):=bif x.1.1 != x.2.1.1 then some (false,())else bif x.1.2.1 != x.2.1.2.1 then some (false,())else some (true,())
def Ya:Ent:=⟨153,⟨(.slot A0 (.slot A0 .nil)),.nil⟩,⟨(.slot .bool .nil),.nil⟩,K7⟩
theorem rP:Ai Go.Proofs.Tryz.prog Ya:=okA (hcA 0 all_nil) Go.Proofs.Tryz.func153
abbrev Agr:=A9
abbrev Ago:=Int×Unit
abbrev Agp:=Unit ⊕ Unit
def Gf (i:Agr)(v:Ago)(R:Type)(K:Ago ⊕ Agp->Option R):Option R:=bif decide (v.1<(i.1.length:Int))then(lAt i.1 v.1).bind fun a=>(lAt i.2.1 v.1).bind fun b=>(K7 ((a.1,a.2.1,()),(b.1,b.2.1,()),())).bind fun c=>bif !c.1 then K (.inr (.inl ()))else K (.inl (IntKind.i64.wrap (v.1+1),()))else K (.inr (.inr ()))
theorem OY:Bg Gf:=fun i v R K=>Ae (Ac fun _=>Ac fun _=>Ac fun _=>Ae (Aa) (Aa)) (Aa)
def A4z:Tmpl:=⟨(.slot (.slice A0) (.slot (.slice A0) (jk 3 (.slot .i (jk 21 .nil))))),.nil⟩
def Agn:Exs Agr Agp:=xs .ret (fun i p=>⟨jn 4 (.b (false)::jn 22 ([])),[]⟩)<|x1 (.exit 0) fun i p=>⟨jn 27 ([]),[]⟩
def Agq:=((.i (.i (.v .n))):Pk A4z.ty _ _)
def l8:Cfg:={ti:=Aw,ents:=[Ya],ann:=[(4,Ao A4z 0 (spP Agq) Gf Agn.E)],lent:=0}
def Ju (x:A9):Option (Bool×Unit):=bif (x.1.length:Int) != (x.2.1.length:Int)then some (false,())else(AC (fun v=>Gf (x.1,x.2.1,()) v _ some) (0,())).bind fun p=>Az p (fun p=>some (false,())) fun p=>some (true,())
def l7:Ent:=⟨71,⟨(.slot (.slice A0) (.slot (.slice A0) .nil)),.nil⟩,⟨(.slot .bool .nil),.nil⟩,Ju⟩
theorem ct:CfgOK Go.Proofs.Tryz.prog l8:=hcB (all_cons rP all_nil)
theorem Av1:B9 Go.Proofs.Tryz.prog l8 (lpc Go.Proofs.Tryz.f71 0):=lkA ct A4z Agq Gf Agn [4] OY
theorem rO:Ai Go.Proofs.Tryz.prog l7:=okB ct Go.Proofs.Tryz.func71 Av1
def FM (x:A5×A5×Unit):Option (Bool×Unit):=bif !x.1.1==x.2.1.1 then some (false,())else(Jv ((x.1.2.1.1,()),(x.2.1.2.1.1,()),())).bind fun v=>bif !v.1 then some (false,())else(G1 (x.1.2.2.1,x.2.1.2.2.1,())).bind fun v=>bif !v.1 then some (false,())else(Jw (x.1.2.2.2.1,x.2.1.2.2.2.1,())).bind fun v=>bif !v.1 then some (false,())else(Ju (x.1.2.2.2.2.1,x.2.1.2.2.2.2.1,())).bind fun v=>bif !v.1 then some (false,())else bif x.1.2.2.2.2.2.1 != x.2.1.2.2.2.2.2.1 then some (false,())else some (true,())
def A8p:Ent:=⟨14,⟨(.slot D9 (.slot D9 .nil)),.nil⟩,⟨(.slot .bool .nil),.nil⟩,FM⟩
theorem Agm:Ai Go.Proofs.Tryz.prog A8p:=okA (hcA 0 (all_cons rV (all_cons rR (all_cons rQ (all_cons rO all_nil))))) Go.Proofs.Tryz.func14
abbrev Agk:=List Int×List Int×Unit
abbrev Agg:=Int×Unit
abbrev Agh:=Unit ⊕ Unit
def Iz (i:Agk)(v:Agg)(R:Type)(K:Agg ⊕ Agh->Option R):Option R:=bif decide (v.1<(i.1.length:Int))then(lAt i.1 v.1).bind fun a=>(lAt i.2.1 v.1).bind fun b=>bif a != b then K (.inr (.inl ()))else K (.inl (IntKind.i64.wrap (v.1+1),()))else K (.inr (.inr ()))
theorem RN:Bg Iz:=fun i v R K=>Ae (Ac fun _=>Ac fun _=>Ae (Aa) (Aa)) (Aa)
def A4y:Tmpl:=⟨(.slot (.slice .i) (.slot (.slice .i) (jk 3 (.slot .i (jk 20 .nil))))),.nil⟩
def Agf:Exs Agk Agh:=xs .ret (fun i p=>⟨jn 4 (.b (false)::jn 21 ([])),[]⟩)<|x1 (.exit 0) fun i p=>⟨jn 26 ([]),[]⟩
def Agi:=((.i (.i (.v .n))):Pk A4y.ty _ _)
def Av0:Cfg:={ti:=Aw,ents:=[],ann:=[(4,Ao A4y 0 (spP Agi) Iz Agf.E)],lent:=0}
def L7 (x:List Int×List Int×Unit):Option (Bool×Unit):=bif (x.1.length:Int) != (x.2.1.length:Int)then some (false,())else(AC (fun v=>Iz (x.1,x.2.1,()) v _ some) (0,())).bind fun p=>Az p (fun p=>some (false,())) fun p=>some (true,())
def A3b:Ent:=⟨24,⟨(.slot (.slice .i) (.slot (.slice .i) .nil)),.nil⟩,⟨(.slot .bool .nil),.nil⟩,L7⟩
theorem Agl:CfgOK Go.Proofs.Tryz.prog Av0:=hcB all_nil
theorem Auz:B9 Go.Proofs.Tryz.prog Av0 (lpc Go.Proofs.Tryz.f24 0):=lkA Agl A4y Agi Iz Agf [4] RN
theorem Agj:Ai Go.Proofs.Tryz.prog A3b:=okB Agl Go.Proofs.Tryz.func24 Auz
def O7 (x:(Int×List Int×Unit)×(Int×List Int×Unit)×Unit):Option (Bool×Unit):=bif x.1.1 != x.2.1.1 then some (false,())else(L7 (x.1.2.1,x.2.1.2.1,())).bind fun v=>bif !v.1 then some (false,())else some (true,())
def A3a:Ent:=⟨15,⟨(.slot LB (.slot LB .nil)),.nil⟩,⟨(.slot .bool .nil),.nil⟩,O7⟩
theorem Age:Ai Go.Proofs.Tryz.prog A3a:=okA (hcA 0 (all_cons Agj all_nil)) Go.Proofs.Tryz.func15
abbrev Agd:=Nat×Unit
abbrev Ag9:=Int×Int×List (List A2)×Unit
abbrev Aga:=Int×List (List A2)×Unit
def D7 (i:Agd)(v:Ag9)(R:Type)(K:Ag9 ⊕ Aga->Option R):Option R:=v.2.2.1[i.1]?.bind fun a=>bif decide (v.2.1<(a.length:Int))then v.2.2.1[i.1]?.bind fun b=>if 0<=v.2.1/\v.2.1<(b.length:Int)then v.2.2.1[i.1]?.bind fun c=>c[0+v.2.1.toNat]?.bind fun d=>(v.2.2.1.set i.1 (c.set (0+v.2.1.toNat) (v.1,d.2.1,d.2.2.1,d.2.2.2.1,d.2.2.2.2.1,())))[i.1]?.bind fun e=>if 0<=v.2.1/\v.2.1<(e.length:Int)then(v.2.2.1.set i.1 (c.set (0+v.2.1.toNat) (v.1,d.2.1,d.2.2.1,d.2.2.2.1,d.2.2.2.2.1,())))[i.1]?.bind fun f=>f[0+v.2.1.toNat]?.bind fun g=>((v.2.2.1.set i.1 (c.set (0+v.2.1.toNat) (v.1,d.2.1,d.2.2.1,d.2.2.2.1,d.2.2.2.2.1,()))).set i.1 (f.set (0+v.2.1.toNat) (g.1,IntKind.i64.wrap (v.1+1),g.2.2.1,g.2.2.2.1,g.2.2.2.2.1,())))[i.1]?.bind fun h=>if 0<=v.2.1/\v.2.1<(h.length:Int)then((v.2.2.1.set i.1 (c.set (0+v.2.1.toNat) (v.1,d.2.1,d.2.2.1,d.2.2.2.1,d.2.2.2.2.1,()))).set i.1 (f.set (0+v.2.1.toNat) (g.1,IntKind.i64.wrap (v.1+1),g.2.2.1,g.2.2.2.1,g.2.2.2.2.1,())))[i.1]?.bind fun j=>j[0+v.2.1.toNat]?.bind fun k=>(((v.2.2.1.set i.1 (c.set (0+v.2.1.toNat) (v.1,d.2.1,d.2.2.1,d.2.2.2.1,d.2.2.2.2.1,()))).set i.1 (f.set (0+v.2.1.toNat) (g.1,IntKind.i64.wrap (v.1+1),g.2.2.1,g.2.2.2.1,g.2.2.2.2.1,()))).set i.1 (j.set (0+v.2.1.toNat) (k.1,k.2.1,IntKind.i64.wrap (IntKind.i64.wrap (v.1+1)+1),k.2.2.2.1,k.2.2.2.2.1,())))[i.1]?.bind fun l=>if 0<=v.2.1/\v.2.1<(l.length:Int)then(((v.2.2.1.set i.1 (c.set (0+v.2.1.toNat) (v.1,d.2.1,d.2.2.1,d.2.2.2.1,d.2.2.2.2.1,()))).set i.1 (f.set (0+v.2.1.toNat) (g.1,IntKind.i64.wrap (v.1+1),g.2.2.1,g.2.2.2.1,g.2.2.2.2.1,()))).set i.1 (j.set (0+v.2.1.toNat) (k.1,k.2.1,IntKind.i64.wrap (IntKind.i64.wrap (v.1+1)+1),k.2.2.2.1,k.2.2.2.2.1,())))[i.1]?.bind fun m=>m[0+v.2.1.toNat]?.bind fun n=>((((v.2.2.1.set i.1 (c.set (0+v.2.1.toNat) (v.1,d.2.1,d.2.2.1,d.2.2.2.1,d.2.2.2.2.1,()))).set i.1 (f.set (0+v.2.1.toNat) (g.1,IntKind.i64.wrap (v.1+1),g.2.2.1,g.2.2.2.1,g.2.2.2.2.1,()))).set i.1 (j.set (0+v.2.1.toNat) (k.1,k.2.1,IntKind.i64.wrap (IntKind.i64.wrap (v.1+1)+1),k.2.2.2.1,k.2.2.2.2.1,()))).set i.1 (m.set (0+v.2.1.toNat) (n.1,n.2.1,n.2.2.1,IntKind.i64.wrap (IntKind.i64.wrap (IntKind.i64.wrap (v.1+1)+1)+1),n.2.2.2.2.1,())))[i.1]?.bind fun o=>if 0<=v.2.1/\v.2.1<(o.length:Int)then((((v.2.2.1.set i.1 (c.set (0+v.2.1.toNat) (v.1,d.2.1,d.2.2.1,d.2.2.2.1,d.2.2.2.2.1,()))).set i.1 (f.set (0+v.2.1.toNat) (g.1,IntKind.i64.wrap (v.1+1),g.2.2.1,g.2.2.2.1,g.2.2.2.2.1,()))).set i.1 (j.set (0+v.2.1.toNat) (k.1,k.2.1,IntKind.i64.wrap (IntKind.i64.wrap (v.1+1)+1),k.2.2.2.1,k.2.2.2.2.1,()))).set i.1 (m.set (0+v.2.1.toNat) (n.1,n.2.1,n.2.2.1,IntKind.i64.wrap (IntKind.i64.wrap (IntKind.i64.wrap (v.1+1)+1)+1),n.2.2.2.2.1,())))[i.1]?.bind fun q=>q[0+v.2.1.toNat]?.bind fun r=>K (.inl (IntKind.i64.wrap (IntKind.i64.wrap (IntKind.i64.wrap (IntKind.i64.wrap (IntKind.i64.wrap (v.1+1)+1)+1)+1)+1),IntKind.i64.wrap (v.2.1+1),((((v.2.2.1.set i.1 (c.set (0+v.2.1.toNat) (v.1,d.2.1,d.2.2.1,d.2.2.2.1,d.2.2.2.2.1,()))).set i.1 (f.set (0+v.2.1.toNat) (g.1,IntKind.i64.wrap (v.1+1),g.2.2.1,g.2.2.2.1,g.2.2.2.2.1,()))).set i.1 (j.set (0+v.2.1.toNat) (k.1,k.2.1,IntKind.i64.wrap (IntKind.i64.wrap (v.1+1)+1),k.2.2.2.1,k.2.2.2.2.1,()))).set i.1 (m.set (0+v.2.1.toNat) (n.1,n.2.1,n.2.2.1,IntKind.i64.wrap (IntKind.i64.wrap (IntKind.i64.wrap (v.1+1)+1)+1),n.2.2.2.2.1,()))).set i.1 (q.set (0+v.2.1.toNat) (r.1,r.2.1,r.2.2.1,r.2.2.2.1,IntKind.i64.wrap (IntKind.i64.wrap (IntKind.i64.wrap (IntKind.i64.wrap (v.1+1)+1)+1)+1),())),()))else none else none else none else none else none else K (.inr (v.1,v.2.2.1,()))
theorem Lr:Bg D7:=fun i v R K=>Ac fun _=>Ae (Ac fun _=>Aq (Ac fun _=>Ac fun _=>Ac fun _=>Aq (Ac fun _=>Ac fun _=>Ac fun _=>Aq (Ac fun _=>Ac fun _=>Ac fun _=>Aq (Ac fun _=>Ac fun _=>Ac fun _=>Aq (Ac fun _=>Ac fun _=>Aa)))))) (Aa)
def A4w:Tmpl:=⟨(.nown 0 0 (.slot .i (jk 3 (.slot .i (jk 42 .nil))))),(.tree false 0 (.slice Af) .nil)⟩
def Ag8:Exs Agd Aga:=x1 (.exit 0) fun i p=>⟨jn 1 (.n (p.1)::jn 46 ([])),[some (Cont.tree false 0 (.slice Af) p.2.1 none)]⟩
def Agb:=((.i (.v (.v (.v .n)))):Pk A4w.ty _ _)
def A8o:Cfg:={ti:=Aw,ents:=[],ann:=[(2,Ao A4w 1 (spP Agb) D7 Ag8.E)],lent:=1}
def G0 (x:Nat×Int×List (List A2)×Unit):Option (Int×List (List A2)×Unit):=(AC (fun v=>D7 (x.1,()) v _ some) (x.2.1,0,x.2.2.1,())).bind fun p=>some (p.1,p.2.1,())
def r8:Ent:=⟨219,⟨(.nown 0 0 (.slot .i .nil)),(.tree false 0 (.slice Af) .nil)⟩,⟨(.slot .i .nil),(.tree false 0 (.slice Af) .nil)⟩,G0⟩
theorem z5:CfgOK Go.Proofs.Tryz.prog A8o:=hcB all_nil
theorem Aut:B9 Go.Proofs.Tryz.prog A8o (lpc Go.Proofs.Tryz.f219 0):=lkA z5 A4w Agb D7 Ag8 [1] Lr
theorem Agc:Ai Go.Proofs.Tryz.prog r8:=okB z5 Go.Proofs.Tryz.func219 Aut
abbrev Ag7:=Unit
abbrev Ag3:=Int×Int×List (List A2)×Unit
abbrev Ag4:=Int×List (List A2)×Unit
def BZ (i:Ag7)(v:Ag3)(R:Type)(K:Ag3 ⊕ Ag4->Option R):Option R:=bif decide (v.2.1<(v.2.2.1.length:Int))then if 0<=v.2.1/\v.2.1<(v.2.2.1.length:Int)then v.2.2.1[0+v.2.1.toNat]?.bind fun a=>(G0 (0+v.2.1.toNat,v.1,v.2.2.1,())).bind fun b=>K (.inl (b.1,IntKind.i64.wrap (v.2.1+1),b.2.1,()))else none else K (.inr (v.1,v.2.2.1,()))
theorem L5:Bg BZ:=fun i v R K=>Ae (Aq (Ac fun _=>Ac fun _=>Aa)) (Aa)
def A4v:Tmpl:=⟨(.own 0 (.slot .i (jk 3 (.slot .i (jk 13 .nil))))),(.tree false 0 (.slice Af) .nil)⟩
def Ag2:Exs Ag7 Ag4:=x1 (.exit 0) fun i p=>⟨jn 1 (.n (p.1)::jn 17 ([])),[some (Cont.tree false 0 (.slice Af) p.2.1 none)]⟩
def Ag5:=((.v (.v (.v .n))):Pk A4v.ty _ _)
def A8n:Cfg:={ti:=Aw,ents:=[r8],ann:=[(2,Ao A4v 1 (spP Ag5) BZ Ag2.E)],lent:=1}
def FE (x:Int×List (List A2)×Unit):Option (Int×List (List A2)×Unit):=(AC (fun v=>BZ () v _ some) (x.1,0,x.2.1,())).bind fun p=>some (p.1,p.2.1,())
def A8m:Ent:=⟨154,⟨(.own 0 (.slot .i .nil)),(.tree false 0 (.slice Af) .nil)⟩,⟨(.slot .i .nil),(.tree false 0 (.slice Af) .nil)⟩,FE⟩
theorem yZ:CfgOK Go.Proofs.Tryz.prog A8n:=hcB (all_cons Agc all_nil)
theorem Aus:B9 Go.Proofs.Tryz.prog A8n (lpc Go.Proofs.Tryz.f154 0):=lkA yZ A4v Ag5 BZ Ag2 [1] L5
theorem Ag6:Ai Go.Proofs.Tryz.prog A8m:=okB yZ Go.Proofs.Tryz.func154 Aus
def Hb (x:Int×List (List A2)×Unit):Option (Int×List (List A2)×Unit):=(FE (x.1,x.2.1,())).bind fun v=>some (v.1,v.2.1,())
def A8l:Ent:=⟨72,⟨(.agg (.own 0 .nil) (.slot .i .nil)),(.tree false 0 (.slice Af) .nil)⟩,⟨(.slot .i .nil),(.tree false 0 (.slice Af) .nil)⟩,Hb⟩
theorem Ag1:Ai Go.Proofs.Tryz.prog A8l:=okA (hcA 1 (all_cons Ag6 all_nil)) Go.Proofs.Tryz.func72
abbrev yX:=Nat×Unit
abbrev yU:=Int×Int×List A3×Unit
abbrev yV:=Int×List A3×Unit
def CM (i:yX)(v:yU)(R:Type)(K:yU ⊕ yV->Option R):Option R:=v.2.2.1[i.1]?.bind fun a=>bif decide (v.2.1<(a.2.2.2.2.2.2.2.1.length:Int))then v.2.2.1[i.1]?.bind fun b=>if 0<=v.2.1/\v.2.1<(b.2.2.2.2.2.2.2.1.length:Int)then v.2.2.1[i.1]?.bind fun c=>c.2.2.2.2.2.2.2.1[0+v.2.1.toNat]?.bind fun d=>(v.2.2.1.set i.1 (c.1,c.2.1,c.2.2.1,c.2.2.2.1,c.2.2.2.2.1,c.2.2.2.2.2.1,c.2.2.2.2.2.2.1,c.2.2.2.2.2.2.2.1.set (0+v.2.1.toNat) (v.1,d.2.1,()),c.2.2.2.2.2.2.2.2.1,()))[i.1]?.bind fun e=>if 0<=v.2.1/\v.2.1<(e.2.2.2.2.2.2.2.1.length:Int)then(v.2.2.1.set i.1 (c.1,c.2.1,c.2.2.1,c.2.2.2.1,c.2.2.2.2.1,c.2.2.2.2.2.1,c.2.2.2.2.2.2.1,c.2.2.2.2.2.2.2.1.set (0+v.2.1.toNat) (v.1,d.2.1,()),c.2.2.2.2.2.2.2.2.1,()))[i.1]?.bind fun f=>f.2.2.2.2.2.2.2.1[0+v.2.1.toNat]?.bind fun g=>K (.inl (IntKind.i64.wrap (IntKind.i64.wrap (v.1+1)+1),IntKind.i64.wrap (v.2.1+1),(v.2.2.1.set i.1 (c.1,c.2.1,c.2.2.1,c.2.2.2.1,c.2.2.2.2.1,c.2.2.2.2.2.1,c.2.2.2.2.2.2.1,c.2.2.2.2.2.2.2.1.set (0+v.2.1.toNat) (v.1,d.2.1,()),c.2.2.2.2.2.2.2.2.1,())).set i.1 (f.1,f.2.1,f.2.2.1,f.2.2.2.1,f.2.2.2.2.1,f.2.2.2.2.2.1,f.2.2.2.2.2.2.1,f.2.2.2.2.2.2.2.1.set (0+v.2.1.toNat) (g.1,IntKind.i64.wrap (v.1+1),()),f.2.2.2.2.2.2.2.2.1,()),()))else none else none else K (.inr (v.1,v.2.2.1,()))
theorem L6:Bg CM:=fun i v R K=>Ac fun _=>Ae (Ac fun _=>Aq (Ac fun _=>Ac fun _=>Ac fun _=>Aq (Ac fun _=>Ac fun _=>Aa))) (Aa)
def l5:Tmpl:=⟨(.nown 0 7 (.slot .i (jk 3 (.slot .i (jk 21 .nil))))),(.tree false 0 Ad .nil)⟩
def yT:Exs yX yV:=x1 (.exit 0) fun i p=>⟨jn 1 (.n (p.1)::jn 25 ([])),[some (Cont.tree false 0 Ad p.2.1 none)]⟩
def yW:=((.i (.v (.v (.v .n)))):Pk l5.ty _ _)
def A8k:Cfg:={ti:=Aw,ents:=[],ann:=[(2,Ao l5 1 (spP yW) CM yT.E)],lent:=1}
def FF (x:Nat×Int×List A3×Unit):Option (Int×List A3×Unit):=(AC (fun v=>CM (x.1,()) v _ some) (x.2.1,0,x.2.2.1,())).bind fun p=>some (p.1,p.2.1,())
def wy:Ent:=⟨155,⟨(.nown 0 7 (.slot .i .nil)),(.tree false 0 Ad .nil)⟩,⟨(.slot .i .nil),(.tree false 0 Ad .nil)⟩,FF⟩
theorem yY:CfgOK Go.Proofs.Tryz.prog A8k:=hcB all_nil
theorem A8j:B9 Go.Proofs.Tryz.prog A8k (lpc Go.Proofs.Tryz.f155 0):=lkA yY l5 yW CM yT [1] L6
theorem Ag0:Ai Go.Proofs.Tryz.prog wy:=okB yY Go.Proofs.Tryz.func155 A8j
abbrev Afy:=Nat×Unit
abbrev Afu:=Int×Int×List A3×Unit
abbrev Afv:=Int×List A3×Unit
def Dx (i:Afy)(v:Afu)(R:Type)(K:Afu ⊕ Afv->Option R):Option R:=v.2.2.1[i.1]?.bind fun a=>bif decide (v.2.1<(a.2.2.2.2.2.2.2.2.1.length:Int))then v.2.2.1[i.1]?.bind fun b=>if 0<=v.2.1/\v.2.1<(b.2.2.2.2.2.2.2.2.1.length:Int)then v.2.2.1[i.1]?.bind fun c=>c.2.2.2.2.2.2.2.2.1[0+v.2.1.toNat]?.bind fun d=>(v.2.2.1.set i.1 (c.1,c.2.1,c.2.2.1,c.2.2.2.1,c.2.2.2.2.1,c.2.2.2.2.2.1,c.2.2.2.2.2.2.1,c.2.2.2.2.2.2.2.1,c.2.2.2.2.2.2.2.2.1.set (0+v.2.1.toNat) (v.1,d.2.1,()),()))[i.1]?.bind fun e=>if 0<=v.2.1/\v.2.1<(e.2.2.2.2.2.2.2.2.1.length:Int)then(v.2.2.1.set i.1 (c.1,c.2.1,c.2.2.1,c.2.2.2.1,c.2.2.2.2.1,c.2.2.2.2.2.1,c.2.2.2.2.2.2.1,c.2.2.2.2.2.2.2.1,c.2.2.2.2.2.2.2.2.1.set (0+v.2.1.toNat) (v.1,d.2.1,()),()))[i.1]?.bind fun f=>f.2.2.2.2.2.2.2.2.1[0+v.2.1.toNat]?.bind fun g=>K (.inl (IntKind.i64.wrap (IntKind.i64.wrap (v.1+1)+1),IntKind.i64.wrap (v.2.1+1),(v.2.2.1.set i.1 (c.1,c.2.1,c.2.2.1,c.2.2.2.1,c.2.2.2.2.1,c.2.2.2.2.2.1,c.2.2.2.2.2.2.1,c.2.2.2.2.2.2.2.1,c.2.2.2.2.2.2.2.2.1.set (0+v.2.1.toNat) (v.1,d.2.1,()),())).set i.1 (f.1,f.2.1,f.2.2.1,f.2.2.2.1,f.2.2.2.2.1,f.2.2.2.2.2.1,f.2.2.2.2.2.2.1,f.2.2.2.2.2.2.2.1,f.2.2.2.2.2.2.2.2.1.set (0+v.2.1.toNat) (g.1,IntKind.i64.wrap (v.1+1),()),()),()))else none else none else K (.inr (v.1,v.2.2.1,()))
theorem Me:Bg Dx:=fun i v R K=>Ac fun _=>Ae (Ac fun _=>Aq (Ac fun _=>Ac fun _=>Ac fun _=>Aq (Ac fun _=>Ac fun _=>Aa))) (Aa)
def A4u:Tmpl:=⟨(.nown 0 8 (.slot .i (jk 3 (.slot .i (jk 21 .nil))))),(.tree false 0 Ad .nil)⟩
def Aft:Exs Afy Afv:=x1 (.exit 0) fun i p=>⟨jn 1 (.n (p.1)::jn 25 ([])),[some (Cont.tree false 0 Ad p.2.1 none)]⟩
def Afw:=((.i (.v (.v (.v .n)))):Pk A4u.ty _ _)
def Aur:Cfg:={ti:=Aw,ents:=[],ann:=[(2,Ao A4u 1 (spP Afw) Dx Aft.E)],lent:=1}
def GF (x:Nat×Int×List A3×Unit):Option (Int×List A3×Unit):=(AC (fun v=>Dx (x.1,()) v _ some) (x.2.1,0,x.2.2.1,())).bind fun p=>some (p.1,p.2.1,())
def r7:Ent:=⟨156,⟨(.nown 0 8 (.slot .i .nil)),(.tree false 0 Ad .nil)⟩,⟨(.slot .i .nil),(.tree false 0 Ad .nil)⟩,GF⟩
theorem Afz:CfgOK Go.Proofs.Tryz.prog Aur:=hcB all_nil
theorem Auq:B9 Go.Proofs.Tryz.prog Aur (lpc Go.Proofs.Tryz.f156 0):=lkA Afz A4u Afw Dx Aft [1] Me
theorem Afx:Ai Go.Proofs.Tryz.prog r7:=okB Afz Go.Proofs.Tryz.func156 Auq
abbrev Afs:=Unit
abbrev Afo:=Int×Int×List A3×Unit
abbrev Afp:=Int×List A3×Unit
def Bt (i:Afs)(v:Afo)(R:Type)(K:Afo ⊕ Afp->Option R):Option R:=bif decide (v.2.1<(v.2.2.1.length:Int))then if 0<=v.2.1/\v.2.1<(v.2.2.1.length:Int)then v.2.2.1[0+v.2.1.toNat]?.bind fun a=>if 0<=v.2.1/\v.2.1<(↑((v.2.2.1.set (0+v.2.1.toNat) (v.1,a.2.1,a.2.2.1,a.2.2.2.1,a.2.2.2.2.1,a.2.2.2.2.2.1,a.2.2.2.2.2.2.1,a.2.2.2.2.2.2.2.1,a.2.2.2.2.2.2.2.2.1,())).length):Int)then(v.2.2.1.set (0+v.2.1.toNat) (v.1,a.2.1,a.2.2.1,a.2.2.2.1,a.2.2.2.2.1,a.2.2.2.2.2.1,a.2.2.2.2.2.2.1,a.2.2.2.2.2.2.2.1,a.2.2.2.2.2.2.2.2.1,()))[0+v.2.1.toNat]?.bind fun b=>if 0<=v.2.1/\v.2.1<(↑(((v.2.2.1.set (0+v.2.1.toNat) (v.1,a.2.1,a.2.2.1,a.2.2.2.1,a.2.2.2.2.1,a.2.2.2.2.2.1,a.2.2.2.2.2.2.1,a.2.2.2.2.2.2.2.1,a.2.2.2.2.2.2.2.2.1,())).set (0+v.2.1.toNat) (b.1,IntKind.i64.wrap (v.1+1),b.2.2.1,b.2.2.2.1,b.2.2.2.2.1,b.2.2.2.2.2.1,b.2.2.2.2.2.2.1,b.2.2.2.2.2.2.2.1,b.2.2.2.2.2.2.2.2.1,())).length):Int)then((v.2.2.1.set (0+v.2.1.toNat) (v.1,a.2.1,a.2.2.1,a.2.2.2.1,a.2.2.2.2.1,a.2.2.2.2.2.1,a.2.2.2.2.2.2.1,a.2.2.2.2.2.2.2.1,a.2.2.2.2.2.2.2.2.1,())).set (0+v.2.1.toNat) (b.1,IntKind.i64.wrap (v.1+1),b.2.2.1,b.2.2.2.1,b.2.2.2.2.1,b.2.2.2.2.2.1,b.2.2.2.2.2.2.1,b.2.2.2.2.2.2.2.1,b.2.2.2.2.2.2.2.2.1,()))[0+v.2.1.toNat]?.bind fun c=>if 0<=v.2.1/\v.2.1<(↑((((v.2.2.1.set (0+v.2.1.toNat) (v.1,a.2.1,a.2.2.1,a.2.2.2.1,a.2.2.2.2.1,a.2.2.2.2.2.1,a.2.2.2.2.2.2.1,a.2.2.2.2.2.2.2.1,a.2.2.2.2.2.2.2.2.1,())).set (0+v.2.1.toNat) (b.1,IntKind.i64.wrap (v.1+1),b.2.2.1,b.2.2.2.1,b.2.2.2.2.1,b.2.2.2.2.2.1,b.2.2.2.2.2.2.1,b.2.2.2.2.2.2.2.1,b.2.2.2.2.2.2.2.2.1,())).set (0+v.2.1.toNat) (c.1,c.2.1,IntKind.i64.wrap (IntKind.i64.wrap (v.1+1)+1),c.2.2.2.1,c.2.2.2.2.1,c.2.2.2.2.2.1,c.2.2.2.2.2.2.1,c.2.2.2.2.2.2.2.1,c.2.2.2.2.2.2.2.2.1,())).length):Int)then(((v.2.2.1.set (0+v.2.1.toNat) (v.1,a.2.1,a.2.2.1,a.2.2.2.1,a.2.2.2.2.1,a.2.2.2.2.2.1,a.2.2.2.2.2.2.1,a.2.2.2.2.2.2.2.1,a.2.2.2.2.2.2.2.2.1,())).set (0+v.2.1.toNat) (b.1,IntKind.i64.wrap (v.1+1),b.2.2.1,b.2.2.2.1,b.2.2.2.2.1,b.2.2.2.2.2.1,b.2.2.2.2.2.2.1,b.2.2.2.2.2.2.2.1,b.2.2.2.2.2.2.2.2.1,())).set (0+v.2.1.toNat) (c.1,c.2.1,IntKind.i64.wrap (IntKind.i64.wrap (v.1+1)+1),c.2.2.2.1,c.2.2.2.2.1,c.2.2.2.2.2.1,c.2.2.2.2.2.2.1,c.2.2.2.2.2.2.2.1,c.2.2.2.2.2.2.2.2.1,()))[0+v.2.1.toNat]?.bind fun d=>if 0<=v.2.1/\v.2.1<(↑(((((v.2.2.1.set (0+v.2.1.toNat) (v.1,a.2.1,a.2.2.1,a.2.2.2.1,a.2.2.2.2.1,a.2.2.2.2.2.1,a.2.2.2.2.2.2.1,a.2.2.2.2.2.2.2.1,a.2.2.2.2.2.2.2.2.1,())).set (0+v.2.1.toNat) (b.1,IntKind.i64.wrap (v.1+1),b.2.2.1,b.2.2.2.1,b.2.2.2.2.1,b.2.2.2.2.2.1,b.2.2.2.2.2.2.1,b.2.2.2.2.2.2.2.1,b.2.2.2.2.2.2.2.2.1,())).set (0+v.2.1.toNat) (c.1,c.2.1,IntKind.i64.wrap (IntKind.i64.wrap (v.1+1)+1),c.2.2.2.1,c.2.2.2.2.1,c.2.2.2.2.2.1,c.2.2.2.2.2.2.1,c.2.2.2.2.2.2.2.1,c.2.2.2.2.2.2.2.2.1,())).set (0+v.2.1.toNat) (d.1,d.2.1,d.2.2.1,IntKind.i64.wrap (IntKind.i64.wrap (IntKind.i64.wrap (v.1+1)+1)+1),d.2.2.2.2.1,d.2.2.2.2.2.1,d.2.2.2.2.2.2.1,d.2.2.2.2.2.2.2.1,d.2.2.2.2.2.2.2.2.1,())).length):Int)then((((v.2.2.1.set (0+v.2.1.toNat) (v.1,a.2.1,a.2.2.1,a.2.2.2.1,a.2.2.2.2.1,a.2.2.2.2.2.1,a.2.2.2.2.2.2.1,a.2.2.2.2.2.2.2.1,a.2.2.2.2.2.2.2.2.1,())).set (0+v.2.1.toNat) (b.1,IntKind.i64.wrap (v.1+1),b.2.2.1,b.2.2.2.1,b.2.2.2.2.1,b.2.2.2.2.2.1,b.2.2.2.2.2.2.1,b.2.2.2.2.2.2.2.1,b.2.2.2.2.2.2.2.2.1,())).set (0+v.2.1.toNat) (c.1,c.2.1,IntKind.i64.wrap (IntKind.i64.wrap (v.1+1)+1),c.2.2.2.1,c.2.2.2.2.1,c.2.2.2.2.2.1,c.2.2.2.2.2.2.1,c.2.2.2.2.2.2.2.1,c.2.2.2.2.2.2.2.2.1,())).set (0+v.2.1.toNat) (d.1,d.2.1,d.2.2.1,IntKind.i64.wrap (IntKind.i64.wrap (IntKind.i64.wrap (v.1+1)+1)+1),d.2.2.2.2.1,d.2.2.2.2.2.1,d.2.2.2.2.2.2.1,d.2.2.2.2.2.2.2.1,d.2.2.2.2.2.2.2.2.1,()))[0+v.2.1.toNat]?.bind fun e=>if 0<=v.2.1/\v.2.1<(↑((((((v.2.2.1.set (0+v.2.1.toNat) (v.1,a.2.1,a.2.2.1,a.2.2.2.1,a.2.2.2.2.1,a.2.2.2.2.2.1,a.2.2.2.2.2.2.1,a.2.2.2.2.2.2.2.1,a.2.2.2.2.2.2.2.2.1,())).set (0+v.2.1.toNat) (b.1,IntKind.i64.wrap (v.1+1),b.2.2.1,b.2.2.2.1,b.2.2.2.2.1,b.2.2.2.2.2.1,b.2.2.2.2.2.2.1,b.2.2.2.2.2.2.2.1,b.2.2.2.2.2.2.2.2.1,())).set (0+v.2.1.toNat) (c.1,c.2.1,IntKind.i64.wrap (IntKind.i64.wrap (v.1+1)+1),c.2.2.2.1,c.2.2.2.2.1,c.2.2.2.2.2.1,c.2.2.2.2.2.2.1,c.2.2.2.2.2.2.2.1,c.2.2.2.2.2.2.2.2.1,())).set (0+v.2.1.toNat) (d.1,d.2.1,d.2.2.1,IntKind.i64.wrap (IntKind.i64.wrap (IntKind.i64.wrap (v.1+1)+1)+1),d.2.2.2.2.1,d.2.2.2.2.2.1,d.2.2.2.2.2.2.1,d.2.2.2.2.2.2.2.1,d.2.2.2.2.2.2.2.2.1,())).set (0+v.2.1.toNat) (e.1,e.2.1,e.2.2.1,e.2.2.2.1,IntKind.i64.wrap (IntKind.i64.wrap (IntKind.i64.wrap (IntKind.i64.wrap (v.1+1)+1)+1)+1),e.2.2.2.2.2.1,e.2.2.2.2.2.2.1,e.2.2.2.2.2.2.2.1,e.2.2.2.2.2.2.2.2.1,())).length):Int)then(((((v.2.2.1.set (0+v.2.1.toNat) (v.1,a.2.1,a.2.2.1,a.2.2.2.1,a.2.2.2.2.1,a.2.2.2.2.2.1,a.2.2.2.2.2.2.1,a.2.2.2.2.2.2.2.1,a.2.2.2.2.2.2.2.2.1,())).set (0+v.2.1.toNat) (b.1,IntKind.i64.wrap (v.1+1),b.2.2.1,b.2.2.2.1,b.2.2.2.2.1,b.2.2.2.2.2.1,b.2.2.2.2.2.2.1,b.2.2.2.2.2.2.2.1,b.2.2.2.2.2.2.2.2.1,())).set (0+v.2.1.toNat) (c.1,c.2.1,IntKind.i64.wrap (IntKind.i64.wrap (v.1+1)+1),c.2.2.2.1,c.2.2.2.2.1,c.2.2.2.2.2.1,c.2.2.2.2.2.2.1,c.2.2.2.2.2.2.2.1,c.2.2.2.2.2.2.2.2.1,())).set (0+v.2.1.toNat) (d.1,d.2.1,d.2.2.1,IntKind.i64.wrap (IntKind.i64.wrap (IntKind.i64.wrap (v.1+1)+1)+1),d.2.2.2.2.1,d.2.2.2.2.2.1,d.2.2.2.2.2.2.1,d.2.2.2.2.2.2.2.1,d.2.2.2.2.2.2.2.2.1,())).set (0+v.2.1.toNat) (e.1,e.2.1,e.2.2.1,e.2.2.2.1,IntKind.i64.wrap (IntKind.i64.wrap (IntKind.i64.wrap (IntKind.i64.wrap (v.1+1)+1)+1)+1),e.2.2.2.2.2.1,e.2.2.2.2.2.2.1,e.2.2.2.2.2.2.2.1,e.2.2.2.2.2.2.2.2.1,()))[0+v.2.1.toNat]?.bind fun f=>if 0<=v.2.1/\v.2.1<(↑(((((((v.2.2.1.set (0+v.2.1.toNat) (v.1,a.2.1,a.2.2.1,a.2.2.2.1,a.2.2.2.2.1,a.2.2.2.2.2.1,a.2.2.2.2.2.2.1,a.2.2.2.2.2.2.2.1,a.2.2.2.2.2.2.2.2.1,())).set (0+v.2.1.toNat) (b.1,IntKind.i64.wrap (v.1+1),b.2.2.1,b.2.2.2.1,b.2.2.2.2.1,b.2.2.2.2.2.1,b.2.2.2.2.2.2.1,b.2.2.2.2.2.2.2.1,b.2.2.2.2.2.2.2.2.1,())).set (0+v.2.1.toNat) (c.1,c.2.1,IntKind.i64.wrap (IntKind.i64.wrap (v.1+1)+1),c.2.2.2.1,c.2.2.2.2.1,c.2.2.2.2.2.1,c.2.2.2.2.2.2.1,c.2.2.2.2.2.2.2.1,c.2.2.2.2.2.2.2.2.1,())).set (0+v.2.1.toNat) (d.1,d.2.1,d.2.2.1,IntKind.i64.wrap (IntKind.i64.wrap (IntKind.i64.wrap (v.1+1)+1)+1),d.2.2.2.2.1,d.2.2.2.2.2.1,d.2.2.2.2.2.2.1,d.2.2.2.2.2.2.2.1,d.2.2.2.2.2.2.2.2.1,())).set (0+v.2.1.toNat) (e.1,e.2.1,e.2.2.1,e.2.2.2.1,IntKind.i64.wrap (IntKind.i64.wrap (IntKind.i64.wrap (IntKind.i64.wrap (v.1+1)+1)+1)+1),e.2.2.2.2.2.1,e.2.2.2.2.2.2.1,e.2.2.2.2.2.2.2.1,e.2.2.2.2.2.2.2.2.1,())).set (0+v.2.1.toNat) (f.1,f.2.1,f.2.2.1,f.2.2.2.1,f.2.2.2.2.1,IntKind.i64.wrap (IntKind.i64.wrap (IntKind.i64.wrap (IntKind.i64.wrap (IntKind.i64.wrap (v.1+1)+1)+1)+1)+1),f.2.2.2.2.2.2.1,f.2.2.2.2.2.2.2.1,f.2.2.2.2.2.2.2.2.1,())).length):Int)then((((((v.2.2.1.set (0+v.2.1.toNat) (v.1,a.2.1,a.2.2.1,a.2.2.2.1,a.2.2.2.2.1,a.2.2.2.2.2.1,a.2.2.2.2.2.2.1,a.2.2.2.2.2.2.2.1,a.2.2.2.2.2.2.2.2.1,())).set (0+v.2.1.toNat) (b.1,IntKind.i64.wrap (v.1+1),b.2.2.1,b.2.2.2.1,b.2.2.2.2.1,b.2.2.2.2.2.1,b.2.2.2.2.2.2.1,b.2.2.2.2.2.2.2.1,b.2.2.2.2.2.2.2.2.1,())).set (0+v.2.1.toNat) (c.1,c.2.1,IntKind.i64.wrap (IntKind.i64.wrap (v.1+1)+1),c.2.2.2.1,c.2.2.2.2.1,c.2.2.2.2.2.1,c.2.2.2.2.2.2.1,c.2.2.2.2.2.2.2.1,c.2.2.2.2.2.2.2.2.1,())).set (0+v.2.1.toNat) (d.1,d.2.1,d.2.2.1,IntKind.i64.wrap (IntKind.i64.wrap (IntKind.i64.wrap (v.1+1)+1)+1),d.2.2.2.2.1,d.2.2.2.2.2.1,d.2.2.2.2.2.2.1,d.2.2.2.2.2.2.2.1,d.2.2.2.2.2.2.2.2.1,())).set (0+v.2.1.toNat) (e.1,e.2.1,e.2.2.1,e.2.2.2.1,IntKind.i64.wrap (IntKind.i64.wrap (IntKind.i64.wrap (IntKind.i64.wrap (v.1+1)+1)+1)+1),e.2.2.2.2.2.1,e.2.2.2.2.2.2.1,e.2.2.2.2.2.2.2.1,e.2.2.2.2.2.2.2.2.1,())).set (0+v.2.1.toNat) (f.1,f.2.1,f.2.2.1,f.2.2.2.1,f.2.2.2.2.1,IntKind.i64.wrap (IntKind.i64.wrap (IntKind.i64.wrap (IntKind.i64.wrap (IntKind.i64.wrap (v.1+1)+1)+1)+1)+1),f.2.2.2.2.2.2.1,f.2.2.2.2.2.2.2.1,f.2.2.2.2.2.2.2.2.1,()))[0+v.2.1.toNat]?.bind fun g=>if 0<=v.2.1/\v.2.1<(↑((((((((v.2.2.1.set (0+v.2.1.toNat) (v.1,a.2.1,a.2.2.1,a.2.2.2.1,a.2.2.2.2.1,a.2.2.2.2.2.1,a.2.2.2.2.2.2.1,a.2.2.2.2.2.2.2.1,a.2.2.2.2.2.2.2.2.1,())).set (0+v.2.1.toNat) (b.1,IntKind.i64.wrap (v.1+1),b.2.2.1,b.2.2.2.1,b.2.2.2.2.1,b.2.2.2.2.2.1,b.2.2.2.2.2.2.1,b.2.2.2.2.2.2.2.1,b.2.2.2.2.2.2.2.2.1,())).set (0+v.2.1.toNat) (c.1,c.2.1,IntKind.i64.wrap (IntKind.i64.wrap (v.1+1)+1),c.2.2.2.1,c.2.2.2.2.1,c.2.2.2.2.2.1,c.2.2.2.2.2.2.1,c.2.2.2.2.2.2.2.1,c.2.2.2.2.2.2.2.2.1,())).set (0+v.2.1.toNat) (d.1,d.2.1,d.2.2.1,IntKind.i64.wrap (IntKind.i64.wrap (IntKind.i64.wrap (v.1+1)+1)+1),d.2.2.2.2.1,d.2.2.2.2.2.1,d.2.2.2.2.2.2.1,d.2.2.2.2.2.2.2.1,d.2.2.2.2.2.2.2.2.1,())).set (0+v.2.1.toNat) (e.1,e.2.1,e.2.2.1,e.2.2.2.1,IntKind.i64.wrap (IntKind.i64.wrap (IntKind.i64.wrap (IntKind.i64.wrap (v.1+1)+1)+1)+1),e.2.2.2.2.2.1,e.2.2.2.2.2.2.1,e.2.2.2.2.2.2.2.1,e.2.2.2.2.2.2.2.2.1,())).set (0+v.2.1.toNat) (f.1,f.2.1,f.2.2.1,f.2.2.2.1,f.2.2.2.2.1,IntKind.i64.wrap (IntKind.i64.wrap (IntKind.i64.wrap (IntKind.i64.wrap (IntKind.i64.wrap (v.1+1)+1)+1)+1)+1),f.2.2.2.2.2.2.1,f.2.2.2.2.2.2.2.1,f.2.2.2.2.2.2.2.2.1,())).set (0+v.2.1.toNat) (g.1,g.2.1,g.2.2.1,g.2.2.2.1,g.2.2.2.2.1,g.2.2.2.2.2.1,IntKind.i64.wrap (IntKind.i64.wrap (IntKind.i64.wrap (IntKind.i64.wrap (IntKind.i64.wrap (IntKind.i64.wrap (v.1+1)+1)+1)+1)+1)+1),g.2.2.2.2.2.2.2.1,g.2.2.2.2.2.2.2.2.1,())).length):Int)then(((((((v.2.2.1.set (0+v.2.1.toNat) (v.1,a.2.1,a.2.2.1,a.2.2.2.1,a.2.2.2.2.1,a.2.2.2.2.2.1,a.2.2.2.2.2.2.1,a.2.2.2.2.2.2.2.1,a.2.2.2.2.2.2.2.2.1,())).set (0+v.2.1.toNat) (b.1,IntKind.i64.wrap (v.1+1),b.2.2.1,b.2.2.2.1,b.2.2.2.2.1,b.2.2.2.2.2.1,b.2.2.2.2.2.2.1,b.2.2.2.2.2.2.2.1,b.2.2.2.2.2.2.2.2.1,())).set (0+v.2.1.toNat) (c.1,c.2.1,IntKind.i64.wrap (IntKind.i64.wrap (v.1+1)+1),c.2.2.2.1,c.2.2.2.2.1,c.2.2.2.2.2.1,c.2.2.2.2.2.2.1,c.2.2.2.2.2.2.2.1,c.2.2.2.2.2.2.2.2.1,())).set (0+v.2.1.toNat) (d.1,d.2.1,d.2.2.1,IntKind.i64.wrap (IntKind.i64.wrap (IntKind.i64.wrap (v.1+1)+1)+1),d.2.2.2.2.1,d.2.2.2.2.2.1,d.2.2.2.2.2.2.1,d.2.2.2.2.2.2.2.1,d.2.2.2.2.2.2.2.2.1,())).set (0+v.2.1.toNat) (e.1,e.2.1,e.2.2.1,e.2.2.2.1,IntKind.i64.wrap (IntKind.i64.wrap (IntKind.i64.wrap (IntKind.i64.wrap (v.1+1)+1)+1)+1),e.2.2.2.2.2.1,e.2.2.2.2.2.2.1,e.2.2.2.2.2.2.2.1,e.2.2.2.2.2.2.2.2.1,())).set (0+v.2.1.toNat) (f.1,f.2.1,f.2.2.1,f.2.2.2.1,f.2.2.2.2.1,IntKind.i64.wrap (IntKind.i64.wrap (IntKind.i64.wrap (IntKind.i64.wrap (IntKind.i64.wrap (v.1+1)+1)+1)+1)+1),f.2.2.2.2.2.2.1,f.2.2.2.2.2.2.2.1,f.2.2.2.2.2.2.2.2.1,())).set (0+v.2.1.toNat) (g.1,g.2.1,g.2.2.1,g.2.2.2.1,g.2.2.2.2.1,g.2.2.2.2.2.1,IntKind.i64.wrap (IntKind.i64.wrap (IntKind.i64.wrap (IntKind.i64.wrap (IntKind.i64.wrap (IntKind.i64.wrap (v.1+1)+1)+1)+1)+1)+1),g.2.2.2.2.2.2.2.1,g.2.2.2.2.2.2.2.2.1,()))[0+v.2.1.toNat]?.bind fun h=>(FF (0+v.2.1.toNat,IntKind.i64.wrap (IntKind.i64.wrap (IntKind.i64.wrap (IntKind.i64.wrap (IntKind.i64.wrap (IntKind.i64.wrap (IntKind.i64.wrap (v.1+1)+1)+1)+1)+1)+1)+1),((((((v.2.2.1.set (0+v.2.1.toNat) (v.1,a.2.1,a.2.2.1,a.2.2.2.1,a.2.2.2.2.1,a.2.2.2.2.2.1,a.2.2.2.2.2.2.1,a.2.2.2.2.2.2.2.1,a.2.2.2.2.2.2.2.2.1,())).set (0+v.2.1.toNat) (b.1,IntKind.i64.wrap (v.1+1),b.2.2.1,b.2.2.2.1,b.2.2.2.2.1,b.2.2.2.2.2.1,b.2.2.2.2.2.2.1,b.2.2.2.2.2.2.2.1,b.2.2.2.2.2.2.2.2.1,())).set (0+v.2.1.toNat) (c.1,c.2.1,IntKind.i64.wrap (IntKind.i64.wrap (v.1+1)+1),c.2.2.2.1,c.2.2.2.2.1,c.2.2.2.2.2.1,c.2.2.2.2.2.2.1,c.2.2.2.2.2.2.2.1,c.2.2.2.2.2.2.2.2.1,())).set (0+v.2.1.toNat) (d.1,d.2.1,d.2.2.1,IntKind.i64.wrap (IntKind.i64.wrap (IntKind.i64.wrap (v.1+1)+1)+1),d.2.2.2.2.1,d.2.2.2.2.2.1,d.2.2.2.2.2.2.1,d.2.2.2.2.2.2.2.1,d.2.2.2.2.2.2.2.2.1,())).set (0+v.2.1.toNat) (e.1,e.2.1,e.2.2.1,e.2.2.2.1,IntKind.i64.wrap (IntKind.i64.wrap (IntKind.i64.wrap (IntKind.i64.wrap (v.1+1)+1)+1)+1),e.2.2.2.2.2.1,e.2.2.2.2.2.2.1,e.2.2.2.2.2.2.2.1,e.2.2.2.2.2.2.2.2.1,())).set (0+v.2.1.toNat) (f.1,f.2.1,f.2.2.1,f.2.2.2.1,f.2.2.2.2.1,IntKind.i64.wrap (IntKind.i64.wrap (IntKind.i64.wrap (IntKind.i64.wrap (IntKind.i64.wrap (v.1+1)+1)+1)+1)+1),f.2.2.2.2.2.2.1,f.2.2.2.2.2.2.2.1,f.2.2.2.2.2.2.2.2.1,())).set (0+v.2.1.toNat) (g.1,g.2.1,g.2.2.1,g.2.2.2.1,g.2.2.2.2.1,g.2.2.2.2.2.1,IntKind.i64.wrap (IntKind.i64.wrap (IntKind.i64.wrap (IntKind.i64.wrap (IntKind.i64.wrap (IntKind.i64.wrap (v.1+1)+1)+1)+1)+1)+1),g.2.2.2.2.2.2.2.1,g.2.2.2.2.2.2.2.2.1,()),())).bind fun j=>if 0<=v.2.1/\v.2.1<(j.2.1.length:Int)then j.2.1[0+v.2.1.toNat]?.bind fun k=>(GF (0+v.2.1.toNat,j.1,j.2.1,())).bind fun l=>K (.inl (l.1,IntKind.i64.wrap (v.2.1+1),l.2.1,()))else none else none else none else none else none else none else none else none else none else K (.inr (v.1,v.2.2.1,()))
theorem K1:Bg Bt:=fun i v R K=>Ae (Aq (Ac fun _=>Aq (Ac fun _=>Aq (Ac fun _=>Aq (Ac fun _=>Aq (Ac fun _=>Aq (Ac fun _=>Aq (Ac fun _=>Aq (Ac fun _=>Ac fun _=>Aq (Ac fun _=>Ac fun _=>Aa)))))))))) (Aa)
def A4s:Tmpl:=⟨(.own 0 (.slot .i (jk 3 (.slot .i (jk 70 .nil))))),(.tree false 1 Ad .nil)⟩
def Afn:Exs Afs Afp:=x1 (.exit 0) fun i p=>⟨jn 1 (.n (p.1)::jn 74 ([])),[some (Cont.tree false 1 Ad p.2.1 none)]⟩
def Afq:=((.v (.v (.v .n))):Pk A4s.ty _ _)
def A4t:Cfg:={ti:=Aw,ents:=[wy,r7],ann:=[(2,Ao A4s 1 (spP Afq) Bt Afn.E)],lent:=1}
def Et (x:Int×List A3×Unit):Option (Int×List A3×Unit):=(AC (fun v=>Bt () v _ some) (x.1,0,x.2.1,())).bind fun p=>some (p.1,p.2.1,())
def A8i:Ent:=⟨73,⟨(.own 0 (.slot .i .nil)),(.tree false 0 Ad .nil)⟩,⟨(.slot .i .nil),(.tree false 1 Ad .nil)⟩,Et⟩
theorem rN:CfgOK Go.Proofs.Tryz.prog A4t:=hcB (all_cons Ag0 (all_cons Afx all_nil))
theorem Aup:B9 Go.Proofs.Tryz.prog A4t (lpc Go.Proofs.Tryz.f73 0):=lkA rN A4s Afq Bt Afn [1] K1
theorem Afr:Ai Go.Proofs.Tryz.prog A8i:=okB rN Go.Proofs.Tryz.func73 Aup
abbrev Afl:=Unit
abbrev Afh:=Int×Int×List A1×Unit
abbrev Afi:=Int×List A1×Unit
def DZ (i:Afl)(v:Afh)(R:Type)(K:Afh ⊕ Afi->Option R):Option R:=bif decide (v.2.1<(v.2.2.1.length:Int))then if 0<=v.2.1/\v.2.1<(v.2.2.1.length:Int)then v.2.2.1[0+v.2.1.toNat]?.bind fun a=>if 0<=v.2.1/\v.2.1<(↑((v.2.2.1.set (0+v.2.1.toNat) (v.1,a.2.1,())).length):Int)then(v.2.2.1.set (0+v.2.1.toNat) (v.1,a.2.1,()))[0+v.2.1.toNat]?.bind fun b=>K (.inl (IntKind.i64.wrap (IntKind.i64.wrap (v.1+1)+1),IntKind.i64.wrap (v.2.1+1),(v.2.2.1.set (0+v.2.1.toNat) (v.1,a.2.1,())).set (0+v.2.1.toNat) (b.1,IntKind.i64.wrap (v.1+1),()),()))else none else none else K (.inr (v.1,v.2.2.1,()))
theorem N0:Bg DZ:=fun i v R K=>Ae (Aq (Ac fun _=>Aq (Ac fun _=>Aa))) (Aa)
def A4r:Tmpl:=⟨(.own 0 (.slot .i (jk 3 (.slot .i (jk 21 .nil))))),(.lst false A0 .nil)⟩
def Afg:Exs Afl Afi:=x1 (.exit 0) fun i p=>⟨jn 1 (.n (p.1)::jn 25 ([])),[some (Cont.lst false A0 p.2.1)]⟩
def Afj:=((.v (.v (.v .n))):Pk A4r.ty _ _)
def Ao6:Cfg:={ti:=Aw,ents:=[],ann:=[(2,Ao A4r 1 (spP Afj) DZ Afg.E)],lent:=1}
def Hc (x:Int×List A1×Unit):Option (Int×List A1×Unit):=(AC (fun v=>DZ () v _ some) (x.1,0,x.2.1,())).bind fun p=>some (p.1,p.2.1,())
def A39:Ent:=⟨74,⟨(.own 0 (.slot .i .nil)),(.lst false A0 .nil)⟩,⟨(.slot .i .nil),(.lst false A0 .nil)⟩,Hc⟩
theorem Afm:CfgOK Go.Proofs.Tryz.prog Ao6:=hcB all_nil
theorem Auo:B9 Go.Proofs.Tryz.prog Ao6 (lpc Go.Proofs.Tryz.f74 0):=lkA Afm A4r Afj DZ Afg [1] N0
theorem Afk:Ai Go.Proofs.Tryz.prog A39:=okB Afm Go.Proofs.Tryz.func74 Auo
abbrev Aff:=Unit
abbrev Afb:=Int×Int×List A1×Unit
abbrev Afc:=Int×List A1×Unit
def DY (i:Aff)(v:Afb)(R:Type)(K:Afb ⊕ Afc->Option R):Option R:=bif decide (v.2.1<(v.2.2.1.length:Int))then if 0<=v.2.1/\v.2.1<(v.2.2.1.length:Int)then v.2.2.1[0+v.2.1.toNat]?.bind fun a=>if 0<=v.2.1/\v.2.1<(↑((v.2.2.1.set (0+v.2.1.toNat) (v.1,a.2.1,())).length):Int)then(v.2.2.1.set (0+v.2.1.toNat) (v.1,a.2.1,()))[0+v.2.1.toNat]?.bind fun b=>K (.inl (IntKind.i64.wrap (IntKind.i64.wrap (v.1+1)+1),IntKind.i64.wrap (v.2.1+1),(v.2.2.1.set (0+v.2.1.toNat) (v.1,a.2.1,())).set (0+v.2.1.toNat) (b.1,IntKind.i64.wrap (v.1+1),()),()))else none else none else K (.inr (v.1,v.2.2.1,()))
theorem MX:Bg DY:=fun i v R K=>Ae (Aq (Ac fun _=>Aq (Ac fun _=>Aa))) (Aa)
def A4p:Tmpl:=⟨(.own 0 (.slot .i (jk 3 (.slot .i (jk 21 .nil))))),(.lst false A0 .nil)⟩
def Afa:Exs Aff Afc:=x1 (.exit 0) fun i p=>⟨jn 1 (.n (p.1)::jn 25 ([])),[some (Cont.lst false A0 p.2.1)]⟩
def Afd:=((.v (.v (.v .n))):Pk A4p.ty _ _)
def A4q:Cfg:={ti:=Aw,ents:=[],ann:=[(2,Ao A4p 1 (spP Afd) DY Afa.E)],lent:=1}
def Ha (x:Int×List A1×Unit):Option (Int×List A1×Unit):=(AC (fun v=>DY () v _ some) (x.1,0,x.2.1,())).bind fun p=>some (p.1,p.2.1,())
def A38:Ent:=⟨75,⟨(.own 0 (.slot .i .nil)),(.lst false A0 .nil)⟩,⟨(.slot .i .nil),(.lst false A0 .nil)⟩,Ha⟩
theorem rM:CfgOK Go.Proofs.Tryz.prog A4q:=hcB all_nil
theorem Aum:B9 Go.Proofs.Tryz.prog A4q (lpc Go.Proofs.Tryz.f75 0):=lkA rM A4p Afd DY Afa [1] MX
theorem Afe:Ai Go.Proofs.Tryz.prog A38:=okB rM Go.Proofs.Tryz.func75 Aum
def Gb (x:Bool×Int×Int×A7):Option (Int×A7):=(Hb (x.2.2.1,x.2.2.2.1,())).bind fun v=>(Et (v.1,x.2.2.2.2.1,())).bind fun a=>(Hc (a.1,x.2.2.2.2.2.1,())).bind fun b=>(Ha (b.1,x.2.2.2.2.2.2.1,())).bind fun c=>some (c.1,v.2.1,a.2.1,b.2.1,c.2.1,())
def A8h:Ent:=⟨16,⟨(.agg (.slot .bool (.own 0 (.own 1 (.own 2 (.own 3 (.slot .i .nil)))))) (.slot .i .nil)),(.tree false 0 (.slice Af) (.tree false 0 Ad (.lst false A0 (.lst false A0 .nil))))⟩,⟨(.slot .i .nil),(.tree false 0 (.slice Af) (.tree false 1 Ad (.lst false A0 (.lst false A0 .nil))))⟩,Gb⟩
theorem Af9:Ai Go.Proofs.Tryz.prog A8h:=okA (hcA 4 (all_cons Ag1 (all_cons Afr (all_cons Afk (all_cons Afe all_nil))))) Go.Proofs.Tryz.func16
abbrev Af6:=List A2×Unit
abbrev Af3:=Int×Int×Unit
abbrev Af4:=Int×Unit ⊕ Int×Unit ⊕ Int×Unit ⊕ Int×Unit ⊕ Int×Unit ⊕ Int×Unit
def Dy (i:Af6)(v:Af3)(R:Type)(K:Af3 ⊕ Af4->Option R):Option R:=bif decide (v.2.1<(i.1.length:Int))then(lAt i.1 v.2.1).bind fun a=>bif a.1 != v.1 then K (.inr (.inl (v.1,())))else(lAt i.1 v.2.1).bind fun b=>bif b.2.1 != IntKind.i64.wrap (v.1+1)then K (.inr (.inr (.inl (IntKind.i64.wrap (v.1+1),()))))else(lAt i.1 v.2.1).bind fun c=>bif c.2.2.1 != IntKind.i64.wrap (IntKind.i64.wrap (v.1+1)+1)then K (.inr (.inr (.inr (.inl (IntKind.i64.wrap (IntKind.i64.wrap (v.1+1)+1),())))))else(lAt i.1 v.2.1).bind fun d=>bif d.2.2.2.1 != IntKind.i64.wrap (IntKind.i64.wrap (IntKind.i64.wrap (v.1+1)+1)+1)then K (.inr (.inr (.inr (.inr (.inl (IntKind.i64.wrap (IntKind.i64.wrap (IntKind.i64.wrap (v.1+1)+1)+1),()))))))else(lAt i.1 v.2.1).bind fun e=>bif e.2.2.2.2.1 != IntKind.i64.wrap (IntKind.i64.wrap (IntKind.i64.wrap (IntKind.i64.wrap (v.1+1)+1)+1)+1)then K (.inr (.inr (.inr (.inr (.inr (.inl (IntKind.i64.wrap (IntKind.i64.wrap (IntKind.i64.wrap (IntKind.i64.wrap (v.1+1)+1)+1)+1),())))))))else K (.inl (IntKind.i64.wrap (IntKind.i64.wrap (IntKind.i64.wrap (IntKind.i64.wrap (IntKind.i64.wrap (v.1+1)+1)+1)+1)+1),IntKind.i64.wrap (v.2.1+1),()))else K (.inr (.inr (.inr (.inr (.inr (.inr (v.1,())))))))
theorem Mf:Bg Dy:=fun i v R K=>Ae (Ac fun _=>Ae (Aa) (Ac fun _=>Ae (Aa) (Ac fun _=>Ae (Aa) (Ac fun _=>Ae (Aa) (Ac fun _=>Ae (Aa) (Aa)))))) (Aa)
def A4o:Tmpl:=⟨(.slot (.slice Af) (.slot .i (jk 3 (.slot .i (jk 52 .nil))))),.nil⟩
def Af2:Exs Af6 Af4:=xs .ret (fun i p=>⟨jn 1 (.n (p.1)::jn 2 (.n (-1)::jn 53 ([]))),[]⟩)<|xs .ret (fun i p=>⟨jn 1 (.n (p.1)::jn 2 (.n (-1)::jn 53 ([]))),[]⟩)<|xs .ret (fun i p=>⟨jn 1 (.n (p.1)::jn 2 (.n (-1)::jn 53 ([]))),[]⟩)<|xs .ret (fun i p=>⟨jn 1 (.n (p.1)::jn 2 (.n (-1)::jn 53 ([]))),[]⟩)<|xs .ret (fun i p=>⟨jn 1 (.n (p.1)::jn 2 (.n (-1)::jn 53 ([]))),[]⟩)<|x1 (.exit 0) fun i p=>⟨jn 1 (.n (p.1)::jn 56 ([])),[]⟩
def Af5:=((.i (.v (.v .n))):Pk A4o.ty _ _)
def Aul:Cfg:={ti:=Aw,ents:=[],ann:=[(2,Ao A4o 0 (spP Af5) Dy Af2.E)],lent:=0}
def GG (x:List A2×Int×Unit):Option (Int×Unit):=(AC (fun v=>Dy (x.1,()) v _ some) (x.2.1,0,())).bind fun p=>Az p (fun p=>some (-1,())) fun p=>Az p (fun p=>some (-1,())) fun p=>Az p (fun p=>some (-1,())) fun p=>Az p (fun p=>some (-1,())) fun p=>Az p (fun p=>some (-1,())) fun p=>some (p.1,())
def A8g:Ent:=⟨220,⟨(.slot (.slice Af) (.slot .i .nil)),.nil⟩,⟨(.slot .i .nil),.nil⟩,GG⟩
theorem Af7:CfgOK Go.Proofs.Tryz.prog Aul:=hcB all_nil
theorem Auk:B9 Go.Proofs.Tryz.prog Aul (lpc Go.Proofs.Tryz.f220 0):=lkA Af7 A4o Af5 Dy Af2 [1,4] Mf
theorem Azh:Ai Go.Proofs.Tryz.prog A8g:=okB Af7 Go.Proofs.Tryz.func220 Auk
abbrev Af0:=List (List A2)×Unit
abbrev Aex:=Int×Int×Unit
abbrev Aey:=Int×Unit ⊕ Int×Unit
def Cd (i:Af0)(v:Aex)(R:Type)(K:Aex ⊕ Aey->Option R):Option R:=bif decide (v.2.1<(i.1.length:Int))then(lAt i.1 v.2.1).bind fun a=>(GG (a,v.1,())).bind fun b=>bif decide (b.1<0)then K (.inr (.inl (b.1,())))else K (.inl (b.1,IntKind.i64.wrap (v.2.1+1),()))else K (.inr (.inr (v.1,())))
theorem LL:Bg Cd:=fun i v R K=>Ae (Ac fun _=>Ac fun _=>Ae (Aa) (Aa)) (Aa)
def A4n:Tmpl:=⟨(.slot (.slice (.slice Af)) (.slot .i (jk 3 (.slot .i (jk 15 .nil))))),.nil⟩
def Aew:Exs Af0 Aey:=xs .ret (fun i p=>⟨jn 1 (.n (p.1)::jn 2 (.n (-1)::jn 16 ([]))),[]⟩)<|x1 (.exit 0) fun i p=>⟨jn 1 (.n (p.1)::jn 19 ([])),[]⟩
def Aez:=((.i (.v (.v .n))):Pk A4n.ty _ _)
def Auj:Cfg:={ti:=Aw,ents:=[A8g],ann:=[(2,Ao A4n 0 (spP Aez) Cd Aew.E)],lent:=0}
def Gm (x:List (List A2)×Int×Unit):Option (Int×Unit):=(AC (fun v=>Cd (x.1,()) v _ some) (x.2.1,0,())).bind fun p=>Az p (fun p=>some (-1,())) fun p=>some (p.1,())
def Aui:Ent:=⟨157,⟨(.slot (.slice (.slice Af)) (.slot .i .nil)),.nil⟩,⟨(.slot .i .nil),.nil⟩,Gm⟩
theorem Af1:CfgOK Go.Proofs.Tryz.prog Auj:=hcB (all_cons Azh all_nil)
theorem Auh:B9 Go.Proofs.Tryz.prog Auj (lpc Go.Proofs.Tryz.f157 0):=lkA Af1 A4n Aez Cd Aew [1,4] LL
theorem Azg:Ai Go.Proofs.Tryz.prog Aui:=okB Af1 Go.Proofs.Tryz.func157 Auh
def Ie (x:A4×Int×Unit):Option (Int×Unit):=(Gm (x.1.1,x.2.1,())).bind fun v=>bif decide (v.1<0)then some (-1,())else some (v.1,())
def Aug:Ent:=⟨76,⟨(.slot Bp (.slot .i .nil)),.nil⟩,⟨(.slot .i .nil),.nil⟩,Ie⟩
theorem Azf:Ai Go.Proofs.Tryz.prog Aug:=okA (hcA 0 (all_cons Azg all_nil)) Go.Proofs.Tryz.func76
abbrev Aeu:=List A1×Unit
abbrev Aer:=Int×Int×Unit
abbrev Aes:=Int×Unit ⊕ Int×Unit ⊕ Int×Unit
def Dk (i:Aeu)(v:Aer)(R:Type)(K:Aer ⊕ Aes->Option R):Option R:=bif decide (v.2.1<(i.1.length:Int))then(lAt i.1 v.2.1).bind fun a=>bif a.1 != v.1 then K (.inr (.inl (v.1,())))else(lAt i.1 v.2.1).bind fun b=>bif b.2.1 != IntKind.i64.wrap (v.1+1)then K (.inr (.inr (.inl (IntKind.i64.wrap (v.1+1),()))))else K (.inl (IntKind.i64.wrap (IntKind.i64.wrap (v.1+1)+1),IntKind.i64.wrap (v.2.1+1),()))else K (.inr (.inr (.inr (v.1,()))))
theorem LM:Bg Dk:=fun i v R K=>Ae (Ac fun _=>Ae (Aa) (Ac fun _=>Ae (Aa) (Aa))) (Aa)
def A4m:Tmpl:=⟨(.slot (.slice A0) (.slot .i (jk 3 (.slot .i (jk 25 .nil))))),.nil⟩
def Aeq:Exs Aeu Aes:=xs .ret (fun i p=>⟨jn 1 (.n (p.1)::jn 2 (.n (-1)::jn 26 ([]))),[]⟩)<|xs .ret (fun i p=>⟨jn 1 (.n (p.1)::jn 2 (.n (-1)::jn 26 ([]))),[]⟩)<|x1 (.exit 0) fun i p=>⟨jn 1 (.n (p.1)::jn 29 ([])),[]⟩
def Aet:=((.i (.v (.v .n))):Pk A4m.ty _ _)
def Auf:Cfg:={ti:=Aw,ents:=[],ann:=[(2,Ao A4m 0 (spP Aet) Dk Aeq.E)],lent:=0}
def Gn (x:List A1×Int×Unit):Option (Int×Unit):=(AC (fun v=>Dk (x.1,()) v _ some) (x.2.1,0,())).bind fun p=>Az p (fun p=>some (-1,())) fun p=>Az p (fun p=>some (-1,())) fun p=>some (p.1,())
def A8f:Ent:=⟨158,⟨(.slot (.slice A0) (.slot .i .nil)),.nil⟩,⟨(.slot .i .nil),.nil⟩,Gn⟩
theorem Aev:CfgOK Go.Proofs.Tryz.prog Auf:=hcB all_nil
theorem Aue:B9 Go.Proofs.Tryz.prog Auf (lpc Go.Proofs.Tryz.f158 0):=lkA Aev A4m Aet Dk Aeq [1,4] LM
theorem Aze:Ai Go.Proofs.Tryz.prog A8f:=okB Aev Go.Proofs.Tryz.func158 Aue
abbrev Aeo:=List A1×Unit
abbrev Ael:=Int×Int×Unit
abbrev Aem:=Int×Unit ⊕ Int×Unit ⊕ Int×Unit
def ED (i:Aeo)(v:Ael)(R:Type)(K:Ael ⊕ Aem->Option R):Option R:=bif decide (v.2.1<(i.1.length:Int))then(lAt i.1 v.2.1).bind fun a=>bif a.1 != v.1 then K (.inr (.inl (v.1,())))else(lAt i.1 v.2.1).bind fun b=>bif b.2.1 != IntKind.i64.wrap (v.1+1)then K (.inr (.inr (.inl (IntKind.i64.wrap (v.1+1),()))))else K (.inl (IntKind.i64.wrap (IntKind.i64.wrap (v.1+1)+1),IntKind.i64.wrap (v.2.1+1),()))else K (.inr (.inr (.inr (v.1,()))))
theorem Nm:Bg ED:=fun i v R K=>Ae (Ac fun _=>Ae (Aa) (Ac fun _=>Ae (Aa) (Aa))) (Aa)
def A4l:Tmpl:=⟨(.slot (.slice A0) (.slot .i (jk 3 (.slot .i (jk 25 .nil))))),.nil⟩
def Aek:Exs Aeo Aem:=xs .ret (fun i p=>⟨jn 1 (.n (p.1)::jn 2 (.n (-1)::jn 26 ([]))),[]⟩)<|xs .ret (fun i p=>⟨jn 1 (.n (p.1)::jn 2 (.n (-1)::jn 26 ([]))),[]⟩)<|x1 (.exit 0) fun i p=>⟨jn 1 (.n (p.1)::jn 29 ([])),[]⟩
def Aen:=((.i (.v (.v .n))):Pk A4l.ty _ _)
def Aud:Cfg:={ti:=Aw,ents:=[],ann:=[(2,Ao A4l 0 (spP Aen) ED Aek.E)],lent:=0}
def HP (x:List A1×Int×Unit):Option (Int×Unit):=(AC (fun v=>ED (x.1,()) v _ some) (x.2.1,0,())).bind fun p=>Az p (fun p=>some (-1,())) fun p=>Az p (fun p=>some (-1,())) fun p=>some (p.1,())
def A8e:Ent:=⟨159,⟨(.slot (.slice A0) (.slot .i .nil)),.nil⟩,⟨(.slot .i .nil),.nil⟩,HP⟩
theorem Aep:CfgOK Go.Proofs.Tryz.prog Aud:=hcB all_nil
theorem Auc:B9 Go.Proofs.Tryz.prog Aud (lpc Go.Proofs.Tryz.f159 0):=lkA Aep A4l Aen ED Aek [1,4] Nm
theorem Azd:Ai Go.Proofs.Tryz.prog A8e:=okB Aep Go.Proofs.Tryz.func159 Auc
end
end Go.Ab
