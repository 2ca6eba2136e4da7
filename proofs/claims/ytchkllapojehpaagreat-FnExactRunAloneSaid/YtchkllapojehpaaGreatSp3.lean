import Derived.Test.YtchkllapojehpaaGreatSp2
set_option linter.all false
set_option maxRecDepth 100000
namespace Go.Ab
noncomputable section
abbrev eA:=List A3×Unit
abbrev eu:=Int×Int×Unit
abbrev ew:=Int×Unit ⊕ Int×Unit ⊕ Int×Unit ⊕ Int×Unit ⊕ Int×Unit ⊕ Int×Unit ⊕ Int×Unit ⊕ Int×Unit ⊕ Int×Unit ⊕ Int×Unit
def Bv (i:eA)(v:eu)(R:Type)(K:eu ⊕ ew->Option R):Option R:=bif decide (v.2.1<(i.1.length:Int))then(lAt i.1 v.2.1).bind fun a=>bif a.1 != v.1 then K (.inr (.inl (v.1,())))else(lAt i.1 v.2.1).bind fun b=>bif b.2.1 != IntKind.i64.wrap (v.1+1)then K (.inr (.inr (.inl (IntKind.i64.wrap (v.1+1),()))))else(lAt i.1 v.2.1).bind fun c=>bif c.2.2.1 != IntKind.i64.wrap (IntKind.i64.wrap (v.1+1)+1)then K (.inr (.inr (.inr (.inl (IntKind.i64.wrap (IntKind.i64.wrap (v.1+1)+1),())))))else(lAt i.1 v.2.1).bind fun d=>bif d.2.2.2.1 != IntKind.i64.wrap (IntKind.i64.wrap (IntKind.i64.wrap (v.1+1)+1)+1)then K (.inr (.inr (.inr (.inr (.inl (IntKind.i64.wrap (IntKind.i64.wrap (IntKind.i64.wrap (v.1+1)+1)+1),()))))))else(lAt i.1 v.2.1).bind fun e=>bif e.2.2.2.2.1 != IntKind.i64.wrap (IntKind.i64.wrap (IntKind.i64.wrap (IntKind.i64.wrap (v.1+1)+1)+1)+1)then K (.inr (.inr (.inr (.inr (.inr (.inl (IntKind.i64.wrap (IntKind.i64.wrap (IntKind.i64.wrap (IntKind.i64.wrap (v.1+1)+1)+1)+1),())))))))else(lAt i.1 v.2.1).bind fun f=>bif f.2.2.2.2.2.1 != IntKind.i64.wrap (IntKind.i64.wrap (IntKind.i64.wrap (IntKind.i64.wrap (IntKind.i64.wrap (v.1+1)+1)+1)+1)+1)then K (.inr (.inr (.inr (.inr (.inr (.inr (.inl (IntKind.i64.wrap (IntKind.i64.wrap (IntKind.i64.wrap (IntKind.i64.wrap (IntKind.i64.wrap (v.1+1)+1)+1)+1)+1),()))))))))else(lAt i.1 v.2.1).bind fun g=>bif g.2.2.2.2.2.2.1 != IntKind.i64.wrap (IntKind.i64.wrap (IntKind.i64.wrap (IntKind.i64.wrap (IntKind.i64.wrap (IntKind.i64.wrap (v.1+1)+1)+1)+1)+1)+1)then K (.inr (.inr (.inr (.inr (.inr (.inr (.inr (.inl (IntKind.i64.wrap (IntKind.i64.wrap (IntKind.i64.wrap (IntKind.i64.wrap (IntKind.i64.wrap (IntKind.i64.wrap (v.1+1)+1)+1)+1)+1)+1),())))))))))else(lAt i.1 v.2.1).bind fun h=>(Gg (h.2.2.2.2.2.2.2.1,IntKind.i64.wrap (IntKind.i64.wrap (IntKind.i64.wrap (IntKind.i64.wrap (IntKind.i64.wrap (IntKind.i64.wrap (IntKind.i64.wrap (v.1+1)+1)+1)+1)+1)+1)+1),())).bind fun j=>bif decide (j.1<0)then K (.inr (.inr (.inr (.inr (.inr (.inr (.inr (.inr (.inl (j.1,()))))))))))else(lAt i.1 v.2.1).bind fun k=>(Ie (k.2.2.2.2.2.2.2.2.1,j.1,())).bind fun l=>bif decide (l.1<0)then K (.inr (.inr (.inr (.inr (.inr (.inr (.inr (.inr (.inr (.inl (l.1,())))))))))))else K (.inl (l.1,IntKind.i64.wrap (v.2.1+1),()))else K (.inr (.inr (.inr (.inr (.inr (.inr (.inr (.inr (.inr (.inr (v.1,())))))))))))
theorem KI:AX Bv:=fun i v R K=>Ae (Ac fun _=>Ae (Aa) (Ac fun _=>Ae (Aa) (Ac fun _=>Ae (Aa) (Ac fun _=>Ae (Aa) (Ac fun _=>Ae (Aa) (Ac fun _=>Ae (Aa) (Ac fun _=>Ae (Aa) (Ac fun _=>Ac fun _=>Ae (Aa) (Ac fun _=>Ac fun _=>Ae (Aa) (Aa)))))))))) (Aa)
def U1:Tmpl:=⟨(.slot (.slice Ad) (.slot .i (jk 3 (.slot .i (jk 88 .nil))))),.nil⟩
def et:Exs eA ew:=xs .ret (fun i p=>⟨jn 1 (.n (p.1)::jn 2 (.n (-1)::jn 89 ([]))),[]⟩)<|xs .ret (fun i p=>⟨jn 1 (.n (p.1)::jn 2 (.n (-1)::jn 89 ([]))),[]⟩)<|xs .ret (fun i p=>⟨jn 1 (.n (p.1)::jn 2 (.n (-1)::jn 89 ([]))),[]⟩)<|xs .ret (fun i p=>⟨jn 1 (.n (p.1)::jn 2 (.n (-1)::jn 89 ([]))),[]⟩)<|xs .ret (fun i p=>⟨jn 1 (.n (p.1)::jn 2 (.n (-1)::jn 89 ([]))),[]⟩)<|xs .ret (fun i p=>⟨jn 1 (.n (p.1)::jn 2 (.n (-1)::jn 89 ([]))),[]⟩)<|xs .ret (fun i p=>⟨jn 1 (.n (p.1)::jn 2 (.n (-1)::jn 89 ([]))),[]⟩)<|xs .ret (fun i p=>⟨jn 1 (.n (p.1)::jn 2 (.n (-1)::jn 89 ([]))),[]⟩)<|xs .ret (fun i p=>⟨jn 1 (.n (p.1)::jn 2 (.n (-1)::jn 89 ([]))),[]⟩)<|x1 (.exit 0) fun i p=>⟨jn 1 (.n (p.1)::jn 92 ([])),[]⟩
def ez:=((.i (.v (.v .n))):Pk U1.ty _ _)
def uJ:Cfg:={ti:=Ar,ents:=[Wi,Wh],ann:=[(2,Ao U1 0 (spP ez) Bv et.E)],lent:=0}
def Eo (x:List A3×Int×Unit):Option (Int×Unit):=(Ay (fun v=>Bv (x.1,()) v _ some) (x.2.1,0,())).bind fun p=>Au p (fun p=>some (-1,())) fun p=>Au p (fun p=>some (-1,())) fun p=>Au p (fun p=>some (-1,())) fun p=>Au p (fun p=>some (-1,())) fun p=>Au p (fun p=>some (-1,())) fun p=>Au p (fun p=>some (-1,())) fun p=>Au p (fun p=>some (-1,())) fun p=>Au p (fun p=>some (-1,())) fun p=>Au p (fun p=>some (-1,())) fun p=>some (p.1,())
def uI:Ent:=⟨77,⟨(.slot (.slice Ad) (.slot .i .nil)),.nil⟩,⟨(.slot .i .nil),.nil⟩,Eo⟩
theorem eB:CfgOK Go.Proofs.Tryz.prog uJ:=hcB (all_cons A29 (all_cons A28 all_nil))
theorem uH:AP Go.Proofs.Tryz.prog uJ (lpc Go.Proofs.Tryz.f77 0):=lkA eB U1 ez Bv et [1,4] KI
theorem A27:Ah Go.Proofs.Tryz.prog uI:=okB eB Go.Proofs.Tryz.func77 uH
abbrev ep:=List A1×Unit
abbrev ej:=Int×Int×Unit
abbrev ek:=Int×Unit ⊕ Int×Unit ⊕ Int×Unit
def Ep (i:ep)(v:ej)(R:Type)(K:ej ⊕ ek->Option R):Option R:=bif decide (v.2.1<(i.1.length:Int))then(lAt i.1 v.2.1).bind fun a=>bif a.1 != v.1 then K (.inr (.inl (v.1,())))else(lAt i.1 v.2.1).bind fun b=>bif b.2.1 != IntKind.i64.wrap (v.1+1)then K (.inr (.inr (.inl (IntKind.i64.wrap (v.1+1),()))))else K (.inl (IntKind.i64.wrap (IntKind.i64.wrap (v.1+1)+1),IntKind.i64.wrap (v.2.1+1),()))else K (.inr (.inr (.inr (v.1,()))))
theorem Nt:AX Ep:=fun i v R K=>Ae (Ac fun _=>Ae (Aa) (Ac fun _=>Ae (Aa) (Aa))) (Aa)
def U0:Tmpl:=⟨(.slot (.slice A0) (.slot .i (jk 3 (.slot .i (jk 25 .nil))))),.nil⟩
def ei:Exs ep ek:=xs .ret (fun i p=>⟨jn 1 (.n (p.1)::jn 2 (.n (-1)::jn 26 ([]))),[]⟩)<|xs .ret (fun i p=>⟨jn 1 (.n (p.1)::jn 2 (.n (-1)::jn 26 ([]))),[]⟩)<|x1 (.exit 0) fun i p=>⟨jn 1 (.n (p.1)::jn 29 ([])),[]⟩
def eo:=((.i (.v (.v .n))):Pk U0.ty _ _)
def uG:Cfg:={ti:=Ar,ents:=[],ann:=[(2,Ao U0 0 (spP eo) Ep ei.E)],lent:=0}
def IM (x:List A1×Int×Unit):Option (Int×Unit):=(Ay (fun v=>Ep (x.1,()) v _ some) (x.2.1,0,())).bind fun p=>Au p (fun p=>some (-1,())) fun p=>Au p (fun p=>some (-1,())) fun p=>some (p.1,())
def uF:Ent:=⟨78,⟨(.slot (.slice A0) (.slot .i .nil)),.nil⟩,⟨(.slot .i .nil),.nil⟩,IM⟩
theorem er:CfgOK Go.Proofs.Tryz.prog uG:=hcB all_nil
theorem uE:AP Go.Proofs.Tryz.prog uG (lpc Go.Proofs.Tryz.f78 0):=lkA er U0 eo Ep ei [1,4] Nt
theorem A26:Ah Go.Proofs.Tryz.prog uF:=okB er Go.Proofs.Tryz.func78 uE
abbrev eg:=List A1×Unit
abbrev e9:=Int×Int×Unit
abbrev eb:=Int×Unit ⊕ Int×Unit ⊕ Int×Unit
def En (i:eg)(v:e9)(R:Type)(K:e9 ⊕ eb->Option R):Option R:=bif decide (v.2.1<(i.1.length:Int))then(lAt i.1 v.2.1).bind fun a=>bif a.1 != v.1 then K (.inr (.inl (v.1,())))else(lAt i.1 v.2.1).bind fun b=>bif b.2.1 != IntKind.i64.wrap (v.1+1)then K (.inr (.inr (.inl (IntKind.i64.wrap (v.1+1),()))))else K (.inl (IntKind.i64.wrap (IntKind.i64.wrap (v.1+1)+1),IntKind.i64.wrap (v.2.1+1),()))else K (.inr (.inr (.inr (v.1,()))))
theorem Nr:AX En:=fun i v R K=>Ae (Ac fun _=>Ae (Aa) (Ac fun _=>Ae (Aa) (Aa))) (Aa)
def TZ:Tmpl:=⟨(.slot (.slice A0) (.slot .i (jk 3 (.slot .i (jk 25 .nil))))),.nil⟩
def e8:Exs eg eb:=xs .ret (fun i p=>⟨jn 1 (.n (p.1)::jn 2 (.n (-1)::jn 26 ([]))),[]⟩)<|xs .ret (fun i p=>⟨jn 1 (.n (p.1)::jn 2 (.n (-1)::jn 26 ([]))),[]⟩)<|x1 (.exit 0) fun i p=>⟨jn 1 (.n (p.1)::jn 29 ([])),[]⟩
def ed:=((.i (.v (.v .n))):Pk TZ.ty _ _)
def uD:Cfg:={ti:=Ar,ents:=[],ann:=[(2,Ao TZ 0 (spP ed) En e8.E)],lent:=0}
def IK (x:List A1×Int×Unit):Option (Int×Unit):=(Ay (fun v=>En (x.1,()) v _ some) (x.2.1,0,())).bind fun p=>Au p (fun p=>some (-1,())) fun p=>Au p (fun p=>some (-1,())) fun p=>some (p.1,())
def uC:Ent:=⟨79,⟨(.slot (.slice A0) (.slot .i .nil)),.nil⟩,⟨(.slot .i .nil),.nil⟩,IK⟩
theorem eh:CfgOK Go.Proofs.Tryz.prog uD:=hcB all_nil
theorem uB:AP Go.Proofs.Tryz.prog uD (lpc Go.Proofs.Tryz.f79 0):=lkA eh TZ ed En e8 [1,4] Nr
theorem A25:Ah Go.Proofs.Tryz.prog uC:=okB eh Go.Proofs.Tryz.func79 uB
def Gh (x:A5×Int×Unit):Option (Int×Unit):=(IL ((x.1.2.1.1,()),x.2.1,())).bind fun v=>bif decide (v.1<0)then some (-1,())else(Eo (x.1.2.2.1,v.1,())).bind fun v=>bif decide (v.1<0)then some (-1,())else(IM (x.1.2.2.2.1,v.1,())).bind fun v=>bif decide (v.1<0)then some (-1,())else(IK (x.1.2.2.2.2.1,v.1,())).bind fun v=>bif decide (v.1<0)then some (-1,())else some (v.1,())
def ur:Ent:=⟨18,⟨(.slot Bz (.slot .i .nil)),.nil⟩,⟨(.slot .i .nil),.nil⟩,Gh⟩
theorem A22:Ah Go.Proofs.Tryz.prog ur:=okA (hcA 0 (all_cons A2a (all_cons A27 (all_cons A26 (all_cons A25 all_nil))))) Go.Proofs.Tryz.func18
abbrev dY:=List Int×Unit
abbrev dV:=Int×Int×Unit
abbrev dW:=Int×Unit ⊕ Int×Unit
def Fb (i:dY)(v:dV)(R:Type)(K:dV ⊕ dW->Option R):Option R:=bif decide (v.2.1<(i.1.length:Int))then(lAt i.1 v.2.1).bind fun a=>bif a != v.1 then K (.inr (.inl (v.1,())))else K (.inl (IntKind.i64.wrap (v.1+1),IntKind.i64.wrap (v.2.1+1),()))else K (.inr (.inr (v.1,())))
theorem NV:AX Fb:=fun i v R K=>Ae (Ac fun _=>Ae (Aa) (Aa)) (Aa)
def TY:Tmpl:=⟨(.slot (.slice .i) (.slot .i (jk 3 (.slot .i (jk 15 .nil))))),.nil⟩
def dU:Exs dY dW:=xs .ret (fun i p=>⟨jn 1 (.n (p.1)::jn 2 (.n (-1)::jn 16 ([]))),[]⟩)<|x1 (.exit 0) fun i p=>⟨jn 1 (.n (p.1)::jn 19 ([])),[]⟩
def dX:=((.i (.v (.v .n))):Pk TY.ty _ _)
def uq:Cfg:={ti:=Ar,ents:=[],ann:=[(2,Ao TY 0 (spP dX) Fb dU.E)],lent:=0}
def J9 (x:List Int×Int×Unit):Option (Int×Unit):=(Ay (fun v=>Fb (x.1,()) v _ some) (x.2.1,0,())).bind fun p=>Au p (fun p=>some (-1,())) fun p=>some (p.1,())
def Wg:Ent:=⟨28,⟨(.slot (.slice .i) (.slot .i .nil)),.nil⟩,⟨(.slot .i .nil),.nil⟩,J9⟩
theorem dZ:CfgOK Go.Proofs.Tryz.prog uq:=hcB all_nil
theorem uo:AP Go.Proofs.Tryz.prog uq (lpc Go.Proofs.Tryz.f28 0):=lkA dZ TY dX Fb dU [1,4] NV
theorem A21:Ah Go.Proofs.Tryz.prog Wg:=okB dZ Go.Proofs.Tryz.func28 uo
def MS (x:List A6×Int×Unit):Option (Int×Unit):=bif decide (IntKind.i64.wrap (x.2.1-(x.1.length:Int))<0)then some (-1,())else some (IntKind.i64.wrap (x.2.1-(x.1.length:Int)),())
def um:Ent:=⟨29,⟨(.slot (.slice YOp) (.slot .i .nil)),.nil⟩,⟨(.slot .i .nil),.nil⟩,MS⟩
theorem A20:Ah Go.Proofs.Tryz.prog um:=okA (hcA 0 all_nil) Go.Proofs.Tryz.func29
abbrev dR:=List A6×Unit
abbrev dN:=Int×List A6×Unit
abbrev dP:=List A6×Unit
def HZ (i:dR)(v:dN)(R:Type)(K:dN ⊕ dP->Option R):Option R:=bif decide (v.1<(i.1.length:Int))then(lAt i.1 v.1).bind fun a=>(NU ((a.1,a.2.1,a.2.2.1,a.2.2.2.1,a.2.2.2.2.1,a.2.2.2.2.2.1,()),())).bind fun b=>if 0<=v.1/\v.1<(v.2.1.length:Int)then v.2.1[0+v.1.toNat]?.bind fun c=>K (.inl (IntKind.i64.wrap (v.1+1),v.2.1.set (0+v.1.toNat) (b.1,b.2.1,b.2.2.1,b.2.2.2.1,b.2.2.2.2.1,b.2.2.2.2.2.1,()),()))else none else K (.inr (v.2.1,()))
theorem PO:AX HZ:=fun i v R K=>Ae (Ac fun _=>Ac fun _=>Aq (Ac fun _=>Aa)) (Aa)
def TW:Tmpl:=⟨(.slot (.slice YOp) (jk 2 (.own 0 (.slot .i (jk 18 .nil))))),(.lst false YOp .nil)⟩
def dM:Exs dR dP:=x1 (.exit 0) fun i p=>⟨jn 3 (AV.own 0 none none::jn 19 ([])),[some (Cont.lst false YOp p.1)]⟩
def dQ:=((.i (.v (.v .n))):Pk TW.ty _ _)
def ul:Cfg:={ti:=Ar,ents:=[cy],ann:=[(3,Ao TW 0 (spP dQ) HZ dM.E)],lent:=0}
def Hr (x:List A6×Unit):Option (List A6×Unit):=if 0<=(x.1.length:Int)/\(x.1.length:Int)<=(x.1.length:Int)/\(x.1.length:Int)<=(↑733007751850:Int)then(Ay (fun v=>HZ (x.1,()) v _ some) (0,List.replicate ((x.1.length:Int).toNat) (0,0,0,0,0,0,()),())).bind fun p=>some (p.1,())else none
def uk:Ent:=⟨31,⟨(.slot (.slice YOp) .nil),.nil⟩,⟨(.own 0 .nil),(.lst false YOp .nil)⟩,Hr⟩
theorem dS:CfgOK Go.Proofs.Tryz.prog ul:=hcB (all_cons Aak all_nil)
theorem uj:AP Go.Proofs.Tryz.prog ul (lpc Go.Proofs.Tryz.f31 0):=lkA dS TW dQ HZ dM [3] PO
theorem A1z:Ah Go.Proofs.Tryz.prog uk:=okB dS Go.Proofs.Tryz.func31 uj
abbrev dK:=Int×Bool×List (List A2)×List A3×List A1×List A1×Int×Unit
abbrev dH:=Int×List Int×Unit
abbrev dI:=List Int×Unit
def CD (i:dK)(v:dH)(R:Type)(K:dH ⊕ dI->Option R):Option R:=bif decide (v.1<(i.2.2.2.1.length:Int))then(lAt i.2.2.2.1 v.1).bind fun a=>bif a.2.2.1==i.1 then(lAt i.2.2.2.1 v.1).bind fun b=>if(v.2.1++[b.1]).length<=4398046511104 then K (.inl (IntKind.i64.wrap (v.1+1),v.2.1++[b.1],()))else none else K (.inl (IntKind.i64.wrap (v.1+1),v.2.1,()))else K (.inr (v.2.1,()))
theorem L3:AX CD:=fun i v R K=>Ae (Ac fun _=>Ae (Ac fun _=>Aq (Aa)) (Aa)) (Aa)
def TV:Tmpl:=⟨(.junk (.slot .i (.ptr 0 0 0 (jk 2 (.own 1 (.slot .i (jk 26 .nil))))))),(.cells 6 (.slot .bool (.slot (.slice (.slice Af)) (.slot (.slice Ad) (.slot (.slice A0) (.slot (.slice A0) (.slot .i .nil)))))) (.lst false .i .nil))⟩
def dG:Exs dK dI:=x1 (.exit 0) fun i p=>⟨jn 5 (AV.own 1 none none::jn 27 ([])),[some (Cont.cells 6 [[AV.pv .bool i.2.1,AV.pv (.slice (.slice Af)) i.2.2.1,AV.pv (.slice Ad) i.2.2.2.1,AV.pv (.slice A0) i.2.2.2.2.1,AV.pv (.slice A0) i.2.2.2.2.2.1,AV.pv .i i.2.2.2.2.2.2.1]]),some (Cont.lst false .i p.1)]⟩
def dJ:=((.i (.v (.i (.i (.i (.i (.i (.i (.v .n))))))))):Pk TV.ty _ _)
def ui:Cfg:={ti:=Ar,ents:=[],ann:=[(3,Ao TV 0 (spP dJ) CD dG.E)],lent:=0}
def Fw (x:A5×Int×Unit):Option (List Int×Unit):=(Ay (fun v=>CD (x.2.1,x.1.1,x.1.2.1.1,x.1.2.2.1,x.1.2.2.2.1,x.1.2.2.2.2.1,x.1.2.2.2.2.2.1,()) v _ some) (0,[],())).bind fun p=>some (p.1,())
def uh:Ent:=⟨165,⟨(.slot Bz (.slot .i .nil)),.nil⟩,⟨(.own 0 .nil),(.lst false .i .nil)⟩,Fw⟩
theorem dL:CfgOK Go.Proofs.Tryz.prog ui:=hcB all_nil
theorem ug:AP Go.Proofs.Tryz.prog ui (lpc Go.Proofs.Tryz.f165 0):=lkA dL TV dJ CD dG [5] L3
theorem A1y:Ah Go.Proofs.Tryz.prog uh:=okB dL Go.Proofs.Tryz.func165 ug
def Hg (x:A5×Unit):Option (Bool×Unit):=(Ea ((x.1.1,(x.1.2.1.1,()),x.1.2.2.1,x.1.2.2.2.1,x.1.2.2.2.2.1,x.1.2.2.2.2.2.1,()),())).bind fun v=>bif v.1 then(Fw ((x.1.1,(x.1.2.1.1,()),x.1.2.2.1,x.1.2.2.2.1,x.1.2.2.2.2.1,x.1.2.2.2.2.2.1,()),1,())).bind fun v=>some ((v.1.length:Int)==0,())else some (false,())
def Wf:Ent:=⟨87,⟨(.slot Bz .nil),.nil⟩,⟨(.slot .bool .nil),.nil⟩,Hg⟩
theorem A1x:Ah Go.Proofs.Tryz.prog Wf:=okA (hcA 0 (all_cons rP (all_cons A1y all_nil))) Go.Proofs.Tryz.func87
abbrev dE:=List A6×Unit
abbrev dB:=Int×Unit
abbrev dC:=Unit ⊕ Unit ⊕ Unit ⊕ Unit ⊕ Unit ⊕ Unit ⊕ Unit ⊕ Unit ⊕ Unit
def Ek (i:dE)(v:dB)(R:Type)(K:dB ⊕ dC->Option R):Option R:=bif decide (v.1<(i.1.length:Int))then(lAt i.1 v.1).bind fun a=>bif a.1==5 then(lAt i.1 v.1).bind fun b=>(DX ((b.1,b.2.1,b.2.2.1,b.2.2.2.1,b.2.2.2.2.1,b.2.2.2.2.2.1,()),())).bind fun c=>bif !c.1 then K (.inr (.inl ()))else(lAt i.1 v.1).bind fun d=>(lAt i.1 0).bind fun e=>bif d.2.1 != e.2.1 then K (.inr (.inr (.inl ())))else(lAt i.1 v.1).bind fun f=>bif !(f.1==1)==(v.1==0)then K (.inr (.inr (.inr (.inl ()))))else bif !true==(v.1==IntKind.i64.wrap ((i.1.length:Int)-1))then K (.inr (.inr (.inr (.inr (.inl ())))))else K (.inl (IntKind.i64.wrap (v.1+1),()))else(lAt i.1 v.1).bind fun b=>(lAt i.1 v.1).bind fun c=>(DX ((c.1,c.2.1,c.2.2.1,c.2.2.2.1,c.2.2.2.2.1,c.2.2.2.2.2.1,()),())).bind fun d=>bif !d.1 then K (.inr (.inr (.inr (.inr (.inr (.inl ()))))))else(lAt i.1 v.1).bind fun e=>(lAt i.1 0).bind fun f=>bif e.2.1 != f.2.1 then K (.inr (.inr (.inr (.inr (.inr (.inr (.inl ())))))))else(lAt i.1 v.1).bind fun g=>bif !(g.1==1)==(v.1==0)then K (.inr (.inr (.inr (.inr (.inr (.inr (.inr (.inl ()))))))))else bif !(b.1==6)==(v.1==IntKind.i64.wrap ((i.1.length:Int)-1))then K (.inr (.inr (.inr (.inr (.inr (.inr (.inr (.inr (.inl ())))))))))else K (.inl (IntKind.i64.wrap (v.1+1),()))else K (.inr (.inr (.inr (.inr (.inr (.inr (.inr (.inr (.inr ())))))))))
theorem Nj:AX Ek:=fun i v R K=>Ae (Ac fun _=>Ae (Ac fun _=>Ac fun _=>Ae (Aa) (Ac fun _=>Ac fun _=>Ae (Aa) (Ac fun _=>Ae (Aa) (Ae (Aa) (Aa))))) (Ac fun _=>Ac fun _=>Ac fun _=>Ae (Aa) (Ac fun _=>Ac fun _=>Ae (Aa) (Ac fun _=>Ae (Aa) (Ae (Aa) (Aa)))))) (Aa)
def TU:Tmpl:=⟨(.slot (.slice YOp) (jk 2 (.slot .i (jk 62 .nil)))),.nil⟩
def dA:Exs dE dC:=xs .ret (fun i p=>⟨AV.pv (.slice YOp) i.1::jn 1 (.b (false)::jn 63 ([])),[]⟩)<|xs .ret (fun i p=>⟨AV.pv (.slice YOp) i.1::jn 1 (.b (false)::jn 63 ([])),[]⟩)<|xs .ret (fun i p=>⟨AV.pv (.slice YOp) i.1::jn 1 (.b (false)::jn 63 ([])),[]⟩)<|xs .ret (fun i p=>⟨AV.pv (.slice YOp) i.1::jn 1 (.b (false)::jn 63 ([])),[]⟩)<|xs .ret (fun i p=>⟨AV.pv (.slice YOp) i.1::jn 1 (.b (false)::jn 63 ([])),[]⟩)<|xs .ret (fun i p=>⟨AV.pv (.slice YOp) i.1::jn 1 (.b (false)::jn 63 ([])),[]⟩)<|xs .ret (fun i p=>⟨AV.pv (.slice YOp) i.1::jn 1 (.b (false)::jn 63 ([])),[]⟩)<|xs .ret (fun i p=>⟨AV.pv (.slice YOp) i.1::jn 1 (.b (false)::jn 63 ([])),[]⟩)<|x1 (.exit 0) fun i p=>⟨AV.pv (.slice YOp) i.1::jn 65 ([]),[]⟩
def dD:=((.i (.v .n)):Pk TU.ty _ _)
def uf:Cfg:={ti:=Ar,ents:=[Tt,Ly],ann:=[(2,Ao TU 0 (spP dD) Ek dA.E)],lent:=0}
def ID (x:List A6×Unit):Option (Bool×Unit):=(Ay (fun v=>Ek (x.1,()) v _ some) (0,())).bind fun p=>Au p (fun p=>some (false,())) fun p=>Au p (fun p=>some (false,())) fun p=>Au p (fun p=>some (false,())) fun p=>Au p (fun p=>some (false,())) fun p=>Au p (fun p=>some (false,())) fun p=>Au p (fun p=>some (false,())) fun p=>Au p (fun p=>some (false,())) fun p=>Au p (fun p=>some (false,())) fun p=>(Am ((x.1.length:Int),2,12,())).bind fun v=>some (v.1,())
def We:Ent:=⟨88,⟨(.slot (.slice YOp) .nil),.nil⟩,⟨(.slot .bool .nil),.nil⟩,ID⟩
theorem dF:CfgOK Go.Proofs.Tryz.prog uf:=hcB (all_cons rI (all_cons Jx all_nil))
theorem ue:AP Go.Proofs.Tryz.prog uf (lpc Go.Proofs.Tryz.f88 0):=lkA dF TU dD Ek dA [0,2] Nj
theorem A1w:Ah Go.Proofs.Tryz.prog We:=okB dF Go.Proofs.Tryz.func88 ue
abbrev dy:=List A6×Bool×Int×Unit
abbrev dv:=Bool×Int×Bool×Int×List (List A2)×List A3×List A1×List A1×List (Int×List Int×Unit)×Unit
abbrev dw:=Bool×Bool×Int×List (List A2)×List A3×List A1×List A1×List (Int×List Int×Unit)×Unit
def F5 (i:dy)(v:dv)(R:Type)(K:dv ⊕ dw->Option R):Option R:=bif decide (v.2.1<(i.1.length:Int))then(lAt i.1 v.2.1).bind fun a=>(I8 ((v.2.2.1,(v.2.2.2.2.1,()),v.2.2.2.2.2.1,v.2.2.2.2.2.2.1,v.2.2.2.2.2.2.2.1,v.2.2.2.1,()),(a.1,a.2.1,a.2.2.1,a.2.2.2.1,a.2.2.2.2.1,a.2.2.2.2.2.1,()),())).bind fun b=>if(v.2.2.2.2.2.2.2.2.1++[(b.2.2.1,b.2.2.2.2.2.2.2.1,())]).length<=1099511627776 then bif v.1 then K (.inl (b.2.2.1==0,IntKind.i64.wrap (v.2.1+1),b.1,b.2.1,b.2.2.2.1,b.2.2.2.2.1,b.2.2.2.2.2.1,b.2.2.2.2.2.2.1,v.2.2.2.2.2.2.2.2.1++[(b.2.2.1,b.2.2.2.2.2.2.2.1,())],()))else K (.inl (false,IntKind.i64.wrap (v.2.1+1),b.1,b.2.1,b.2.2.2.1,b.2.2.2.2.1,b.2.2.2.2.2.1,b.2.2.2.2.2.2.1,v.2.2.2.2.2.2.2.2.1++[(b.2.2.1,b.2.2.2.2.2.2.2.1,())],()))else none else K (.inr (v.1,v.2.2.1,v.2.2.2.1,v.2.2.2.2.1,v.2.2.2.2.2.1,v.2.2.2.2.2.2.1,v.2.2.2.2.2.2.2.1,v.2.2.2.2.2.2.2.2.1,()))
theorem ND:AX F5:=fun i v R K=>Ae (Ac fun _=>Ac fun _=>Aq (Ae (Aa) (Aa))) (Aa)
def TT:Tmpl:=⟨(.junk (.slot (.slice YOp) (jk 2 (.ptr 0 0 0 (jk 2 (.ptr 1 0 0 (.own 6 (.slot .bool (.slot .i (jk 44 .nil)))))))))),(.cells 6 (.slot .bool (.const (AV.nils) (.const (AV.nils) (.const (AV.nils) (.const (AV.nils) (.slot .i .nil)))))) (.cells 6 (.slot .bool (.own 2 (.own 3 (.own 4 (.own 5 (.slot .i .nil)))))) (.tree false 1 (.slice Af) (.lst false Ad (.lst false A0 (.lst false A0 (.tree false 0 Gy .nil)))))))⟩
def du:Exs dy dw:=x1 (.exit 0) fun i p=>⟨jn 4 (AV.ptr 0 none 0 0::jn 2 (AV.ptr 1 none 0 0::AV.own 6 none none::.b (p.1)::jn 45 ([]))),[some (Cont.cells 6 [[AV.pv .bool i.2.1,AV.nils,AV.nils,AV.nils,AV.nils,AV.pv .i i.2.2.1]]),some (Cont.cells 6 [[AV.pv .bool p.2.1,AV.own 2 none none,AV.own 3 none none,AV.own 4 none none,AV.own 5 none none,AV.pv .i p.2.2.1]]),some (Cont.tree false 1 (.slice Af) p.2.2.2.1 none),some (Cont.lst false Ad p.2.2.2.2.1),some (Cont.lst false A0 p.2.2.2.2.2.1),some (Cont.lst false A0 p.2.2.2.2.2.2.1),some (Cont.tree false 0 Gy p.2.2.2.2.2.2.2.1 none)]⟩
def dx:=((.i (.v (.v (.i (.i (.v (.v (.v (.v (.v (.v (.v .n)))))))))))):Pk TT.ty _ _)
def ud:Cfg:={ti:=Ar,ents:=[TC,Wf,We,bp],ann:=[(7,Ao TT 0 (spP dx) F5 du.E)],lent:=0}
def J5 (x:A5×List A6×Unit):Option (Bool×Int×Bool×List (List A2)×List A3×List A1×List A1×List (Int×List Int×Unit)×Unit):=(Il ((x.1.1,(x.1.2.1.1,()),x.1.2.2.1,x.1.2.2.2.1,x.1.2.2.2.2.1,x.1.2.2.2.2.2.1,()),())).bind fun v=>(Hg ((x.1.1,(x.1.2.1.1,()),x.1.2.2.1,x.1.2.2.2.1,x.1.2.2.2.2.1,x.1.2.2.2.2.2.1,()),())).bind fun a=>bif !a.1 then some (v.1,v.2.1,false,v.2.2.1,v.2.2.2.1,v.2.2.2.2.1,v.2.2.2.2.2.1,[],())else(ID (x.2.1,())).bind fun b=>bif !b.1 then some (v.1,v.2.1,false,v.2.2.1,v.2.2.2.1,v.2.2.2.2.1,v.2.2.2.2.2.1,[],())else(Ay (fun v=>F5 (x.2.1,false,0,()) v _ some) (true,0,v.1,v.2.1,v.2.2.1,v.2.2.2.1,v.2.2.2.2.1,v.2.2.2.2.2.1,[],())).bind fun p=>some (p.2.1,p.2.2.1,p.1,p.2.2.2.1,p.2.2.2.2.1,p.2.2.2.2.2.1,p.2.2.2.2.2.2.1,p.2.2.2.2.2.2.2.1,())
def uc:Ent:=⟨43,⟨(.slot Bz (.slot (.slice YOp) .nil)),.nil⟩,⟨(.agg (.slot .bool (.own 0 (.own 1 (.own 2 (.own 3 (.slot .i .nil)))))) (.own 4 (.slot .bool .nil))),(.tree false 1 (.slice Af) (.lst false Ad (.lst false A0 (.lst false A0 (.tree false 0 Gy .nil)))))⟩,J5⟩
theorem dz:CfgOK Go.Proofs.Tryz.prog ud:=hcB (all_cons tm (all_cons A1x (all_cons A1w (all_cons A9l all_nil))))
theorem ub:AP Go.Proofs.Tryz.prog ud (lpc Go.Proofs.Tryz.f43 0):=lkA dz TT dx F5 du [4,7,8,9] ND
theorem A1v:Ah Go.Proofs.Tryz.prog uc:=okB dz Go.Proofs.Tryz.func43 ub
abbrev dr:=Int×List A3×Int×Unit
abbrev dn:=Int×List Int×Unit
abbrev dp:=List Int×Unit
def CH (i:dr)(v:dn)(R:Type)(K:dn ⊕ dp->Option R):Option R:=bif decide (v.1<i.2.2.1)then(lAt i.2.1 v.1).bind fun a=>bif a.2.2.1==i.1 then if(v.2.1++[a.1]).length<=4398046511104 then K (.inl (IntKind.i64.wrap (v.1+1),v.2.1++[a.1],()))else none else K (.inl (IntKind.i64.wrap (v.1+1),v.2.1,()))else K (.inr (v.2.1,()))
theorem Lk:AX CH:=fun i v R K=>Ae (Ac fun _=>Ae (Aq (Aa)) (Aa)) (Aa)
def TS:Tmpl:=⟨(.junk (.slot .i (jk 3 (.own 0 (jk 4 (.slot (.slice Ad) (si 2 (jk 14 .nil)))))))),(.lst false .i .nil)⟩
def dm:Exs dr dp:=x1 (.exit 0) fun i p=>⟨jn 5 (AV.own 0 none none::jn 21 ([])),[some (Cont.lst false .i p.1)]⟩
def dq:=((.i (.i (.i (.v (.v .n))))):Pk TS.ty _ _)
def ua:Cfg:={ti:=Ar,ents:=[],ann:=[(3,Ao TS 0 (spP dq) CH dm.E)],lent:=0}
def FD (x:A5×Int×Unit):Option (List Int×Unit):=(Ay (fun v=>CH (x.2.1,x.1.2.2.1,(x.1.2.2.1.length:Int),()) v _ some) (0,[],())).bind fun p=>some (p.1,())
def u9:Ent:=⟨160,⟨(.slot Bz (.slot .i .nil)),.nil⟩,⟨(.own 0 .nil),(.lst false .i .nil)⟩,FD⟩
theorem dt:CfgOK Go.Proofs.Tryz.prog ua:=hcB all_nil
theorem u7:AP Go.Proofs.Tryz.prog ua (lpc Go.Proofs.Tryz.f160 0):=lkA dt TS dq CH dm [5] Lk
theorem A1t:Ah Go.Proofs.Tryz.prog u9:=okB dt Go.Proofs.Tryz.func160 u7
def HH (x:A5×Unit):Option (Bool×Unit):=(Gl ((x.1.1,(x.1.2.1.1,()),x.1.2.2.1,x.1.2.2.2.1,x.1.2.2.2.2.1,x.1.2.2.2.2.2.1,()),())).bind fun v=>bif v.1 then(FD ((x.1.1,(x.1.2.1.1,()),x.1.2.2.1,x.1.2.2.2.1,x.1.2.2.2.2.1,x.1.2.2.2.2.2.1,()),1,())).bind fun v=>some ((v.1.length:Int)==0,())else some (false,())
def Wd:Ent:=⟨89,⟨(.slot Bz .nil),.nil⟩,⟨(.slot .bool .nil),.nil⟩,HH⟩
theorem A1s:Ah Go.Proofs.Tryz.prog Wd:=okA (hcA 0 (all_cons A50 (all_cons A1t all_nil))) Go.Proofs.Tryz.func89
abbrev dk:=List A6×List A6×Int×Unit
abbrev dh:=Int×Unit
abbrev di:=A6 ⊕ A6 ⊕ A6 ⊕ A6 ⊕ A6 ⊕ A6 ⊕ A6 ⊕ A6 ⊕ Unit
def Ev (i:dk)(v:dh)(R:Type)(K:dh ⊕ di->Option R):Option R:=bif decide (v.1<i.2.2.1)then(lAt i.2.1 v.1).bind fun a=>bif a.1==5 then(Ff ((a.1,a.2.1,a.2.2.1,a.2.2.2.1,a.2.2.2.2.1,a.2.2.2.2.2.1,()),())).bind fun b=>bif !b.1 then K (.inr (.inl (a.1,a.2.1,a.2.2.1,a.2.2.2.1,a.2.2.2.2.1,a.2.2.2.2.2.1,())))else(lAt i.1 0).bind fun c=>bif a.2.1 != c.2.1 then K (.inr (.inr (.inl (a.1,a.2.1,a.2.2.1,a.2.2.2.1,a.2.2.2.2.1,a.2.2.2.2.2.1,()))))else bif !(a.1==1)==(v.1==0)then K (.inr (.inr (.inr (.inl (a.1,a.2.1,a.2.2.1,a.2.2.2.1,a.2.2.2.2.1,a.2.2.2.2.2.1,())))))else bif !true==(v.1==IntKind.i64.wrap ((i.1.length:Int)-1))then K (.inr (.inr (.inr (.inr (.inl (a.1,a.2.1,a.2.2.1,a.2.2.2.1,a.2.2.2.2.1,a.2.2.2.2.2.1,()))))))else K (.inl (IntKind.i64.wrap (v.1+1),()))else(Ff ((a.1,a.2.1,a.2.2.1,a.2.2.2.1,a.2.2.2.2.1,a.2.2.2.2.2.1,()),())).bind fun b=>bif !b.1 then K (.inr (.inr (.inr (.inr (.inr (.inl (a.1,a.2.1,a.2.2.1,a.2.2.2.1,a.2.2.2.2.1,a.2.2.2.2.2.1,())))))))else(lAt i.1 0).bind fun c=>bif a.2.1 != c.2.1 then K (.inr (.inr (.inr (.inr (.inr (.inr (.inl (a.1,a.2.1,a.2.2.1,a.2.2.2.1,a.2.2.2.2.1,a.2.2.2.2.2.1,()))))))))else bif !(a.1==1)==(v.1==0)then K (.inr (.inr (.inr (.inr (.inr (.inr (.inr (.inl (a.1,a.2.1,a.2.2.1,a.2.2.2.1,a.2.2.2.2.1,a.2.2.2.2.2.1,())))))))))else bif !(a.1==6)==(v.1==IntKind.i64.wrap ((i.1.length:Int)-1))then K (.inr (.inr (.inr (.inr (.inr (.inr (.inr (.inr (.inl (a.1,a.2.1,a.2.2.1,a.2.2.2.1,a.2.2.2.2.1,a.2.2.2.2.2.1,()))))))))))else K (.inl (IntKind.i64.wrap (v.1+1),()))else K (.inr (.inr (.inr (.inr (.inr (.inr (.inr (.inr (.inr ())))))))))
theorem Nx:AX Ev:=fun i v R K=>Ae (Ac fun _=>Ae (Ac fun _=>Ae (Aa) (Ac fun _=>Ae (Aa) (Ae (Aa) (Ae (Aa) (Aa))))) (Ac fun _=>Ae (Aa) (Ac fun _=>Ae (Aa) (Ae (Aa) (Ae (Aa) (Aa)))))) (Aa)
def TR:Tmpl:=⟨(.slot (.slice YOp) (jk 9 (.slot (.slice YOp) (si 2 (jk 42 .nil))))),.nil⟩
def dg:Exs dk di:=xs .ret (fun i p=>⟨jn 2 (.b (false)::jn 52 ([])),[some (Cont.cells 6 [[AV.pv .i p.1,AV.pv .i p.2.1,AV.pv .i p.2.2.1,AV.pv .i p.2.2.2.1,AV.pv .i p.2.2.2.2.1,AV.pv .i p.2.2.2.2.2.1]])]⟩)<|xs .ret (fun i p=>⟨jn 2 (.b (false)::jn 52 ([])),[some (Cont.cells 6 [[AV.pv .i p.1,AV.pv .i p.2.1,AV.pv .i p.2.2.1,AV.pv .i p.2.2.2.1,AV.pv .i p.2.2.2.2.1,AV.pv .i p.2.2.2.2.2.1]])]⟩)<|xs .ret (fun i p=>⟨jn 2 (.b (false)::jn 52 ([])),[some (Cont.cells 6 [[AV.pv .i p.1,AV.pv .i p.2.1,AV.pv .i p.2.2.1,AV.pv .i p.2.2.2.1,AV.pv .i p.2.2.2.2.1,AV.pv .i p.2.2.2.2.2.1]])]⟩)<|xs .ret (fun i p=>⟨jn 2 (.b (false)::jn 52 ([])),[some (Cont.cells 6 [[AV.pv .i p.1,AV.pv .i p.2.1,AV.pv .i p.2.2.1,AV.pv .i p.2.2.2.1,AV.pv .i p.2.2.2.2.1,AV.pv .i p.2.2.2.2.2.1]])]⟩)<|xs .ret (fun i p=>⟨jn 2 (.b (false)::jn 52 ([])),[some (Cont.cells 6 [[AV.pv .i p.1,AV.pv .i p.2.1,AV.pv .i p.2.2.1,AV.pv .i p.2.2.2.1,AV.pv .i p.2.2.2.2.1,AV.pv .i p.2.2.2.2.2.1]])]⟩)<|xs .ret (fun i p=>⟨jn 2 (.b (false)::jn 52 ([])),[some (Cont.cells 6 [[AV.pv .i p.1,AV.pv .i p.2.1,AV.pv .i p.2.2.1,AV.pv .i p.2.2.2.1,AV.pv .i p.2.2.2.2.1,AV.pv .i p.2.2.2.2.2.1]])]⟩)<|xs .ret (fun i p=>⟨jn 2 (.b (false)::jn 52 ([])),[some (Cont.cells 6 [[AV.pv .i p.1,AV.pv .i p.2.1,AV.pv .i p.2.2.1,AV.pv .i p.2.2.2.1,AV.pv .i p.2.2.2.2.1,AV.pv .i p.2.2.2.2.2.1]])]⟩)<|xs .ret (fun i p=>⟨jn 2 (.b (false)::jn 52 ([])),[some (Cont.cells 6 [[AV.pv .i p.1,AV.pv .i p.2.1,AV.pv .i p.2.2.1,AV.pv .i p.2.2.2.1,AV.pv .i p.2.2.2.2.1,AV.pv .i p.2.2.2.2.2.1]])]⟩)<|x1 (.exit 0) fun i p=>⟨jn 55 ([]),[]⟩
def dj:=((.i (.i (.i (.v .n)))):Pk TR.ty _ _)
def u6:Cfg:={ti:=Ar,ents:=[Tg,Xk],ann:=[(4,Ao TR 0 (spP dj) Ev dg.E)],lent:=0}
def IQ (x:List A6×Unit):Option (Bool×Unit):=(BB ((x.1.length:Int),2,12,())).bind fun v=>bif !v.1 then some (false,())else(Ay (fun v=>Ev (x.1,x.1,(x.1.length:Int),()) v _ some) (0,())).bind fun p=>Au p (fun p=>some (false,())) fun p=>Au p (fun p=>some (false,())) fun p=>Au p (fun p=>some (false,())) fun p=>Au p (fun p=>some (false,())) fun p=>Au p (fun p=>some (false,())) fun p=>Au p (fun p=>some (false,())) fun p=>Au p (fun p=>some (false,())) fun p=>Au p (fun p=>some (false,())) fun p=>some (true,())
def Wc:Ent:=⟨90,⟨(.slot (.slice YOp) .nil),.nil⟩,⟨(.slot .bool .nil),.nil⟩,IQ⟩
theorem dl:CfgOK Go.Proofs.Tryz.prog u6:=hcB (all_cons L7 (all_cons A4z all_nil))
theorem u5:AP Go.Proofs.Tryz.prog u6 (lpc Go.Proofs.Tryz.f90 0):=lkA dl TR dj Ev dg [2] Nx
theorem A1r:Ah Go.Proofs.Tryz.prog Wc:=okB dl Go.Proofs.Tryz.func90 u5
abbrev de:=Int×List (Int×List Int×Unit)×Int×Unit
abbrev d9:=Int×Int×Unit
abbrev da:=Int×Unit
def Ew (i:de)(v:d9)(R:Type)(K:d9 ⊕ da->Option R):Option R:=bif decide (v.2.1<i.2.2.1)then(lAt i.2.1 v.2.1).bind fun a=>bif a.1==i.1 then K (.inl (IntKind.i64.wrap (v.1+1),IntKind.i64.wrap (v.2.1+1),()))else K (.inl (v.1,IntKind.i64.wrap (v.2.1+1),()))else K (.inr (v.1,()))
theorem Ny:AX Ew:=fun i v R K=>Ae (Ac fun _=>Ae (Aa) (Aa)) (Aa)
def TQ:Tmpl:=⟨(.junk (.slot .i (jk 3 (.slot .i (jk 2 (.slot (.slice Gy) (si 2 (jk 11 .nil)))))))),.nil⟩
def d8:Exs de da:=x1 (.exit 0) fun i p=>⟨jn 5 (.n (p.1)::jn 16 ([])),[]⟩
def db:=((.i (.v (.i (.i (.v .n))))):Pk TQ.ty _ _)
def tZ:Cfg:={ti:=Ar,ents:=[],ann:=[(3,Ao TQ 0 (spP db) Ew d8.E)],lent:=0}
def IT (x:List (Int×List Int×Unit)×Int×Unit):Option (Int×Unit):=(Ay (fun v=>Ew (x.2.1,x.1,(x.1.length:Int),()) v _ some) (0,0,())).bind fun p=>some (p.1,())
def Wb:Ent:=⟨91,⟨(.slot (.slice Gy) (.slot .i .nil)),.nil⟩,⟨(.slot .i .nil),.nil⟩,IT⟩
theorem df:CfgOK Go.Proofs.Tryz.prog tZ:=hcB all_nil
theorem tY:AP Go.Proofs.Tryz.prog tZ (lpc Go.Proofs.Tryz.f91 0):=lkA df TQ db Ew d8 [5] Ny
theorem A1q:Ah Go.Proofs.Tryz.prog Wb:=okB df Go.Proofs.Tryz.func91 tY
abbrev d6:=List A6×Int×Bool×Int×Unit
abbrev cZ:=Int×Bool×Int×List (List A2)×List A3×List A1×List A1×List (Int×List Int×Unit)×Unit
abbrev d4:=Bool×Int×List (List A2)×List A3×List A1×List A1×List (Int×List Int×Unit)×Unit
def Fe (i:d6)(v:cZ)(R:Type)(K:cZ ⊕ d4->Option R):Option R:=bif decide (v.1<i.2.1)then(lAt i.1 v.1).bind fun a=>(Gm (a.1,a.2.1,a.2.2.1,a.2.2.2.1,a.2.2.2.2.1,a.2.2.2.2.2.1,v.2.1,v.2.2.1,v.2.2.2.1,v.2.2.2.2.1,v.2.2.2.2.2.1,v.2.2.2.2.2.2.1,())).bind fun b=>if(v.2.2.2.2.2.2.2.1++[(b.1,b.2.2.2.2.2.2.2.1,())]).length<=1099511627776 then K (.inl (IntKind.i64.wrap (v.1+1),b.2.1,b.2.2.1,b.2.2.2.1,b.2.2.2.2.1,b.2.2.2.2.2.1,b.2.2.2.2.2.2.1,v.2.2.2.2.2.2.2.1++[(b.1,b.2.2.2.2.2.2.2.1,())],()))else none else K (.inr (v.2.1,v.2.2.1,v.2.2.2.1,v.2.2.2.2.1,v.2.2.2.2.2.1,v.2.2.2.2.2.2.1,v.2.2.2.2.2.2.2.1,()))
theorem NZ:AX Fe:=fun i v R K=>Ae (Ac fun _=>Ac fun _=>Aq (Aa)) (Aa)
def TP:Tmpl:=⟨(jk 4 (.ptr 0 0 0 (jk 2 (.ptr 1 0 0 (.own 6 (jk 14 (.slot (.slice YOp) (si 2 (jk 16 .nil))))))))),(.cells 6 (.slot .bool (.const (AV.nils) (.const (AV.nils) (.const (AV.nils) (.const (AV.nils) (.slot .i .nil)))))) (.cells 6 (.slot .bool (.own 2 (.own 3 (.own 4 (.own 5 (.slot .i .nil)))))) (.tree false 1 (.slice Af) (.tree false 1 Ad (.lst false A0 (.lst false A0 (.tree false 0 Gy .nil)))))))⟩
def cY:Exs d6 d4:=x1 (.exit 0) fun i p=>⟨jn 4 (AV.ptr 0 none 0 0::jn 2 (AV.ptr 1 none 0 0::AV.own 6 none none::jn 33 ([]))),[some (Cont.cells 6 [[AV.pv .bool i.2.2.1,AV.nils,AV.nils,AV.nils,AV.nils,AV.pv .i i.2.2.2.1]]),some (Cont.cells 6 [[AV.pv .bool p.1,AV.own 2 none none,AV.own 3 none none,AV.own 4 none none,AV.own 5 none none,AV.pv .i p.2.1]]),some (Cont.tree false 1 (.slice Af) p.2.2.1 none),some (Cont.tree false 1 Ad p.2.2.2.1 none),some (Cont.lst false A0 p.2.2.2.2.1),some (Cont.lst false A0 p.2.2.2.2.2.1),some (Cont.tree false 0 Gy p.2.2.2.2.2.2.1 none)]⟩
def d5:=((.i (.i (.v (.i (.i (.v (.v (.v (.v (.v (.v (.v .n)))))))))))):Pk TP.ty _ _)
def tX:Cfg:={ti:=Ar,ents:=[Wv,bc,Wd,Wc,Wb],ann:=[(6,Ao TP 0 (spP d5) Fe cY.E)],lent:=0,hid:=[((10,1),[0]),((10,4),[0]),((10,5),[0]),((10,6),[0])]}
def HV (x:A5×List A6×Unit):Option (Bool×Int×Bool×List (List A2)×List A3×List A1×List A1×List (Int×List Int×Unit)×Unit):=(Gq ((x.1.1,(x.1.2.1.1,()),x.1.2.2.1,x.1.2.2.2.1,x.1.2.2.2.2.1,x.1.2.2.2.2.2.1,()),())).bind fun v=>(HH ((x.1.1,(x.1.2.1.1,()),x.1.2.2.1,x.1.2.2.2.1,x.1.2.2.2.2.1,x.1.2.2.2.2.2.1,()),())).bind fun a=>bif !a.1 then some (v.1,v.2.1,false,v.2.2.1,v.2.2.2.1,v.2.2.2.2.1,v.2.2.2.2.2.1,[],())else(IQ (x.2.1,())).bind fun b=>bif !b.1 then some (v.1,v.2.1,false,v.2.2.1,v.2.2.2.1,v.2.2.2.2.1,v.2.2.2.2.2.1,[],())else(Ay (fun v=>Fe (x.2.1,(x.2.1.length:Int),false,0,()) v _ some) (0,v.1,v.2.1,v.2.2.1,v.2.2.2.1,v.2.2.2.2.1,v.2.2.2.2.2.1,[],())).bind fun p=>(IT (p.2.2.2.2.2.2.1,0,())).bind fun v=>some (p.1,p.2.1,v.1==(p.2.2.2.2.2.2.1.length:Int),p.2.2.1,p.2.2.2.1,p.2.2.2.2.1,p.2.2.2.2.2.1,p.2.2.2.2.2.2.1,())
def tW:Ent:=⟨44,⟨(.slot Bz (.slot (.slice YOp) .nil)),.nil⟩,⟨(.agg (.slot .bool (.own 0 (.own 1 (.own 2 (.own 3 (.slot .i .nil)))))) (.own 4 (.slot .bool .nil))),(.tree false 1 (.slice Af) (.tree false 1 Ad (.lst false A0 (.lst false A0 (.tree false 0 Gy .nil)))))⟩,HV⟩
theorem d7:CfgOK Go.Proofs.Tryz.prog tX:=hcB (all_cons A35 (all_cons A9g (all_cons A1s (all_cons A1r (all_cons A1q all_nil)))))
theorem tV:AP Go.Proofs.Tryz.prog tX (lpc Go.Proofs.Tryz.f44 0):=lkA d7 TP d5 Fe cY [4,7,8] NZ
theorem A1p:Ah Go.Proofs.Tryz.prog tW:=okB d7 Go.Proofs.Tryz.func44 tV
abbrev cW:=List (Int×List Int×Unit)×List (Int×List Int×Unit)×Unit
abbrev cT:=Int×Unit
abbrev cU:=Unit ⊕ Unit
def G1 (i:cW)(v:cT)(R:Type)(K:cT ⊕ cU->Option R):Option R:=bif decide (v.1<(i.1.length:Int))then(lAt i.1 v.1).bind fun a=>(lAt i.2.1 v.1).bind fun b=>(Kg ((a.1,a.2.1,()),(b.1,b.2.1,()),())).bind fun c=>bif !c.1 then K (.inr (.inl ()))else K (.inl (IntKind.i64.wrap (v.1+1),()))else K (.inr (.inr ()))
theorem OJ:AX G1:=fun i v R K=>Ae (Ac fun _=>Ac fun _=>Ac fun _=>Ae (Aa) (Aa)) (Aa)
def TN:Tmpl:=⟨(.slot (.slice Gy) (.slot (.slice Gy) (jk 3 (.slot .i (jk 21 .nil))))),.nil⟩
def cS:Exs cW cU:=xs .ret (fun i p=>⟨jn 4 (.b (false)::jn 22 ([])),[]⟩)<|x1 (.exit 0) fun i p=>⟨jn 27 ([]),[]⟩
def cV:=((.i (.i (.v .n))):Pk TN.ty _ _)
def tU:Cfg:={ti:=Ar,ents:=[Wn],ann:=[(4,Ao TN 0 (spP cV) G1 cS.E)],lent:=0}
def Fs (x:List (Int×List Int×Unit)×List (Int×List Int×Unit)×Unit):Option (Bool×Unit):=bif (x.1.length:Int) != (x.2.1.length:Int)then some (false,())else(Ay (fun v=>G1 (x.1,x.2.1,()) v _ some) (0,())).bind fun p=>Au p (fun p=>some (false,())) fun p=>some (true,())
def tT:Ent:=⟨33,⟨(.slot (.slice Gy) (.slot (.slice Gy) .nil)),.nil⟩,⟨(.slot .bool .nil),.nil⟩,Fs⟩
theorem cX:CfgOK Go.Proofs.Tryz.prog tU:=hcB (all_cons A2m all_nil)
theorem tS:AP Go.Proofs.Tryz.prog tU (lpc Go.Proofs.Tryz.f33 0):=lkA cX TN cV G1 cS [4] OJ
theorem A1o:Ah Go.Proofs.Tryz.prog tT:=okB cX Go.Proofs.Tryz.func33 tS
def LD (x:A6×A6×Unit):Option (Bool×Unit):=bif x.1.1 != x.2.1.1 then some (false,())else bif x.1.2.1 != x.2.1.2.1 then some (false,())else bif x.1.2.2.1 != x.2.1.2.2.1 then some (false,())else bif x.1.2.2.2.1 != x.2.1.2.2.2.1 then some (false,())else bif x.1.2.2.2.2.1 != x.2.1.2.2.2.2.1 then some (false,())else bif x.1.2.2.2.2.2.1 != x.2.1.2.2.2.2.2.1 then some (false,())else some (true,())
def Wa:Ent:=⟨84,⟨(.slot YOp (.slot YOp .nil)),.nil⟩,⟨(.slot .bool .nil),.nil⟩,LD⟩
theorem A1n:Ah Go.Proofs.Tryz.prog Wa:=okA (hcA 0 all_nil) Go.Proofs.Tryz.func84
abbrev cQ:=List A6×List A6×Unit
abbrev cN:=Int×Unit
abbrev cO:=Unit ⊕ Unit
def I1 (i:cQ)(v:cN)(R:Type)(K:cN ⊕ cO->Option R):Option R:=bif decide (v.1<(i.1.length:Int))then(lAt i.1 v.1).bind fun a=>(lAt i.2.1 v.1).bind fun b=>(LD ((a.1,a.2.1,a.2.2.1,a.2.2.2.1,a.2.2.2.2.1,a.2.2.2.2.2.1,()),(b.1,b.2.1,b.2.2.1,b.2.2.2.1,b.2.2.2.2.1,b.2.2.2.2.2.1,()),())).bind fun c=>bif !c.1 then K (.inr (.inl ()))else K (.inl (IntKind.i64.wrap (v.1+1),()))else K (.inr (.inr ()))
theorem PP:AX I1:=fun i v R K=>Ae (Ac fun _=>Ac fun _=>Ac fun _=>Ae (Aa) (Aa)) (Aa)
def TM:Tmpl:=⟨(.slot (.slice YOp) (.slot (.slice YOp) (jk 3 (.slot .i (jk 21 .nil))))),.nil⟩
def cM:Exs cQ cO:=xs .ret (fun i p=>⟨jn 4 (.b (false)::jn 22 ([])),[]⟩)<|x1 (.exit 0) fun i p=>⟨jn 27 ([]),[]⟩
def cP:=((.i (.i (.v .n))):Pk TM.ty _ _)
def tR:Cfg:={ti:=Ar,ents:=[Wa],ann:=[(4,Ao TM 0 (spP cP) I1 cM.E)],lent:=0}
def KU (x:List A6×List A6×Unit):Option (Bool×Unit):=bif (x.1.length:Int) != (x.2.1.length:Int)then some (false,())else(Ay (fun v=>I1 (x.1,x.2.1,()) v _ some) (0,())).bind fun p=>Au p (fun p=>some (false,())) fun p=>some (true,())
def tQ:Ent:=⟨34,⟨(.slot (.slice YOp) (.slot (.slice YOp) .nil)),.nil⟩,⟨(.slot .bool .nil),.nil⟩,KU⟩
theorem cR:CfgOK Go.Proofs.Tryz.prog tR:=hcB (all_cons A1n all_nil)
theorem tP:AP Go.Proofs.Tryz.prog tR (lpc Go.Proofs.Tryz.f34 0):=lkA cR TM cP I1 cM [4] PP
theorem A1m:Ah Go.Proofs.Tryz.prog tQ:=okB cR Go.Proofs.Tryz.func34 tP
abbrev cK:=Unit
abbrev cH:=Int×Int×List A6×Unit
abbrev cI:=Int×List A6×Unit
def Em (i:cK)(v:cH)(R:Type)(K:cH ⊕ cI->Option R):Option R:=bif decide (v.2.1<(v.2.2.1.length:Int))then if 0<=v.2.1/\v.2.1<(v.2.2.1.length:Int)then v.2.2.1[0+v.2.1.toNat]?.bind fun a=>if 0<=v.2.1/\v.2.1<(↑((v.2.2.1.set (0+v.2.1.toNat) (v.1,a.2.1,a.2.2.1,a.2.2.2.1,a.2.2.2.2.1,a.2.2.2.2.2.1,())).length):Int)then(v.2.2.1.set (0+v.2.1.toNat) (v.1,a.2.1,a.2.2.1,a.2.2.2.1,a.2.2.2.2.1,a.2.2.2.2.2.1,()))[0+v.2.1.toNat]?.bind fun b=>if 0<=v.2.1/\v.2.1<(↑(((v.2.2.1.set (0+v.2.1.toNat) (v.1,a.2.1,a.2.2.1,a.2.2.2.1,a.2.2.2.2.1,a.2.2.2.2.2.1,())).set (0+v.2.1.toNat) (b.1,IntKind.i64.wrap (v.1+1),b.2.2.1,b.2.2.2.1,b.2.2.2.2.1,b.2.2.2.2.2.1,())).length):Int)then((v.2.2.1.set (0+v.2.1.toNat) (v.1,a.2.1,a.2.2.1,a.2.2.2.1,a.2.2.2.2.1,a.2.2.2.2.2.1,())).set (0+v.2.1.toNat) (b.1,IntKind.i64.wrap (v.1+1),b.2.2.1,b.2.2.2.1,b.2.2.2.2.1,b.2.2.2.2.2.1,()))[0+v.2.1.toNat]?.bind fun c=>if 0<=v.2.1/\v.2.1<(↑((((v.2.2.1.set (0+v.2.1.toNat) (v.1,a.2.1,a.2.2.1,a.2.2.2.1,a.2.2.2.2.1,a.2.2.2.2.2.1,())).set (0+v.2.1.toNat) (b.1,IntKind.i64.wrap (v.1+1),b.2.2.1,b.2.2.2.1,b.2.2.2.2.1,b.2.2.2.2.2.1,())).set (0+v.2.1.toNat) (c.1,c.2.1,IntKind.i64.wrap (IntKind.i64.wrap (v.1+1)+1),c.2.2.2.1,c.2.2.2.2.1,c.2.2.2.2.2.1,())).length):Int)then(((v.2.2.1.set (0+v.2.1.toNat) (v.1,a.2.1,a.2.2.1,a.2.2.2.1,a.2.2.2.2.1,a.2.2.2.2.2.1,())).set (0+v.2.1.toNat) (b.1,IntKind.i64.wrap (v.1+1),b.2.2.1,b.2.2.2.1,b.2.2.2.2.1,b.2.2.2.2.2.1,())).set (0+v.2.1.toNat) (c.1,c.2.1,IntKind.i64.wrap (IntKind.i64.wrap (v.1+1)+1),c.2.2.2.1,c.2.2.2.2.1,c.2.2.2.2.2.1,()))[0+v.2.1.toNat]?.bind fun d=>if 0<=v.2.1/\v.2.1<(↑(((((v.2.2.1.set (0+v.2.1.toNat) (v.1,a.2.1,a.2.2.1,a.2.2.2.1,a.2.2.2.2.1,a.2.2.2.2.2.1,())).set (0+v.2.1.toNat) (b.1,IntKind.i64.wrap (v.1+1),b.2.2.1,b.2.2.2.1,b.2.2.2.2.1,b.2.2.2.2.2.1,())).set (0+v.2.1.toNat) (c.1,c.2.1,IntKind.i64.wrap (IntKind.i64.wrap (v.1+1)+1),c.2.2.2.1,c.2.2.2.2.1,c.2.2.2.2.2.1,())).set (0+v.2.1.toNat) (d.1,d.2.1,d.2.2.1,IntKind.i64.wrap (IntKind.i64.wrap (IntKind.i64.wrap (v.1+1)+1)+1),d.2.2.2.2.1,d.2.2.2.2.2.1,())).length):Int)then((((v.2.2.1.set (0+v.2.1.toNat) (v.1,a.2.1,a.2.2.1,a.2.2.2.1,a.2.2.2.2.1,a.2.2.2.2.2.1,())).set (0+v.2.1.toNat) (b.1,IntKind.i64.wrap (v.1+1),b.2.2.1,b.2.2.2.1,b.2.2.2.2.1,b.2.2.2.2.2.1,())).set (0+v.2.1.toNat) (c.1,c.2.1,IntKind.i64.wrap (IntKind.i64.wrap (v.1+1)+1),c.2.2.2.1,c.2.2.2.2.1,c.2.2.2.2.2.1,())).set (0+v.2.1.toNat) (d.1,d.2.1,d.2.2.1,IntKind.i64.wrap (IntKind.i64.wrap (IntKind.i64.wrap (v.1+1)+1)+1),d.2.2.2.2.1,d.2.2.2.2.2.1,()))[0+v.2.1.toNat]?.bind fun e=>if 0<=v.2.1/\v.2.1<(↑((((((v.2.2.1.set (0+v.2.1.toNat) (v.1,a.2.1,a.2.2.1,a.2.2.2.1,a.2.2.2.2.1,a.2.2.2.2.2.1,())).set (0+v.2.1.toNat) (b.1,IntKind.i64.wrap (v.1+1),b.2.2.1,b.2.2.2.1,b.2.2.2.2.1,b.2.2.2.2.2.1,())).set (0+v.2.1.toNat) (c.1,c.2.1,IntKind.i64.wrap (IntKind.i64.wrap (v.1+1)+1),c.2.2.2.1,c.2.2.2.2.1,c.2.2.2.2.2.1,())).set (0+v.2.1.toNat) (d.1,d.2.1,d.2.2.1,IntKind.i64.wrap (IntKind.i64.wrap (IntKind.i64.wrap (v.1+1)+1)+1),d.2.2.2.2.1,d.2.2.2.2.2.1,())).set (0+v.2.1.toNat) (e.1,e.2.1,e.2.2.1,e.2.2.2.1,IntKind.i64.wrap (IntKind.i64.wrap (IntKind.i64.wrap (IntKind.i64.wrap (v.1+1)+1)+1)+1),e.2.2.2.2.2.1,())).length):Int)then(((((v.2.2.1.set (0+v.2.1.toNat) (v.1,a.2.1,a.2.2.1,a.2.2.2.1,a.2.2.2.2.1,a.2.2.2.2.2.1,())).set (0+v.2.1.toNat) (b.1,IntKind.i64.wrap (v.1+1),b.2.2.1,b.2.2.2.1,b.2.2.2.2.1,b.2.2.2.2.2.1,())).set (0+v.2.1.toNat) (c.1,c.2.1,IntKind.i64.wrap (IntKind.i64.wrap (v.1+1)+1),c.2.2.2.1,c.2.2.2.2.1,c.2.2.2.2.2.1,())).set (0+v.2.1.toNat) (d.1,d.2.1,d.2.2.1,IntKind.i64.wrap (IntKind.i64.wrap (IntKind.i64.wrap (v.1+1)+1)+1),d.2.2.2.2.1,d.2.2.2.2.2.1,())).set (0+v.2.1.toNat) (e.1,e.2.1,e.2.2.1,e.2.2.2.1,IntKind.i64.wrap (IntKind.i64.wrap (IntKind.i64.wrap (IntKind.i64.wrap (v.1+1)+1)+1)+1),e.2.2.2.2.2.1,()))[0+v.2.1.toNat]?.bind fun f=>K (.inl (IntKind.i64.wrap (IntKind.i64.wrap (IntKind.i64.wrap (IntKind.i64.wrap (IntKind.i64.wrap (IntKind.i64.wrap (v.1+1)+1)+1)+1)+1)+1),IntKind.i64.wrap (v.2.1+1),(((((v.2.2.1.set (0+v.2.1.toNat) (v.1,a.2.1,a.2.2.1,a.2.2.2.1,a.2.2.2.2.1,a.2.2.2.2.2.1,())).set (0+v.2.1.toNat) (b.1,IntKind.i64.wrap (v.1+1),b.2.2.1,b.2.2.2.1,b.2.2.2.2.1,b.2.2.2.2.2.1,())).set (0+v.2.1.toNat) (c.1,c.2.1,IntKind.i64.wrap (IntKind.i64.wrap (v.1+1)+1),c.2.2.2.1,c.2.2.2.2.1,c.2.2.2.2.2.1,())).set (0+v.2.1.toNat) (d.1,d.2.1,d.2.2.1,IntKind.i64.wrap (IntKind.i64.wrap (IntKind.i64.wrap (v.1+1)+1)+1),d.2.2.2.2.1,d.2.2.2.2.2.1,())).set (0+v.2.1.toNat) (e.1,e.2.1,e.2.2.1,e.2.2.2.1,IntKind.i64.wrap (IntKind.i64.wrap (IntKind.i64.wrap (IntKind.i64.wrap (v.1+1)+1)+1)+1),e.2.2.2.2.2.1,())).set (0+v.2.1.toNat) (f.1,f.2.1,f.2.2.1,f.2.2.2.1,f.2.2.2.2.1,IntKind.i64.wrap (IntKind.i64.wrap (IntKind.i64.wrap (IntKind.i64.wrap (IntKind.i64.wrap (v.1+1)+1)+1)+1)+1),()),()))else none else none else none else none else none else none else K (.inr (v.1,v.2.2.1,()))
theorem Nq:AX Em:=fun i v R K=>Ae (Aq (Ac fun _=>Aq (Ac fun _=>Aq (Ac fun _=>Aq (Ac fun _=>Aq (Ac fun _=>Aq (Ac fun _=>Aa))))))) (Aa)
def TL:Tmpl:=⟨(.own 0 (.slot .i (jk 3 (.slot .i (jk 49 .nil))))),(.lst false YOp .nil)⟩
def cG:Exs cK cI:=x1 (.exit 0) fun i p=>⟨jn 1 (.n (p.1)::jn 53 ([])),[some (Cont.lst false YOp p.2.1)]⟩
def cJ:=((.v (.v (.v .n))):Pk TL.ty _ _)
def tO:Cfg:={ti:=Ar,ents:=[],ann:=[(2,Ao TL 1 (spP cJ) Em cG.E)],lent:=1}
def IJ (x:Int×List A6×Unit):Option (Int×List A6×Unit):=(Ay (fun v=>Em () v _ some) (x.1,0,x.2.1,())).bind fun p=>some (p.1,p.2.1,())
def tN:Ent:=⟨35,⟨(.own 0 (.slot .i .nil)),(.lst false YOp .nil)⟩,⟨(.slot .i .nil),(.lst false YOp .nil)⟩,IJ⟩
theorem cL:CfgOK Go.Proofs.Tryz.prog tO:=hcB all_nil
theorem tM:AP Go.Proofs.Tryz.prog tO (lpc Go.Proofs.Tryz.f35 0):=lkA cL TL cJ Em cG [1] Nq
theorem A1l:Ah Go.Proofs.Tryz.prog tN:=okB cL Go.Proofs.Tryz.func35 tM
abbrev cE:=Nat×Unit
abbrev cB:=Int×Int×List (Int×List Int×Unit)×Unit
abbrev cC:=Int×List (Int×List Int×Unit)×Unit
def E4 (i:cE)(v:cB)(R:Type)(K:cB ⊕ cC->Option R):Option R:=v.2.2.1[i.1]?.bind fun a=>bif decide (v.2.1<(a.2.1.length:Int))then v.2.2.1[i.1]?.bind fun b=>if 0<=v.2.1/\v.2.1<(b.2.1.length:Int)then v.2.2.1[i.1]?.bind fun c=>c.2.1[0+v.2.1.toNat]?.bind fun d=>K (.inl (IntKind.i64.wrap (v.1+1),IntKind.i64.wrap (v.2.1+1),v.2.2.1.set i.1 (c.1,c.2.1.set (0+v.2.1.toNat) v.1,()),()))else none else K (.inr (v.1,v.2.2.1,()))
theorem MT:AX E4:=fun i v R K=>Ac fun _=>Ae (Ac fun _=>Aq (Ac fun _=>Ac fun _=>Aa)) (Aa)
def TK:Tmpl:=⟨(.nown 0 1 (.slot .i (jk 3 (.slot .i (jk 13 .nil))))),(.tree false 0 Gy .nil)⟩
def cA:Exs cE cC:=x1 (.exit 0) fun i p=>⟨jn 1 (.n (p.1)::jn 17 ([])),[some (Cont.tree false 0 Gy p.2.1 none)]⟩
def cD:=((.i (.v (.v (.v .n)))):Pk TK.ty _ _)
def tL:Cfg:={ti:=Ar,ents:=[],ann:=[(2,Ao TK 1 (spP cD) E4 cA.E)],lent:=1}
def Id (x:Nat×Int×List (Int×List Int×Unit)×Unit):Option (Int×List (Int×List Int×Unit)×Unit):=(Ay (fun v=>E4 (x.1,()) v _ some) (x.2.1,0,x.2.2.1,())).bind fun p=>some (p.1,p.2.1,())
def W9:Ent:=⟨27,⟨(.nown 0 1 (.slot .i .nil)),(.tree false 0 Gy .nil)⟩,⟨(.slot .i .nil),(.tree false 0 Gy .nil)⟩,Id⟩
theorem cF:CfgOK Go.Proofs.Tryz.prog tL:=hcB all_nil
theorem tK:AP Go.Proofs.Tryz.prog tL (lpc Go.Proofs.Tryz.f27 0):=lkA cF TK cD E4 cA [1] MT
theorem A1k:Ah Go.Proofs.Tryz.prog W9:=okB cF Go.Proofs.Tryz.func27 tK
abbrev cw:=Unit
abbrev ct:=Int×Int×List (Int×List Int×Unit)×Unit
abbrev cu:=Int×List (Int×List Int×Unit)×Unit
def Ck (i:cw)(v:ct)(R:Type)(K:ct ⊕ cu->Option R):Option R:=bif decide (v.2.1<(v.2.2.1.length:Int))then if 0<=v.2.1/\v.2.1<(v.2.2.1.length:Int)then v.2.2.1[0+v.2.1.toNat]?.bind fun a=>if 0<=v.2.1/\v.2.1<(↑((v.2.2.1.set (0+v.2.1.toNat) (v.1,a.2.1,())).length):Int)then(v.2.2.1.set (0+v.2.1.toNat) (v.1,a.2.1,()))[0+v.2.1.toNat]?.bind fun b=>(Id (0+v.2.1.toNat,IntKind.i64.wrap (v.1+1),v.2.2.1.set (0+v.2.1.toNat) (v.1,a.2.1,()),())).bind fun c=>K (.inl (c.1,IntKind.i64.wrap (v.2.1+1),c.2.1,()))else none else none else K (.inr (v.1,v.2.2.1,()))
theorem Mm:AX Ck:=fun i v R K=>Ae (Aq (Ac fun _=>Aq (Ac fun _=>Ac fun _=>Aa))) (Aa)
def TJ:Tmpl:=⟨(.own 0 (.slot .i (jk 3 (.slot .i (jk 21 .nil))))),(.tree false 1 Gy .nil)⟩
def cr:Exs cw cu:=x1 (.exit 0) fun i p=>⟨jn 1 (.n (p.1)::jn 25 ([])),[some (Cont.tree false 1 Gy p.2.1 none)]⟩
def cv:=((.v (.v (.v .n))):Pk TJ.ty _ _)
def tJ:Cfg:={ti:=Ar,ents:=[W9],ann:=[(2,Ao TJ 1 (spP cv) Ck cr.E)],lent:=1}
def Hu (x:Int×List (Int×List Int×Unit)×Unit):Option (Int×List (Int×List Int×Unit)×Unit):=(Ay (fun v=>Ck () v _ some) (x.1,0,x.2.1,())).bind fun p=>some (p.1,p.2.1,())
def tI:Ent:=⟨36,⟨(.own 0 (.slot .i .nil)),(.tree false 0 Gy .nil)⟩,⟨(.slot .i .nil),(.tree false 1 Gy .nil)⟩,Hu⟩
theorem cx:CfgOK Go.Proofs.Tryz.prog tJ:=hcB (all_cons A1k all_nil)
theorem tH:AP Go.Proofs.Tryz.prog tJ (lpc Go.Proofs.Tryz.f36 0):=lkA cx TJ cv Ck cr [1] Mm
theorem A1j:Ah Go.Proofs.Tryz.prog tI:=okB cx Go.Proofs.Tryz.func36 tH
abbrev cp:=List (Int×List Int×Unit)×Unit
abbrev cl:=Int×Int×Unit
abbrev cm:=Int×Unit ⊕ Int×Unit ⊕ Int×Unit
def CV (i:cp)(v:cl)(R:Type)(K:cl ⊕ cm->Option R):Option R:=bif decide (v.2.1<(i.1.length:Int))then(lAt i.1 v.2.1).bind fun a=>bif a.1 != v.1 then K (.inr (.inl (v.1,())))else(lAt i.1 v.2.1).bind fun b=>(J9 (b.2.1,IntKind.i64.wrap (v.1+1),())).bind fun c=>bif decide (c.1<0)then K (.inr (.inr (.inl (c.1,()))))else K (.inl (c.1,IntKind.i64.wrap (v.2.1+1),()))else K (.inr (.inr (.inr (v.1,()))))
theorem Ns:AX CV:=fun i v R K=>Ae (Ac fun _=>Ae (Aa) (Ac fun _=>Ac fun _=>Ae (Aa) (Aa))) (Aa)
def TH:Tmpl:=⟨(.slot (.slice Gy) (.slot .i (jk 3 (.slot .i (jk 25 .nil))))),.nil⟩
def ck:Exs cp cm:=xs .ret (fun i p=>⟨jn 1 (.n (p.1)::jn 2 (.n (-1)::jn 26 ([]))),[]⟩)<|xs .ret (fun i p=>⟨jn 1 (.n (p.1)::jn 2 (.n (-1)::jn 26 ([]))),[]⟩)<|x1 (.exit 0) fun i p=>⟨jn 1 (.n (p.1)::jn 29 ([])),[]⟩
def cn:=((.i (.v (.v .n))):Pk TH.ty _ _)
def tG:Cfg:={ti:=Ar,ents:=[Wg],ann:=[(2,Ao TH 0 (spP cn) CV ck.E)],lent:=0}
def GT (x:List (Int×List Int×Unit)×Int×Unit):Option (Int×Unit):=(Ay (fun v=>CV (x.1,()) v _ some) (x.2.1,0,())).bind fun p=>Au p (fun p=>some (-1,())) fun p=>Au p (fun p=>some (-1,())) fun p=>some (p.1,())
def tF:Ent:=⟨37,⟨(.slot (.slice Gy) (.slot .i .nil)),.nil⟩,⟨(.slot .i .nil),.nil⟩,GT⟩
theorem cq:CfgOK Go.Proofs.Tryz.prog tG:=hcB (all_cons A21 all_nil)
theorem tE:AP Go.Proofs.Tryz.prog tG (lpc Go.Proofs.Tryz.f37 0):=lkA cq TH cn CV ck [1,4] Ns
theorem A1i:Ah Go.Proofs.Tryz.prog tF:=okB cq Go.Proofs.Tryz.func37 tE
def Hy (x:A5×List A6×Unit):Option (Bool×Unit):=(KH ((x.1.1,(x.1.2.1.1,()),x.1.2.2.1,x.1.2.2.2.1,x.1.2.2.2.2.1,x.1.2.2.2.2.2.1,()),1048576,())).bind fun v=>bif decide (v.1<0)then some (true,())else(MS (x.2.1,v.1,())).bind fun v=>bif decide (v.1<0)then some (true,())else(EC ((x.1.1,(x.1.2.1.1,()),x.1.2.2.1,x.1.2.2.2.1,x.1.2.2.2.2.1,x.1.2.2.2.2.2.1,()),())).bind fun v=>(Hr (x.2.1,())).bind fun a=>(J5 ((v.1,(v.2.2.1,()),v.2.2.2.1,v.2.2.2.2.1,v.2.2.2.2.2.1,v.2.1,()),a.1,())).bind fun v=>(EC ((x.1.1,(x.1.2.1.1,()),x.1.2.2.1,x.1.2.2.2.1,x.1.2.2.2.2.1,x.1.2.2.2.2.2.1,()),())).bind fun b=>(Hr (x.2.1,())).bind fun c=>(HV ((b.1,(b.2.2.1,()),b.2.2.2.1,b.2.2.2.2.1,b.2.2.2.2.2.1,b.2.1,()),c.1,())).bind fun d=>(ED ((d.1,(d.2.2.2.1,()),d.2.2.2.2.1,d.2.2.2.2.2.1,d.2.2.2.2.2.2.1,d.2.1,()),(v.1,(v.2.2.2.1,()),v.2.2.2.2.1,v.2.2.2.2.2.1,v.2.2.2.2.2.2.1,v.2.1,()),())).bind fun e=>bif !e.1 then some (false,())else(Fs (d.2.2.2.2.2.2.2.1,v.2.2.2.2.2.2.2.1,())).bind fun f=>bif !f.1 then some (false,())else bif !d.2.2.1==v.2.2.1 then some (false,())else(EC ((x.1.1,(x.1.2.1.1,()),x.1.2.2.1,x.1.2.2.2.1,x.1.2.2.2.2.1,x.1.2.2.2.2.2.1,()),())).bind fun g=>(ED ((b.1,(b.2.2.1,()),b.2.2.2.1,b.2.2.2.2.1,b.2.2.2.2.2.1,b.2.1,()),(g.1,(g.2.2.1,()),g.2.2.2.1,g.2.2.2.2.1,g.2.2.2.2.2.1,g.2.1,()),())).bind fun h=>bif !h.1 then some (false,())else(Hr (x.2.1,())).bind fun j=>(KU (c.1,j.1,())).bind fun k=>bif !k.1 then some (false,())else(EH (b.1,b.2.1,1,b.2.2.1,b.2.2.2.1,b.2.2.2.2.1,b.2.2.2.2.2.1,())).bind fun l=>(IJ (l.1,c.1,())).bind fun m=>bif decide (m.1<0)then some (false,())else(ED ((d.1,(d.2.2.2.1,()),d.2.2.2.2.1,d.2.2.2.2.2.1,d.2.2.2.2.2.2.1,d.2.1,()),(v.1,(v.2.2.2.1,()),v.2.2.2.2.1,v.2.2.2.2.2.1,v.2.2.2.2.2.2.1,v.2.1,()),())).bind fun n=>bif !n.1 then some (false,())else(Fs (d.2.2.2.2.2.2.2.1,v.2.2.2.2.2.2.2.1,())).bind fun o=>bif !o.1 then some (false,())else bif !d.2.2.1==v.2.2.1 then some (false,())else(EH (d.1,d.2.1,1,d.2.2.2.1,d.2.2.2.2.1,d.2.2.2.2.2.1,d.2.2.2.2.2.2.1,())).bind fun q=>(Hu (q.1,d.2.2.2.2.2.2.2.1,())).bind fun r=>(Gh ((d.1,(q.2.1,()),q.2.2.1,q.2.2.2.1,q.2.2.2.2.1,d.2.1,()),1,())).bind fun s=>bif decide (s.1<0)then some (false,())else(GT (r.2.1,s.1,())).bind fun t=>bif decide (t.1<0)then some (false,())else bif t.1 != r.1 then some (false,())else(EC ((x.1.1,(x.1.2.1.1,()),x.1.2.2.1,x.1.2.2.2.1,x.1.2.2.2.2.1,x.1.2.2.2.2.2.1,()),())).bind fun u=>(Hr (x.2.1,())).bind fun w=>(HV ((u.1,(u.2.2.1,()),u.2.2.2.1,u.2.2.2.2.1,u.2.2.2.2.2.1,u.2.1,()),w.1,())).bind fun y=>(ED ((y.1,(y.2.2.2.1,()),y.2.2.2.2.1,y.2.2.2.2.2.1,y.2.2.2.2.2.2.1,y.2.1,()),(v.1,(v.2.2.2.1,()),v.2.2.2.2.1,v.2.2.2.2.2.1,v.2.2.2.2.2.2.1,v.2.1,()),())).bind fun z=>bif !z.1 then some (false,())else(Fs (y.2.2.2.2.2.2.2.1,v.2.2.2.2.2.2.2.1,())).bind fun A=>bif !A.1 then some (false,())else bif !y.2.2.1==v.2.2.1 then some (false,())else(Gh ((d.1,(q.2.1,()),q.2.2.1,q.2.2.2.1,q.2.2.2.2.1,d.2.1,()),1,())).bind fun v=>bif decide (v.1<0)then some (false,())else(GT (r.2.1,v.1,())).bind fun v=>bif decide (v.1<0)then some (false,())else bif v.1 != r.1 then some (false,())else some (true,())
def W8:Ent:=⟨8,⟨(.slot Bz (.slot (.slice YOp) .nil)),.nil⟩,⟨(.slot .bool .nil),.nil⟩,Hy⟩
theorem A1h:Ah Go.Proofs.Tryz.prog W8:=okA (hcA 0 (all_cons A2d (all_cons A1l (all_cons A1j (all_cons Acm (all_cons A20 (all_cons Aal (all_cons A1z (all_cons A1v (all_cons A1p (all_cons A2q (all_cons A1o (all_cons A1m (all_cons A22 (all_cons A1i all_nil))))))))))))))) Go.Proofs.Tryz.func8
theorem laws_FnExactRunAlone_OK:Ah Go.Proofs.Tryz.prog W8:=A1h
end
end Go.Ab
