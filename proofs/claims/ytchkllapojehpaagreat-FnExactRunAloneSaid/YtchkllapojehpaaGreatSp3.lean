import Derived.Test.YtchkllapojehpaaGreatSp2
set_option linter.all false
set_option maxRecDepth 100000
namespace Go.Ab
noncomputable section
abbrev Aei:=List A3×Unit
abbrev Aef:=Int×Int×Unit
abbrev Aeg:=Int×Unit ⊕ Int×Unit ⊕ Int×Unit ⊕ Int×Unit ⊕ Int×Unit ⊕ Int×Unit ⊕ Int×Unit ⊕ Int×Unit ⊕ Int×Unit ⊕ Int×Unit
def BN (i:Aei)(v:Aef)(R:Type)(K:Aef ⊕ Aeg->Option R):Option R:=bif decide (v.2.1<(i.1.length:Int))then(lAt i.1 v.2.1).bind fun a=>bif a.1 != v.1 then K (.inr (.inl (v.1,())))else(lAt i.1 v.2.1).bind fun b=>bif b.2.1 != IntKind.i64.wrap (v.1+1)then K (.inr (.inr (.inl (IntKind.i64.wrap (v.1+1),()))))else(lAt i.1 v.2.1).bind fun c=>bif c.2.2.1 != IntKind.i64.wrap (IntKind.i64.wrap (v.1+1)+1)then K (.inr (.inr (.inr (.inl (IntKind.i64.wrap (IntKind.i64.wrap (v.1+1)+1),())))))else(lAt i.1 v.2.1).bind fun d=>bif d.2.2.2.1 != IntKind.i64.wrap (IntKind.i64.wrap (IntKind.i64.wrap (v.1+1)+1)+1)then K (.inr (.inr (.inr (.inr (.inl (IntKind.i64.wrap (IntKind.i64.wrap (IntKind.i64.wrap (v.1+1)+1)+1),()))))))else(lAt i.1 v.2.1).bind fun e=>bif e.2.2.2.2.1 != IntKind.i64.wrap (IntKind.i64.wrap (IntKind.i64.wrap (IntKind.i64.wrap (v.1+1)+1)+1)+1)then K (.inr (.inr (.inr (.inr (.inr (.inl (IntKind.i64.wrap (IntKind.i64.wrap (IntKind.i64.wrap (IntKind.i64.wrap (v.1+1)+1)+1)+1),())))))))else(lAt i.1 v.2.1).bind fun f=>bif f.2.2.2.2.2.1 != IntKind.i64.wrap (IntKind.i64.wrap (IntKind.i64.wrap (IntKind.i64.wrap (IntKind.i64.wrap (v.1+1)+1)+1)+1)+1)then K (.inr (.inr (.inr (.inr (.inr (.inr (.inl (IntKind.i64.wrap (IntKind.i64.wrap (IntKind.i64.wrap (IntKind.i64.wrap (IntKind.i64.wrap (v.1+1)+1)+1)+1)+1),()))))))))else(lAt i.1 v.2.1).bind fun g=>bif g.2.2.2.2.2.2.1 != IntKind.i64.wrap (IntKind.i64.wrap (IntKind.i64.wrap (IntKind.i64.wrap (IntKind.i64.wrap (IntKind.i64.wrap (v.1+1)+1)+1)+1)+1)+1)then K (.inr (.inr (.inr (.inr (.inr (.inr (.inr (.inl (IntKind.i64.wrap (IntKind.i64.wrap (IntKind.i64.wrap (IntKind.i64.wrap (IntKind.i64.wrap (IntKind.i64.wrap (v.1+1)+1)+1)+1)+1)+1),())))))))))else(lAt i.1 v.2.1).bind fun h=>(Gn (h.2.2.2.2.2.2.2.1,IntKind.i64.wrap (IntKind.i64.wrap (IntKind.i64.wrap (IntKind.i64.wrap (IntKind.i64.wrap (IntKind.i64.wrap (IntKind.i64.wrap (v.1+1)+1)+1)+1)+1)+1)+1),())).bind fun j=>bif decide (j.1<0)then K (.inr (.inr (.inr (.inr (.inr (.inr (.inr (.inr (.inl (j.1,()))))))))))else(lAt i.1 v.2.1).bind fun k=>(HP (k.2.2.2.2.2.2.2.2.1,j.1,())).bind fun l=>bif decide (l.1<0)then K (.inr (.inr (.inr (.inr (.inr (.inr (.inr (.inr (.inr (.inl (l.1,())))))))))))else K (.inl (l.1,IntKind.i64.wrap (v.2.1+1),()))else K (.inr (.inr (.inr (.inr (.inr (.inr (.inr (.inr (.inr (.inr (v.1,())))))))))))
theorem Kz:Bg BN:=fun i v R K=>Ae (Ac fun _=>Ae (Aa) (Ac fun _=>Ae (Aa) (Ac fun _=>Ae (Aa) (Ac fun _=>Ae (Aa) (Ac fun _=>Ae (Aa) (Ac fun _=>Ae (Aa) (Ac fun _=>Ae (Aa) (Ac fun _=>Ac fun _=>Ae (Aa) (Ac fun _=>Ac fun _=>Ae (Aa) (Aa)))))))))) (Aa)
def A4k:Tmpl:=⟨(.slot (.slice Ad) (.slot .i (jk 3 (.slot .i (jk 88 .nil))))),.nil⟩
def Aee:Exs Aei Aeg:=xs .ret (fun i p=>⟨jn 1 (.n (p.1)::jn 2 (.n (-1)::jn 89 ([]))),[]⟩)<|xs .ret (fun i p=>⟨jn 1 (.n (p.1)::jn 2 (.n (-1)::jn 89 ([]))),[]⟩)<|xs .ret (fun i p=>⟨jn 1 (.n (p.1)::jn 2 (.n (-1)::jn 89 ([]))),[]⟩)<|xs .ret (fun i p=>⟨jn 1 (.n (p.1)::jn 2 (.n (-1)::jn 89 ([]))),[]⟩)<|xs .ret (fun i p=>⟨jn 1 (.n (p.1)::jn 2 (.n (-1)::jn 89 ([]))),[]⟩)<|xs .ret (fun i p=>⟨jn 1 (.n (p.1)::jn 2 (.n (-1)::jn 89 ([]))),[]⟩)<|xs .ret (fun i p=>⟨jn 1 (.n (p.1)::jn 2 (.n (-1)::jn 89 ([]))),[]⟩)<|xs .ret (fun i p=>⟨jn 1 (.n (p.1)::jn 2 (.n (-1)::jn 89 ([]))),[]⟩)<|xs .ret (fun i p=>⟨jn 1 (.n (p.1)::jn 2 (.n (-1)::jn 89 ([]))),[]⟩)<|x1 (.exit 0) fun i p=>⟨jn 1 (.n (p.1)::jn 92 ([])),[]⟩
def Aeh:=((.i (.v (.v .n))):Pk A4k.ty _ _)
def Aub:Cfg:={ti:=Aw,ents:=[A8f,A8e],ann:=[(2,Ao A4k 0 (spP Aeh) BN Aee.E)],lent:=0}
def Fk (x:List A3×Int×Unit):Option (Int×Unit):=(AC (fun v=>BN (x.1,()) v _ some) (x.2.1,0,())).bind fun p=>Az p (fun p=>some (-1,())) fun p=>Az p (fun p=>some (-1,())) fun p=>Az p (fun p=>some (-1,())) fun p=>Az p (fun p=>some (-1,())) fun p=>Az p (fun p=>some (-1,())) fun p=>Az p (fun p=>some (-1,())) fun p=>Az p (fun p=>some (-1,())) fun p=>Az p (fun p=>some (-1,())) fun p=>Az p (fun p=>some (-1,())) fun p=>some (p.1,())
def Aua:Ent:=⟨77,⟨(.slot (.slice Ad) (.slot .i .nil)),.nil⟩,⟨(.slot .i .nil),.nil⟩,Fk⟩
theorem Aej:CfgOK Go.Proofs.Tryz.prog Aub:=hcB (all_cons Aze (all_cons Azd all_nil))
theorem Au9:B9 Go.Proofs.Tryz.prog Aub (lpc Go.Proofs.Tryz.f77 0):=lkA Aej A4k Aeh BN Aee [1,4] Kz
theorem Azc:Ai Go.Proofs.Tryz.prog Aua:=okB Aej Go.Proofs.Tryz.func77 Au9
abbrev Aec:=List A1×Unit
abbrev Ae9:=Int×Int×Unit
abbrev Aea:=Int×Unit ⊕ Int×Unit ⊕ Int×Unit
def Fl (i:Aec)(v:Ae9)(R:Type)(K:Ae9 ⊕ Aea->Option R):Option R:=bif decide (v.2.1<(i.1.length:Int))then(lAt i.1 v.2.1).bind fun a=>bif a.1 != v.1 then K (.inr (.inl (v.1,())))else(lAt i.1 v.2.1).bind fun b=>bif b.2.1 != IntKind.i64.wrap (v.1+1)then K (.inr (.inr (.inl (IntKind.i64.wrap (v.1+1),()))))else K (.inl (IntKind.i64.wrap (IntKind.i64.wrap (v.1+1)+1),IntKind.i64.wrap (v.2.1+1),()))else K (.inr (.inr (.inr (v.1,()))))
theorem O2:Bg Fl:=fun i v R K=>Ae (Ac fun _=>Ae (Aa) (Ac fun _=>Ae (Aa) (Aa))) (Aa)
def A4j:Tmpl:=⟨(.slot (.slice A0) (.slot .i (jk 3 (.slot .i (jk 25 .nil))))),.nil⟩
def Ae8:Exs Aec Aea:=xs .ret (fun i p=>⟨jn 1 (.n (p.1)::jn 2 (.n (-1)::jn 26 ([]))),[]⟩)<|xs .ret (fun i p=>⟨jn 1 (.n (p.1)::jn 2 (.n (-1)::jn 26 ([]))),[]⟩)<|x1 (.exit 0) fun i p=>⟨jn 1 (.n (p.1)::jn 29 ([])),[]⟩
def Aeb:=((.i (.v (.v .n))):Pk A4j.ty _ _)
def Au8:Cfg:={ti:=Aw,ents:=[],ann:=[(2,Ao A4j 0 (spP Aeb) Fl Ae8.E)],lent:=0}
def Ig (x:List A1×Int×Unit):Option (Int×Unit):=(AC (fun v=>Fl (x.1,()) v _ some) (x.2.1,0,())).bind fun p=>Az p (fun p=>some (-1,())) fun p=>Az p (fun p=>some (-1,())) fun p=>some (p.1,())
def Au7:Ent:=⟨78,⟨(.slot (.slice A0) (.slot .i .nil)),.nil⟩,⟨(.slot .i .nil),.nil⟩,Ig⟩
theorem Aed:CfgOK Go.Proofs.Tryz.prog Au8:=hcB all_nil
theorem Au6:B9 Go.Proofs.Tryz.prog Au8 (lpc Go.Proofs.Tryz.f78 0):=lkA Aed A4j Aeb Fl Ae8 [1,4] O2
theorem Azb:Ai Go.Proofs.Tryz.prog Au7:=okB Aed Go.Proofs.Tryz.func78 Au6
abbrev Ae6:=List A1×Unit
abbrev Ae3:=Int×Int×Unit
abbrev Ae4:=Int×Unit ⊕ Int×Unit ⊕ Int×Unit
def Fj (i:Ae6)(v:Ae3)(R:Type)(K:Ae3 ⊕ Ae4->Option R):Option R:=bif decide (v.2.1<(i.1.length:Int))then(lAt i.1 v.2.1).bind fun a=>bif a.1 != v.1 then K (.inr (.inl (v.1,())))else(lAt i.1 v.2.1).bind fun b=>bif b.2.1 != IntKind.i64.wrap (v.1+1)then K (.inr (.inr (.inl (IntKind.i64.wrap (v.1+1),()))))else K (.inl (IntKind.i64.wrap (IntKind.i64.wrap (v.1+1)+1),IntKind.i64.wrap (v.2.1+1),()))else K (.inr (.inr (.inr (v.1,()))))
theorem O1:Bg Fj:=fun i v R K=>Ae (Ac fun _=>Ae (Aa) (Ac fun _=>Ae (Aa) (Aa))) (Aa)
def A4i:Tmpl:=⟨(.slot (.slice A0) (.slot .i (jk 3 (.slot .i (jk 25 .nil))))),.nil⟩
def Ae2:Exs Ae6 Ae4:=xs .ret (fun i p=>⟨jn 1 (.n (p.1)::jn 2 (.n (-1)::jn 26 ([]))),[]⟩)<|xs .ret (fun i p=>⟨jn 1 (.n (p.1)::jn 2 (.n (-1)::jn 26 ([]))),[]⟩)<|x1 (.exit 0) fun i p=>⟨jn 1 (.n (p.1)::jn 29 ([])),[]⟩
def Ae5:=((.i (.v (.v .n))):Pk A4i.ty _ _)
def Au5:Cfg:={ti:=Aw,ents:=[],ann:=[(2,Ao A4i 0 (spP Ae5) Fj Ae2.E)],lent:=0}
def Ic (x:List A1×Int×Unit):Option (Int×Unit):=(AC (fun v=>Fj (x.1,()) v _ some) (x.2.1,0,())).bind fun p=>Az p (fun p=>some (-1,())) fun p=>Az p (fun p=>some (-1,())) fun p=>some (p.1,())
def Au4:Ent:=⟨79,⟨(.slot (.slice A0) (.slot .i .nil)),.nil⟩,⟨(.slot .i .nil),.nil⟩,Ic⟩
theorem Ae7:CfgOK Go.Proofs.Tryz.prog Au5:=hcB all_nil
theorem Au3:B9 Go.Proofs.Tryz.prog Au5 (lpc Go.Proofs.Tryz.f79 0):=lkA Ae7 A4i Ae5 Fj Ae2 [1,4] O1
theorem Aza:Ai Go.Proofs.Tryz.prog Au4:=okB Ae7 Go.Proofs.Tryz.func79 Au3
def Gp (x:A5×Int×Unit):Option (Int×Unit):=(Ie ((x.1.2.1.1,()),x.2.1,())).bind fun v=>bif decide (v.1<0)then some (-1,())else(Fk (x.1.2.2.1,v.1,())).bind fun v=>bif decide (v.1<0)then some (-1,())else(Ig (x.1.2.2.2.1,v.1,())).bind fun v=>bif decide (v.1<0)then some (-1,())else(Ic (x.1.2.2.2.2.1,v.1,())).bind fun v=>bif decide (v.1<0)then some (-1,())else some (v.1,())
def Atx:Ent:=⟨18,⟨(.slot D9 (.slot .i .nil)),.nil⟩,⟨(.slot .i .nil),.nil⟩,Gp⟩
theorem Az8:Ai Go.Proofs.Tryz.prog Atx:=okA (hcA 0 (all_cons Azf (all_cons Azc (all_cons Azb (all_cons Aza all_nil))))) Go.Proofs.Tryz.func18
abbrev Adz:=List Int×Unit
abbrev Adw:=Int×Int×Unit
abbrev Adx:=Int×Unit ⊕ Int×Unit
def Hn (i:Adz)(v:Adw)(R:Type)(K:Adw ⊕ Adx->Option R):Option R:=bif decide (v.2.1<(i.1.length:Int))then(lAt i.1 v.2.1).bind fun a=>bif a != v.1 then K (.inr (.inl (v.1,())))else K (.inl (IntKind.i64.wrap (v.1+1),IntKind.i64.wrap (v.2.1+1),()))else K (.inr (.inr (v.1,())))
theorem QO:Bg Hn:=fun i v R K=>Ae (Ac fun _=>Ae (Aa) (Aa)) (Aa)
def A4g:Tmpl:=⟨(.slot (.slice .i) (.slot .i (jk 3 (.slot .i (jk 15 .nil))))),.nil⟩
def Adv:Exs Adz Adx:=xs .ret (fun i p=>⟨jn 1 (.n (p.1)::jn 2 (.n (-1)::jn 16 ([]))),[]⟩)<|x1 (.exit 0) fun i p=>⟨jn 1 (.n (p.1)::jn 19 ([])),[]⟩
def Ady:=((.i (.v (.v .n))):Pk A4g.ty _ _)
def Atw:Cfg:={ti:=Aw,ents:=[],ann:=[(2,Ao A4g 0 (spP Ady) Hn Adv.E)],lent:=0}
def K9 (x:List Int×Int×Unit):Option (Int×Unit):=(AC (fun v=>Hn (x.1,()) v _ some) (x.2.1,0,())).bind fun p=>Az p (fun p=>some (-1,())) fun p=>some (p.1,())
def Ae1:Ent:=⟨28,⟨(.slot (.slice .i) (.slot .i .nil)),.nil⟩,⟨(.slot .i .nil),.nil⟩,K9⟩
theorem Ae0:CfgOK Go.Proofs.Tryz.prog Atw:=hcB all_nil
theorem Atv:B9 Go.Proofs.Tryz.prog Atw (lpc Go.Proofs.Tryz.f28 0):=lkA Ae0 A4g Ady Hn Adv [1,4] QO
theorem Az7:Ai Go.Proofs.Tryz.prog Ae1:=okB Ae0 Go.Proofs.Tryz.func28 Atv
def LK (x:List A6×Int×Unit):Option (Int×Unit):=bif decide (IntKind.i64.wrap (x.2.1-(x.1.length:Int))<0)then some (-1,())else some (IntKind.i64.wrap (x.2.1-(x.1.length:Int)),())
def AI0:Ent:=⟨29,⟨(.slot (.slice YOp) (.slot .i .nil)),.nil⟩,⟨(.slot .i .nil),.nil⟩,LK⟩
theorem AJg:Ai Go.Proofs.Tryz.prog AI0:=okA (hcA 0 all_nil) Go.Proofs.Tryz.func29
abbrev AE8:=List A6×Unit
abbrev AE5:=Int×List A6×Unit
abbrev AE6:=List A6×Unit
def Hu (i:AE8)(v:AE5)(R:Type)(K:AE5 ⊕ AE6->Option R):Option R:=bif decide (v.1<(i.1.length:Int))then(lAt i.1 v.1).bind fun a=>(LH ((a.1,a.2.1,a.2.2.1,a.2.2.2.1,a.2.2.2.2.1,a.2.2.2.2.2.1,()),())).bind fun b=>if 0<=v.1/\v.1<(v.2.1.length:Int)then v.2.1[0+v.1.toNat]?.bind fun c=>K (.inl (IntKind.i64.wrap (v.1+1),v.2.1.set (0+v.1.toNat) (b.1,b.2.1,b.2.2.1,b.2.2.2.1,b.2.2.2.2.1,b.2.2.2.2.2.1,()),()))else none else K (.inr (v.2.1,()))
theorem Qa:Bg Hu:=fun i v R K=>Ae (Ac fun _=>Ac fun _=>Aq (Ac fun _=>Aa)) (Aa)
def Az6:Tmpl:=⟨(.slot (.slice YOp) (jk 2 (.own 0 (.slot .i (jk 18 .nil))))),(.lst false YOp .nil)⟩
def AE4:Exs AE8 AE6:=x1 (.exit 0) fun i p=>⟨jn 3 (AV.own 0 none none::jn 19 ([])),[some (Cont.lst false YOp p.1)]⟩
def AE7:=((.i (.v (.v .n))):Pk Az6.ty _ _)
def AHz:Cfg:={ti:=Aw,ents:=[Zj],ann:=[(3,Ao Az6 0 (spP AE7) Hu AE4.E)],lent:=0}
def Jj (x:List A6×Unit):Option (List A6×Unit):=if 0<=(x.1.length:Int)/\(x.1.length:Int)<=(x.1.length:Int)/\(x.1.length:Int)<=(↑733007751850:Int)then(AC (fun v=>Hu (x.1,()) v _ some) (0,List.replicate ((x.1.length:Int).toNat) (0,0,0,0,0,0,()),())).bind fun p=>some (p.1,())else none
def AHy:Ent:=⟨31,⟨(.slot (.slice YOp) .nil),.nil⟩,⟨(.own 0 .nil),(.lst false YOp .nil)⟩,Jj⟩
theorem AE9:CfgOK Go.Proofs.Tryz.prog AHz:=hcB (all_cons wk all_nil)
theorem AHx:B9 Go.Proofs.Tryz.prog AHz (lpc Go.Proofs.Tryz.f31 0):=lkA AE9 Az6 AE7 Hu AE4 [3] Qa
theorem AJf:Ai Go.Proofs.Tryz.prog AHy:=okB AE9 Go.Proofs.Tryz.func31 AHx
abbrev AE2:=Int×Bool×List (List A2)×List A3×List A1×List A1×Int×Unit
abbrev ADz:=Int×List Int×Unit
abbrev AE0:=List Int×Unit
def R6 (i:AE2)(v:ADz)(R:Type)(K:ADz ⊕ AE0->Option R):Option R:=bif decide (v.1<(i.2.2.2.1.length:Int))then(lAt i.2.2.2.1 v.1).bind fun a=>bif a.2.2.1==i.1 then(lAt i.2.2.2.1 v.1).bind fun b=>if(v.2.1++[b.1]).length<=4398046511104 then K (.inl (IntKind.i64.wrap (v.1+1),v.2.1++[b.1],()))else none else K (.inl (IntKind.i64.wrap (v.1+1),v.2.1,()))else K (.inr (v.2.1,()))
theorem sG:Bg R6:=fun i v R K=>Ae (Ac fun _=>Ae (Ac fun _=>Aq (Aa)) (Aa)) (Aa)
def Az5:Tmpl:=⟨(.junk (.slot .i (.ptr 0 0 0 (jk 2 (.own 1 (.slot .i (jk 26 .nil))))))),(.cells 6 (.slot .bool (.slot (.slice (.slice Af)) (.slot (.slice Ad) (.slot (.slice A0) (.slot (.slice A0) (.slot .i .nil)))))) (.lst false .i .nil))⟩
def ADy:Exs AE2 AE0:=x1 (.exit 0) fun i p=>⟨jn 5 (AV.own 1 none none::jn 27 ([])),[some (Cont.cells 6 [[AV.pv .bool i.2.1,AV.pv (.slice (.slice Af)) i.2.2.1,AV.pv (.slice Ad) i.2.2.2.1,AV.pv (.slice A0) i.2.2.2.2.1,AV.pv (.slice A0) i.2.2.2.2.2.1,AV.pv .i i.2.2.2.2.2.2.1]]),some (Cont.lst false .i p.1)]⟩
def AE1:=((.i (.v (.i (.i (.i (.i (.i (.i (.v .n))))))))):Pk Az5.ty _ _)
def AHw:Cfg:={ti:=Aw,ents:=[],ann:=[(3,Ao Az5 0 (spP AE1) R6 ADy.E)],lent:=0}
def Xy (x:A5×Int×Unit):Option (List Int×Unit):=(AC (fun v=>R6 (x.2.1,x.1.1,x.1.2.1.1,x.1.2.2.1,x.1.2.2.2.1,x.1.2.2.2.2.1,x.1.2.2.2.2.2.1,()) v _ some) (0,[],())).bind fun p=>some (p.1,())
def AHv:Ent:=⟨165,⟨(.slot D9 (.slot .i .nil)),.nil⟩,⟨(.own 0 .nil),(.lst false .i .nil)⟩,Xy⟩
theorem AE3:CfgOK Go.Proofs.Tryz.prog AHw:=hcB all_nil
theorem AHu:B9 Go.Proofs.Tryz.prog AHw (lpc Go.Proofs.Tryz.f165 0):=lkA AE3 Az5 AE1 R6 ADy [5] sG
theorem AJe:Ai Go.Proofs.Tryz.prog AHv:=okB AE3 Go.Proofs.Tryz.func165 AHu
def aA (x:A5×Unit):Option (Bool×Unit):=(EF ((x.1.1,(x.1.2.1.1,()),x.1.2.2.1,x.1.2.2.2.1,x.1.2.2.2.2.1,x.1.2.2.2.2.2.1,()),())).bind fun v=>bif v.1 then(Xy ((x.1.1,(x.1.2.1.1,()),x.1.2.2.1,x.1.2.2.2.1,x.1.2.2.2.2.1,x.1.2.2.2.2.2.1,()),1,())).bind fun v=>some ((v.1.length:Int)==0,())else some (false,())
def AAz:Ent:=⟨87,⟨(.slot D9 .nil),.nil⟩,⟨(.slot .bool .nil),.nil⟩,aA⟩
theorem AJd:Ai Go.Proofs.Tryz.prog AAz:=okA (hcA 0 (all_cons rD (all_cons AJe all_nil))) Go.Proofs.Tryz.func87
abbrev ADw:=List A6×Unit
abbrev ADt:=Int×Unit
abbrev ADu:=Unit ⊕ Unit ⊕ Unit ⊕ Unit ⊕ Unit ⊕ Unit ⊕ Unit ⊕ Unit ⊕ Unit
def GN (i:ADw)(v:ADt)(R:Type)(K:ADt ⊕ ADu->Option R):Option R:=bif decide (v.1<(i.1.length:Int))then(lAt i.1 v.1).bind fun a=>bif a.1==5 then(lAt i.1 v.1).bind fun b=>(Ea ((b.1,b.2.1,b.2.2.1,b.2.2.2.1,b.2.2.2.2.1,b.2.2.2.2.2.1,()),())).bind fun c=>bif !c.1 then K (.inr (.inl ()))else(lAt i.1 v.1).bind fun d=>(lAt i.1 0).bind fun e=>bif d.2.1 != e.2.1 then K (.inr (.inr (.inl ())))else(lAt i.1 v.1).bind fun f=>bif !(f.1==1)==(v.1==0)then K (.inr (.inr (.inr (.inl ()))))else bif !true==(v.1==IntKind.i64.wrap ((i.1.length:Int)-1))then K (.inr (.inr (.inr (.inr (.inl ())))))else K (.inl (IntKind.i64.wrap (v.1+1),()))else(lAt i.1 v.1).bind fun b=>(lAt i.1 v.1).bind fun c=>(Ea ((c.1,c.2.1,c.2.2.1,c.2.2.2.1,c.2.2.2.2.1,c.2.2.2.2.2.1,()),())).bind fun d=>bif !d.1 then K (.inr (.inr (.inr (.inr (.inr (.inl ()))))))else(lAt i.1 v.1).bind fun e=>(lAt i.1 0).bind fun f=>bif e.2.1 != f.2.1 then K (.inr (.inr (.inr (.inr (.inr (.inr (.inl ())))))))else(lAt i.1 v.1).bind fun g=>bif !(g.1==1)==(v.1==0)then K (.inr (.inr (.inr (.inr (.inr (.inr (.inr (.inl ()))))))))else bif !(b.1==6)==(v.1==IntKind.i64.wrap ((i.1.length:Int)-1))then K (.inr (.inr (.inr (.inr (.inr (.inr (.inr (.inr (.inl ())))))))))else K (.inl (IntKind.i64.wrap (v.1+1),()))else K (.inr (.inr (.inr (.inr (.inr (.inr (.inr (.inr (.inr ())))))))))
theorem Q0:Bg GN:=fun i v R K=>Ae (Ac fun _=>Ae (Ac fun _=>Ac fun _=>Ae (Aa) (Ac fun _=>Ac fun _=>Ae (Aa) (Ac fun _=>Ae (Aa) (Ae (Aa) (Aa))))) (Ac fun _=>Ac fun _=>Ac fun _=>Ae (Aa) (Ac fun _=>Ac fun _=>Ae (Aa) (Ac fun _=>Ae (Aa) (Ae (Aa) (Aa)))))) (Aa)
def Az4:Tmpl:=⟨(.slot (.slice YOp) (jk 2 (.slot .i (jk 62 .nil)))),.nil⟩
def ADs:Exs ADw ADu:=xs .ret (fun i p=>⟨AV.pv (.slice YOp) i.1::jn 1 (.b (false)::jn 63 ([])),[]⟩)<|xs .ret (fun i p=>⟨AV.pv (.slice YOp) i.1::jn 1 (.b (false)::jn 63 ([])),[]⟩)<|xs .ret (fun i p=>⟨AV.pv (.slice YOp) i.1::jn 1 (.b (false)::jn 63 ([])),[]⟩)<|xs .ret (fun i p=>⟨AV.pv (.slice YOp) i.1::jn 1 (.b (false)::jn 63 ([])),[]⟩)<|xs .ret (fun i p=>⟨AV.pv (.slice YOp) i.1::jn 1 (.b (false)::jn 63 ([])),[]⟩)<|xs .ret (fun i p=>⟨AV.pv (.slice YOp) i.1::jn 1 (.b (false)::jn 63 ([])),[]⟩)<|xs .ret (fun i p=>⟨AV.pv (.slice YOp) i.1::jn 1 (.b (false)::jn 63 ([])),[]⟩)<|xs .ret (fun i p=>⟨AV.pv (.slice YOp) i.1::jn 1 (.b (false)::jn 63 ([])),[]⟩)<|x1 (.exit 0) fun i p=>⟨AV.pv (.slice YOp) i.1::jn 65 ([]),[]⟩
def ADv:=((.i (.v .n)):Pk Az4.ty _ _)
def AHt:Cfg:={ti:=Aw,ents:=[XC,Qi],ann:=[(2,Ao Az4 0 (spP ADv) GN ADs.E)],lent:=0}
def JZ (x:List A6×Unit):Option (Bool×Unit):=(AC (fun v=>GN (x.1,()) v _ some) (0,())).bind fun p=>Az p (fun p=>some (false,())) fun p=>Az p (fun p=>some (false,())) fun p=>Az p (fun p=>some (false,())) fun p=>Az p (fun p=>some (false,())) fun p=>Az p (fun p=>some (false,())) fun p=>Az p (fun p=>some (false,())) fun p=>Az p (fun p=>some (false,())) fun p=>Az p (fun p=>some (false,())) fun p=>(Ak ((x.1.length:Int),2,12,())).bind fun v=>some (v.1,())
def AAy:Ent:=⟨88,⟨(.slot (.slice YOp) .nil),.nil⟩,⟨(.slot .bool .nil),.nil⟩,JZ⟩
theorem ADx:CfgOK Go.Proofs.Tryz.prog AHt:=hcB (all_cons rC (all_cons Qg all_nil))
theorem AHs:B9 Go.Proofs.Tryz.prog AHt (lpc Go.Proofs.Tryz.f88 0):=lkA ADx Az4 ADv GN ADs [0,2] Q0
theorem AJc:Ai Go.Proofs.Tryz.prog AAy:=okB ADx Go.Proofs.Tryz.func88 AHs
abbrev ADq:=List A6×Bool×Int×Unit
abbrev ADn:=Bool×Int×Bool×Int×List (List A2)×List A3×List A1×List A1×List (Int×List Int×Unit)×Unit
abbrev ADo:=Bool×Bool×Int×List (List A2)×List A3×List A1×List A1×List (Int×List Int×Unit)×Unit
def Wl (i:ADq)(v:ADn)(R:Type)(K:ADn ⊕ ADo->Option R):Option R:=bif decide (v.2.1<(i.1.length:Int))then(lAt i.1 v.2.1).bind fun a=>(FP ((v.2.2.1,(v.2.2.2.2.1,()),v.2.2.2.2.2.1,v.2.2.2.2.2.2.1,v.2.2.2.2.2.2.2.1,v.2.2.2.1,()),(a.1,a.2.1,a.2.2.1,a.2.2.2.1,a.2.2.2.2.1,a.2.2.2.2.2.1,()),())).bind fun b=>if(v.2.2.2.2.2.2.2.2.1++[(b.2.2.1,b.2.2.2.2.2.2.2.1,())]).length<=1099511627776 then bif v.1 then K (.inl (b.2.2.1==0,IntKind.i64.wrap (v.2.1+1),b.1,b.2.1,b.2.2.2.1,b.2.2.2.2.1,b.2.2.2.2.2.1,b.2.2.2.2.2.2.1,v.2.2.2.2.2.2.2.2.1++[(b.2.2.1,b.2.2.2.2.2.2.2.1,())],()))else K (.inl (false,IntKind.i64.wrap (v.2.1+1),b.1,b.2.1,b.2.2.2.1,b.2.2.2.2.1,b.2.2.2.2.2.1,b.2.2.2.2.2.2.1,v.2.2.2.2.2.2.2.2.1++[(b.2.2.1,b.2.2.2.2.2.2.2.1,())],()))else none else K (.inr (v.1,v.2.2.1,v.2.2.2.1,v.2.2.2.2.1,v.2.2.2.2.2.1,v.2.2.2.2.2.2.1,v.2.2.2.2.2.2.2.1,v.2.2.2.2.2.2.2.2.1,()))
theorem A74:Bg Wl:=fun i v R K=>Ae (Ac fun _=>Ac fun _=>Aq (Ae (Aa) (Aa))) (Aa)
def Az3:Tmpl:=⟨(.junk (.slot (.slice YOp) (jk 2 (.ptr 0 0 0 (jk 2 (.ptr 1 0 0 (.own 6 (.slot .bool (.slot .i (jk 44 .nil)))))))))),(.cells 6 (.slot .bool (.const (AV.nils) (.const (AV.nils) (.const (AV.nils) (.const (AV.nils) (.slot .i .nil)))))) (.cells 6 (.slot .bool (.own 2 (.own 3 (.own 4 (.own 5 (.slot .i .nil)))))) (.tree false 1 (.slice Af) (.lst false Ad (.lst false A0 (.lst false A0 (.tree false 0 LB .nil)))))))⟩
def ADm:Exs ADq ADo:=x1 (.exit 0) fun i p=>⟨jn 4 (AV.ptr 0 none 0 0::jn 2 (AV.ptr 1 none 0 0::AV.own 6 none none::.b (p.1)::jn 45 ([]))),[some (Cont.cells 6 [[AV.pv .bool i.2.1,AV.nils,AV.nils,AV.nils,AV.nils,AV.pv .i i.2.2.1]]),some (Cont.cells 6 [[AV.pv .bool p.2.1,AV.own 2 none none,AV.own 3 none none,AV.own 4 none none,AV.own 5 none none,AV.pv .i p.2.2.1]]),some (Cont.tree false 1 (.slice Af) p.2.2.2.1 none),some (Cont.lst false Ad p.2.2.2.2.1),some (Cont.lst false A0 p.2.2.2.2.2.1),some (Cont.lst false A0 p.2.2.2.2.2.2.1),some (Cont.tree false 0 LB p.2.2.2.2.2.2.2.1 none)]⟩
def ADp:=((.i (.v (.v (.i (.i (.v (.v (.v (.v (.v (.v (.v .n)))))))))))):Pk Az3.ty _ _)
def AHr:Cfg:={ti:=Aw,ents:=[cr,AAz,AAy,Zi],ann:=[(7,Ao Az3 0 (spP ADp) Wl ADm.E)],lent:=0}
def iE (x:A5×List A6×Unit):Option (Bool×Int×Bool×List (List A2)×List A3×List A1×List A1×List (Int×List Int×Unit)×Unit):=(HU ((x.1.1,(x.1.2.1.1,()),x.1.2.2.1,x.1.2.2.2.1,x.1.2.2.2.2.1,x.1.2.2.2.2.2.1,()),())).bind fun v=>(aA ((x.1.1,(x.1.2.1.1,()),x.1.2.2.1,x.1.2.2.2.1,x.1.2.2.2.2.1,x.1.2.2.2.2.2.1,()),())).bind fun a=>bif !a.1 then some (v.1,v.2.1,false,v.2.2.1,v.2.2.2.1,v.2.2.2.2.1,v.2.2.2.2.2.1,[],())else(JZ (x.2.1,())).bind fun b=>bif !b.1 then some (v.1,v.2.1,false,v.2.2.1,v.2.2.2.1,v.2.2.2.2.1,v.2.2.2.2.2.1,[],())else(AC (fun v=>Wl (x.2.1,false,0,()) v _ some) (true,0,v.1,v.2.1,v.2.2.1,v.2.2.2.1,v.2.2.2.2.1,v.2.2.2.2.2.1,[],())).bind fun p=>some (p.2.1,p.2.2.1,p.1,p.2.2.2.1,p.2.2.2.2.1,p.2.2.2.2.2.1,p.2.2.2.2.2.2.1,p.2.2.2.2.2.2.2.1,())
def AHq:Ent:=⟨43,⟨(.slot D9 (.slot (.slice YOp) .nil)),.nil⟩,⟨(.agg (.slot .bool (.own 0 (.own 1 (.own 2 (.own 3 (.slot .i .nil)))))) (.own 4 (.slot .bool .nil))),(.tree false 1 (.slice Af) (.lst false Ad (.lst false A0 (.lst false A0 (.tree false 0 LB .nil)))))⟩,iE⟩
theorem ADr:CfgOK Go.Proofs.Tryz.prog AHr:=hcB (all_cons rE (all_cons AJd (all_cons AJc (all_cons tC all_nil))))
theorem AHp:B9 Go.Proofs.Tryz.prog AHr (lpc Go.Proofs.Tryz.f43 0):=lkA ADr Az3 ADp Wl ADm [4,7,8,9] A74
theorem AJb:Ai Go.Proofs.Tryz.prog AHq:=okB ADr Go.Proofs.Tryz.func43 AHp
abbrev ADk:=Int×List A3×Int×Unit
abbrev ADh:=Int×List Int×Unit
abbrev ADi:=List Int×Unit
def K3 (i:ADk)(v:ADh)(R:Type)(K:ADh ⊕ ADi->Option R):Option R:=bif decide (v.1<i.2.2.1)then(lAt i.2.1 v.1).bind fun a=>bif a.2.2.1==i.1 then if(v.2.1++[a.1]).length<=4398046511104 then K (.inl (IntKind.i64.wrap (v.1+1),v.2.1++[a.1],()))else none else K (.inl (IntKind.i64.wrap (v.1+1),v.2.1,()))else K (.inr (v.2.1,()))
theorem Xo:Bg K3:=fun i v R K=>Ae (Ac fun _=>Ae (Aq (Aa)) (Aa)) (Aa)
def Az2:Tmpl:=⟨(.junk (.slot .i (jk 3 (.own 0 (jk 4 (.slot (.slice Ad) (si 2 (jk 14 .nil)))))))),(.lst false .i .nil)⟩
def ADg:Exs ADk ADi:=x1 (.exit 0) fun i p=>⟨jn 5 (AV.own 0 none none::jn 21 ([])),[some (Cont.lst false .i p.1)]⟩
def ADj:=((.i (.i (.i (.v (.v .n))))):Pk Az2.ty _ _)
def AHo:Cfg:={ti:=Aw,ents:=[],ann:=[(3,Ao Az2 0 (spP ADj) K3 ADg.E)],lent:=0}
def O3 (x:A5×Int×Unit):Option (List Int×Unit):=(AC (fun v=>K3 (x.2.1,x.1.2.2.1,(x.1.2.2.1.length:Int),()) v _ some) (0,[],())).bind fun p=>some (p.1,())
def AHn:Ent:=⟨160,⟨(.slot D9 (.slot .i .nil)),.nil⟩,⟨(.own 0 .nil),(.lst false .i .nil)⟩,O3⟩
theorem ADl:CfgOK Go.Proofs.Tryz.prog AHo:=hcB all_nil
theorem AHm:B9 Go.Proofs.Tryz.prog AHo (lpc Go.Proofs.Tryz.f160 0):=lkA ADl Az2 ADj K3 ADg [5] Xo
theorem AJa:Ai Go.Proofs.Tryz.prog AHn:=okB ADl Go.Proofs.Tryz.func160 AHm
def bX (x:A5×Unit):Option (Bool×Unit):=(OI ((x.1.1,(x.1.2.1.1,()),x.1.2.2.1,x.1.2.2.2.1,x.1.2.2.2.2.1,x.1.2.2.2.2.2.1,()),())).bind fun v=>bif v.1 then(O3 ((x.1.1,(x.1.2.1.1,()),x.1.2.2.1,x.1.2.2.2.1,x.1.2.2.2.2.1,x.1.2.2.2.2.2.1,()),1,())).bind fun v=>some ((v.1.length:Int)==0,())else some (false,())
def AAx:Ent:=⟨89,⟨(.slot D9 .nil),.nil⟩,⟨(.slot .bool .nil),.nil⟩,bX⟩
theorem AJ9:Ai Go.Proofs.Tryz.prog AAx:=okA (hcA 0 (all_cons nL (all_cons AJa all_nil))) Go.Proofs.Tryz.func89
abbrev ADe:=List A6×List A6×Int×Unit
abbrev ADb:=Int×Unit
abbrev ADc:=A6 ⊕ A6 ⊕ A6 ⊕ A6 ⊕ A6 ⊕ A6 ⊕ A6 ⊕ A6 ⊕ Unit
def GS (i:ADe)(v:ADb)(R:Type)(K:ADb ⊕ ADc->Option R):Option R:=bif decide (v.1<i.2.2.1)then(lAt i.2.1 v.1).bind fun a=>bif a.1==5 then(Fb ((a.1,a.2.1,a.2.2.1,a.2.2.2.1,a.2.2.2.2.1,a.2.2.2.2.2.1,()),())).bind fun b=>bif !b.1 then K (.inr (.inl (a.1,a.2.1,a.2.2.1,a.2.2.2.1,a.2.2.2.2.1,a.2.2.2.2.2.1,())))else(lAt i.1 0).bind fun c=>bif a.2.1 != c.2.1 then K (.inr (.inr (.inl (a.1,a.2.1,a.2.2.1,a.2.2.2.1,a.2.2.2.2.1,a.2.2.2.2.2.1,()))))else bif !(a.1==1)==(v.1==0)then K (.inr (.inr (.inr (.inl (a.1,a.2.1,a.2.2.1,a.2.2.2.1,a.2.2.2.2.1,a.2.2.2.2.2.1,())))))else bif !true==(v.1==IntKind.i64.wrap ((i.1.length:Int)-1))then K (.inr (.inr (.inr (.inr (.inl (a.1,a.2.1,a.2.2.1,a.2.2.2.1,a.2.2.2.2.1,a.2.2.2.2.2.1,()))))))else K (.inl (IntKind.i64.wrap (v.1+1),()))else(Fb ((a.1,a.2.1,a.2.2.1,a.2.2.2.1,a.2.2.2.2.1,a.2.2.2.2.2.1,()),())).bind fun b=>bif !b.1 then K (.inr (.inr (.inr (.inr (.inr (.inl (a.1,a.2.1,a.2.2.1,a.2.2.2.1,a.2.2.2.2.1,a.2.2.2.2.2.1,())))))))else(lAt i.1 0).bind fun c=>bif a.2.1 != c.2.1 then K (.inr (.inr (.inr (.inr (.inr (.inr (.inl (a.1,a.2.1,a.2.2.1,a.2.2.2.1,a.2.2.2.2.1,a.2.2.2.2.2.1,()))))))))else bif !(a.1==1)==(v.1==0)then K (.inr (.inr (.inr (.inr (.inr (.inr (.inr (.inl (a.1,a.2.1,a.2.2.1,a.2.2.2.1,a.2.2.2.2.1,a.2.2.2.2.2.1,())))))))))else bif !(a.1==6)==(v.1==IntKind.i64.wrap ((i.1.length:Int)-1))then K (.inr (.inr (.inr (.inr (.inr (.inr (.inr (.inr (.inl (a.1,a.2.1,a.2.2.1,a.2.2.2.1,a.2.2.2.2.1,a.2.2.2.2.2.1,()))))))))))else K (.inl (IntKind.i64.wrap (v.1+1),()))else K (.inr (.inr (.inr (.inr (.inr (.inr (.inr (.inr (.inr ())))))))))
theorem Q1:Bg GS:=fun i v R K=>Ae (Ac fun _=>Ae (Ac fun _=>Ae (Aa) (Ac fun _=>Ae (Aa) (Ae (Aa) (Ae (Aa) (Aa))))) (Ac fun _=>Ae (Aa) (Ac fun _=>Ae (Aa) (Ae (Aa) (Ae (Aa) (Aa)))))) (Aa)
def Az1:Tmpl:=⟨(.slot (.slice YOp) (jk 9 (.slot (.slice YOp) (si 2 (jk 42 .nil))))),.nil⟩
def ADa:Exs ADe ADc:=xs .ret (fun i p=>⟨jn 2 (.b (false)::jn 52 ([])),[some (Cont.cells 6 [[AV.pv .i p.1,AV.pv .i p.2.1,AV.pv .i p.2.2.1,AV.pv .i p.2.2.2.1,AV.pv .i p.2.2.2.2.1,AV.pv .i p.2.2.2.2.2.1]])]⟩)<|xs .ret (fun i p=>⟨jn 2 (.b (false)::jn 52 ([])),[some (Cont.cells 6 [[AV.pv .i p.1,AV.pv .i p.2.1,AV.pv .i p.2.2.1,AV.pv .i p.2.2.2.1,AV.pv .i p.2.2.2.2.1,AV.pv .i p.2.2.2.2.2.1]])]⟩)<|xs .ret (fun i p=>⟨jn 2 (.b (false)::jn 52 ([])),[some (Cont.cells 6 [[AV.pv .i p.1,AV.pv .i p.2.1,AV.pv .i p.2.2.1,AV.pv .i p.2.2.2.1,AV.pv .i p.2.2.2.2.1,AV.pv .i p.2.2.2.2.2.1]])]⟩)<|xs .ret (fun i p=>⟨jn 2 (.b (false)::jn 52 ([])),[some (Cont.cells 6 [[AV.pv .i p.1,AV.pv .i p.2.1,AV.pv .i p.2.2.1,AV.pv .i p.2.2.2.1,AV.pv .i p.2.2.2.2.1,AV.pv .i p.2.2.2.2.2.1]])]⟩)<|xs .ret (fun i p=>⟨jn 2 (.b (false)::jn 52 ([])),[some (Cont.cells 6 [[AV.pv .i p.1,AV.pv .i p.2.1,AV.pv .i p.2.2.1,AV.pv .i p.2.2.2.1,AV.pv .i p.2.2.2.2.1,AV.pv .i p.2.2.2.2.2.1]])]⟩)<|xs .ret (fun i p=>⟨jn 2 (.b (false)::jn 52 ([])),[some (Cont.cells 6 [[AV.pv .i p.1,AV.pv .i p.2.1,AV.pv .i p.2.2.1,AV.pv .i p.2.2.2.1,AV.pv .i p.2.2.2.2.1,AV.pv .i p.2.2.2.2.2.1]])]⟩)<|xs .ret (fun i p=>⟨jn 2 (.b (false)::jn 52 ([])),[some (Cont.cells 6 [[AV.pv .i p.1,AV.pv .i p.2.1,AV.pv .i p.2.2.1,AV.pv .i p.2.2.2.1,AV.pv .i p.2.2.2.2.1,AV.pv .i p.2.2.2.2.2.1]])]⟩)<|xs .ret (fun i p=>⟨jn 2 (.b (false)::jn 52 ([])),[some (Cont.cells 6 [[AV.pv .i p.1,AV.pv .i p.2.1,AV.pv .i p.2.2.1,AV.pv .i p.2.2.2.1,AV.pv .i p.2.2.2.2.1,AV.pv .i p.2.2.2.2.2.1]])]⟩)<|x1 (.exit 0) fun i p=>⟨jn 55 ([]),[]⟩
def ADd:=((.i (.i (.i (.v .n)))):Pk Az1.ty _ _)
def AHl:Cfg:={ti:=Aw,ents:=[XA,ZC],ann:=[(4,Ao Az1 0 (spP ADd) GS ADa.E)],lent:=0}
def J5 (x:List A6×Unit):Option (Bool×Unit):=(BL ((x.1.length:Int),2,12,())).bind fun v=>bif !v.1 then some (false,())else(AC (fun v=>GS (x.1,x.1,(x.1.length:Int),()) v _ some) (0,())).bind fun p=>Az p (fun p=>some (false,())) fun p=>Az p (fun p=>some (false,())) fun p=>Az p (fun p=>some (false,())) fun p=>Az p (fun p=>some (false,())) fun p=>Az p (fun p=>some (false,())) fun p=>Az p (fun p=>some (false,())) fun p=>Az p (fun p=>some (false,())) fun p=>Az p (fun p=>some (false,())) fun p=>some (true,())
def AAw:Ent:=⟨90,⟨(.slot (.slice YOp) .nil),.nil⟩,⟨(.slot .bool .nil),.nil⟩,J5⟩
theorem ADf:CfgOK Go.Proofs.Tryz.prog AHl:=hcB (all_cons Sy (all_cons nI all_nil))
theorem AHk:B9 Go.Proofs.Tryz.prog AHl (lpc Go.Proofs.Tryz.f90 0):=lkA ADf Az1 ADd GS ADa [2] Q1
theorem AJ8:Ai Go.Proofs.Tryz.prog AAw:=okB ADf Go.Proofs.Tryz.func90 AHk
abbrev AD8:=Int×List (Int×List Int×Unit)×Int×Unit
abbrev AD5:=Int×Int×Unit
abbrev AD6:=Int×Unit
def VC (i:AD8)(v:AD5)(R:Type)(K:AD5 ⊕ AD6->Option R):Option R:=bif decide (v.2.1<i.2.2.1)then(lAt i.2.1 v.2.1).bind fun a=>bif a.1==i.1 then K (.inl (IntKind.i64.wrap (v.1+1),IntKind.i64.wrap (v.2.1+1),()))else K (.inl (v.1,IntKind.i64.wrap (v.2.1+1),()))else K (.inr (v.1,()))
theorem A6y:Bg VC:=fun i v R K=>Ae (Ac fun _=>Ae (Aa) (Aa)) (Aa)
def Az0:Tmpl:=⟨(.junk (.slot .i (jk 3 (.slot .i (jk 2 (.slot (.slice LB) (si 2 (jk 11 .nil)))))))),.nil⟩
def AD4:Exs AD8 AD6:=x1 (.exit 0) fun i p=>⟨jn 5 (.n (p.1)::jn 16 ([])),[]⟩
def AD7:=((.i (.v (.i (.i (.v .n))))):Pk Az0.ty _ _)
def AHj:Cfg:={ti:=Aw,ents:=[],ann:=[(3,Ao Az0 0 (spP AD7) VC AD4.E)],lent:=0}
def im (x:List (Int×List Int×Unit)×Int×Unit):Option (Int×Unit):=(AC (fun v=>VC (x.2.1,x.1,(x.1.length:Int),()) v _ some) (0,0,())).bind fun p=>some (p.1,())
def AAv:Ent:=⟨91,⟨(.slot (.slice LB) (.slot .i .nil)),.nil⟩,⟨(.slot .i .nil),.nil⟩,im⟩
theorem AD9:CfgOK Go.Proofs.Tryz.prog AHj:=hcB all_nil
theorem AHi:B9 Go.Proofs.Tryz.prog AHj (lpc Go.Proofs.Tryz.f91 0):=lkA AD9 Az0 AD7 VC AD4 [5] A6y
theorem AJ7:Ai Go.Proofs.Tryz.prog AAv:=okB AD9 Go.Proofs.Tryz.func91 AHi
abbrev AD2:=List A6×Int×Bool×Int×Unit
abbrev ACz:=Int×Bool×Int×List (List A2)×List A3×List A1×List A1×List (Int×List Int×Unit)×Unit
abbrev AD0:=Bool×Int×List (List A2)×List A3×List A1×List A1×List (Int×List Int×Unit)×Unit
def Wo (i:AD2)(v:ACz)(R:Type)(K:ACz ⊕ AD0->Option R):Option R:=bif decide (v.1<i.2.1)then(lAt i.1 v.1).bind fun a=>(F8 (a.1,a.2.1,a.2.2.1,a.2.2.2.1,a.2.2.2.2.1,a.2.2.2.2.2.1,v.2.1,v.2.2.1,v.2.2.2.1,v.2.2.2.2.1,v.2.2.2.2.2.1,v.2.2.2.2.2.2.1,())).bind fun b=>if(v.2.2.2.2.2.2.2.1++[(b.1,b.2.2.2.2.2.2.2.1,())]).length<=1099511627776 then K (.inl (IntKind.i64.wrap (v.1+1),b.2.1,b.2.2.1,b.2.2.2.1,b.2.2.2.2.1,b.2.2.2.2.2.1,b.2.2.2.2.2.2.1,v.2.2.2.2.2.2.2.1++[(b.1,b.2.2.2.2.2.2.2.1,())],()))else none else K (.inr (v.2.1,v.2.2.1,v.2.2.2.1,v.2.2.2.2.1,v.2.2.2.2.2.1,v.2.2.2.2.2.2.1,v.2.2.2.2.2.2.2.1,()))
theorem Aaw:Bg Wo:=fun i v R K=>Ae (Ac fun _=>Ac fun _=>Aq (Aa)) (Aa)
def Ayz:Tmpl:=⟨(jk 4 (.ptr 0 0 0 (jk 2 (.ptr 1 0 0 (.own 6 (jk 14 (.slot (.slice YOp) (si 2 (jk 16 .nil))))))))),(.cells 6 (.slot .bool (.const (AV.nils) (.const (AV.nils) (.const (AV.nils) (.const (AV.nils) (.slot .i .nil)))))) (.cells 6 (.slot .bool (.own 2 (.own 3 (.own 4 (.own 5 (.slot .i .nil)))))) (.tree false 1 (.slice Af) (.tree false 1 Ad (.lst false A0 (.lst false A0 (.tree false 0 LB .nil)))))))⟩
def ACy:Exs AD2 AD0:=x1 (.exit 0) fun i p=>⟨jn 4 (AV.ptr 0 none 0 0::jn 2 (AV.ptr 1 none 0 0::AV.own 6 none none::jn 33 ([]))),[some (Cont.cells 6 [[AV.pv .bool i.2.2.1,AV.nils,AV.nils,AV.nils,AV.nils,AV.pv .i i.2.2.2.1]]),some (Cont.cells 6 [[AV.pv .bool p.1,AV.own 2 none none,AV.own 3 none none,AV.own 4 none none,AV.own 5 none none,AV.pv .i p.2.1]]),some (Cont.tree false 1 (.slice Af) p.2.2.1 none),some (Cont.tree false 1 Ad p.2.2.2.1 none),some (Cont.lst false A0 p.2.2.2.2.1),some (Cont.lst false A0 p.2.2.2.2.2.1),some (Cont.tree false 0 LB p.2.2.2.2.2.2.1 none)]⟩
def AD1:=((.i (.i (.v (.i (.i (.v (.v (.v (.v (.v (.v (.v .n)))))))))))):Pk Ayz.ty _ _)
def AHh:Cfg:={ti:=Aw,ents:=[eu,XU,AAx,AAw,AAv],ann:=[(6,Ao Ayz 0 (spP AD1) Wo ACy.E)],lent:=0,hid:=[((10,1),[0]),((10,4),[0]),((10,5),[0]),((10,6),[0])]}
def cl (x:A5×List A6×Unit):Option (Bool×Int×Bool×List (List A2)×List A3×List A1×List A1×List (Int×List Int×Unit)×Unit):=(OJ ((x.1.1,(x.1.2.1.1,()),x.1.2.2.1,x.1.2.2.2.1,x.1.2.2.2.2.1,x.1.2.2.2.2.2.1,()),())).bind fun v=>(bX ((x.1.1,(x.1.2.1.1,()),x.1.2.2.1,x.1.2.2.2.1,x.1.2.2.2.2.1,x.1.2.2.2.2.2.1,()),())).bind fun a=>bif !a.1 then some (v.1,v.2.1,false,v.2.2.1,v.2.2.2.1,v.2.2.2.2.1,v.2.2.2.2.2.1,[],())else(J5 (x.2.1,())).bind fun b=>bif !b.1 then some (v.1,v.2.1,false,v.2.2.1,v.2.2.2.1,v.2.2.2.2.1,v.2.2.2.2.2.1,[],())else(AC (fun v=>Wo (x.2.1,(x.2.1.length:Int),false,0,()) v _ some) (0,v.1,v.2.1,v.2.2.1,v.2.2.2.1,v.2.2.2.2.1,v.2.2.2.2.2.1,[],())).bind fun p=>(im (p.2.2.2.2.2.2.1,0,())).bind fun v=>some (p.1,p.2.1,v.1==(p.2.2.2.2.2.2.1.length:Int),p.2.2.1,p.2.2.2.1,p.2.2.2.2.1,p.2.2.2.2.2.1,p.2.2.2.2.2.2.1,())
def AHg:Ent:=⟨44,⟨(.slot D9 (.slot (.slice YOp) .nil)),.nil⟩,⟨(.agg (.slot .bool (.own 0 (.own 1 (.own 2 (.own 3 (.slot .i .nil)))))) (.own 4 (.slot .bool .nil))),(.tree false 1 (.slice Af) (.tree false 1 Ad (.lst false A0 (.lst false A0 (.tree false 0 LB .nil)))))⟩,cl⟩
theorem AD3:CfgOK Go.Proofs.Tryz.prog AHh:=hcB (all_cons rX (all_cons tk (all_cons AJ9 (all_cons AJ8 (all_cons AJ7 all_nil)))))
theorem AHf:B9 Go.Proofs.Tryz.prog AHh (lpc Go.Proofs.Tryz.f44 0):=lkA AD3 Ayz AD1 Wo ACy [4,7,8] Aaw
theorem AJ6:Ai Go.Proofs.Tryz.prog AHg:=okB AD3 Go.Proofs.Tryz.func44 AHf
abbrev ACw:=List (Int×List Int×Unit)×List (Int×List Int×Unit)×Unit
abbrev ACt:=Int×Unit
abbrev ACu:=Unit ⊕ Unit
def Oe (i:ACw)(v:ACt)(R:Type)(K:ACt ⊕ ACu->Option R):Option R:=bif decide (v.1<(i.1.length:Int))then(lAt i.1 v.1).bind fun a=>(lAt i.2.1 v.1).bind fun b=>(O7 ((a.1,a.2.1,()),(b.1,b.2.1,()),())).bind fun c=>bif !c.1 then K (.inr (.inl ()))else K (.inl (IntKind.i64.wrap (v.1+1),()))else K (.inr (.inr ()))
theorem iv:Bg Oe:=fun i v R K=>Ae (Ac fun _=>Ac fun _=>Ac fun _=>Ae (Aa) (Aa)) (Aa)
def Ayy:Tmpl:=⟨(.slot (.slice LB) (.slot (.slice LB) (jk 3 (.slot .i (jk 21 .nil))))),.nil⟩
def ACs:Exs ACw ACu:=xs .ret (fun i p=>⟨jn 4 (.b (false)::jn 22 ([])),[]⟩)<|x1 (.exit 0) fun i p=>⟨jn 27 ([]),[]⟩
def ACv:=((.i (.i (.v .n))):Pk Ayy.ty _ _)
def AHe:Cfg:={ti:=Aw,ents:=[A3a],ann:=[(4,Ao Ayy 0 (spP ACv) Oe ACs.E)],lent:=0}
def NQ (x:List (Int×List Int×Unit)×List (Int×List Int×Unit)×Unit):Option (Bool×Unit):=bif (x.1.length:Int) != (x.2.1.length:Int)then some (false,())else(AC (fun v=>Oe (x.1,x.2.1,()) v _ some) (0,())).bind fun p=>Az p (fun p=>some (false,())) fun p=>some (true,())
def AHd:Ent:=⟨33,⟨(.slot (.slice LB) (.slot (.slice LB) .nil)),.nil⟩,⟨(.slot .bool .nil),.nil⟩,NQ⟩
theorem ACx:CfgOK Go.Proofs.Tryz.prog AHe:=hcB (all_cons Age all_nil)
theorem AHc:B9 Go.Proofs.Tryz.prog AHe (lpc Go.Proofs.Tryz.f33 0):=lkA ACx Ayy ACv Oe ACs [4] iv
theorem AJ5:Ai Go.Proofs.Tryz.prog AHd:=okB ACx Go.Proofs.Tryz.func33 AHc
def M7 (x:A6×A6×Unit):Option (Bool×Unit):=bif x.1.1 != x.2.1.1 then some (false,())else bif x.1.2.1 != x.2.1.2.1 then some (false,())else bif x.1.2.2.1 != x.2.1.2.2.1 then some (false,())else bif x.1.2.2.2.1 != x.2.1.2.2.2.1 then some (false,())else bif x.1.2.2.2.2.1 != x.2.1.2.2.2.2.1 then some (false,())else bif x.1.2.2.2.2.2.1 != x.2.1.2.2.2.2.2.1 then some (false,())else some (true,())
def AAu:Ent:=⟨84,⟨(.slot YOp (.slot YOp .nil)),.nil⟩,⟨(.slot .bool .nil),.nil⟩,M7⟩
theorem AJ4:Ai Go.Proofs.Tryz.prog AAu:=okA (hcA 0 all_nil) Go.Proofs.Tryz.func84
abbrev ACq:=List A6×List A6×Unit
abbrev ACn:=Int×Unit
abbrev ACo:=Unit ⊕ Unit
def Hv (i:ACq)(v:ACn)(R:Type)(K:ACn ⊕ ACo->Option R):Option R:=bif decide (v.1<(i.1.length:Int))then(lAt i.1 v.1).bind fun a=>(lAt i.2.1 v.1).bind fun b=>(M7 ((a.1,a.2.1,a.2.2.1,a.2.2.2.1,a.2.2.2.2.1,a.2.2.2.2.2.1,()),(b.1,b.2.1,b.2.2.1,b.2.2.2.1,b.2.2.2.2.1,b.2.2.2.2.2.1,()),())).bind fun c=>bif !c.1 then K (.inr (.inl ()))else K (.inl (IntKind.i64.wrap (v.1+1),()))else K (.inr (.inr ()))
theorem Qd:Bg Hv:=fun i v R K=>Ae (Ac fun _=>Ac fun _=>Ac fun _=>Ae (Aa) (Aa)) (Aa)
def Ayx:Tmpl:=⟨(.slot (.slice YOp) (.slot (.slice YOp) (jk 3 (.slot .i (jk 21 .nil))))),.nil⟩
def ACm:Exs ACq ACo:=xs .ret (fun i p=>⟨jn 4 (.b (false)::jn 22 ([])),[]⟩)<|x1 (.exit 0) fun i p=>⟨jn 27 ([]),[]⟩
def ACp:=((.i (.i (.v .n))):Pk Ayx.ty _ _)
def AHb:Cfg:={ti:=Aw,ents:=[AAu],ann:=[(4,Ao Ayx 0 (spP ACp) Hv ACm.E)],lent:=0}
def K2 (x:List A6×List A6×Unit):Option (Bool×Unit):=bif (x.1.length:Int) != (x.2.1.length:Int)then some (false,())else(AC (fun v=>Hv (x.1,x.2.1,()) v _ some) (0,())).bind fun p=>Az p (fun p=>some (false,())) fun p=>some (true,())
def AHa:Ent:=⟨34,⟨(.slot (.slice YOp) (.slot (.slice YOp) .nil)),.nil⟩,⟨(.slot .bool .nil),.nil⟩,K2⟩
theorem ACr:CfgOK Go.Proofs.Tryz.prog AHb:=hcB (all_cons AJ4 all_nil)
theorem AH9:B9 Go.Proofs.Tryz.prog AHb (lpc Go.Proofs.Tryz.f34 0):=lkA ACr Ayx ACp Hv ACm [4] Qd
theorem AJ3:Ai Go.Proofs.Tryz.prog AHa:=okB ACr Go.Proofs.Tryz.func34 AH9
abbrev ACk:=Unit
abbrev ACh:=Int×Int×List A6×Unit
abbrev ACi:=Int×List A6×Unit
def J9 (i:ACk)(v:ACh)(R:Type)(K:ACh ⊕ ACi->Option R):Option R:=bif decide (v.2.1<(v.2.2.1.length:Int))then if 0<=v.2.1/\v.2.1<(v.2.2.1.length:Int)then v.2.2.1[0+v.2.1.toNat]?.bind fun a=>if 0<=v.2.1/\v.2.1<(↑((v.2.2.1.set (0+v.2.1.toNat) (v.1,a.2.1,a.2.2.1,a.2.2.2.1,a.2.2.2.2.1,a.2.2.2.2.2.1,())).length):Int)then(v.2.2.1.set (0+v.2.1.toNat) (v.1,a.2.1,a.2.2.1,a.2.2.2.1,a.2.2.2.2.1,a.2.2.2.2.2.1,()))[0+v.2.1.toNat]?.bind fun b=>if 0<=v.2.1/\v.2.1<(↑(((v.2.2.1.set (0+v.2.1.toNat) (v.1,a.2.1,a.2.2.1,a.2.2.2.1,a.2.2.2.2.1,a.2.2.2.2.2.1,())).set (0+v.2.1.toNat) (b.1,IntKind.i64.wrap (v.1+1),b.2.2.1,b.2.2.2.1,b.2.2.2.2.1,b.2.2.2.2.2.1,())).length):Int)then((v.2.2.1.set (0+v.2.1.toNat) (v.1,a.2.1,a.2.2.1,a.2.2.2.1,a.2.2.2.2.1,a.2.2.2.2.2.1,())).set (0+v.2.1.toNat) (b.1,IntKind.i64.wrap (v.1+1),b.2.2.1,b.2.2.2.1,b.2.2.2.2.1,b.2.2.2.2.2.1,()))[0+v.2.1.toNat]?.bind fun c=>if 0<=v.2.1/\v.2.1<(↑((((v.2.2.1.set (0+v.2.1.toNat) (v.1,a.2.1,a.2.2.1,a.2.2.2.1,a.2.2.2.2.1,a.2.2.2.2.2.1,())).set (0+v.2.1.toNat) (b.1,IntKind.i64.wrap (v.1+1),b.2.2.1,b.2.2.2.1,b.2.2.2.2.1,b.2.2.2.2.2.1,())).set (0+v.2.1.toNat) (c.1,c.2.1,IntKind.i64.wrap (IntKind.i64.wrap (v.1+1)+1),c.2.2.2.1,c.2.2.2.2.1,c.2.2.2.2.2.1,())).length):Int)then(((v.2.2.1.set (0+v.2.1.toNat) (v.1,a.2.1,a.2.2.1,a.2.2.2.1,a.2.2.2.2.1,a.2.2.2.2.2.1,())).set (0+v.2.1.toNat) (b.1,IntKind.i64.wrap (v.1+1),b.2.2.1,b.2.2.2.1,b.2.2.2.2.1,b.2.2.2.2.2.1,())).set (0+v.2.1.toNat) (c.1,c.2.1,IntKind.i64.wrap (IntKind.i64.wrap (v.1+1)+1),c.2.2.2.1,c.2.2.2.2.1,c.2.2.2.2.2.1,()))[0+v.2.1.toNat]?.bind fun d=>if 0<=v.2.1/\v.2.1<(↑(((((v.2.2.1.set (0+v.2.1.toNat) (v.1,a.2.1,a.2.2.1,a.2.2.2.1,a.2.2.2.2.1,a.2.2.2.2.2.1,())).set (0+v.2.1.toNat) (b.1,IntKind.i64.wrap (v.1+1),b.2.2.1,b.2.2.2.1,b.2.2.2.2.1,b.2.2.2.2.2.1,())).set (0+v.2.1.toNat) (c.1,c.2.1,IntKind.i64.wrap (IntKind.i64.wrap (v.1+1)+1),c.2.2.2.1,c.2.2.2.2.1,c.2.2.2.2.2.1,())).set (0+v.2.1.toNat) (d.1,d.2.1,d.2.2.1,IntKind.i64.wrap (IntKind.i64.wrap (IntKind.i64.wrap (v.1+1)+1)+1),d.2.2.2.2.1,d.2.2.2.2.2.1,())).length):Int)then((((v.2.2.1.set (0+v.2.1.toNat) (v.1,a.2.1,a.2.2.1,a.2.2.2.1,a.2.2.2.2.1,a.2.2.2.2.2.1,())).set (0+v.2.1.toNat) (b.1,IntKind.i64.wrap (v.1+1),b.2.2.1,b.2.2.2.1,b.2.2.2.2.1,b.2.2.2.2.2.1,())).set (0+v.2.1.toNat) (c.1,c.2.1,IntKind.i64.wrap (IntKind.i64.wrap (v.1+1)+1),c.2.2.2.1,c.2.2.2.2.1,c.2.2.2.2.2.1,())).set (0+v.2.1.toNat) (d.1,d.2.1,d.2.2.1,IntKind.i64.wrap (IntKind.i64.wrap (IntKind.i64.wrap (v.1+1)+1)+1),d.2.2.2.2.1,d.2.2.2.2.2.1,()))[0+v.2.1.toNat]?.bind fun e=>if 0<=v.2.1/\v.2.1<(↑((((((v.2.2.1.set (0+v.2.1.toNat) (v.1,a.2.1,a.2.2.1,a.2.2.2.1,a.2.2.2.2.1,a.2.2.2.2.2.1,())).set (0+v.2.1.toNat) (b.1,IntKind.i64.wrap (v.1+1),b.2.2.1,b.2.2.2.1,b.2.2.2.2.1,b.2.2.2.2.2.1,())).set (0+v.2.1.toNat) (c.1,c.2.1,IntKind.i64.wrap (IntKind.i64.wrap (v.1+1)+1),c.2.2.2.1,c.2.2.2.2.1,c.2.2.2.2.2.1,())).set (0+v.2.1.toNat) (d.1,d.2.1,d.2.2.1,IntKind.i64.wrap (IntKind.i64.wrap (IntKind.i64.wrap (v.1+1)+1)+1),d.2.2.2.2.1,d.2.2.2.2.2.1,())).set (0+v.2.1.toNat) (e.1,e.2.1,e.2.2.1,e.2.2.2.1,IntKind.i64.wrap (IntKind.i64.wrap (IntKind.i64.wrap (IntKind.i64.wrap (v.1+1)+1)+1)+1),e.2.2.2.2.2.1,())).length):Int)then(((((v.2.2.1.set (0+v.2.1.toNat) (v.1,a.2.1,a.2.2.1,a.2.2.2.1,a.2.2.2.2.1,a.2.2.2.2.2.1,())).set (0+v.2.1.toNat) (b.1,IntKind.i64.wrap (v.1+1),b.2.2.1,b.2.2.2.1,b.2.2.2.2.1,b.2.2.2.2.2.1,())).set (0+v.2.1.toNat) (c.1,c.2.1,IntKind.i64.wrap (IntKind.i64.wrap (v.1+1)+1),c.2.2.2.1,c.2.2.2.2.1,c.2.2.2.2.2.1,())).set (0+v.2.1.toNat) (d.1,d.2.1,d.2.2.1,IntKind.i64.wrap (IntKind.i64.wrap (IntKind.i64.wrap (v.1+1)+1)+1),d.2.2.2.2.1,d.2.2.2.2.2.1,())).set (0+v.2.1.toNat) (e.1,e.2.1,e.2.2.1,e.2.2.2.1,IntKind.i64.wrap (IntKind.i64.wrap (IntKind.i64.wrap (IntKind.i64.wrap (v.1+1)+1)+1)+1),e.2.2.2.2.2.1,()))[0+v.2.1.toNat]?.bind fun f=>K (.inl (IntKind.i64.wrap (IntKind.i64.wrap (IntKind.i64.wrap (IntKind.i64.wrap (IntKind.i64.wrap (IntKind.i64.wrap (v.1+1)+1)+1)+1)+1)+1),IntKind.i64.wrap (v.2.1+1),(((((v.2.2.1.set (0+v.2.1.toNat) (v.1,a.2.1,a.2.2.1,a.2.2.2.1,a.2.2.2.2.1,a.2.2.2.2.2.1,())).set (0+v.2.1.toNat) (b.1,IntKind.i64.wrap (v.1+1),b.2.2.1,b.2.2.2.1,b.2.2.2.2.1,b.2.2.2.2.2.1,())).set (0+v.2.1.toNat) (c.1,c.2.1,IntKind.i64.wrap (IntKind.i64.wrap (v.1+1)+1),c.2.2.2.1,c.2.2.2.2.1,c.2.2.2.2.2.1,())).set (0+v.2.1.toNat) (d.1,d.2.1,d.2.2.1,IntKind.i64.wrap (IntKind.i64.wrap (IntKind.i64.wrap (v.1+1)+1)+1),d.2.2.2.2.1,d.2.2.2.2.2.1,())).set (0+v.2.1.toNat) (e.1,e.2.1,e.2.2.1,e.2.2.2.1,IntKind.i64.wrap (IntKind.i64.wrap (IntKind.i64.wrap (IntKind.i64.wrap (v.1+1)+1)+1)+1),e.2.2.2.2.2.1,())).set (0+v.2.1.toNat) (f.1,f.2.1,f.2.2.1,f.2.2.2.1,f.2.2.2.2.1,IntKind.i64.wrap (IntKind.i64.wrap (IntKind.i64.wrap (IntKind.i64.wrap (IntKind.i64.wrap (v.1+1)+1)+1)+1)+1),()),()))else none else none else none else none else none else none else K (.inr (v.1,v.2.2.1,()))
theorem TG:Bg J9:=fun i v R K=>Ae (Aq (Ac fun _=>Aq (Ac fun _=>Aq (Ac fun _=>Aq (Ac fun _=>Aq (Ac fun _=>Aq (Ac fun _=>Aa))))))) (Aa)
def Ayw:Tmpl:=⟨(.own 0 (.slot .i (jk 3 (.slot .i (jk 49 .nil))))),(.lst false YOp .nil)⟩
def ACg:Exs ACk ACi:=x1 (.exit 0) fun i p=>⟨jn 1 (.n (p.1)::jn 53 ([])),[some (Cont.lst false YOp p.2.1)]⟩
def ACj:=((.v (.v (.v .n))):Pk Ayw.ty _ _)
def AH8:Cfg:={ti:=Aw,ents:=[],ann:=[(2,Ao Ayw 1 (spP ACj) J9 ACg.E)],lent:=1}
def MZ (x:Int×List A6×Unit):Option (Int×List A6×Unit):=(AC (fun v=>J9 () v _ some) (x.1,0,x.2.1,())).bind fun p=>some (p.1,p.2.1,())
def AH7:Ent:=⟨35,⟨(.own 0 (.slot .i .nil)),(.lst false YOp .nil)⟩,⟨(.slot .i .nil),(.lst false YOp .nil)⟩,MZ⟩
theorem ACl:CfgOK Go.Proofs.Tryz.prog AH8:=hcB all_nil
theorem AH6:B9 Go.Proofs.Tryz.prog AH8 (lpc Go.Proofs.Tryz.f35 0):=lkA ACl Ayw ACj J9 ACg [1] TG
theorem AJ2:Ai Go.Proofs.Tryz.prog AH7:=okB ACl Go.Proofs.Tryz.func35 AH6
abbrev ACe:=Nat×Unit
abbrev ACb:=Int×Int×List (Int×List Int×Unit)×Unit
abbrev ACc:=Int×List (Int×List Int×Unit)×Unit
def Ma (i:ACe)(v:ACb)(R:Type)(K:ACb ⊕ ACc->Option R):Option R:=v.2.2.1[i.1]?.bind fun a=>bif decide (v.2.1<(a.2.1.length:Int))then v.2.2.1[i.1]?.bind fun b=>if 0<=v.2.1/\v.2.1<(b.2.1.length:Int)then v.2.2.1[i.1]?.bind fun c=>c.2.1[0+v.2.1.toNat]?.bind fun d=>K (.inl (IntKind.i64.wrap (v.1+1),IntKind.i64.wrap (v.2.1+1),v.2.2.1.set i.1 (c.1,c.2.1.set (0+v.2.1.toNat) v.1,()),()))else none else K (.inr (v.1,v.2.2.1,()))
theorem bU:Bg Ma:=fun i v R K=>Ac fun _=>Ae (Ac fun _=>Aq (Ac fun _=>Ac fun _=>Aa)) (Aa)
def Ayv:Tmpl:=⟨(.nown 0 1 (.slot .i (jk 3 (.slot .i (jk 13 .nil))))),(.tree false 0 LB .nil)⟩
def ACa:Exs ACe ACc:=x1 (.exit 0) fun i p=>⟨jn 1 (.n (p.1)::jn 17 ([])),[some (Cont.tree false 0 LB p.2.1 none)]⟩
def ACd:=((.i (.v (.v (.v .n)))):Pk Ayv.ty _ _)
def AH5:Cfg:={ti:=Aw,ents:=[],ann:=[(2,Ao Ayv 1 (spP ACd) Ma ACa.E)],lent:=1}
def Qc (x:Nat×Int×List (Int×List Int×Unit)×Unit):Option (Int×List (Int×List Int×Unit)×Unit):=(AC (fun v=>Ma (x.1,()) v _ some) (x.2.1,0,x.2.2.1,())).bind fun p=>some (p.1,p.2.1,())
def AAt:Ent:=⟨27,⟨(.nown 0 1 (.slot .i .nil)),(.tree false 0 LB .nil)⟩,⟨(.slot .i .nil),(.tree false 0 LB .nil)⟩,Qc⟩
theorem ACf:CfgOK Go.Proofs.Tryz.prog AH5:=hcB all_nil
theorem AH4:B9 Go.Proofs.Tryz.prog AH5 (lpc Go.Proofs.Tryz.f27 0):=lkA ACf Ayv ACd Ma ACa [1] bU
theorem AJ1:Ai Go.Proofs.Tryz.prog AAt:=okB ACf Go.Proofs.Tryz.func27 AH4
abbrev AC8:=Unit
abbrev AC5:=Int×Int×List (Int×List Int×Unit)×Unit
abbrev AC6:=Int×List (Int×List Int×Unit)×Unit
def Jl (i:AC8)(v:AC5)(R:Type)(K:AC5 ⊕ AC6->Option R):Option R:=bif decide (v.2.1<(v.2.2.1.length:Int))then if 0<=v.2.1/\v.2.1<(v.2.2.1.length:Int)then v.2.2.1[0+v.2.1.toNat]?.bind fun a=>if 0<=v.2.1/\v.2.1<(↑((v.2.2.1.set (0+v.2.1.toNat) (v.1,a.2.1,())).length):Int)then(v.2.2.1.set (0+v.2.1.toNat) (v.1,a.2.1,()))[0+v.2.1.toNat]?.bind fun b=>(Qc (0+v.2.1.toNat,IntKind.i64.wrap (v.1+1),v.2.2.1.set (0+v.2.1.toNat) (v.1,a.2.1,()),())).bind fun c=>K (.inl (c.1,IntKind.i64.wrap (v.2.1+1),c.2.1,()))else none else none else K (.inr (v.1,v.2.2.1,()))
theorem ZW:Bg Jl:=fun i v R K=>Ae (Aq (Ac fun _=>Aq (Ac fun _=>Ac fun _=>Aa))) (Aa)
def Ayu:Tmpl:=⟨(.own 0 (.slot .i (jk 3 (.slot .i (jk 21 .nil))))),(.tree false 1 LB .nil)⟩
def AC4:Exs AC8 AC6:=x1 (.exit 0) fun i p=>⟨jn 1 (.n (p.1)::jn 25 ([])),[some (Cont.tree false 1 LB p.2.1 none)]⟩
def AC7:=((.v (.v (.v .n))):Pk Ayu.ty _ _)
def AH3:Cfg:={ti:=Aw,ents:=[AAt],ann:=[(2,Ao Ayu 1 (spP AC7) Jl AC4.E)],lent:=1}
def PR (x:Int×List (Int×List Int×Unit)×Unit):Option (Int×List (Int×List Int×Unit)×Unit):=(AC (fun v=>Jl () v _ some) (x.1,0,x.2.1,())).bind fun p=>some (p.1,p.2.1,())
def AH2:Ent:=⟨36,⟨(.own 0 (.slot .i .nil)),(.tree false 0 LB .nil)⟩,⟨(.slot .i .nil),(.tree false 1 LB .nil)⟩,PR⟩
theorem AC9:CfgOK Go.Proofs.Tryz.prog AH3:=hcB (all_cons AJ1 all_nil)
theorem AH1:B9 Go.Proofs.Tryz.prog AH3 (lpc Go.Proofs.Tryz.f36 0):=lkA AC9 Ayu AC7 Jl AC4 [1] ZW
theorem AJ0:Ai Go.Proofs.Tryz.prog AH2:=okB AC9 Go.Proofs.Tryz.func36 AH1
abbrev AC2:=List (Int×List Int×Unit)×Unit
abbrev ABz:=Int×Int×Unit
abbrev AC0:=Int×Unit ⊕ Int×Unit ⊕ Int×Unit
def Ke (i:AC2)(v:ABz)(R:Type)(K:ABz ⊕ AC0->Option R):Option R:=bif decide (v.2.1<(i.1.length:Int))then(lAt i.1 v.2.1).bind fun a=>bif a.1 != v.1 then K (.inr (.inl (v.1,())))else(lAt i.1 v.2.1).bind fun b=>(K9 (b.2.1,IntKind.i64.wrap (v.1+1),())).bind fun c=>bif decide (c.1<0)then K (.inr (.inr (.inl (c.1,()))))else K (.inl (c.1,IntKind.i64.wrap (v.2.1+1),()))else K (.inr (.inr (.inr (v.1,()))))
theorem cn:Bg Ke:=fun i v R K=>Ae (Ac fun _=>Ae (Aa) (Ac fun _=>Ac fun _=>Ae (Aa) (Aa))) (Aa)
def Ayt:Tmpl:=⟨(.slot (.slice LB) (.slot .i (jk 3 (.slot .i (jk 25 .nil))))),.nil⟩
def ABy:Exs AC2 AC0:=xs .ret (fun i p=>⟨jn 1 (.n (p.1)::jn 2 (.n (-1)::jn 26 ([]))),[]⟩)<|xs .ret (fun i p=>⟨jn 1 (.n (p.1)::jn 2 (.n (-1)::jn 26 ([]))),[]⟩)<|x1 (.exit 0) fun i p=>⟨jn 1 (.n (p.1)::jn 29 ([])),[]⟩
def AC1:=((.i (.v (.v .n))):Pk Ayt.ty _ _)
def AH0:Cfg:={ti:=Aw,ents:=[Ae1],ann:=[(2,Ao Ayt 0 (spP AC1) Ke ABy.E)],lent:=0}
def Pf (x:List (Int×List Int×Unit)×Int×Unit):Option (Int×Unit):=(AC (fun v=>Ke (x.1,()) v _ some) (x.2.1,0,())).bind fun p=>Az p (fun p=>some (-1,())) fun p=>Az p (fun p=>some (-1,())) fun p=>some (p.1,())
def AGz:Ent:=⟨37,⟨(.slot (.slice LB) (.slot .i .nil)),.nil⟩,⟨(.slot .i .nil),.nil⟩,Pf⟩
theorem AC3:CfgOK Go.Proofs.Tryz.prog AH0:=hcB (all_cons Az7 all_nil)
theorem AGy:B9 Go.Proofs.Tryz.prog AH0 (lpc Go.Proofs.Tryz.f37 0):=lkA AC3 Ayt AC1 Ke ABy [1,4] cn
theorem AIz:Ai Go.Proofs.Tryz.prog AGz:=okB AC3 Go.Proofs.Tryz.func37 AGy
def bW (x:A5×List A6×Unit):Option (Bool×Unit):=(VK ((x.1.1,(x.1.2.1.1,()),x.1.2.2.1,x.1.2.2.2.1,x.1.2.2.2.2.1,x.1.2.2.2.2.2.1,()),1048576,())).bind fun v=>bif decide (v.1<0)then some (true,())else(LK (x.2.1,v.1,())).bind fun v=>bif decide (v.1<0)then some (true,())else(N9 ((x.1.1,(x.1.2.1.1,()),x.1.2.2.1,x.1.2.2.2.1,x.1.2.2.2.2.1,x.1.2.2.2.2.2.1,()),())).bind fun v=>(Jj (x.2.1,())).bind fun a=>(iE ((v.1,(v.2.2.1,()),v.2.2.2.1,v.2.2.2.2.1,v.2.2.2.2.2.1,v.2.1,()),a.1,())).bind fun v=>(N9 ((x.1.1,(x.1.2.1.1,()),x.1.2.2.1,x.1.2.2.2.1,x.1.2.2.2.2.1,x.1.2.2.2.2.2.1,()),())).bind fun b=>(Jj (x.2.1,())).bind fun c=>(cl ((b.1,(b.2.2.1,()),b.2.2.2.1,b.2.2.2.2.1,b.2.2.2.2.2.1,b.2.1,()),c.1,())).bind fun d=>(FM ((d.1,(d.2.2.2.1,()),d.2.2.2.2.1,d.2.2.2.2.2.1,d.2.2.2.2.2.2.1,d.2.1,()),(v.1,(v.2.2.2.1,()),v.2.2.2.2.1,v.2.2.2.2.2.1,v.2.2.2.2.2.2.1,v.2.1,()),())).bind fun e=>bif !e.1 then some (false,())else(NQ (d.2.2.2.2.2.2.2.1,v.2.2.2.2.2.2.2.1,())).bind fun f=>bif !f.1 then some (false,())else bif !d.2.2.1==v.2.2.1 then some (false,())else(N9 ((x.1.1,(x.1.2.1.1,()),x.1.2.2.1,x.1.2.2.2.1,x.1.2.2.2.2.1,x.1.2.2.2.2.2.1,()),())).bind fun g=>(FM ((b.1,(b.2.2.1,()),b.2.2.2.1,b.2.2.2.2.1,b.2.2.2.2.2.1,b.2.1,()),(g.1,(g.2.2.1,()),g.2.2.2.1,g.2.2.2.2.1,g.2.2.2.2.2.1,g.2.1,()),())).bind fun h=>bif !h.1 then some (false,())else(Jj (x.2.1,())).bind fun j=>(K2 (c.1,j.1,())).bind fun k=>bif !k.1 then some (false,())else(Gb (b.1,b.2.1,1,b.2.2.1,b.2.2.2.1,b.2.2.2.2.1,b.2.2.2.2.2.1,())).bind fun l=>(MZ (l.1,c.1,())).bind fun m=>bif decide (m.1<0)then some (false,())else(FM ((d.1,(d.2.2.2.1,()),d.2.2.2.2.1,d.2.2.2.2.2.1,d.2.2.2.2.2.2.1,d.2.1,()),(v.1,(v.2.2.2.1,()),v.2.2.2.2.1,v.2.2.2.2.2.1,v.2.2.2.2.2.2.1,v.2.1,()),())).bind fun n=>bif !n.1 then some (false,())else(NQ (d.2.2.2.2.2.2.2.1,v.2.2.2.2.2.2.2.1,())).bind fun o=>bif !o.1 then some (false,())else bif !d.2.2.1==v.2.2.1 then some (false,())else(Gb (d.1,d.2.1,1,d.2.2.2.1,d.2.2.2.2.1,d.2.2.2.2.2.1,d.2.2.2.2.2.2.1,())).bind fun q=>(PR (q.1,d.2.2.2.2.2.2.2.1,())).bind fun r=>(Gp ((d.1,(q.2.1,()),q.2.2.1,q.2.2.2.1,q.2.2.2.2.1,d.2.1,()),1,())).bind fun s=>bif decide (s.1<0)then some (false,())else(Pf (r.2.1,s.1,())).bind fun t=>bif decide (t.1<0)then some (false,())else bif t.1 != r.1 then some (false,())else(N9 ((x.1.1,(x.1.2.1.1,()),x.1.2.2.1,x.1.2.2.2.1,x.1.2.2.2.2.1,x.1.2.2.2.2.2.1,()),())).bind fun u=>(Jj (x.2.1,())).bind fun w=>(cl ((u.1,(u.2.2.1,()),u.2.2.2.1,u.2.2.2.2.1,u.2.2.2.2.2.1,u.2.1,()),w.1,())).bind fun y=>(FM ((y.1,(y.2.2.2.1,()),y.2.2.2.2.1,y.2.2.2.2.2.1,y.2.2.2.2.2.2.1,y.2.1,()),(v.1,(v.2.2.2.1,()),v.2.2.2.2.1,v.2.2.2.2.2.1,v.2.2.2.2.2.2.1,v.2.1,()),())).bind fun z=>bif !z.1 then some (false,())else(NQ (y.2.2.2.2.2.2.2.1,v.2.2.2.2.2.2.2.1,())).bind fun A=>bif !A.1 then some (false,())else bif !y.2.2.1==v.2.2.1 then some (false,())else(Gp ((d.1,(q.2.1,()),q.2.2.1,q.2.2.2.1,q.2.2.2.2.1,d.2.1,()),1,())).bind fun v=>bif decide (v.1<0)then some (false,())else(Pf (r.2.1,v.1,())).bind fun v=>bif decide (v.1<0)then some (false,())else bif v.1 != r.1 then some (false,())else some (true,())
def AAs:Ent:=⟨8,⟨(.slot D9 (.slot (.slice YOp) .nil)),.nil⟩,⟨(.slot .bool .nil),.nil⟩,bW⟩
theorem AIy:Ai Go.Proofs.Tryz.prog AAs:=okA (hcA 0 (all_cons Af9 (all_cons AJ2 (all_cons AJ0 (all_cons A7e (all_cons AJg (all_cons kO (all_cons AJf (all_cons AJb (all_cons AJ6 (all_cons Agm (all_cons AJ5 (all_cons AJ3 (all_cons Az8 (all_cons AIz all_nil))))))))))))))) Go.Proofs.Tryz.func8
theorem laws_FnExactRunAlone_OK:Ai Go.Proofs.Tryz.prog AAs:=AIy
end
end Go.Ab
