import Derived.Test.YtchkllapojehpaaGreatSp2
set_option linter.all false
set_option maxRecDepth 100000
namespace Go.Ab
noncomputable section
abbrev Aeo:=List A1×Unit
abbrev Ael:=Int×Int×Unit
abbrev Aem:=Int×Unit ⊕ Int×Unit ⊕ Int×Unit
def ED (i:Aeo)(v:Ael)(R:Type)(K:Ael ⊕ Aem->Option R):Option R:=bif decide (v.2.1<(i.1.length:Int))then(lAt i.1 v.2.1).bind fun a=>bif a.1 != v.1 then K (.inr (.inl (v.1,())))else(lAt i.1 v.2.1).bind fun b=>bif b.2.1 != IntKind.i64.wrap (v.1+1)then K (.inr (.inr (.inl (IntKind.i64.wrap (v.1+1),()))))else K (.inl (IntKind.i64.wrap (IntKind.i64.wrap (v.1+1)+1),IntKind.i64.wrap (v.2.1+1),()))else K (.inr (.inr (.inr (v.1,()))))
theorem Nm:Bg ED:=fun i v R K=>Ae (Ac fun _=>Ae (Aa) (Ac fun _=>Ae (Aa) (Aa))) (Aa)
def A4l:Tmpl:=⟨(.slot (.slice A0) (.slot .i (jk 3 (.slot .i (jk 25 .nil))))),.nil⟩
def Aek:Exs Aeo Aem:=xs .ret (fun i p=>⟨jn 1 (.n (p.1)::jn 2 (.n (-1)::jn 26 ([]))),[]⟩)<|xs .ret (fun i p=>⟨jn 1 (.n (p.1)::jn 2 (.n (-1)::jn 26 ([]))),[]⟩)<|x1 (.exit 0) fun i p=>⟨jn 1 (.n (p.1)::jn 29 ([])),[]⟩
def Aen:=((.i (.v (.v .n))):Pk A4l.ty _ _)
def Aud:Cfg:={ti:=Aw,ents:=[],ann:=[(2,Ao A4l 0 (spP Aen) ED Aek.E)],lent:=0}
def HP (x:List A1×Int×Unit):Option (Int×Unit):=(AC (fun v=>ED (x.1,()) v _ some) (x.2.1,0,())).bind fun p=>Az p (fun p=>some (-1,())) fun p=>Az p (fun p=>some (-1,())) fun p=>some (p.1,())
def A8e:Ent:=⟨159,⟨(.slot (.slice A0) (.slot .i .nil)),.nil⟩,⟨(.slot .i .nil),.nil⟩,HP⟩
theorem Aep:CfgOK Go.Proofs.Tryz.prog Aud:=hcB all_nil
theorem Auc:B9 Go.Proofs.Tryz.prog Aud (lpc Go.Proofs.Tryz.f159 0):=lkA Aep A4l Aen ED Aek [1,4] Nm
theorem Azd:Ai Go.Proofs.Tryz.prog A8e:=okB Aep Go.Proofs.Tryz.func159 Auc
abbrev Aei:=List A3×Unit
abbrev Aef:=Int×Int×Unit
abbrev Aeg:=Int×Unit ⊕ Int×Unit ⊕ Int×Unit ⊕ Int×Unit ⊕ Int×Unit ⊕ Int×Unit ⊕ Int×Unit ⊕ Int×Unit ⊕ Int×Unit ⊕ Int×Unit
def BN (i:Aei)(v:Aef)(R:Type)(K:Aef ⊕ Aeg->Option R):Option R:=bif decide (v.2.1<(i.1.length:Int))then(lAt i.1 v.2.1).bind fun a=>bif a.1 != v.1 then K (.inr (.inl (v.1,())))else(lAt i.1 v.2.1).bind fun b=>bif b.2.1 != IntKind.i64.wrap (v.1+1)then K (.inr (.inr (.inl (IntKind.i64.wrap (v.1+1),()))))else(lAt i.1 v.2.1).bind fun c=>bif c.2.2.1 != IntKind.i64.wrap (IntKind.i64.wrap (v.1+1)+1)then K (.inr (.inr (.inr (.inl (IntKind.i64.wrap (IntKind.i64.wrap (v.1+1)+1),())))))else(lAt i.1 v.2.1).bind fun d=>bif d.2.2.2.1 != IntKind.i64.wrap (IntKind.i64.wrap (IntKind.i64.wrap (v.1+1)+1)+1)then K (.inr (.inr (.inr (.inr (.inl (IntKind.i64.wrap (IntKind.i64.wrap (IntKind.i64.wrap (v.1+1)+1)+1),()))))))else(lAt i.1 v.2.1).bind fun e=>bif e.2.2.2.2.1 != IntKind.i64.wrap (IntKind.i64.wrap (IntKind.i64.wrap (IntKind.i64.wrap (v.1+1)+1)+1)+1)then K (.inr (.inr (.inr (.inr (.inr (.inl (IntKind.i64.wrap (IntKind.i64.wrap (IntKind.i64.wrap (IntKind.i64.wrap (v.1+1)+1)+1)+1),())))))))else(lAt i.1 v.2.1).bind fun f=>bif f.2.2.2.2.2.1 != IntKind.i64.wrap (IntKind.i64.wrap (IntKind.i64.wrap (IntKind.i64.wrap (IntKind.i64.wrap (v.1+1)+1)+1)+1)+1)then K (.inr (.inr (.inr (.inr (.inr (.inr (.inl (IntKind.i64.wrap (IntKind.i64.wrap (IntKind.i64.wrap (IntKind.i64.wrap (IntKind.i64.wrap (v.1+1)+1)+1)+1)+1),()))))))))else(lAt i.1 v.2.1).bind fun g=>bif g.2.2.2.2.2.2.1 != IntKind.i64.wrap (IntKind.i64.wrap (IntKind.i64.wrap (IntKind.i64.wrap (IntKind.i64.wrap (IntKind.i64.wrap (v.1+1)+1)+1)+1)+1)+1)then K (.inr (.inr (.inr (.inr (.inr (.inr (.inr (.inl (IntKind.i64.wrap (IntKind.i64.wrap (IntKind.i64.wrap (IntKind.i64.wrap (IntKind.i64.wrap (IntKind.i64.wrap (v.1+1)+1)+1)+1)+1)+1),())))))))))else(lAt i.1 v.2.1).bind fun h=>(Gn (h.2.2.2.2.2.2.2.1,IntKind.i64.wrap (IntKind.i64.wrap (IntKind.i64.wrap (IntKind.i64.wrap (IntKind.i64.wrap (IntKind.i64.wrap (IntKind.i64.wrap (v.1+1)+1)+1)+1)+1)+1)+1),())).bind fun j=>bif decide (j.1<0)then K (.inr (.inr (.inr (.inr (.inr (.inr (.inr (.inr (.inl (j.1,()))))))))))else(lAt i.1 v.2.1).bind fun k=>(HP (k.2.2.2.2.2.2.2.2.1,j.1,())).bind fun l=>bif decide (l.1<0)then K (.inr (.inr (.inr (.inr (.inr (.inr (.inr (.inr (.inr (.inl (l.1,())))))))))))else K (.inl (l.1,IntKind.i64.wrap (v.2.1+1),()))else K (.inr (.inr (.inr (.inr (.inr (.inr (.inr (.inr (.inr (.inr (v.1,())))))))))))
theorem Kz:Bg BN:=fun i v R K=>Ae (Ac fun _=>Ae (Aa) (Ac fun _=>Ae (Aa) (Ac fun _=>Ae (Aa) (Ac fun _=>Ae (Aa) (Ac fun _=>Ae (Aa) (Ac fun _=>Ae (Aa) (Ac fun _=>Ae (Aa) (Ac fun _=>Ac fun _=>Ae (Aa) (Ac fun _=>Ac fun _=>Ae (Aa) (Aa)))))))))) (Aa)
def A4k:Tmpl:=⟨(.slot (.slice Ad) (.slot .i (jk 3 (.slot .i (jk 88 .nil))))),.nil⟩
def Aee:Exs Aei Aeg:=xs .ret (fun i p=>⟨jn 1 (.n (p.1)::jn 2 (.n (-1)::jn 89 ([]))),[]⟩)<|xs .ret (fun i p=>⟨jn 1 (.n (p.1)::jn 2 (.n (-1)::jn 89 ([]))),[]⟩)<|xs .ret (fun i p=>⟨jn 1 (.n (p.1)::jn 2 (.n (-1)::jn 89 ([]))),[]⟩)<|xs .ret (fun i p=>⟨jn 1 (.n (p.1)::jn 2 (.n (-1)::jn 89 ([]))),[]⟩)<|xs .ret (fun i p=>⟨jn 1 (.n (p.1)::jn 2 (.n (-1)::jn 89 ([]))),[]⟩)<|xs .ret (fun i p=>⟨jn 1 (.n (p.1)::jn 2 (.n (-1)::jn 89 ([]))),[]⟩)<|xs .ret (fun i p=>⟨jn 1 (.n (p.1)::jn 2 (.n (-1)::jn 89 ([]))),[]⟩)<|xs .ret (fun i p=>⟨jn 1 (.n (p.1)::jn 2 (.n (-1)::jn 89 ([]))),[]⟩)<|xs .ret (fun i p=>⟨jn 1 (.n (p.1)::jn 2 (.n (-1)::jn 89 ([]))),[]⟩)<|x1 (.exit 0) fun i p=>⟨jn 1 (.n (p.1)::jn 92 ([])),[]⟩
def Aeh:=((.i (.v (.v .n))):Pk A4k.ty _ _)
def Aub:Cfg:={ti:=Aw,ents:=[A8f,A8e],ann:=[(2,Ao A4k 0 (spP Aeh) BN Aee.E)],lent:=0}
def Fk (x:List A3×Int×Unit):Option (Int×Unit):=(AC (fun v=>BN (x.1,()) v _ some) (x.2.1,0,())).bind fun p=>Az p (fun p=>some (-1,())) fun p=>Az p (fun p=>some (-1,())) fun p=>Az p (fun p=>some (-1,())) fun p=>Az p (fun p=>some (-1,())) fun p=>Az p (fun p=>some (-1,())) fun p=>Az p (fun p=>some (-1,())) fun p=>Az p (fun p=>some (-1,())) fun p=>Az p (fun p=>some (-1,())) fun p=>Az p (fun p=>some (-1,())) fun p=>some (p.1,())
def Aua:Ent:=⟨77,⟨(.slot (.slice Ad) (.slot .i .nil)),.nil⟩,⟨(.slot .i .nil),.nil⟩,Fk⟩
theorem Aej:CfgOK Go.Proofs.Tryz.prog Aub:=hcB (all_cons Aze (all_cons Azd all_nil))
theorem Au9:B9 Go.Proofs.Tryz.prog Aub (lpc Go.Proofs.Tryz.f77 0):=lkA Aej A4k Aeh BN Aee [1,4] Kz
theorem Azc:Ai Go.Proofs.Tryz.prog Aua:=okB Aej Go.Proofs.Tryz.func77 Au9
abbrev Aec:=List A1×Unit
abbrev Ae9:=Int×Int×Unit
abbrev Aea:=Int×Unit ⊕ Int×Unit ⊕ Int×Unit
def Fl (i:Aec)(v:Ae9)(R:Type)(K:Ae9 ⊕ Aea->Option R):Option R:=bif decide (v.2.1<(i.1.length:Int))then(lAt i.1 v.2.1).bind fun a=>bif a.1 != v.1 then K (.inr (.inl (v.1,())))else(lAt i.1 v.2.1).bind fun b=>bif b.2.1 != IntKind.i64.wrap (v.1+1)then K (.inr (.inr (.inl (IntKind.i64.wrap (v.1+1),()))))else K (.inl (IntKind.i64.wrap (IntKind.i64.wrap (v.1+1)+1),IntKind.i64.wrap (v.2.1+1),()))else K (.inr (.inr (.inr (v.1,()))))
theorem O2:Bg Fl:=fun i v R K=>Ae (Ac fun _=>Ae (Aa) (Ac fun _=>Ae (Aa) (Aa))) (Aa)
def A4j:Tmpl:=⟨(.slot (.slice A0) (.slot .i (jk 3 (.slot .i (jk 25 .nil))))),.nil⟩
def Ae8:Exs Aec Aea:=xs .ret (fun i p=>⟨jn 1 (.n (p.1)::jn 2 (.n (-1)::jn 26 ([]))),[]⟩)<|xs .ret (fun i p=>⟨jn 1 (.n (p.1)::jn 2 (.n (-1)::jn 26 ([]))),[]⟩)<|x1 (.exit 0) fun i p=>⟨jn 1 (.n (p.1)::jn 29 ([])),[]⟩
def Aeb:=((.i (.v (.v .n))):Pk A4j.ty _ _)
def Au8:Cfg:={ti:=Aw,ents:=[],ann:=[(2,Ao A4j 0 (spP Aeb) Fl Ae8.E)],lent:=0}
def Ig (x:List A1×Int×Unit):Option (Int×Unit):=(AC (fun v=>Fl (x.1,()) v _ some) (x.2.1,0,())).bind fun p=>Az p (fun p=>some (-1,())) fun p=>Az p (fun p=>some (-1,())) fun p=>some (p.1,())
def Au7:Ent:=⟨78,⟨(.slot (.slice A0) (.slot .i .nil)),.nil⟩,⟨(.slot .i .nil),.nil⟩,Ig⟩
theorem Aed:CfgOK Go.Proofs.Tryz.prog Au8:=hcB all_nil
theorem Au6:B9 Go.Proofs.Tryz.prog Au8 (lpc Go.Proofs.Tryz.f78 0):=lkA Aed A4j Aeb Fl Ae8 [1,4] O2
theorem Azb:Ai Go.Proofs.Tryz.prog Au7:=okB Aed Go.Proofs.Tryz.func78 Au6
abbrev Ae6:=List A1×Unit
abbrev Ae3:=Int×Int×Unit
abbrev Ae4:=Int×Unit ⊕ Int×Unit ⊕ Int×Unit
def Fj (i:Ae6)(v:Ae3)(R:Type)(K:Ae3 ⊕ Ae4->Option R):Option R:=bif decide (v.2.1<(i.1.length:Int))then(lAt i.1 v.2.1).bind fun a=>bif a.1 != v.1 then K (.inr (.inl (v.1,())))else(lAt i.1 v.2.1).bind fun b=>bif b.2.1 != IntKind.i64.wrap (v.1+1)then K (.inr (.inr (.inl (IntKind.i64.wrap (v.1+1),()))))else K (.inl (IntKind.i64.wrap (IntKind.i64.wrap (v.1+1)+1),IntKind.i64.wrap (v.2.1+1),()))else K (.inr (.inr (.inr (v.1,()))))
theorem O1:Bg Fj:=fun i v R K=>Ae (Ac fun _=>Ae (Aa) (Ac fun _=>Ae (Aa) (Aa))) (Aa)
def A4i:Tmpl:=⟨(.slot (.slice A0) (.slot .i (jk 3 (.slot .i (jk 25 .nil))))),.nil⟩
def Ae2:Exs Ae6 Ae4:=xs .ret (fun i p=>⟨jn 1 (.n (p.1)::jn 2 (.n (-1)::jn 26 ([]))),[]⟩)<|xs .ret (fun i p=>⟨jn 1 (.n (p.1)::jn 2 (.n (-1)::jn 26 ([]))),[]⟩)<|x1 (.exit 0) fun i p=>⟨jn 1 (.n (p.1)::jn 29 ([])),[]⟩
def Ae5:=((.i (.v (.v .n))):Pk A4i.ty _ _)
def Au5:Cfg:={ti:=Aw,ents:=[],ann:=[(2,Ao A4i 0 (spP Ae5) Fj Ae2.E)],lent:=0}
def Ic (x:List A1×Int×Unit):Option (Int×Unit):=(AC (fun v=>Fj (x.1,()) v _ some) (x.2.1,0,())).bind fun p=>Az p (fun p=>some (-1,())) fun p=>Az p (fun p=>some (-1,())) fun p=>some (p.1,())
def Au4:Ent:=⟨79,⟨(.slot (.slice A0) (.slot .i .nil)),.nil⟩,⟨(.slot .i .nil),.nil⟩,Ic⟩
theorem Ae7:CfgOK Go.Proofs.Tryz.prog Au5:=hcB all_nil
theorem Au3:B9 Go.Proofs.Tryz.prog Au5 (lpc Go.Proofs.Tryz.f79 0):=lkA Ae7 A4i Ae5 Fj Ae2 [1,4] O1
theorem Aza:Ai Go.Proofs.Tryz.prog Au4:=okB Ae7 Go.Proofs.Tryz.func79 Au3
def Gp (x:A5×Int×Unit):Option (Int×Unit):=(Ie ((x.1.2.1.1,()),x.2.1,())).bind fun v=>bif decide (v.1<0)then some (-1,())else(Fk (x.1.2.2.1,v.1,())).bind fun v=>bif decide (v.1<0)then some (-1,())else(Ig (x.1.2.2.2.1,v.1,())).bind fun v=>bif decide (v.1<0)then some (-1,())else(Ic (x.1.2.2.2.2.1,v.1,())).bind fun v=>bif decide (v.1<0)then some (-1,())else some (v.1,())
def Atx:Ent:=⟨18,⟨(.slot D9 (.slot .i .nil)),.nil⟩,⟨(.slot .i .nil),.nil⟩,Gp⟩
theorem Az8:Ai Go.Proofs.Tryz.prog Atx:=okA (hcA 0 (all_cons Azf (all_cons Azc (all_cons Azb (all_cons Aza all_nil))))) Go.Proofs.Tryz.func18
abbrev Adz:=List Int×Unit
abbrev Adw:=Int×Int×Unit
abbrev Adx:=Int×Unit ⊕ Int×Unit
def Hn (i:Adz)(v:Adw)(R:Type)(K:Adw ⊕ Adx->Option R):Option R:=bif decide (v.2.1<(i.1.length:Int))then(lAt i.1 v.2.1).bind fun a=>bif a != v.1 then K (.inr (.inl (v.1,())))else K (.inl (IntKind.i64.wrap (v.1+1),IntKind.i64.wrap (v.2.1+1),()))else K (.inr (.inr (v.1,())))
theorem QO:Bg Hn:=fun i v R K=>Ae (Ac fun _=>Ae (Aa) (Aa)) (Aa)
def A4g:Tmpl:=⟨(.slot (.slice .i) (.slot .i (jk 3 (.slot .i (jk 15 .nil))))),.nil⟩
def Adv:Exs Adz Adx:=xs .ret (fun i p=>⟨jn 1 (.n (p.1)::jn 2 (.n (-1)::jn 16 ([]))),[]⟩)<|x1 (.exit 0) fun i p=>⟨jn 1 (.n (p.1)::jn 19 ([])),[]⟩
def Ady:=((.i (.v (.v .n))):Pk A4g.ty _ _)
def Atw:Cfg:={ti:=Aw,ents:=[],ann:=[(2,Ao A4g 0 (spP Ady) Hn Adv.E)],lent:=0}
def K9 (x:List Int×Int×Unit):Option (Int×Unit):=(AC (fun v=>Hn (x.1,()) v _ some) (x.2.1,0,())).bind fun p=>Az p (fun p=>some (-1,())) fun p=>some (p.1,())
def Ae1:Ent:=⟨28,⟨(.slot (.slice .i) (.slot .i .nil)),.nil⟩,⟨(.slot .i .nil),.nil⟩,K9⟩
theorem Ae0:CfgOK Go.Proofs.Tryz.prog Atw:=hcB all_nil
theorem Atv:B9 Go.Proofs.Tryz.prog Atw (lpc Go.Proofs.Tryz.f28 0):=lkA Ae0 A4g Ady Hn Adv [1,4] QO
theorem Az7:Ai Go.Proofs.Tryz.prog Ae1:=okB Ae0 Go.Proofs.Tryz.func28 Atv
def ck (x:(Int×List Int×Unit)×Int×Unit):Option (Int×Unit):=(K9 (x.1.2.1,x.2.1,())).bind fun v=>bif decide (v.1<0)then some (-1,())else some (v.1,())
def AI1:Ent:=⟨19,⟨(.slot LB (.slot .i .nil)),.nil⟩,⟨(.slot .i .nil),.nil⟩,ck⟩
theorem AJi:Ai Go.Proofs.Tryz.prog AI1:=okA (hcA 0 (all_cons Az7 all_nil)) Go.Proofs.Tryz.func19
def Zd (x:A5×A6×Unit):Option (Bool×Unit):=(VK ((x.1.1,(x.1.2.1.1,()),x.1.2.2.1,x.1.2.2.2.1,x.1.2.2.2.2.1,x.1.2.2.2.2.2.1,()),1048576,())).bind fun v=>bif decide (v.1<0)then some (true,())else(N9 ((x.1.1,(x.1.2.1.1,()),x.1.2.2.1,x.1.2.2.2.1,x.1.2.2.2.2.1,x.1.2.2.2.2.2.1,()),())).bind fun v=>(LH ((x.2.1.1,x.2.1.2.1,x.2.1.2.2.1,x.2.1.2.2.2.1,x.2.1.2.2.2.2.1,x.2.1.2.2.2.2.2.1,()),())).bind fun a=>(FP ((v.1,(v.2.2.1,()),v.2.2.2.1,v.2.2.2.2.1,v.2.2.2.2.2.1,v.2.1,()),(a.1,a.2.1,a.2.2.1,a.2.2.2.1,a.2.2.2.2.1,a.2.2.2.2.2.1,()),())).bind fun v=>(N9 ((x.1.1,(x.1.2.1.1,()),x.1.2.2.1,x.1.2.2.2.1,x.1.2.2.2.2.1,x.1.2.2.2.2.2.1,()),())).bind fun b=>(LH ((x.2.1.1,x.2.1.2.1,x.2.1.2.2.1,x.2.1.2.2.2.1,x.2.1.2.2.2.2.1,x.2.1.2.2.2.2.2.1,()),())).bind fun c=>(VB ((b.1,(b.2.2.1,()),b.2.2.2.1,b.2.2.2.2.1,b.2.2.2.2.2.1,b.2.1,()),(c.1,c.2.1,c.2.2.1,c.2.2.2.1,c.2.2.2.2.1,c.2.2.2.2.2.1,()),())).bind fun d=>(FM ((d.1,(d.2.2.2.1,()),d.2.2.2.2.1,d.2.2.2.2.2.1,d.2.2.2.2.2.2.1,d.2.1,()),(v.1,(v.2.2.2.1,()),v.2.2.2.2.1,v.2.2.2.2.2.1,v.2.2.2.2.2.2.1,v.2.1,()),())).bind fun e=>bif !e.1 then some (false,())else(O7 ((d.2.2.1,d.2.2.2.2.2.2.2.1,()),(v.2.2.1,v.2.2.2.2.2.2.2.1,()),())).bind fun f=>bif !f.1 then some (false,())else(N9 ((x.1.1,(x.1.2.1.1,()),x.1.2.2.1,x.1.2.2.2.1,x.1.2.2.2.2.1,x.1.2.2.2.2.2.1,()),())).bind fun g=>(FM ((b.1,(b.2.2.1,()),b.2.2.2.1,b.2.2.2.2.1,b.2.2.2.2.2.1,b.2.1,()),(g.1,(g.2.2.1,()),g.2.2.2.1,g.2.2.2.2.1,g.2.2.2.2.2.1,g.2.1,()),())).bind fun h=>bif !h.1 then some (false,())else(Gb (b.1,b.2.1,1,b.2.2.1,b.2.2.2.1,b.2.2.2.2.1,b.2.2.2.2.2.1,())).bind fun j=>bif decide (j.1<0)then some (false,())else(FM ((d.1,(d.2.2.2.1,()),d.2.2.2.2.1,d.2.2.2.2.2.1,d.2.2.2.2.2.2.1,d.2.1,()),(v.1,(v.2.2.2.1,()),v.2.2.2.2.1,v.2.2.2.2.2.1,v.2.2.2.2.2.2.1,v.2.1,()),())).bind fun k=>bif !k.1 then some (false,())else(O7 ((d.2.2.1,d.2.2.2.2.2.2.2.1,()),(v.2.2.1,v.2.2.2.2.2.2.2.1,()),())).bind fun l=>bif !l.1 then some (false,())else(Gb (d.1,d.2.1,1,d.2.2.2.1,d.2.2.2.2.1,d.2.2.2.2.2.1,d.2.2.2.2.2.2.1,())).bind fun m=>(cR (d.2.2.1,m.1,d.2.2.2.2.2.2.2.1,())).bind fun n=>(Gp ((d.1,(m.2.1,()),m.2.2.1,m.2.2.2.1,m.2.2.2.2.1,d.2.1,()),1,())).bind fun o=>bif decide (o.1<0)then some (false,())else(ck ((d.2.2.1,n.2.1,()),o.1,())).bind fun q=>bif decide (q.1<0)then some (false,())else bif q.1 != n.1 then some (false,())else(N9 ((x.1.1,(x.1.2.1.1,()),x.1.2.2.1,x.1.2.2.2.1,x.1.2.2.2.2.1,x.1.2.2.2.2.2.1,()),())).bind fun r=>(LH ((x.2.1.1,x.2.1.2.1,x.2.1.2.2.1,x.2.1.2.2.2.1,x.2.1.2.2.2.2.1,x.2.1.2.2.2.2.2.1,()),())).bind fun s=>(VB ((r.1,(r.2.2.1,()),r.2.2.2.1,r.2.2.2.2.1,r.2.2.2.2.2.1,r.2.1,()),(s.1,s.2.1,s.2.2.1,s.2.2.2.1,s.2.2.2.2.1,s.2.2.2.2.2.1,()),())).bind fun t=>(FM ((t.1,(t.2.2.2.1,()),t.2.2.2.2.1,t.2.2.2.2.2.1,t.2.2.2.2.2.2.1,t.2.1,()),(v.1,(v.2.2.2.1,()),v.2.2.2.2.1,v.2.2.2.2.2.1,v.2.2.2.2.2.2.1,v.2.1,()),())).bind fun u=>bif !u.1 then some (false,())else(O7 ((t.2.2.1,t.2.2.2.2.2.2.2.1,()),(v.2.2.1,v.2.2.2.2.2.2.2.1,()),())).bind fun v=>bif !v.1 then some (false,())else(Gp ((d.1,(m.2.1,()),m.2.2.1,m.2.2.2.1,m.2.2.2.2.1,d.2.1,()),1,())).bind fun v=>bif decide (v.1<0)then some (false,())else(ck ((d.2.2.1,n.2.1,()),v.1,())).bind fun v=>bif decide (v.1<0)then some (false,())else bif v.1 != n.1 then some (false,())else some (true,())
def AB0:Ent:=⟨3,⟨(.slot D9 (.slot YOp .nil)),.nil⟩,⟨(.slot .bool .nil),.nil⟩,Zd⟩
theorem AJh:Ai Go.Proofs.Tryz.prog AB0:=okA (hcA 0 (all_cons Af9 (all_cons AJj (all_cons A7e (all_cons kO (all_cons wk (all_cons tC (all_cons A5e (all_cons Agm (all_cons Age (all_cons Az8 (all_cons AJi all_nil)))))))))))) Go.Proofs.Tryz.func3
theorem laws_FnExactStepEngine_OK:Ai Go.Proofs.Tryz.prog AB0:=AJh
end
end Go.Ab
