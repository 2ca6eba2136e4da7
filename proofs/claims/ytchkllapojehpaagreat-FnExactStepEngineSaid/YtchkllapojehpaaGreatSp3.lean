import Derived.Test.YtchkllapojehpaaGreatSp2
set_option linter.all false
set_option maxRecDepth 100000
namespace Go.Ab
noncomputable section
abbrev ba:=List A1×Unit
abbrev aZ:=Int×Int×Unit
abbrev b8:=Int×Unit ⊕ Int×Unit ⊕ Int×Unit
def DW (i:ba)(v:aZ)(R:Type)(K:aZ ⊕ b8->Option R):Option R:=bif decide (v.2.1<(i.1.length:Int))then(lAt i.1 v.2.1).bind fun a=>bif a.1 != v.1 then K (.inr (.inl (v.1,())))else(lAt i.1 v.2.1).bind fun b=>bif b.2.1 != IntKind.i64.wrap (v.1+1)then K (.inr (.inr (.inl (IntKind.i64.wrap (v.1+1),()))))else K (.inl (IntKind.i64.wrap (IntKind.i64.wrap (v.1+1)+1),IntKind.i64.wrap (v.2.1+1),()))else K (.inr (.inr (.inr (v.1,()))))
theorem Mi:Bi DW:=fun i v R K=>Af (Ac fun _=>Af (Aa) (Ac fun _=>Af (Aa) (Aa))) (Aa)
def SK:Tmpl:=⟨(.slot (.slice A0) (.slot .i (jk 3 (.slot .i (jk 25 .nil))))),.nil⟩
def aY:Exs ba b8:=xs .ret (fun i p=>⟨jn 1 (.n (p.1)::jn 2 (.n (-1)::jn 26 ([]))),[]⟩)<|xs .ret (fun i p=>⟨jn 1 (.n (p.1)::jn 2 (.n (-1)::jn 26 ([]))),[]⟩)<|x1 (.exit 0) fun i p=>⟨jn 1 (.n (p.1)::jn 29 ([])),[]⟩
def b9:=((.i (.v (.v .n))):Pk SK.ty _ _)
def qw:Cfg:={ti:=Au,ents:=[],ann:=[(2,Ao SK 0 (spP b9) DW aY.E)],lent:=0}
def HP (x:List A1×Int×Unit):Option (Int×Unit):=(AE (fun v=>DW (x.1,()) v _ some) (x.2.1,0,())).bind fun p=>Az p (fun p=>some (-1,())) fun p=>Az p (fun p=>some (-1,())) fun p=>some (p.1,())
def UV:Ent:=⟨159,⟨(.slot (.slice A0) (.slot .i .nil)),.nil⟩,⟨(.slot .i .nil),.nil⟩,HP⟩
theorem bb:CfgOK Go.Proofs.Tryz.prog qw:=hcB all_nil
theorem qv:B7 Go.Proofs.Tryz.prog qw (lpc Go.Proofs.Tryz.f159 0):=lkA bb SK b9 DW aY [1,4] Mi
theorem xr:Ah Go.Proofs.Tryz.prog UV:=okB bb Go.Proofs.Tryz.func159 qv
abbrev aW:=List A3×Unit
abbrev aR:=Int×Int×Unit
abbrev aU:=Int×Unit ⊕ Int×Unit ⊕ Int×Unit ⊕ Int×Unit ⊕ Int×Unit ⊕ Int×Unit ⊕ Int×Unit ⊕ Int×Unit ⊕ Int×Unit ⊕ Int×Unit
def Bv (i:aW)(v:aR)(R:Type)(K:aR ⊕ aU->Option R):Option R:=bif decide (v.2.1<(i.1.length:Int))then(lAt i.1 v.2.1).bind fun a=>bif a.1 != v.1 then K (.inr (.inl (v.1,())))else(lAt i.1 v.2.1).bind fun b=>bif b.2.1 != IntKind.i64.wrap (v.1+1)then K (.inr (.inr (.inl (IntKind.i64.wrap (v.1+1),()))))else(lAt i.1 v.2.1).bind fun c=>bif c.2.2.1 != IntKind.i64.wrap (IntKind.i64.wrap (v.1+1)+1)then K (.inr (.inr (.inr (.inl (IntKind.i64.wrap (IntKind.i64.wrap (v.1+1)+1),())))))else(lAt i.1 v.2.1).bind fun d=>bif d.2.2.2.1 != IntKind.i64.wrap (IntKind.i64.wrap (IntKind.i64.wrap (v.1+1)+1)+1)then K (.inr (.inr (.inr (.inr (.inl (IntKind.i64.wrap (IntKind.i64.wrap (IntKind.i64.wrap (v.1+1)+1)+1),()))))))else(lAt i.1 v.2.1).bind fun e=>bif e.2.2.2.2.1 != IntKind.i64.wrap (IntKind.i64.wrap (IntKind.i64.wrap (IntKind.i64.wrap (v.1+1)+1)+1)+1)then K (.inr (.inr (.inr (.inr (.inr (.inl (IntKind.i64.wrap (IntKind.i64.wrap (IntKind.i64.wrap (IntKind.i64.wrap (v.1+1)+1)+1)+1),())))))))else(lAt i.1 v.2.1).bind fun f=>bif f.2.2.2.2.2.1 != IntKind.i64.wrap (IntKind.i64.wrap (IntKind.i64.wrap (IntKind.i64.wrap (IntKind.i64.wrap (v.1+1)+1)+1)+1)+1)then K (.inr (.inr (.inr (.inr (.inr (.inr (.inl (IntKind.i64.wrap (IntKind.i64.wrap (IntKind.i64.wrap (IntKind.i64.wrap (IntKind.i64.wrap (v.1+1)+1)+1)+1)+1),()))))))))else(lAt i.1 v.2.1).bind fun g=>bif g.2.2.2.2.2.2.1 != IntKind.i64.wrap (IntKind.i64.wrap (IntKind.i64.wrap (IntKind.i64.wrap (IntKind.i64.wrap (IntKind.i64.wrap (v.1+1)+1)+1)+1)+1)+1)then K (.inr (.inr (.inr (.inr (.inr (.inr (.inr (.inl (IntKind.i64.wrap (IntKind.i64.wrap (IntKind.i64.wrap (IntKind.i64.wrap (IntKind.i64.wrap (IntKind.i64.wrap (v.1+1)+1)+1)+1)+1)+1),())))))))))else(lAt i.1 v.2.1).bind fun h=>(G2 (h.2.2.2.2.2.2.2.1,IntKind.i64.wrap (IntKind.i64.wrap (IntKind.i64.wrap (IntKind.i64.wrap (IntKind.i64.wrap (IntKind.i64.wrap (IntKind.i64.wrap (v.1+1)+1)+1)+1)+1)+1)+1),())).bind fun j=>bif decide (j.1<0)then K (.inr (.inr (.inr (.inr (.inr (.inr (.inr (.inr (.inl (j.1,()))))))))))else(lAt i.1 v.2.1).bind fun k=>(HP (k.2.2.2.2.2.2.2.2.1,j.1,())).bind fun l=>bif decide (l.1<0)then K (.inr (.inr (.inr (.inr (.inr (.inr (.inr (.inr (.inr (.inl (l.1,())))))))))))else K (.inl (l.1,IntKind.i64.wrap (v.2.1+1),()))else K (.inr (.inr (.inr (.inr (.inr (.inr (.inr (.inr (.inr (.inr (v.1,())))))))))))
theorem Kg:Bi Bv:=fun i v R K=>Af (Ac fun _=>Af (Aa) (Ac fun _=>Af (Aa) (Ac fun _=>Af (Aa) (Ac fun _=>Af (Aa) (Ac fun _=>Af (Aa) (Ac fun _=>Af (Aa) (Ac fun _=>Af (Aa) (Ac fun _=>Ac fun _=>Af (Aa) (Ac fun _=>Ac fun _=>Af (Aa) (Aa)))))))))) (Aa)
def SJ:Tmpl:=⟨(.slot (.slice Ad) (.slot .i (jk 3 (.slot .i (jk 88 .nil))))),.nil⟩
def aQ:Exs aW aU:=xs .ret (fun i p=>⟨jn 1 (.n (p.1)::jn 2 (.n (-1)::jn 89 ([]))),[]⟩)<|xs .ret (fun i p=>⟨jn 1 (.n (p.1)::jn 2 (.n (-1)::jn 89 ([]))),[]⟩)<|xs .ret (fun i p=>⟨jn 1 (.n (p.1)::jn 2 (.n (-1)::jn 89 ([]))),[]⟩)<|xs .ret (fun i p=>⟨jn 1 (.n (p.1)::jn 2 (.n (-1)::jn 89 ([]))),[]⟩)<|xs .ret (fun i p=>⟨jn 1 (.n (p.1)::jn 2 (.n (-1)::jn 89 ([]))),[]⟩)<|xs .ret (fun i p=>⟨jn 1 (.n (p.1)::jn 2 (.n (-1)::jn 89 ([]))),[]⟩)<|xs .ret (fun i p=>⟨jn 1 (.n (p.1)::jn 2 (.n (-1)::jn 89 ([]))),[]⟩)<|xs .ret (fun i p=>⟨jn 1 (.n (p.1)::jn 2 (.n (-1)::jn 89 ([]))),[]⟩)<|xs .ret (fun i p=>⟨jn 1 (.n (p.1)::jn 2 (.n (-1)::jn 89 ([]))),[]⟩)<|x1 (.exit 0) fun i p=>⟨jn 1 (.n (p.1)::jn 92 ([])),[]⟩
def aV:=((.i (.v (.v .n))):Pk SJ.ty _ _)
def qu:Cfg:={ti:=Au,ents:=[UW,UV],ann:=[(2,Ao SJ 0 (spP aV) Bv aQ.E)],lent:=0}
def Ee (x:List A3×Int×Unit):Option (Int×Unit):=(AE (fun v=>Bv (x.1,()) v _ some) (x.2.1,0,())).bind fun p=>Az p (fun p=>some (-1,())) fun p=>Az p (fun p=>some (-1,())) fun p=>Az p (fun p=>some (-1,())) fun p=>Az p (fun p=>some (-1,())) fun p=>Az p (fun p=>some (-1,())) fun p=>Az p (fun p=>some (-1,())) fun p=>Az p (fun p=>some (-1,())) fun p=>Az p (fun p=>some (-1,())) fun p=>Az p (fun p=>some (-1,())) fun p=>some (p.1,())
def qt:Ent:=⟨77,⟨(.slot (.slice Ad) (.slot .i .nil)),.nil⟩,⟨(.slot .i .nil),.nil⟩,Ee⟩
theorem aX:CfgOK Go.Proofs.Tryz.prog qu:=hcB (all_cons xt (all_cons xr all_nil))
theorem qr:B7 Go.Proofs.Tryz.prog qu (lpc Go.Proofs.Tryz.f77 0):=lkA aX SJ aV Bv aQ [1,4] Kg
theorem xq:Ah Go.Proofs.Tryz.prog qt:=okB aX Go.Proofs.Tryz.func77 qr
abbrev aO:=List A1×Unit
abbrev aL:=Int×Int×Unit
abbrev aM:=Int×Unit ⊕ Int×Unit ⊕ Int×Unit
def Ef (i:aO)(v:aL)(R:Type)(K:aL ⊕ aM->Option R):Option R:=bif decide (v.2.1<(i.1.length:Int))then(lAt i.1 v.2.1).bind fun a=>bif a.1 != v.1 then K (.inr (.inl (v.1,())))else(lAt i.1 v.2.1).bind fun b=>bif b.2.1 != IntKind.i64.wrap (v.1+1)then K (.inr (.inr (.inl (IntKind.i64.wrap (v.1+1),()))))else K (.inl (IntKind.i64.wrap (IntKind.i64.wrap (v.1+1)+1),IntKind.i64.wrap (v.2.1+1),()))else K (.inr (.inr (.inr (v.1,()))))
theorem MO:Bi Ef:=fun i v R K=>Af (Ac fun _=>Af (Aa) (Ac fun _=>Af (Aa) (Aa))) (Aa)
def SI:Tmpl:=⟨(.slot (.slice A0) (.slot .i (jk 3 (.slot .i (jk 25 .nil))))),.nil⟩
def aK:Exs aO aM:=xs .ret (fun i p=>⟨jn 1 (.n (p.1)::jn 2 (.n (-1)::jn 26 ([]))),[]⟩)<|xs .ret (fun i p=>⟨jn 1 (.n (p.1)::jn 2 (.n (-1)::jn 26 ([]))),[]⟩)<|x1 (.exit 0) fun i p=>⟨jn 1 (.n (p.1)::jn 29 ([])),[]⟩
def aN:=((.i (.v (.v .n))):Pk SI.ty _ _)
def qq:Cfg:={ti:=Au,ents:=[],ann:=[(2,Ao SI 0 (spP aN) Ef aK.E)],lent:=0}
def Ij (x:List A1×Int×Unit):Option (Int×Unit):=(AE (fun v=>Ef (x.1,()) v _ some) (x.2.1,0,())).bind fun p=>Az p (fun p=>some (-1,())) fun p=>Az p (fun p=>some (-1,())) fun p=>some (p.1,())
def qp:Ent:=⟨78,⟨(.slot (.slice A0) (.slot .i .nil)),.nil⟩,⟨(.slot .i .nil),.nil⟩,Ij⟩
theorem aP:CfgOK Go.Proofs.Tryz.prog qq:=hcB all_nil
theorem qo:B7 Go.Proofs.Tryz.prog qq (lpc Go.Proofs.Tryz.f78 0):=lkA aP SI aN Ef aK [1,4] MO
theorem xp:Ah Go.Proofs.Tryz.prog qp:=okB aP Go.Proofs.Tryz.func78 qo
abbrev aI:=List A1×Unit
abbrev aF:=Int×Int×Unit
abbrev aG:=Int×Unit ⊕ Int×Unit ⊕ Int×Unit
def Ed (i:aI)(v:aF)(R:Type)(K:aF ⊕ aG->Option R):Option R:=bif decide (v.2.1<(i.1.length:Int))then(lAt i.1 v.2.1).bind fun a=>bif a.1 != v.1 then K (.inr (.inl (v.1,())))else(lAt i.1 v.2.1).bind fun b=>bif b.2.1 != IntKind.i64.wrap (v.1+1)then K (.inr (.inr (.inl (IntKind.i64.wrap (v.1+1),()))))else K (.inl (IntKind.i64.wrap (IntKind.i64.wrap (v.1+1)+1),IntKind.i64.wrap (v.2.1+1),()))else K (.inr (.inr (.inr (v.1,()))))
theorem MN:Bi Ed:=fun i v R K=>Af (Ac fun _=>Af (Aa) (Ac fun _=>Af (Aa) (Aa))) (Aa)
def SH:Tmpl:=⟨(.slot (.slice A0) (.slot .i (jk 3 (.slot .i (jk 25 .nil))))),.nil⟩
def aE:Exs aI aG:=xs .ret (fun i p=>⟨jn 1 (.n (p.1)::jn 2 (.n (-1)::jn 26 ([]))),[]⟩)<|xs .ret (fun i p=>⟨jn 1 (.n (p.1)::jn 2 (.n (-1)::jn 26 ([]))),[]⟩)<|x1 (.exit 0) fun i p=>⟨jn 1 (.n (p.1)::jn 29 ([])),[]⟩
def aH:=((.i (.v (.v .n))):Pk SH.ty _ _)
def qn:Cfg:={ti:=Au,ents:=[],ann:=[(2,Ao SH 0 (spP aH) Ed aE.E)],lent:=0}
def Ih (x:List A1×Int×Unit):Option (Int×Unit):=(AE (fun v=>Ed (x.1,()) v _ some) (x.2.1,0,())).bind fun p=>Az p (fun p=>some (-1,())) fun p=>Az p (fun p=>some (-1,())) fun p=>some (p.1,())
def qm:Ent:=⟨79,⟨(.slot (.slice A0) (.slot .i .nil)),.nil⟩,⟨(.slot .i .nil),.nil⟩,Ih⟩
theorem aJ:CfgOK Go.Proofs.Tryz.prog qn:=hcB all_nil
theorem ql:B7 Go.Proofs.Tryz.prog qn (lpc Go.Proofs.Tryz.f79 0):=lkA aJ SH aH Ed aE [1,4] MN
theorem xn:Ah Go.Proofs.Tryz.prog qm:=okB aJ Go.Proofs.Tryz.func79 ql
def G3 (x:A5×Int×Unit):Option (Int×Unit):=(Ii ((x.1.2.1.1,()),x.2.1,())).bind fun v=>bif decide (v.1<0)then some (-1,())else(Ee (x.1.2.2.1,v.1,())).bind fun v=>bif decide (v.1<0)then some (-1,())else(Ij (x.1.2.2.2.1,v.1,())).bind fun v=>bif decide (v.1<0)then some (-1,())else(Ih (x.1.2.2.2.2.1,v.1,())).bind fun v=>bif decide (v.1<0)then some (-1,())else some (v.1,())
def qe:Ent:=⟨18,⟨(.slot C1 (.slot .i .nil)),.nil⟩,⟨(.slot .i .nil),.nil⟩,G3⟩
theorem xk:Ah Go.Proofs.Tryz.prog qe:=okA (hcA 0 (all_cons xu (all_cons xq (all_cons xp (all_cons xn all_nil))))) Go.Proofs.Tryz.func18
abbrev aC:=List Int×Unit
abbrev az:=Int×Int×Unit
abbrev aA:=Int×Unit ⊕ Int×Unit
def EW (i:aC)(v:az)(R:Type)(K:az ⊕ aA->Option R):Option R:=bif decide (v.2.1<(i.1.length:Int))then(lAt i.1 v.2.1).bind fun a=>bif a != v.1 then K (.inr (.inl (v.1,())))else K (.inl (IntKind.i64.wrap (v.1+1),IntKind.i64.wrap (v.2.1+1),()))else K (.inr (.inr (v.1,())))
theorem Na:Bi EW:=fun i v R K=>Af (Ac fun _=>Af (Aa) (Aa)) (Aa)
def SG:Tmpl:=⟨(.slot (.slice .i) (.slot .i (jk 3 (.slot .i (jk 15 .nil))))),.nil⟩
def ay:Exs aC aA:=xs .ret (fun i p=>⟨jn 1 (.n (p.1)::jn 2 (.n (-1)::jn 16 ([]))),[]⟩)<|x1 (.exit 0) fun i p=>⟨jn 1 (.n (p.1)::jn 19 ([])),[]⟩
def aB:=((.i (.v (.v .n))):Pk SG.ty _ _)
def qd:Cfg:={ti:=Au,ents:=[],ann:=[(2,Ao SG 0 (spP aB) EW ay.E)],lent:=0}
def IC (x:List Int×Int×Unit):Option (Int×Unit):=(AE (fun v=>EW (x.1,()) v _ some) (x.2.1,0,())).bind fun p=>Az p (fun p=>some (-1,())) fun p=>some (p.1,())
def qc:Ent:=⟨28,⟨(.slot (.slice .i) (.slot .i .nil)),.nil⟩,⟨(.slot .i .nil),.nil⟩,IC⟩
theorem aD:CfgOK Go.Proofs.Tryz.prog qd:=hcB all_nil
theorem qb:B7 Go.Proofs.Tryz.prog qd (lpc Go.Proofs.Tryz.f28 0):=lkA aD SG aB EW ay [1,4] Na
theorem xj:Ah Go.Proofs.Tryz.prog qc:=okB aD Go.Proofs.Tryz.func28 qb
def Ht (x:(Int×List Int×Unit)×Int×Unit):Option (Int×Unit):=(IC (x.1.2.1,x.2.1,())).bind fun v=>bif decide (v.1<0)then some (-1,())else some (v.1,())
def qa:Ent:=⟨19,⟨(.slot Rf (.slot .i .nil)),.nil⟩,⟨(.slot .i .nil),.nil⟩,Ht⟩
theorem xi:Ah Go.Proofs.Tryz.prog qa:=okA (hcA 0 (all_cons xj all_nil)) Go.Proofs.Tryz.func19
def Gg (x:A5×A6×Unit):Option (Bool×Unit):=(Kf ((x.1.1,(x.1.2.1.1,()),x.1.2.2.1,x.1.2.2.2.1,x.1.2.2.2.2.1,x.1.2.2.2.2.2.1,()),1048576,())).bind fun v=>bif decide (v.1<0)then some (true,())else(Ep ((x.1.1,(x.1.2.1.1,()),x.1.2.2.1,x.1.2.2.2.1,x.1.2.2.2.2.1,x.1.2.2.2.2.2.1,()),())).bind fun v=>(JZ ((x.2.1.1,x.2.1.2.1,x.2.1.2.2.1,x.2.1.2.2.2.1,x.2.1.2.2.2.2.1,x.2.1.2.2.2.2.2.1,()),())).bind fun a=>(FQ ((v.1,(v.2.2.1,()),v.2.2.2.1,v.2.2.2.2.1,v.2.2.2.2.2.1,v.2.1,()),(a.1,a.2.1,a.2.2.1,a.2.2.2.1,a.2.2.2.2.1,a.2.2.2.2.2.1,()),())).bind fun v=>(Ep ((x.1.1,(x.1.2.1.1,()),x.1.2.2.1,x.1.2.2.2.1,x.1.2.2.2.2.1,x.1.2.2.2.2.2.1,()),())).bind fun b=>(JZ ((x.2.1.1,x.2.1.2.1,x.2.1.2.2.1,x.2.1.2.2.2.1,x.2.1.2.2.2.2.1,x.2.1.2.2.2.2.2.1,()),())).bind fun c=>(Ek ((b.1,(b.2.2.1,()),b.2.2.2.1,b.2.2.2.2.1,b.2.2.2.2.2.1,b.2.1,()),(c.1,c.2.1,c.2.2.1,c.2.2.2.1,c.2.2.2.2.1,c.2.2.2.2.2.1,()),())).bind fun d=>(Er ((d.1,(d.2.2.2.1,()),d.2.2.2.2.1,d.2.2.2.2.2.1,d.2.2.2.2.2.2.1,d.2.1,()),(v.1,(v.2.2.2.1,()),v.2.2.2.2.1,v.2.2.2.2.2.1,v.2.2.2.2.2.2.1,v.2.1,()),())).bind fun e=>bif !e.1 then some (false,())else(Hw ((d.2.2.1,d.2.2.2.2.2.2.2.1,()),(v.2.2.1,v.2.2.2.2.2.2.2.1,()),())).bind fun f=>bif !f.1 then some (false,())else(Ep ((x.1.1,(x.1.2.1.1,()),x.1.2.2.1,x.1.2.2.2.1,x.1.2.2.2.2.1,x.1.2.2.2.2.2.1,()),())).bind fun g=>(Er ((b.1,(b.2.2.1,()),b.2.2.2.1,b.2.2.2.2.1,b.2.2.2.2.2.1,b.2.1,()),(g.1,(g.2.2.1,()),g.2.2.2.1,g.2.2.2.2.1,g.2.2.2.2.2.1,g.2.1,()),())).bind fun h=>bif !h.1 then some (false,())else(Ev (b.1,b.2.1,1,b.2.2.1,b.2.2.2.1,b.2.2.2.2.1,b.2.2.2.2.2.1,())).bind fun j=>bif decide (j.1<0)then some (false,())else(Er ((d.1,(d.2.2.2.1,()),d.2.2.2.2.1,d.2.2.2.2.2.1,d.2.2.2.2.2.2.1,d.2.1,()),(v.1,(v.2.2.2.1,()),v.2.2.2.2.1,v.2.2.2.2.2.1,v.2.2.2.2.2.2.1,v.2.1,()),())).bind fun k=>bif !k.1 then some (false,())else(Hw ((d.2.2.1,d.2.2.2.2.2.2.2.1,()),(v.2.2.1,v.2.2.2.2.2.2.2.1,()),())).bind fun l=>bif !l.1 then some (false,())else(Ev (d.1,d.2.1,1,d.2.2.2.1,d.2.2.2.2.1,d.2.2.2.2.2.1,d.2.2.2.2.2.2.1,())).bind fun m=>(HM (d.2.2.1,m.1,d.2.2.2.2.2.2.2.1,())).bind fun n=>(G3 ((d.1,(m.2.1,()),m.2.2.1,m.2.2.2.1,m.2.2.2.2.1,d.2.1,()),1,())).bind fun o=>bif decide (o.1<0)then some (false,())else(Ht ((d.2.2.1,n.2.1,()),o.1,())).bind fun q=>bif decide (q.1<0)then some (false,())else bif q.1 != n.1 then some (false,())else(Ep ((x.1.1,(x.1.2.1.1,()),x.1.2.2.1,x.1.2.2.2.1,x.1.2.2.2.2.1,x.1.2.2.2.2.2.1,()),())).bind fun r=>(JZ ((x.2.1.1,x.2.1.2.1,x.2.1.2.2.1,x.2.1.2.2.2.1,x.2.1.2.2.2.2.1,x.2.1.2.2.2.2.2.1,()),())).bind fun s=>(Ek ((r.1,(r.2.2.1,()),r.2.2.2.1,r.2.2.2.2.1,r.2.2.2.2.2.1,r.2.1,()),(s.1,s.2.1,s.2.2.1,s.2.2.2.1,s.2.2.2.2.1,s.2.2.2.2.2.1,()),())).bind fun t=>(Er ((t.1,(t.2.2.2.1,()),t.2.2.2.2.1,t.2.2.2.2.2.1,t.2.2.2.2.2.2.1,t.2.1,()),(v.1,(v.2.2.2.1,()),v.2.2.2.2.1,v.2.2.2.2.2.1,v.2.2.2.2.2.2.1,v.2.1,()),())).bind fun u=>bif !u.1 then some (false,())else(Hw ((t.2.2.1,t.2.2.2.2.2.2.2.1,()),(v.2.2.1,v.2.2.2.2.2.2.2.1,()),())).bind fun v=>bif !v.1 then some (false,())else(G3 ((d.1,(m.2.1,()),m.2.2.1,m.2.2.2.1,m.2.2.2.2.1,d.2.1,()),1,())).bind fun v=>bif decide (v.1<0)then some (false,())else(Ht ((d.2.2.1,n.2.1,()),v.1,())).bind fun v=>bif decide (v.1<0)then some (false,())else bif v.1 != n.1 then some (false,())else some (true,())
def UU:Ent:=⟨3,⟨(.slot C1 (.slot YOp .nil)),.nil⟩,⟨(.slot .bool .nil),.nil⟩,Gg⟩
theorem xh:Ah Go.Proofs.Tryz.prog UU:=okA (hcA 0 (all_cons xz (all_cons xx (all_cons A6h (all_cons A4f (all_cons A4e (all_cons A3c (all_cons y4 (all_cons xM (all_cons xI (all_cons xk (all_cons xi all_nil)))))))))))) Go.Proofs.Tryz.func3
theorem laws_FnExactStepEngine_OK:Ah Go.Proofs.Tryz.prog UU:=xh
end
end Go.Ab
