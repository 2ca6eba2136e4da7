import Derived.Test.YtchkllapojehpaaGreatHp
set_option linter.all false
set_option maxRecDepth 100000
namespace Go.Ab
noncomputable section
def Ic (x:List A2×Int×Unit):Option (Int×Unit):=bif decide (IntKind.i64.wrap (x.2.1-(x.1.length:Int))<0)then some (-1,())else some (IntKind.i64.wrap (x.2.1-(x.1.length:Int)),())
def yq:Ent:=⟨166,⟨(.slot (.slice Af) (.slot .i .nil)),.nil⟩,⟨(.slot .i .nil),.nil⟩,Ic⟩
theorem Ad3:Ah Go.Proofs.Tryz.prog yq:=okA (hcA 0 all_nil) Go.Proofs.Tryz.func166
abbrev A8o:=List (List A2)×Unit
abbrev A8l:=Int×Int×Unit
abbrev A8m:=Int×Unit ⊕ Int×Unit
def GC (i:A8o)(v:A8l)(R:Type)(K:A8l ⊕ A8m->Option R):Option R:=bif decide (v.2.1<(i.1.length:Int))then(lAt i.1 v.2.1).bind fun a=>(Ic (a,v.1,())).bind fun b=>bif decide (b.1<0)then K (.inr (.inl (b.1,())))else K (.inl (b.1,IntKind.i64.wrap (v.2.1+1),()))else K (.inr (.inr (v.1,())))
theorem Mk:AX GC:=fun i v R K=>Ae (Ac fun _=>Ac fun _=>Ae (Aa) (Aa)) (Aa)
def vY:Tmpl:=⟨(.slot (.slice (.slice Af)) (.slot .i (jk 3 (.slot .i (jk 21 .nil))))),.nil⟩
def A8k:Exs A8o A8m:=xs .ret (fun i p=>⟨jn 1 (.n (p.1)::jn 2 (.n (-1)::jn 22 ([]))),[]⟩)<|x1 (.exit 0) fun i p=>⟨jn 1 (.n (p.1)::jn 25 ([])),[]⟩
def A8n:=((.i (.v (.v .n))):Pk vY.ty _ _)
def Ad2:Cfg:={ti:=Ar,ents:=[yq],ann:=[(5,Ao vY 0 (spP A8n) GC A8k.E)],lent:=0}
def Jh (x:List (List A2)×Int×Unit):Option (Int×Unit):=bif decide (IntKind.i64.wrap (x.2.1-(x.1.length:Int))<0)then some (-1,())else(Ay (fun v=>GC (x.1,()) v _ some) (IntKind.i64.wrap (x.2.1-(x.1.length:Int)),0,())).bind fun p=>Au p (fun p=>some (-1,())) fun p=>some (p.1,())
def Aat:Ent:=⟨92,⟨(.slot (.slice (.slice Af)) (.slot .i .nil)),.nil⟩,⟨(.slot .i .nil),.nil⟩,Jh⟩
theorem A8p:CfgOK Go.Proofs.Tryz.prog Ad2:=hcB (all_cons Ad3 all_nil)
theorem Aas:AP Go.Proofs.Tryz.prog Ad2 (lpc Go.Proofs.Tryz.f92 0):=lkA A8p vY A8n GC A8k [1,4] Mk
theorem Ad1:Ah Go.Proofs.Tryz.prog Aat:=okB A8p Go.Proofs.Tryz.func92 Aas
def Lg (x:A4×Int×Unit):Option (Int×Unit):=(Jh (x.1.1,x.2.1,())).bind fun v=>bif decide (v.1<0)then some (-1,())else some (v.1,())
def Aai:Ent:=⟨45,⟨(.slot Bo (.slot .i .nil)),.nil⟩,⟨(.slot .i .nil),.nil⟩,Lg⟩
theorem Ad0:Ah Go.Proofs.Tryz.prog Aai:=okA (hcA 0 (all_cons Ad1 all_nil)) Go.Proofs.Tryz.func45
def Ji (x:List A1×Int×Unit):Option (Int×Unit):=bif decide (IntKind.i64.wrap (x.2.1-(x.1.length:Int))<0)then some (-1,())else some (IntKind.i64.wrap (x.2.1-(x.1.length:Int)),())
def Aah:Ent:=⟨167,⟨(.slot (.slice A0) (.slot .i .nil)),.nil⟩,⟨(.slot .i .nil),.nil⟩,Ji⟩
theorem Acz:Ah Go.Proofs.Tryz.prog Aah:=okA (hcA 0 all_nil) Go.Proofs.Tryz.func167
def KG (x:List A1×Int×Unit):Option (Int×Unit):=bif decide (IntKind.i64.wrap (x.2.1-(x.1.length:Int))<0)then some (-1,())else some (IntKind.i64.wrap (x.2.1-(x.1.length:Int)),())
def Aac:Ent:=⟨168,⟨(.slot (.slice A0) (.slot .i .nil)),.nil⟩,⟨(.slot .i .nil),.nil⟩,KG⟩
theorem Acy:Ah Go.Proofs.Tryz.prog Aac:=okA (hcA 0 all_nil) Go.Proofs.Tryz.func168
def Ge (x:A3×Int×Unit):Option (Int×Unit):=(Ji (x.1.2.2.2.2.2.2.2.1,x.2.1,())).bind fun v=>bif decide (v.1<0)then some (-1,())else(KG (x.1.2.2.2.2.2.2.2.2.1,v.1,())).bind fun v=>bif decide (v.1<0)then some (-1,())else some (v.1,())
def qT:Ent:=⟨93,⟨(.slot Ad (.slot .i .nil)),.nil⟩,⟨(.slot .i .nil),.nil⟩,Ge⟩
theorem Acw:Ah Go.Proofs.Tryz.prog qT:=okA (hcA 0 (all_cons Acz (all_cons Acy all_nil))) Go.Proofs.Tryz.func93
abbrev A7v:=List A3×Unit
abbrev A7s:=Int×Int×Unit
abbrev A7t:=Int×Unit ⊕ Int×Unit
def ES (i:A7v)(v:A7s)(R:Type)(K:A7s ⊕ A7t->Option R):Option R:=bif decide (v.2.1<(i.1.length:Int))then(lAt i.1 v.2.1).bind fun a=>(Ge ((a.1,a.2.1,a.2.2.1,a.2.2.2.1,a.2.2.2.2.1,a.2.2.2.2.2.1,a.2.2.2.2.2.2.1,a.2.2.2.2.2.2.2.1,a.2.2.2.2.2.2.2.2.1,()),v.1,())).bind fun b=>bif decide (b.1<0)then K (.inr (.inl (b.1,())))else K (.inl (b.1,IntKind.i64.wrap (v.2.1+1),()))else K (.inr (.inr (v.1,())))
theorem Lf:AX ES:=fun i v R K=>Ae (Ac fun _=>Ac fun _=>Ae (Aa) (Aa)) (Aa)
def pZ:Tmpl:=⟨(.slot (.slice Ad) (.slot .i (jk 3 (.slot .i (jk 21 .nil))))),.nil⟩
def A7r:Exs A7v A7t:=xs .ret (fun i p=>⟨jn 1 (.n (p.1)::jn 2 (.n (-1)::jn 22 ([]))),[]⟩)<|x1 (.exit 0) fun i p=>⟨jn 1 (.n (p.1)::jn 25 ([])),[]⟩
def A7u:=((.i (.v (.v .n))):Pk pZ.ty _ _)
def Acv:Cfg:={ti:=Ar,ents:=[qT],ann:=[(5,Ao pZ 0 (spP A7u) ES A7r.E)],lent:=0}
def FA (x:List A3×Int×Unit):Option (Int×Unit):=bif decide (IntKind.i64.wrap (x.2.1-(x.1.length:Int))<0)then some (-1,())else(Ay (fun v=>ES (x.1,()) v _ some) (IntKind.i64.wrap (x.2.1-(x.1.length:Int)),0,())).bind fun p=>Au p (fun p=>some (-1,())) fun p=>some (p.1,())
def A9w:Ent:=⟨46,⟨(.slot (.slice Ad) (.slot .i .nil)),.nil⟩,⟨(.slot .i .nil),.nil⟩,FA⟩
theorem A7w:CfgOK Go.Proofs.Tryz.prog Acv:=hcB (all_cons Acw all_nil)
theorem A9v:AP Go.Proofs.Tryz.prog Acv (lpc Go.Proofs.Tryz.f46 0):=lkA A7w pZ A7u ES A7r [1,4] Lf
theorem Acu:Ah Go.Proofs.Tryz.prog A9w:=okB A7w Go.Proofs.Tryz.func46 A9v
def JJ (x:List A1×Int×Unit):Option (Int×Unit):=bif decide (IntKind.i64.wrap (x.2.1-(x.1.length:Int))<0)then some (-1,())else some (IntKind.i64.wrap (x.2.1-(x.1.length:Int)),())
def A9o:Ent:=⟨47,⟨(.slot (.slice A0) (.slot .i .nil)),.nil⟩,⟨(.slot .i .nil),.nil⟩,JJ⟩
theorem Acq:Ah Go.Proofs.Tryz.prog A9o:=okA (hcA 0 all_nil) Go.Proofs.Tryz.func47
def JH (x:List A1×Int×Unit):Option (Int×Unit):=bif decide (IntKind.i64.wrap (x.2.1-(x.1.length:Int))<0)then some (-1,())else some (IntKind.i64.wrap (x.2.1-(x.1.length:Int)),())
def A9h:Ent:=⟨48,⟨(.slot (.slice A0) (.slot .i .nil)),.nil⟩,⟨(.slot .i .nil),.nil⟩,JH⟩
theorem Acn:Ah Go.Proofs.Tryz.prog A9h:=okA (hcA 0 all_nil) Go.Proofs.Tryz.func48
def KH (x:A5×Int×Unit):Option (Int×Unit):=(Lg ((x.1.2.1.1,()),x.2.1,())).bind fun v=>bif decide (v.1<0)then some (-1,())else(FA (x.1.2.2.1,v.1,())).bind fun v=>bif decide (v.1<0)then some (-1,())else(JJ (x.1.2.2.2.1,v.1,())).bind fun v=>bif decide (v.1<0)then some (-1,())else(JH (x.1.2.2.2.2.1,v.1,())).bind fun v=>bif decide (v.1<0)then some (-1,())else some (v.1,())
def A99:Ent:=⟨9,⟨(.slot Bz (.slot .i .nil)),.nil⟩,⟨(.slot .i .nil),.nil⟩,KH⟩
theorem Acm:Ah Go.Proofs.Tryz.prog A99:=okA (hcA 0 (all_cons Ad0 (all_cons Acu (all_cons Acq (all_cons Acn all_nil))))) Go.Proofs.Tryz.func9
def K6 (x:A2×Unit):Option A2:=some (x.1.1,x.1.2.1,x.1.2.2.1,x.1.2.2.2.1,x.1.2.2.2.2.1,())
def mb:Ent:=⟨226,⟨(.slot Af .nil),.nil⟩,⟨(.agg (si 5 .nil) .nil),.nil⟩,K6⟩
theorem Abe:Ah Go.Proofs.Tryz.prog mb:=okA (hcA 0 all_nil) Go.Proofs.Tryz.func226
abbrev xS:=List A2×Unit
abbrev xP:=Int×List A2×Unit
abbrev xQ:=List A2×Unit
def E3 (i:xS)(v:xP)(R:Type)(K:xP ⊕ xQ->Option R):Option R:=bif decide (v.1<(i.1.length:Int))then(lAt i.1 v.1).bind fun a=>(K6 ((a.1,a.2.1,a.2.2.1,a.2.2.2.1,a.2.2.2.2.1,()),())).bind fun b=>if 0<=v.1/\v.1<(v.2.1.length:Int)then v.2.1[0+v.1.toNat]?.bind fun c=>K (.inl (IntKind.i64.wrap (v.1+1),v.2.1.set (0+v.1.toNat) (b.1,b.2.1,b.2.2.1,b.2.2.2.1,b.2.2.2.2.1,()),()))else none else K (.inr (v.2.1,()))
theorem MR:AX E3:=fun i v R K=>Ae (Ac fun _=>Ac fun _=>Aq (Ac fun _=>Aa)) (Aa)
def ZK:Tmpl:=⟨(.slot (.slice Af) (jk 2 (.own 0 (.slot .i (jk 18 .nil))))),(.lst false Af .nil)⟩
def xO:Exs xS xQ:=x1 (.exit 0) fun i p=>⟨jn 3 (AV.own 0 none none::jn 19 ([])),[some (Cont.lst false Af p.1)]⟩
def xR:=((.i (.v (.v .n))):Pk ZK.ty _ _)
def A8u:Cfg:={ti:=Ar,ents:=[mb],ann:=[(3,Ao ZK 0 (spP xR) E3 xO.E)],lent:=0}
def Ib (x:List A2×Unit):Option (List A2×Unit):=if 0<=(x.1.length:Int)/\(x.1.length:Int)<=(x.1.length:Int)/\(x.1.length:Int)<=(↑879609302220:Int)then(Ay (fun v=>E3 (x.1,()) v _ some) (0,List.replicate ((x.1.length:Int).toNat) (0,0,0,0,0,()),())).bind fun p=>some (p.1,())else none
def lD:Ent:=⟨183,⟨(.slot (.slice Af) .nil),.nil⟩,⟨(.own 0 .nil),(.lst false Af .nil)⟩,Ib⟩
theorem xT:CfgOK Go.Proofs.Tryz.prog A8u:=hcB (all_cons Abe all_nil)
theorem A5d:AP Go.Proofs.Tryz.prog A8u (lpc Go.Proofs.Tryz.f183 0):=lkA xT ZK xR E3 xO [3] MR
theorem Abd:Ah Go.Proofs.Tryz.prog lD:=okB xT Go.Proofs.Tryz.func183 A5d
abbrev xC:=List (List A2)×Unit
abbrev xz:=Int×List (List A2)×Unit
abbrev xA:=List (List A2)×Unit
def DC (i:xC)(v:xz)(R:Type)(K:xz ⊕ xA->Option R):Option R:=bif decide (v.1<(i.1.length:Int))then(lAt i.1 v.1).bind fun a=>(Ib (a,())).bind fun b=>if 0<=v.1/\v.1<(v.2.1.length:Int)then v.2.1[0+v.1.toNat]?.bind fun c=>K (.inl (IntKind.i64.wrap (v.1+1),v.2.1.set (0+v.1.toNat) b.1,()))else none else K (.inr (v.2.1,()))
theorem Mi:AX DC:=fun i v R K=>Ae (Ac fun _=>Ac fun _=>Aq (Ac fun _=>Aa)) (Aa)
def ZJ:Tmpl:=⟨(.slot (.slice (.slice Af)) (jk 2 (.own 0 (.slot .i (jk 18 .nil))))),(.tree false 1 (.slice Af) .nil)⟩
def xy:Exs xC xA:=x1 (.exit 0) fun i p=>⟨jn 3 (AV.own 0 none none::jn 19 ([])),[some (Cont.tree false 1 (.slice Af) p.1 none)]⟩
def xB:=((.i (.v (.v .n))):Pk ZJ.ty _ _)
def A8t:Cfg:={ti:=Ar,ents:=[lD],ann:=[(3,Ao ZJ 0 (spP xB) DC xy.E)],lent:=0}
def Ho (x:List (List A2)×Unit):Option A4:=if 0<=(x.1.length:Int)/\(x.1.length:Int)<=(x.1.length:Int)/\(x.1.length:Int)<=(↑1466015503701:Int)then(Ay (fun v=>DC (x.1,()) v _ some) (0,List.replicate ((x.1.length:Int).toNat) [],())).bind fun p=>some (p.1,())else none
def A54:Ent:=⟨119,⟨(.slot (.slice (.slice Af)) .nil),.nil⟩,⟨(.own 0 .nil),(.tree false 1 (.slice Af) .nil)⟩,Ho⟩
theorem xD:CfgOK Go.Proofs.Tryz.prog A8t:=hcB (all_cons Abd all_nil)
theorem A53:AP Go.Proofs.Tryz.prog A8t (lpc Go.Proofs.Tryz.f119 0):=lkA xD ZJ xB DC xy [3] Mi
theorem Abc:Ah Go.Proofs.Tryz.prog A54:=okB xD Go.Proofs.Tryz.func119 A53
def JD (x:A4×Unit):Option A4:=(Ho (x.1.1,())).bind fun v=>some (v.1,())
def A4t:Ent:=⟨60,⟨(.slot Bo .nil),.nil⟩,⟨(.agg (.own 0 .nil) .nil),(.tree false 1 (.slice Af) .nil)⟩,JD⟩
theorem Ab9:Ah Go.Proofs.Tryz.prog A4t:=okA (hcA 0 (all_cons Abc all_nil)) Go.Proofs.Tryz.func60
def JF (x:A1×Unit):Option A1:=some (x.1.1,x.1.2.1,())
def ka:Ent:=⟨227,⟨(.slot A0 .nil),.nil⟩,⟨(.agg (si 2 .nil) .nil),.nil⟩,JF⟩
theorem Ab8:Ah Go.Proofs.Tryz.prog ka:=okA (hcA 0 all_nil) Go.Proofs.Tryz.func227
abbrev wY:=List A1×Unit
abbrev wV:=Int×List A1×Unit
abbrev wW:=List A1×Unit
def DD (i:wY)(v:wV)(R:Type)(K:wV ⊕ wW->Option R):Option R:=bif decide (v.1<(i.1.length:Int))then(lAt i.1 v.1).bind fun a=>(JF ((a.1,a.2.1,()),())).bind fun b=>if 0<=v.1/\v.1<(v.2.1.length:Int)then v.2.1[0+v.1.toNat]?.bind fun c=>K (.inl (IntKind.i64.wrap (v.1+1),v.2.1.set (0+v.1.toNat) (b.1,b.2.1,()),()))else none else K (.inr (v.2.1,()))
theorem Mj:AX DD:=fun i v R K=>Ae (Ac fun _=>Ac fun _=>Aq (Ac fun _=>Aa)) (Aa)
def ZI:Tmpl:=⟨(.slot (.slice A0) (jk 2 (.own 0 (.slot .i (jk 18 .nil))))),(.lst false A0 .nil)⟩
def wU:Exs wY wW:=x1 (.exit 0) fun i p=>⟨jn 3 (AV.own 0 none none::jn 19 ([])),[some (Cont.lst false A0 p.1)]⟩
def wX:=((.i (.v (.v .n))):Pk ZI.ty _ _)
def A8s:Cfg:={ti:=Ar,ents:=[ka],ann:=[(3,Ao ZI 0 (spP wX) DD wU.E)],lent:=0}
def Hq (x:List A1×Unit):Option (List A1×Unit):=if 0<=(x.1.length:Int)/\(x.1.length:Int)<=(x.1.length:Int)/\(x.1.length:Int)<=(↑2199023255552:Int)then(Ay (fun v=>DD (x.1,()) v _ some) (0,List.replicate ((x.1.length:Int).toNat) (0,0,()),())).bind fun p=>some (p.1,())else none
def A4c:Ent:=⟨184,⟨(.slot (.slice A0) .nil),.nil⟩,⟨(.own 0 .nil),(.lst false A0 .nil)⟩,Hq⟩
theorem wZ:CfgOK Go.Proofs.Tryz.prog A8s:=hcB (all_cons Ab8 all_nil)
theorem A4b:AP Go.Proofs.Tryz.prog A8s (lpc Go.Proofs.Tryz.f184 0):=lkA wZ ZI wX DD wU [3] Mj
theorem Ab4:Ah Go.Proofs.Tryz.prog A4c:=okB wZ Go.Proofs.Tryz.func184 A4b
def Ld (x:A1×Unit):Option A1:=some (x.1.1,x.1.2.1,())
def jm:Ent:=⟨228,⟨(.slot A0 .nil),.nil⟩,⟨(.agg (si 2 .nil) .nil),.nil⟩,Ld⟩
theorem Ab1:Ah Go.Proofs.Tryz.prog jm:=okA (hcA 0 all_nil) Go.Proofs.Tryz.func228
abbrev wy:=List A1×Unit
abbrev wv:=Int×List A1×Unit
abbrev ww:=List A1×Unit
def Fa (i:wy)(v:wv)(R:Type)(K:wv ⊕ ww->Option R):Option R:=bif decide (v.1<(i.1.length:Int))then(lAt i.1 v.1).bind fun a=>(Ld ((a.1,a.2.1,()),())).bind fun b=>if 0<=v.1/\v.1<(v.2.1.length:Int)then v.2.1[0+v.1.toNat]?.bind fun c=>K (.inl (IntKind.i64.wrap (v.1+1),v.2.1.set (0+v.1.toNat) (b.1,b.2.1,()),()))else none else K (.inr (v.2.1,()))
theorem NT:AX Fa:=fun i v R K=>Ae (Ac fun _=>Ac fun _=>Aq (Ac fun _=>Aa)) (Aa)
def ZH:Tmpl:=⟨(.slot (.slice A0) (jk 2 (.own 0 (.slot .i (jk 18 .nil))))),(.lst false A0 .nil)⟩
def wu:Exs wy ww:=x1 (.exit 0) fun i p=>⟨jn 3 (AV.own 0 none none::jn 19 ([])),[some (Cont.lst false A0 p.1)]⟩
def wx:=((.i (.v (.v .n))):Pk ZH.ty _ _)
def A8r:Cfg:={ti:=Ar,ents:=[jm],ann:=[(3,Ao ZH 0 (spP wx) Fa wu.E)],lent:=0}
def J8 (x:List A1×Unit):Option (List A1×Unit):=if 0<=(x.1.length:Int)/\(x.1.length:Int)<=(x.1.length:Int)/\(x.1.length:Int)<=(↑2199023255552:Int)then(Ay (fun v=>Fa (x.1,()) v _ some) (0,List.replicate ((x.1.length:Int).toNat) (0,0,()),())).bind fun p=>some (p.1,())else none
def A3t:Ent:=⟨185,⟨(.slot (.slice A0) .nil),.nil⟩,⟨(.own 0 .nil),(.lst false A0 .nil)⟩,J8⟩
theorem wz:CfgOK Go.Proofs.Tryz.prog A8r:=hcB (all_cons Ab1 all_nil)
theorem A3s:AP Go.Proofs.Tryz.prog A8r (lpc Go.Proofs.Tryz.f185 0):=lkA wz ZH wx Fa wu [3] NT
theorem Ab0:Ah Go.Proofs.Tryz.prog A3t:=okB wz Go.Proofs.Tryz.func185 A3s
def Gd (x:A3×Unit):Option A3:=(Hq (x.1.2.2.2.2.2.2.2.1,())).bind fun v=>(J8 (x.1.2.2.2.2.2.2.2.2.1,())).bind fun a=>some (x.1.1,x.1.2.1,x.1.2.2.1,x.1.2.2.2.1,x.1.2.2.2.2.1,x.1.2.2.2.2.2.1,x.1.2.2.2.2.2.2.1,v.1,a.1,())
def iB:Ent:=⟨120,⟨(.slot Ad .nil),.nil⟩,⟨(.agg (si 7 (.own 0 (.own 1 .nil))) .nil),(.lst false A0 (.lst false A0 .nil))⟩,Gd⟩
theorem Aav:Ah Go.Proofs.Tryz.prog iB:=okA (hcA 0 (all_cons Ab4 (all_cons Ab0 all_nil))) Go.Proofs.Tryz.func120
abbrev w6:=List A3×Unit
abbrev w3:=Int×List A3×Unit
abbrev w4:=List A3×Unit
def CE (i:w6)(v:w3)(R:Type)(K:w3 ⊕ w4->Option R):Option R:=bif decide (v.1<(i.1.length:Int))then(lAt i.1 v.1).bind fun a=>(Gd ((a.1,a.2.1,a.2.2.1,a.2.2.2.1,a.2.2.2.2.1,a.2.2.2.2.2.1,a.2.2.2.2.2.2.1,a.2.2.2.2.2.2.2.1,a.2.2.2.2.2.2.2.2.1,()),())).bind fun b=>if 0<=v.1/\v.1<(v.2.1.length:Int)then v.2.1[0+v.1.toNat]?.bind fun c=>K (.inl (IntKind.i64.wrap (v.1+1),v.2.1.set (0+v.1.toNat) (b.1,b.2.1,b.2.2.1,b.2.2.2.1,b.2.2.2.2.1,b.2.2.2.2.2.1,b.2.2.2.2.2.2.1,b.2.2.2.2.2.2.2.1,b.2.2.2.2.2.2.2.2.1,()),()))else none else K (.inr (v.2.1,()))
theorem Le:AX CE:=fun i v R K=>Ae (Ac fun _=>Ac fun _=>Aq (Ac fun _=>Aa)) (Aa)
def ZF:Tmpl:=⟨(.slot (.slice Ad) (jk 2 (.own 0 (.slot .i (jk 18 .nil))))),(.tree false 1 Ad .nil)⟩
def vZ:Exs w6 w4:=x1 (.exit 0) fun i p=>⟨jn 3 (AV.own 0 none none::jn 19 ([])),[some (Cont.tree false 1 Ad p.1 none)]⟩
def w5:=((.i (.v (.v .n))):Pk ZF.ty _ _)
def A8q:Cfg:={ti:=Ar,ents:=[iB],ann:=[(3,Ao ZF 0 (spP w5) CE vZ.E)],lent:=0}
def Fz (x:List A3×Unit):Option (List A3×Unit):=if 0<=(x.1.length:Int)/\(x.1.length:Int)<=(x.1.length:Int)/\(x.1.length:Int)<=(↑338311270084:Int)then(Ay (fun v=>CE (x.1,()) v _ some) (0,List.replicate ((x.1.length:Int).toNat) (0,0,0,0,0,0,0,[],[],()),())).bind fun p=>some (p.1,())else none
def A39:Ent:=⟨61,⟨(.slot (.slice Ad) .nil),.nil⟩,⟨(.own 0 .nil),(.tree false 1 Ad .nil)⟩,Fz⟩
theorem w7:CfgOK Go.Proofs.Tryz.prog A8q:=hcB (all_cons Aav all_nil)
theorem A38:AP Go.Proofs.Tryz.prog A8q (lpc Go.Proofs.Tryz.f61 0):=lkA w7 ZF w5 CE vZ [3] Le
theorem Aau:Ah Go.Proofs.Tryz.prog A39:=okB w7 Go.Proofs.Tryz.func61 A38
def LR (x:A1×Unit):Option A1:=some (x.1.1,x.1.2.1,())
def gJ:Ent:=⟨121,⟨(.slot A0 .nil),.nil⟩,⟨(.agg (si 2 .nil) .nil),.nil⟩,LR⟩
theorem Aap:Ah Go.Proofs.Tryz.prog gJ:=okA (hcA 0 all_nil) Go.Proofs.Tryz.func121
abbrev vq:=List A1×Unit
abbrev vn:=Int×List A1×Unit
abbrev vo:=List A1×Unit
def FZ (i:vq)(v:vn)(R:Type)(K:vn ⊕ vo->Option R):Option R:=bif decide (v.1<(i.1.length:Int))then(lAt i.1 v.1).bind fun a=>(LR ((a.1,a.2.1,()),())).bind fun b=>if 0<=v.1/\v.1<(v.2.1.length:Int)then v.2.1[0+v.1.toNat]?.bind fun c=>K (.inl (IntKind.i64.wrap (v.1+1),v.2.1.set (0+v.1.toNat) (b.1,b.2.1,()),()))else none else K (.inr (v.2.1,()))
theorem OH:AX FZ:=fun i v R K=>Ae (Ac fun _=>Ac fun _=>Aq (Ac fun _=>Aa)) (Aa)
def ZD:Tmpl:=⟨(.slot (.slice A0) (jk 2 (.own 0 (.slot .i (jk 18 .nil))))),(.lst false A0 .nil)⟩
def vm:Exs vq vo:=x1 (.exit 0) fun i p=>⟨jn 3 (AV.own 0 none none::jn 19 ([])),[some (Cont.lst false A0 p.1)]⟩
def vp:=((.i (.v (.v .n))):Pk ZD.ty _ _)
def A8j:Cfg:={ti:=Ar,ents:=[gJ],ann:=[(3,Ao ZD 0 (spP vp) FZ vm.E)],lent:=0}
def JG (x:List A1×Unit):Option (List A1×Unit):=if 0<=(x.1.length:Int)/\(x.1.length:Int)<=(x.1.length:Int)/\(x.1.length:Int)<=(↑2199023255552:Int)then(Ay (fun v=>FZ (x.1,()) v _ some) (0,List.replicate ((x.1.length:Int).toNat) (0,0,()),())).bind fun p=>some (p.1,())else none
def A2o:Ent:=⟨62,⟨(.slot (.slice A0) .nil),.nil⟩,⟨(.own 0 .nil),(.lst false A0 .nil)⟩,JG⟩
theorem vt:CfgOK Go.Proofs.Tryz.prog A8j:=hcB (all_cons Aap all_nil)
theorem A2n:AP Go.Proofs.Tryz.prog A8j (lpc Go.Proofs.Tryz.f62 0):=lkA vt ZD vp FZ vm [3] OH
theorem Aao:Ah Go.Proofs.Tryz.prog A2o:=okB vt Go.Proofs.Tryz.func62 A2n
def LQ (x:A1×Unit):Option A1:=some (x.1.1,x.1.2.1,())
def fe:Ent:=⟨122,⟨(.slot A0 .nil),.nil⟩,⟨(.agg (si 2 .nil) .nil),.nil⟩,LQ⟩
theorem Aan:Ah Go.Proofs.Tryz.prog fe:=okA (hcA 0 all_nil) Go.Proofs.Tryz.func122
abbrev uz:=List A1×Unit
abbrev uw:=Int×List A1×Unit
abbrev ux:=List A1×Unit
def FY (i:uz)(v:uw)(R:Type)(K:uw ⊕ ux->Option R):Option R:=bif decide (v.1<(i.1.length:Int))then(lAt i.1 v.1).bind fun a=>(LQ ((a.1,a.2.1,()),())).bind fun b=>if 0<=v.1/\v.1<(v.2.1.length:Int)then v.2.1[0+v.1.toNat]?.bind fun c=>K (.inl (IntKind.i64.wrap (v.1+1),v.2.1.set (0+v.1.toNat) (b.1,b.2.1,()),()))else none else K (.inr (v.2.1,()))
theorem OG:AX FY:=fun i v R K=>Ae (Ac fun _=>Ac fun _=>Aq (Ac fun _=>Aa)) (Aa)
def ZC:Tmpl:=⟨(.slot (.slice A0) (jk 2 (.own 0 (.slot .i (jk 18 .nil))))),(.lst false A0 .nil)⟩
def uv:Exs uz ux:=x1 (.exit 0) fun i p=>⟨jn 3 (AV.own 0 none none::jn 19 ([])),[some (Cont.lst false A0 p.1)]⟩
def uy:=((.i (.v (.v .n))):Pk ZC.ty _ _)
def A8i:Cfg:={ti:=Ar,ents:=[fe],ann:=[(3,Ao ZC 0 (spP uy) FY uv.E)],lent:=0}
def JC (x:List A1×Unit):Option (List A1×Unit):=if 0<=(x.1.length:Int)/\(x.1.length:Int)<=(x.1.length:Int)/\(x.1.length:Int)<=(↑2199023255552:Int)then(Ay (fun v=>FY (x.1,()) v _ some) (0,List.replicate ((x.1.length:Int).toNat) (0,0,()),())).bind fun p=>some (p.1,())else none
def A24:Ent:=⟨63,⟨(.slot (.slice A0) .nil),.nil⟩,⟨(.own 0 .nil),(.lst false A0 .nil)⟩,JC⟩
theorem uA:CfgOK Go.Proofs.Tryz.prog A8i:=hcB (all_cons Aan all_nil)
theorem A23:AP Go.Proofs.Tryz.prog A8i (lpc Go.Proofs.Tryz.f63 0):=lkA uA ZC uy FY uv [3] OG
theorem Aam:Ah Go.Proofs.Tryz.prog A24:=okB uA Go.Proofs.Tryz.func63 A23
def EC (x:A5×Unit):Option (Bool×Int×A7):=(JD ((x.1.2.1.1,()),())).bind fun v=>(Fz (x.1.2.2.1,())).bind fun a=>(JG (x.1.2.2.2.1,())).bind fun b=>(JC (x.1.2.2.2.2.1,())).bind fun c=>some (x.1.1,x.1.2.2.2.2.2.1,v.1,a.1,b.1,c.1,())
def A1u:Ent:=⟨11,⟨(.slot Bz .nil),.nil⟩,⟨(.agg (.slot .bool (.own 0 (.own 1 (.own 2 (.own 3 (.slot .i .nil)))))) .nil),(.tree false 1 (.slice Af) (.tree false 1 Ad (.lst false A0 (.lst false A0 .nil))))⟩,EC⟩
theorem Aal:Ah Go.Proofs.Tryz.prog A1u:=okA (hcA 0 (all_cons Ab9 (all_cons Aau (all_cons Aao (all_cons Aam all_nil))))) Go.Proofs.Tryz.func11
def NU (x:A6×Unit):Option A6:=some (x.1.1,x.1.2.1,x.1.2.2.1,x.1.2.2.2.1,x.1.2.2.2.2.1,x.1.2.2.2.2.2.1,())
def cy:Ent:=⟨12,⟨(.slot YOp .nil),.nil⟩,⟨(.agg (si 6 .nil) .nil),.nil⟩,NU⟩
theorem Aak:Ah Go.Proofs.Tryz.prog cy:=okA (hcA 0 all_nil) Go.Proofs.Tryz.func12
def LF (x:List A2×Unit):Option (List A2×Unit):=if x.1.length<=879609302220 then some (x.1,())else none
def cj:Ent:=⟨169,⟨(.slot (.slice Af) .nil),.nil⟩,⟨(.own 0 .nil),(.lst false Af .nil)⟩,LF⟩
theorem Aaj:Ah Go.Proofs.Tryz.prog cj:=okA (hcA 0 all_nil) Go.Proofs.Tryz.func169
abbrev tC:=List (List A2)×Unit
abbrev tw:=Int×List (List A2)×Unit
abbrev tx:=List (List A2)×Unit
def GL (i:tC)(v:tw)(R:Type)(K:tw ⊕ tx->Option R):Option R:=bif decide (v.1<(i.1.length:Int))then(lAt i.1 v.1).bind fun a=>(LF (a,())).bind fun b=>if(v.2.1++[b.1]).length<=1466015503701 then K (.inl (IntKind.i64.wrap (v.1+1),v.2.1++[b.1],()))else none else K (.inr (v.2.1,()))
theorem OZ:AX GL:=fun i v R K=>Ae (Ac fun _=>Ac fun _=>Aq (Aa)) (Aa)
def ZB:Tmpl:=⟨(.junk (.ptr 0 0 0 (.ptr 1 0 0 (.ptr 2 0 0 (.slot .i (jk 20 .nil)))))),(.cells 1 (.slot (.slice (.slice Af)) .nil) (.cells 1 (.const (AV.nils) .nil) (.cells 1 (.own 3 .nil) (.tree false 0 (.slice Af) .nil))))⟩
def tu:Exs tC tx:=x1 (.exit 0) fun i p=>⟨jn 2 (AV.ptr 1 none 0 0::AV.ptr 2 none 0 0::jn 21 ([])),[some (Cont.cells 1 [[AV.pv (.slice (.slice Af)) i.1]]),some (Cont.cells 1 [[AV.nils]]),some (Cont.cells 1 [[AV.own 3 none none]]),some (Cont.tree false 0 (.slice Af) p.1 none)]⟩
def tz:=((.v (.i (.v .n))):Pk ZB.ty _ _)
def A8h:Cfg:={ti:=Ar,ents:=[cj],ann:=[(3,Ao ZB 0 (spP tz) GL tu.E)],lent:=0}
def IY (x:A4×Unit):Option A4:=(Ay (fun v=>GL (x.1.1,()) v _ some) (0,[],())).bind fun p=>some (p.1,())
def TG:Ent:=⟨94,⟨(.slot Bo .nil),.nil⟩,⟨(.agg (.own 0 .nil) .nil),(.tree false 0 (.slice Af) .nil)⟩,IY⟩
theorem tD:CfgOK Go.Proofs.Tryz.prog A8h:=hcB (all_cons Aaj all_nil)
theorem A1g:AP Go.Proofs.Tryz.prog A8h (lpc Go.Proofs.Tryz.f94 0):=lkA tD ZB tz GL tu [2,3] OZ
theorem tB:Ah Go.Proofs.Tryz.prog TG:=okB tD Go.Proofs.Tryz.func94 A1g
def GO (x:List A1×Unit):Option (List A1×Unit):=if x.1.length<=2199023255552 then some (x.1,())else none
def TF:Ent:=⟨95,⟨(.slot (.slice A0) .nil),.nil⟩,⟨(.own 0 .nil),(.lst false A0 .nil)⟩,GO⟩
theorem tq:Ah Go.Proofs.Tryz.prog TF:=okA (hcA 0 all_nil) Go.Proofs.Tryz.func95
def EZ (x:A3×Unit):Option A3:=if x.1.2.2.2.2.2.2.2.1.length<=2199023255552 then if x.1.2.2.2.2.2.2.2.2.1.length<=2199023255552 then some (x.1.1,x.1.2.1,x.1.2.2.1,x.1.2.2.2.1,x.1.2.2.2.2.1,x.1.2.2.2.2.2.1,x.1.2.2.2.2.2.2.1,x.1.2.2.2.2.2.2.2.1,x.1.2.2.2.2.2.2.2.2.1,())else none else none
def TE:Ent:=⟨96,⟨(.slot Ad .nil),.nil⟩,⟨(.agg (si 7 (.own 0 (.own 1 .nil))) .nil),(.lst false A0 (.lst false A0 .nil))⟩,EZ⟩
theorem TD:Ah Go.Proofs.Tryz.prog TE:=okA (hcA 0 all_nil) Go.Proofs.Tryz.func96
abbrev tn:=Bool×List (List A2)×List A3×List A1×List A1×Int×Bool×Int×Bool×Int×List (List A2)×A9
abbrev th:=Int×List A3×Unit
abbrev tj:=List A3×Unit
def FV (i:tn)(v:th)(R:Type)(K:th ⊕ tj->Option R):Option R:=bif decide (v.1<(i.2.2.1.length:Int))then(lAt i.2.2.1 v.1).bind fun a=>(EZ ((a.1,a.2.1,a.2.2.1,a.2.2.2.1,a.2.2.2.2.1,a.2.2.2.2.2.1,a.2.2.2.2.2.2.1,a.2.2.2.2.2.2.2.1,a.2.2.2.2.2.2.2.2.1,()),())).bind fun b=>if(v.2.1++[(b.1,b.2.1,b.2.2.1,b.2.2.2.1,b.2.2.2.2.1,b.2.2.2.2.2.1,b.2.2.2.2.2.2.1,b.2.2.2.2.2.2.2.1,b.2.2.2.2.2.2.2.2.1,())]).length<=338311270084 then K (.inl (IntKind.i64.wrap (v.1+1),v.2.1++[(b.1,b.2.1,b.2.2.1,b.2.2.2.1,b.2.2.2.2.1,b.2.2.2.2.2.1,b.2.2.2.2.2.2.1,b.2.2.2.2.2.2.2.1,b.2.2.2.2.2.2.2.2.1,())],()))else none else K (.inr (v.2.1,()))
theorem OC:AX FV:=fun i v R K=>Ae (Ac fun _=>Ac fun _=>Aq (Aa)) (Aa)
def ZA:Tmpl:=⟨(.junk (.ptr 0 0 0 (.ptr 1 0 0 (.ptr 2 0 0 (.slot .i (jk 36 .nil)))))),(.cells 6 (.slot .bool (.slot (.slice (.slice Af)) (.slot (.slice Ad) (.slot (.slice A0) (.slot (.slice A0) (.slot .i .nil)))))) (.cells 6 (.slot .bool (.const (AV.nils) (.const (AV.nils) (.const (AV.nils) (.const (AV.nils) (.slot .i .nil)))))) (.cells 6 (.slot .bool (.own 3 (.own 6 (.own 4 (.own 5 (.slot .i .nil)))))) (.tree false 0 (.slice Af) (.lst false A0 (.lst false A0 (.tree false 0 Ad .nil)))))))⟩
def tg:Exs tn tj:=x1 (.exit 0) fun i p=>⟨jn 2 (AV.ptr 1 none 0 0::AV.ptr 2 none 0 0::jn 37 ([])),[some (Cont.cells 6 [[AV.pv .bool i.1,AV.pv (.slice (.slice Af)) i.2.1,AV.pv (.slice Ad) i.2.2.1,AV.pv (.slice A0) i.2.2.2.1,AV.pv (.slice A0) i.2.2.2.2.1,AV.pv (Ty.int IntKind.i64) i.2.2.2.2.2.1]]),some (Cont.cells 6 [[AV.pv .bool i.2.2.2.2.2.2.1,AV.nils,AV.nils,AV.nils,AV.nils,AV.pv .i i.2.2.2.2.2.2.2.1]]),some (Cont.cells 6 [[AV.pv .bool i.2.2.2.2.2.2.2.2.1,AV.own 3 none none,AV.own 6 none none,AV.own 4 none none,AV.own 5 none none,AV.pv .i i.2.2.2.2.2.2.2.2.2.1]]),some (Cont.tree false 0 (.slice Af) i.2.2.2.2.2.2.2.2.2.2.1 none),some (Cont.lst false A0 i.2.2.2.2.2.2.2.2.2.2.2.1),some (Cont.lst false A0 i.2.2.2.2.2.2.2.2.2.2.2.2.1),some (Cont.tree false 0 Ad p.1 none)]⟩
def tk:=((.v (.i (.i (.i (.i (.i (.i (.i (.i (.i (.i (.i (.i (.i (.v .n))))))))))))))):Pk ZA.ty _ _)
def A8g:Cfg:={ti:=Ar,ents:=[TG,TF,TE],ann:=[(3,Ao ZA 0 (spP tk) FV tg.E)],lent:=0}
def Il (x:A5×Unit):Option (Bool×Int×A7):=(IY ((x.1.2.1.1,()),())).bind fun v=>(GO (x.1.2.2.2.1,())).bind fun a=>if x.1.2.2.2.2.1.length<=2199023255552 then(Ay (fun b=>FV (x.1.1,x.1.2.1.1,x.1.2.2.1,x.1.2.2.2.1,x.1.2.2.2.2.1,x.1.2.2.2.2.2.1,false,0,x.1.1,x.1.2.2.2.2.2.1,v.1,a.1,x.1.2.2.2.2.1,()) b _ some) (0,[],())).bind fun p=>some (x.1.1,x.1.2.2.2.2.2.1,v.1,p.1,a.1,x.1.2.2.2.2.1,())else none
def TC:Ent:=⟨49,⟨(.slot Bz .nil),.nil⟩,⟨(.agg (.slot .bool (.own 0 (.own 1 (.own 2 (.own 3 (.slot .i .nil)))))) .nil),(.tree false 0 (.slice Af) (.tree false 0 Ad (.lst false A0 (.lst false A0 .nil))))⟩,Il⟩
theorem tp:CfgOK Go.Proofs.Tryz.prog A8g:=hcB (all_cons tB (all_cons tq (all_cons TD all_nil)))
theorem A1f:AP Go.Proofs.Tryz.prog A8g (lpc Go.Proofs.Tryz.f49 0):=lkA tp ZA tk FV tg [2,3] OC
theorem tm:Ah Go.Proofs.Tryz.prog TC:=okB tp Go.Proofs.Tryz.func49 A1f
abbrev te:=Int×Bool×List (List A2)×List A3×List A1×List A1×Int×Unit
abbrev t9:=Int×Unit
abbrev ta:=Int×Unit ⊕ Unit
def Ct (i:te)(v:t9)(R:Type)(K:t9 ⊕ ta->Option R):Option R:=bif decide (v.1<(i.2.2.2.1.length:Int))then(lAt i.2.2.2.1 v.1).bind fun a=>bif a.1==i.1 then K (.inr (.inl (v.1,())))else K (.inl (IntKind.i64.wrap (v.1+1),()))else K (.inr (.inr ()))
theorem KN:AX Ct:=fun i v R K=>Ae (Ac fun _=>Ae (Aa) (Aa)) (Aa)
def Zz:Tmpl:=⟨(.junk (.slot .i (.ptr 0 0 0 (jk 2 (.slot .i (jk 16 .nil)))))),(.cells 6 (.slot .bool (.slot (.slice (.slice Af)) (.slot (.slice Ad) (.slot (.slice A0) (.slot (.slice A0) (.slot .i .nil)))))) .nil)⟩
def t8:Exs te ta:=xs .ret (fun i p=>⟨jn 4 (.n (p.1)::jn 17 ([])),[some (Cont.cells 6 [[AV.pv .bool i.2.1,AV.pv (.slice (.slice Af)) i.2.2.1,AV.pv (.slice Ad) i.2.2.2.1,AV.pv (.slice A0) i.2.2.2.2.1,AV.pv (.slice A0) i.2.2.2.2.2.1,AV.pv .i i.2.2.2.2.2.2.1]])]⟩)<|x1 (.exit 0) fun i p=>⟨jn 22 ([]),[some (Cont.cells 6 [[AV.pv .bool i.2.1,AV.pv (.slice (.slice Af)) i.2.2.1,AV.pv (.slice Ad) i.2.2.2.1,AV.pv (.slice A0) i.2.2.2.2.1,AV.pv (.slice A0) i.2.2.2.2.2.1,AV.pv .i i.2.2.2.2.2.2.1]])]⟩
def tc:=((.i (.v (.i (.i (.i (.i (.i (.i .n)))))))):Pk Zz.ty _ _)
def A8f:Cfg:={ti:=Ar,ents:=[],ann:=[(2,Ao Zz 0 (spP tc) Ct t8.E)],lent:=0}
def Ds (x:A5×Int×Unit):Option (Int×Unit):=(Ay (fun v=>Ct (x.2.1,x.1.1,x.1.2.1.1,x.1.2.2.1,x.1.2.2.2.1,x.1.2.2.2.2.1,x.1.2.2.2.2.2.1,()) v _ some) (0,())).bind fun p=>Au p (fun p=>some (p.1,())) fun p=>some (-1,())
def ci:Ent:=⟨50,⟨(.slot Bz (.slot .i .nil)),.nil⟩,⟨(.slot .i .nil),.nil⟩,Ds⟩
theorem tf:CfgOK Go.Proofs.Tryz.prog A8f:=hcB all_nil
theorem A1e:AP Go.Proofs.Tryz.prog A8f (lpc Go.Proofs.Tryz.f50 0):=lkA tf Zz tc Ct t8 [4] KN
theorem td:Ah Go.Proofs.Tryz.prog ci:=okB tf Go.Proofs.Tryz.func50 A1e
def Am (x:B3):Option (Bool×Unit):=bif decide (x.1>=x.2.1)then some (decide (x.1<=x.2.2.1),())else some (false,())
def Ly:Ent:=⟨100,⟨(si 3 .nil),.nil⟩,⟨(.slot .bool .nil),.nil⟩,Am⟩
theorem Jx:Ah Go.Proofs.Tryz.prog Ly:=okA (hcA 0 all_nil) Go.Proofs.Tryz.func100
def DQ (x:A2×Unit):Option (Bool×Unit):=(Am (x.1.2.1,-1,99,())).bind fun v=>bif !v.1 then some (false,())else(Am (x.1.2.2.1,0,999,())).bind fun v=>bif !v.1 then some (false,())else(Am (x.1.2.2.2.1,x.1.2.2.1,999,())).bind fun v=>bif !v.1 then some (false,())else(Am (x.1.2.2.2.2.1,1,1000,())).bind fun v=>bif !v.1 then some (false,())else bif x.1.2.2.1==0 then bif x.1.1==0 then some (x.1.2.1==-1,())else some (false,())else(Am (x.1.1,1,9,())).bind fun v=>some (v.1,())
def ch:Ent:=⟨176,⟨(.slot Af .nil),.nil⟩,⟨(.slot .bool .nil),.nil⟩,DQ⟩
theorem t7:Ah Go.Proofs.Tryz.prog ch:=okA (hcA 0 (all_cons Jx all_nil)) Go.Proofs.Tryz.func176
abbrev t5:=List A2×Unit
abbrev sX:=Int×Unit
abbrev sY:=Unit ⊕ Unit ⊕ Unit ⊕ Unit
def Da (i:t5)(v:sX)(R:Type)(K:sX ⊕ sY->Option R):Option R:=bif decide (v.1<(i.1.length:Int))then(lAt i.1 v.1).bind fun a=>(DQ ((a.1,a.2.1,a.2.2.1,a.2.2.2.1,a.2.2.2.2.1,()),())).bind fun b=>bif !b.1 then K (.inr (.inl ()))else bif decide (IntKind.i64.wrap (v.1+1)<(i.1.length:Int))then(lAt i.1 v.1).bind fun c=>(lAt i.1 (IntKind.i64.wrap (v.1+1))).bind fun d=>bif decide (c.2.2.1>=d.2.2.1)then K (.inr (.inr (.inl ())))else(lAt i.1 v.1).bind fun e=>(lAt i.1 (IntKind.i64.wrap (v.1+1))).bind fun f=>bif decide (e.2.2.2.2.1>f.2.2.1)then K (.inr (.inr (.inr (.inl ()))))else K (.inl (IntKind.i64.wrap (v.1+1),()))else K (.inl (IntKind.i64.wrap (v.1+1),()))else K (.inr (.inr (.inr (.inr ()))))
theorem LJ:AX Da:=fun i v R K=>Ae (Ac fun _=>Ac fun _=>Ae (Aa) (Ae (Ac fun _=>Ac fun _=>Ae (Aa) (Ac fun _=>Ac fun _=>Ae (Aa) (Aa))) (Aa))) (Aa)
def Zx:Tmpl:=⟨(.slot (.slice Af) (jk 2 (.slot .i (jk 58 .nil)))),.nil⟩
def sW:Exs t5 sY:=xs .ret (fun i p=>⟨AV.pv (.slice Af) i.1::jn 1 (.b (false)::jn 59 ([])),[]⟩)<|xs .ret (fun i p=>⟨AV.pv (.slice Af) i.1::jn 1 (.b (false)::jn 59 ([])),[]⟩)<|xs .ret (fun i p=>⟨AV.pv (.slice Af) i.1::jn 1 (.b (false)::jn 59 ([])),[]⟩)<|x1 (.exit 0) fun i p=>⟨AV.pv (.slice Af) i.1::jn 61 ([]),[]⟩
def sZ:=((.i (.v .n)):Pk Zx.ty _ _)
def A8e:Cfg:={ti:=Ar,ents:=[ch],ann:=[(2,Ao Zx 0 (spP sZ) Da sW.E)],lent:=0}
def CN (x:List A2×Unit):Option (Bool×Unit):=(Ay (fun v=>Da (x.1,()) v _ some) (0,())).bind fun p=>Au p (fun p=>some (false,())) fun p=>Au p (fun p=>some (false,())) fun p=>Au p (fun p=>some (false,())) fun p=>bif decide ((x.1.length:Int)>0)then(lAt x.1 (IntKind.i64.wrap ((x.1.length:Int)-1))).bind fun v=>some (v.2.2.2.2.1==1000,())else some (false,())
def TB:Ent:=⟨170,⟨(.slot (.slice Af) .nil),.nil⟩,⟨(.slot .bool .nil),.nil⟩,CN⟩
theorem t6:CfgOK Go.Proofs.Tryz.prog A8e:=hcB (all_cons t7 all_nil)
theorem A1d:AP Go.Proofs.Tryz.prog A8e (lpc Go.Proofs.Tryz.f170 0):=lkA t6 Zx sZ Da sW [0,2] LJ
theorem Zy:Ah Go.Proofs.Tryz.prog TB:=okB t6 Go.Proofs.Tryz.func170 A1d
abbrev sU:=List (List A2)×Unit
abbrev sQ:=Int×Unit
abbrev sR:=Unit ⊕ Unit ⊕ Unit ⊕ Unit ⊕ Unit
def D9 (i:sU)(v:sQ)(R:Type)(K:sQ ⊕ sR->Option R):Option R:=bif decide (v.1<(i.1.length:Int))then(lAt i.1 v.1).bind fun a=>(CN (a,())).bind fun b=>bif !b.1 then K (.inr (.inl ()))else(lAt i.1 v.1).bind fun c=>(lAt c 0).bind fun d=>bif decide (d.2.2.1>0)then(lAt i.1 v.1).bind fun e=>bif decide ((e.length:Int)>50)then K (.inr (.inr (.inl ())))else(lAt i.1 v.1).bind fun f=>bif decide ((f.length:Int)>50)then K (.inr (.inr (.inr (.inl ()))))else K (.inl (IntKind.i64.wrap (v.1+1),()))else(lAt i.1 v.1).bind fun e=>bif decide ((e.length:Int)>50)then K (.inr (.inr (.inr (.inr (.inl ())))))else K (.inl (IntKind.i64.wrap (v.1+1),()))else K (.inr (.inr (.inr (.inr (.inr ())))))
theorem LI:AX D9:=fun i v R K=>Ae (Ac fun _=>Ac fun _=>Ae (Aa) (Ac fun _=>Ac fun _=>Ae (Ac fun _=>Ae (Aa) (Ac fun _=>Ae (Aa) (Aa))) (Ac fun _=>Ae (Aa) (Aa)))) (Aa)
def Zw:Tmpl:=⟨(.junk (.ptr 0 0 0 (.junk (.slot .i (jk 47 .nil))))),(.cells 1 (.slot (.slice (.slice Af)) .nil) .nil)⟩
def sP:Exs sU sR:=xs .ret (fun i p=>⟨jn 1 (AV.ptr 0 none 0 0::.b (false)::jn 48 ([])),[some (Cont.cells 1 [[AV.pv (.slice (.slice Af)) i.1]])]⟩)<|xs .ret (fun i p=>⟨jn 1 (AV.ptr 0 none 0 0::.b (false)::jn 48 ([])),[some (Cont.cells 1 [[AV.pv (.slice (.slice Af)) i.1]])]⟩)<|xs .ret (fun i p=>⟨jn 1 (AV.ptr 0 none 0 0::.b (false)::jn 48 ([])),[some (Cont.cells 1 [[AV.pv (.slice (.slice Af)) i.1]])]⟩)<|xs .ret (fun i p=>⟨jn 1 (AV.ptr 0 none 0 0::.b (false)::jn 48 ([])),[some (Cont.cells 1 [[AV.pv (.slice (.slice Af)) i.1]])]⟩)<|x1 (.exit 0) fun i p=>⟨jn 1 (AV.ptr 0 none 0 0::jn 49 ([])),[some (Cont.cells 1 [[AV.pv (.slice (.slice Af)) i.1]])]⟩
def sS:=((.v (.i .n)):Pk Zw.ty _ _)
def A8d:Cfg:={ti:=Ar,ents:=[TB],ann:=[(2,Ao Zw 0 (spP sS) D9 sP.E)],lent:=0}
def Bs (x:A4×Unit):Option (Bool×Unit):=(Ay (fun v=>D9 (x.1.1,()) v _ some) (0,())).bind fun p=>Au p (fun p=>some (false,())) fun p=>Au p (fun p=>some (false,())) fun p=>Au p (fun p=>some (false,())) fun p=>Au p (fun p=>some (false,())) fun p=>some ((x.1.1.length:Int)==6,())
def PB:Ent:=⟨97,⟨(.slot Bo .nil),.nil⟩,⟨(.slot .bool .nil),.nil⟩,Bs⟩
theorem sV:CfgOK Go.Proofs.Tryz.prog A8d:=hcB (all_cons Zy all_nil)
theorem A1c:AP Go.Proofs.Tryz.prog A8d (lpc Go.Proofs.Tryz.f97 0):=lkA sV Zw sS D9 sP [1,2] LI
theorem Pb:Ah Go.Proofs.Tryz.prog PB:=okB sV Go.Proofs.Tryz.func97 A1c
abbrev sN:=List A1×Unit
abbrev sK:=Int×Unit
abbrev sL:=Unit ⊕ Unit ⊕ Unit ⊕ Unit
def F8 (i:sN)(v:sK)(R:Type)(K:sK ⊕ sL->Option R):Option R:=bif decide (v.1<(i.1.length:Int))then(lAt i.1 v.1).bind fun a=>(Am (a.1,0,5,())).bind fun b=>bif !b.1 then K (.inr (.inl ()))else(lAt i.1 v.1).bind fun c=>(Am (c.2.1,1,9,())).bind fun d=>bif !d.1 then K (.inr (.inr (.inl ())))else bif decide (v.1>0)then(lAt i.1 (IntKind.i64.wrap (v.1-1))).bind fun e=>(lAt i.1 v.1).bind fun f=>bif decide (e.1>=f.1)then K (.inr (.inr (.inr (.inl ()))))else K (.inl (IntKind.i64.wrap (v.1+1),()))else K (.inl (IntKind.i64.wrap (v.1+1),()))else K (.inr (.inr (.inr (.inr ()))))
theorem NF:AX F8:=fun i v R K=>Ae (Ac fun _=>Ac fun _=>Ae (Aa) (Ac fun _=>Ac fun _=>Ae (Aa) (Ae (Ac fun _=>Ac fun _=>Ae (Aa) (Aa)) (Aa)))) (Aa)
def Zu:Tmpl:=⟨(.slot (.slice A0) (jk 2 (.slot .i (jk 40 .nil)))),.nil⟩
def sJ:Exs sN sL:=xs .ret (fun i p=>⟨jn 2 (.b (false)::jn 41 ([])),[]⟩)<|xs .ret (fun i p=>⟨jn 2 (.b (false)::jn 41 ([])),[]⟩)<|xs .ret (fun i p=>⟨jn 2 (.b (false)::jn 41 ([])),[]⟩)<|x1 (.exit 0) fun i p=>⟨jn 44 ([]),[]⟩
def sM:=((.i (.v .n)):Pk Zu.ty _ _)
def A8c:Cfg:={ti:=Ar,ents:=[Ly],ann:=[(2,Ao Zu 0 (spP sM) F8 sJ.E)],lent:=0}
def EA (x:List A1×Unit):Option (Bool×Unit):=(Ay (fun v=>F8 (x.1,()) v _ some) (0,())).bind fun p=>Au p (fun p=>some (false,())) fun p=>Au p (fun p=>some (false,())) fun p=>Au p (fun p=>some (false,())) fun p=>some (true,())
def TA:Ent:=⟨98,⟨(.slot (.slice A0) .nil),.nil⟩,⟨(.slot .bool .nil),.nil⟩,EA⟩
theorem sO:CfgOK Go.Proofs.Tryz.prog A8c:=hcB (all_cons Jx all_nil)
theorem A1b:AP Go.Proofs.Tryz.prog A8c (lpc Go.Proofs.Tryz.f98 0):=lkA sO Zu sM F8 sJ [2] NF
theorem Zv:Ah Go.Proofs.Tryz.prog TA:=okB sO Go.Proofs.Tryz.func98 A1b
abbrev sH:=List A1×Unit
abbrev sE:=Int×Unit
abbrev sF:=Unit ⊕ Unit ⊕ Unit ⊕ Unit ⊕ Unit
def F7 (i:sH)(v:sE)(R:Type)(K:sE ⊕ sF->Option R):Option R:=bif decide (v.1<(i.1.length:Int))then(lAt i.1 v.1).bind fun a=>(Am (a.1,1,9,())).bind fun b=>bif !b.1 then K (.inr (.inl ()))else(lAt i.1 v.1).bind fun c=>(Am (c.2.1,1,9,())).bind fun d=>bif !d.1 then K (.inr (.inr (.inl ())))else(lAt i.1 v.1).bind fun e=>(lAt i.1 v.1).bind fun f=>bif e.1==f.2.1 then K (.inr (.inr (.inr (.inl ()))))else bif decide (v.1>0)then(lAt i.1 (IntKind.i64.wrap (v.1-1))).bind fun g=>(lAt i.1 v.1).bind fun h=>bif decide (g.1>=h.1)then K (.inr (.inr (.inr (.inr (.inl ())))))else K (.inl (IntKind.i64.wrap (v.1+1),()))else K (.inl (IntKind.i64.wrap (v.1+1),()))else K (.inr (.inr (.inr (.inr (.inr ())))))
theorem NE:AX F7:=fun i v R K=>Ae (Ac fun _=>Ac fun _=>Ae (Aa) (Ac fun _=>Ac fun _=>Ae (Aa) (Ac fun _=>Ac fun _=>Ae (Aa) (Ae (Ac fun _=>Ac fun _=>Ae (Aa) (Aa)) (Aa))))) (Aa)
def Zs:Tmpl:=⟨(.slot (.slice A0) (jk 2 (.slot .i (jk 53 .nil)))),.nil⟩
def sD:Exs sH sF:=xs .ret (fun i p=>⟨jn 2 (.b (false)::jn 54 ([])),[]⟩)<|xs .ret (fun i p=>⟨jn 2 (.b (false)::jn 54 ([])),[]⟩)<|xs .ret (fun i p=>⟨jn 2 (.b (false)::jn 54 ([])),[]⟩)<|xs .ret (fun i p=>⟨jn 2 (.b (false)::jn 54 ([])),[]⟩)<|x1 (.exit 0) fun i p=>⟨jn 57 ([]),[]⟩
def sG:=((.i (.v .n)):Pk Zs.ty _ _)
def A8b:Cfg:={ti:=Ar,ents:=[Ly],ann:=[(2,Ao Zs 0 (spP sG) F7 sD.E)],lent:=0}
def Ez (x:List A1×Unit):Option (Bool×Unit):=(Ay (fun v=>F7 (x.1,()) v _ some) (0,())).bind fun p=>Au p (fun p=>some (false,())) fun p=>Au p (fun p=>some (false,())) fun p=>Au p (fun p=>some (false,())) fun p=>Au p (fun p=>some (false,())) fun p=>some (true,())
def R8:Ent:=⟨99,⟨(.slot (.slice A0) .nil),.nil⟩,⟨(.slot .bool .nil),.nil⟩,Ez⟩
theorem sI:CfgOK Go.Proofs.Tryz.prog A8b:=hcB (all_cons Jx all_nil)
theorem A1a:AP Go.Proofs.Tryz.prog A8b (lpc Go.Proofs.Tryz.f99 0):=lkA sI Zs sG F7 sD [2] NE
theorem Zt:Ah Go.Proofs.Tryz.prog R8:=okB sI Go.Proofs.Tryz.func99 A1a
abbrev sA:=Int×List (List A2)×Unit
abbrev sr:=Int×Int×Unit
abbrev su:=Int×Unit
def Ei (i:sA)(v:sr)(R:Type)(K:sr ⊕ su->Option R):Option R:=(lAt i.2.1 i.1).bind fun a=>bif decide (v.2.1<(a.length:Int))then(lAt i.2.1 i.1).bind fun b=>(lAt b v.2.1).bind fun c=>(lAt i.2.1 i.1).bind fun d=>(lAt d v.2.1).bind fun e=>K (.inl (mx (mx v.1 c.2.2.1) e.2.2.2.1,IntKind.i64.wrap (v.2.1+1),()))else K (.inr (v.1,()))
theorem Nh:AX Ei:=fun i v R K=>Ac fun _=>Ae (Ac fun _=>Ac fun _=>Ac fun _=>Ac fun _=>Aa) (Aa)
def Zp:Tmpl:=⟨(.junk (.ptr 0 0 0 (.junk (si 3 (jk 42 .nil))))),(.cells 1 (.slot (.slice (.slice Af)) .nil) .nil)⟩
def so:Exs sA su:=x1 (.exit 2) fun i p=>⟨jn 1 (AV.ptr 0 none 0 0::jn 1 (.n (p.1)::.n (i.1)::jn 43 ([]))),[some (Cont.cells 1 [[AV.pv (.slice (.slice Af)) i.2.1]])]⟩
def sw:=((.v (.i (.v (.i .n)))):Pk Zp.ty _ _)
abbrev sB:=List (List A2)×Unit
abbrev ss:=Int×Int×Unit
abbrev sv:=Int×Unit ⊕ Int×Unit
def Ej (i:sB)(v:ss)(R:Type)(K:ss ⊕ sv->Option R):Option R:=bif decide (v.2.1<(i.1.length:Int))then(Bs ((i.1,()),())).bind fun a=>bif a.1 then(Ay (fun b=>Ei (v.2.1,i.1,()) b _ some) (v.1,0,())).bind fun p=>K (.inl (p.1,IntKind.i64.wrap (v.2.1+1),()))else K (.inr (.inl (v.1,())))else K (.inr (.inr (v.1,())))
theorem Ni:AX Ej:=fun i v R K=>Ae (Ac fun _=>Ae (Ac fun _=>Aa) (Aa)) (Aa)
def Zq:Tmpl:=⟨(.junk (.ptr 0 0 0 (.junk (si 2 (jk 43 .nil))))),(.cells 1 (.slot (.slice (.slice Af)) .nil) .nil)⟩
def sq:Exs sB sv:=xs (.exit 0) (fun i p=>⟨jn 3 (.n (p.1)::jn 44 ([])),[some (Cont.cells 1 [[AV.pv (.slice (.slice Af)) i.1]])]⟩)<|x1 (.exit 0) fun i p=>⟨jn 3 (.n (p.1)::jn 44 ([])),[some (Cont.cells 1 [[AV.pv (.slice (.slice Af)) i.1]])]⟩
def sx:=((.v (.v (.i .n))):Pk Zq.ty _ _)
def sC:Cfg:={ti:=Ar,ents:=[PB],ann:=[(6,Ao Zp 0 (spP sw) Ei so.E),(3,Ao Zq 0 (spP sx) Ej sq.E)],lent:=0}
def GP (x:A4×Unit):Option (Int×Unit):=(Ay (fun v=>Ej (x.1.1,()) v _ some) (0,0,())).bind fun p=>Au p (fun p=>some (p.1,())) fun p=>some (p.1,())
def cg:Ent:=⟨101,⟨(.slot Bo .nil),.nil⟩,⟨(.slot .i .nil),.nil⟩,GP⟩
theorem Zr:CfgOK Go.Proofs.Tryz.prog sC:=hcB (all_cons Pb all_nil)
theorem cf:AP Go.Proofs.Tryz.prog sC (lpc Go.Proofs.Tryz.f101 1):=lkA Zr Zp sw Ei so [1,3,4] Nh
theorem A19:AP Go.Proofs.Tryz.prog sC (lpc Go.Proofs.Tryz.f101 0):=lkB Zr Zq sx Ej sq [3] Ni cf
theorem sy:Ah Go.Proofs.Tryz.prog cg:=okC Zr Go.Proofs.Tryz.func101 A19 cf
def HP (x:A1×A1×Unit):Option (Bool×Unit):=bif decide (x.1.1<x.2.1.1)then some (true,())else bif x.1.1==x.2.1.1 then some (decide (x.1.2.1<x.2.1.2.1),())else some (false,())
def Tz:Ent:=⟨171,⟨(.slot A0 (.slot A0 .nil)),.nil⟩,⟨(.slot .bool .nil),.nil⟩,HP⟩
theorem sn:Ah Go.Proofs.Tryz.prog Tz:=okA (hcA 0 all_nil) Go.Proofs.Tryz.func171
abbrev sl:=A3
abbrev sd:=Int×Unit
abbrev sf:=Int×Int×Unit ⊕ Int×Int×Unit ⊕ Int×Int×Unit ⊕ Unit
def C0 (i:sl)(v:sd)(R:Type)(K:sd ⊕ sf->Option R):Option R:=bif decide (v.1<(i.2.2.2.2.2.2.2.1.length:Int))then(lAt i.2.2.2.2.2.2.2.1 v.1).bind fun a=>(Am (a.1,0,5,())).bind fun b=>bif !b.1 then K (.inr (.inl (a.1,a.2.1,())))else(Am (a.2.1,0,999,())).bind fun c=>bif !c.1 then K (.inr (.inr (.inl (a.1,a.2.1,()))))else bif decide (v.1>0)then(lAt i.2.2.2.2.2.2.2.1 (IntKind.i64.wrap (v.1-1))).bind fun d=>(HP ((d.1,d.2.1,()),(a.1,a.2.1,()),())).bind fun e=>bif !e.1 then K (.inr (.inr (.inr (.inl (a.1,a.2.1,())))))else K (.inl (IntKind.i64.wrap (v.1+1),()))else K (.inl (IntKind.i64.wrap (v.1+1),()))else K (.inr (.inr (.inr (.inr ()))))
theorem K4:AX C0:=fun i v R K=>Ae (Ac fun _=>Ac fun _=>Ae (Aa) (Ac fun _=>Ae (Aa) (Ae (Ac fun _=>Ac fun _=>Ae (Aa) (Aa)) (Aa)))) (Aa)
def Zn:Tmpl:=⟨(.junk (.ptr 0 0 0 (.junk (.slot .i (jk 127 .nil))))),(.cells 9 (si 7 (.slot (.slice A0) (.slot (.slice A0) .nil))) .nil)⟩
def s8:Exs sl sf:=xs .ret (fun i p=>⟨jn 1 (AV.ptr 0 none 0 0::.b (false)::jn 128 ([])),[some (Cont.cells 9 [[AV.pv .i i.1,AV.pv .i i.2.1,AV.pv .i i.2.2.1,AV.pv .i i.2.2.2.1,AV.pv (Ty.int IntKind.i64) i.2.2.2.2.1,AV.pv .i i.2.2.2.2.2.1,AV.pv .i i.2.2.2.2.2.2.1,AV.pv (.slice A0) i.2.2.2.2.2.2.2.1,AV.pv (.slice A0) i.2.2.2.2.2.2.2.2.1]]),some (Cont.cells 2 [[AV.pv .i p.1,AV.pv .i p.2.1]])]⟩)<|xs .ret (fun i p=>⟨jn 1 (AV.ptr 0 none 0 0::.b (false)::jn 128 ([])),[some (Cont.cells 9 [[AV.pv .i i.1,AV.pv .i i.2.1,AV.pv .i i.2.2.1,AV.pv .i i.2.2.2.1,AV.pv (Ty.int IntKind.i64) i.2.2.2.2.1,AV.pv .i i.2.2.2.2.2.1,AV.pv .i i.2.2.2.2.2.2.1,AV.pv (.slice A0) i.2.2.2.2.2.2.2.1,AV.pv (.slice A0) i.2.2.2.2.2.2.2.2.1]]),some (Cont.cells 2 [[AV.pv .i p.1,AV.pv .i p.2.1]])]⟩)<|xs .ret (fun i p=>⟨jn 1 (AV.ptr 0 none 0 0::.b (false)::jn 128 ([])),[some (Cont.cells 9 [[AV.pv .i i.1,AV.pv .i i.2.1,AV.pv .i i.2.2.1,AV.pv .i i.2.2.2.1,AV.pv (Ty.int IntKind.i64) i.2.2.2.2.1,AV.pv .i i.2.2.2.2.2.1,AV.pv .i i.2.2.2.2.2.2.1,AV.pv (.slice A0) i.2.2.2.2.2.2.2.1,AV.pv (.slice A0) i.2.2.2.2.2.2.2.2.1]]),some (Cont.cells 2 [[AV.pv .i p.1,AV.pv .i p.2.1]])]⟩)<|x1 (.exit 0) fun i p=>⟨jn 1 (AV.ptr 0 none 0 0::jn 129 ([])),[some (Cont.cells 9 [[AV.pv .i i.1,AV.pv .i i.2.1,AV.pv .i i.2.2.1,AV.pv .i i.2.2.2.1,AV.pv .i i.2.2.2.2.1,AV.pv .i i.2.2.2.2.2.1,AV.pv .i i.2.2.2.2.2.2.1,AV.pv (.slice A0) i.2.2.2.2.2.2.2.1,AV.pv (.slice A0) i.2.2.2.2.2.2.2.2.1]])]⟩
def sj:=((.v (.i (.i (.i (.i (.i (.i (.i (.i (.i .n)))))))))):Pk Zn.ty _ _)
abbrev sk:=A3
abbrev s9:=Int×Unit
abbrev se:=Int×Int×Unit ⊕ Int×Int×Unit ⊕ Int×Int×Unit ⊕ Unit
def BZ (i:sk)(v:s9)(R:Type)(K:s9 ⊕ se->Option R):Option R:=bif decide (v.1<(i.2.2.2.2.2.2.2.2.1.length:Int))then(lAt i.2.2.2.2.2.2.2.2.1 v.1).bind fun a=>(Am (a.1,0,5,())).bind fun b=>bif !b.1 then K (.inr (.inl (a.1,a.2.1,())))else(Am (a.2.1,-1,99,())).bind fun c=>bif !c.1 then K (.inr (.inr (.inl (a.1,a.2.1,()))))else bif decide (v.1>0)then(lAt i.2.2.2.2.2.2.2.2.1 (IntKind.i64.wrap (v.1-1))).bind fun d=>bif decide (d.1>=a.1)then K (.inr (.inr (.inr (.inl (a.1,a.2.1,())))))else K (.inl (IntKind.i64.wrap (v.1+1),()))else K (.inl (IntKind.i64.wrap (v.1+1),()))else K (.inr (.inr (.inr (.inr ()))))
theorem K3:AX BZ:=fun i v R K=>Ae (Ac fun _=>Ac fun _=>Ae (Aa) (Ac fun _=>Ae (Aa) (Ae (Ac fun _=>Ae (Aa) (Aa)) (Aa)))) (Aa)
def Zm:Tmpl:=⟨(.junk (.ptr 0 0 0 (jk 3 (.slot .i (jk 125 .nil))))),(.cells 9 (si 7 (.slot (.slice A0) (.slot (.slice A0) .nil))) .nil)⟩
def s7:Exs sk se:=xs .ret (fun i p=>⟨jn 1 (AV.ptr 0 none 0 0::.b (false)::jn 128 ([])),[some (Cont.cells 9 [[AV.pv .i i.1,AV.pv .i i.2.1,AV.pv .i i.2.2.1,AV.pv .i i.2.2.2.1,AV.pv (Ty.int IntKind.i64) i.2.2.2.2.1,AV.pv .i i.2.2.2.2.2.1,AV.pv .i i.2.2.2.2.2.2.1,AV.pv (.slice A0) i.2.2.2.2.2.2.2.1,AV.pv (.slice A0) i.2.2.2.2.2.2.2.2.1]]),some (Cont.cells 2 [[AV.pv .i p.1,AV.pv .i p.2.1]])]⟩)<|xs .ret (fun i p=>⟨jn 1 (AV.ptr 0 none 0 0::.b (false)::jn 128 ([])),[some (Cont.cells 9 [[AV.pv .i i.1,AV.pv .i i.2.1,AV.pv .i i.2.2.1,AV.pv .i i.2.2.2.1,AV.pv (Ty.int IntKind.i64) i.2.2.2.2.1,AV.pv .i i.2.2.2.2.2.1,AV.pv .i i.2.2.2.2.2.2.1,AV.pv (.slice A0) i.2.2.2.2.2.2.2.1,AV.pv (.slice A0) i.2.2.2.2.2.2.2.2.1]]),some (Cont.cells 2 [[AV.pv .i p.1,AV.pv .i p.2.1]])]⟩)<|xs .ret (fun i p=>⟨jn 1 (AV.ptr 0 none 0 0::.b (false)::jn 128 ([])),[some (Cont.cells 9 [[AV.pv .i i.1,AV.pv .i i.2.1,AV.pv .i i.2.2.1,AV.pv .i i.2.2.2.1,AV.pv (Ty.int IntKind.i64) i.2.2.2.2.1,AV.pv .i i.2.2.2.2.2.1,AV.pv .i i.2.2.2.2.2.2.1,AV.pv (.slice A0) i.2.2.2.2.2.2.2.1,AV.pv (.slice A0) i.2.2.2.2.2.2.2.2.1]]),some (Cont.cells 2 [[AV.pv .i p.1,AV.pv .i p.2.1]])]⟩)<|x1 (.exit 2) fun i p=>⟨jn 1 (AV.ptr 0 none 0 0::jn 129 ([])),[some (Cont.cells 9 [[AV.pv .i i.1,AV.pv .i i.2.1,AV.pv .i i.2.2.1,AV.pv .i i.2.2.2.1,AV.pv .i i.2.2.2.2.1,AV.pv .i i.2.2.2.2.2.1,AV.pv .i i.2.2.2.2.2.2.1,AV.pv (.slice A0) i.2.2.2.2.2.2.2.1,AV.pv (.slice A0) i.2.2.2.2.2.2.2.2.1]])]⟩
def sg:=((.v (.i (.i (.i (.i (.i (.i (.i (.i (.i .n)))))))))):Pk Zm.ty _ _)
def sm:Cfg:={ti:=Ar,ents:=[Ly,Tz],ann:=[(2,Ao Zn 0 (spP sj) C0 s8.E),(8,Ao Zm 0 (spP sg) BZ s7.E)],lent:=0}
def AO (x:A3×Unit):Option (Bool×Unit):=(Ay (fun v=>C0 (x.1.1,x.1.2.1,x.1.2.2.1,x.1.2.2.2.1,x.1.2.2.2.2.1,x.1.2.2.2.2.2.1,x.1.2.2.2.2.2.2.1,x.1.2.2.2.2.2.2.2.1,x.1.2.2.2.2.2.2.2.2.1,()) v _ some) (0,())).bind fun p=>Au p (fun p=>some (false,())) fun p=>Au p (fun p=>some (false,())) fun p=>Au p (fun p=>some (false,())) fun p=>(Ay (fun v=>BZ (x.1.1,x.1.2.1,x.1.2.2.1,x.1.2.2.2.1,x.1.2.2.2.2.1,x.1.2.2.2.2.2.1,x.1.2.2.2.2.2.2.1,x.1.2.2.2.2.2.2.2.1,x.1.2.2.2.2.2.2.2.2.1,()) v _ some) (0,())).bind fun p=>Au p (fun p=>some (false,())) fun p=>Au p (fun p=>some (false,())) fun p=>Au p (fun p=>some (false,())) fun p=>(Am (x.1.1,1,9,())).bind fun v=>bif !v.1 then some (false,())else(Am (x.1.2.1,1,4,())).bind fun v=>bif !v.1 then some (false,())else(Am (x.1.2.2.2.1,0,999,())).bind fun v=>bif !v.1 then some (false,())else(Am (x.1.2.2.1,1,3,())).bind fun v=>bif v.1 then(Am (x.1.2.2.2.2.1,0,999,())).bind fun v=>bif v.1 then(Am (x.1.2.2.2.2.2.1,1,1000,())).bind fun v=>bif v.1 then bif (x.1.2.2.1==2)==decide (x.1.2.2.2.2.2.2.1>0)then(Am (x.1.2.2.2.2.2.2.1,0,999,())).bind fun v=>bif v.1 then some (decide ((x.1.2.2.2.2.2.2.2.1.length:Int)<=60),())else some (false,())else some (false,())else some (false,())else some (false,())else some (false,())
def R7:Ent:=⟨102,⟨(.slot Ad .nil),.nil⟩,⟨(.slot .bool .nil),.nil⟩,AO⟩
theorem Zo:CfgOK Go.Proofs.Tryz.prog sm:=hcB (all_cons Jx (all_cons sn all_nil))
theorem A17:AP Go.Proofs.Tryz.prog sm (lpc Go.Proofs.Tryz.f102 1):=lkA Zo Zm sg BZ s7 [1,2] K3
theorem A18:AP Go.Proofs.Tryz.prog sm (lpc Go.Proofs.Tryz.f102 0):=lkA Zo Zn sj C0 s8 [1,2] K4
theorem Pa:Ah Go.Proofs.Tryz.prog R7:=okC Zo Go.Proofs.Tryz.func102 A18 A17
abbrev s5:=List A2×Int×Unit
abbrev rZ:=Int×Unit
abbrev s3:=Int×Unit ⊕ Unit
def DB (i:s5)(v:rZ)(R:Type)(K:rZ ⊕ s3->Option R):Option R:=bif decide (v.1<(i.1.length:Int))then(lAt i.1 v.1).bind fun a=>bif a.2.2.1==i.2.1 then K (.inr (.inl (v.1,())))else K (.inl (IntKind.i64.wrap (v.1+1),()))else K (.inr (.inr ()))
theorem M4:AX DB:=fun i v R K=>Ae (Ac fun _=>Ae (Aa) (Aa)) (Aa)
def Zk:Tmpl:=⟨(.slot (.slice Af) (.slot .i (jk 3 (.slot .i (jk 14 .nil))))),.nil⟩
def rY:Exs s5 s3:=xs .ret (fun i p=>⟨jn 4 (.n (p.1)::jn 15 ([])),[]⟩)<|x1 (.exit 0) fun i p=>⟨jn 20 ([]),[]⟩
def s4:=((.i (.i (.v .n))):Pk Zk.ty _ _)
def A8a:Cfg:={ti:=Ar,ents:=[],ann:=[(2,Ao Zk 0 (spP s4) DB rY.E)],lent:=0}
def DY (x:List A2×Int×Unit):Option (Int×Unit):=(Ay (fun v=>DB (x.1,x.2.1,()) v _ some) (0,())).bind fun p=>Au p (fun p=>some (p.1,())) fun p=>some (-1,())
def R6:Ent:=⟨172,⟨(.slot (.slice Af) (.slot .i .nil)),.nil⟩,⟨(.slot .i .nil),.nil⟩,DY⟩
theorem s6:CfgOK Go.Proofs.Tryz.prog A8a:=hcB all_nil
theorem A16:AP Go.Proofs.Tryz.prog A8a (lpc Go.Proofs.Tryz.f172 0):=lkA s6 Zk s4 DB rY [4] M4
theorem Zl:Ah Go.Proofs.Tryz.prog R6:=okB s6 Go.Proofs.Tryz.func172 A16
abbrev rV:=List (List A2)×A3
abbrev rS:=Int×Unit
abbrev rT:=Unit ⊕ Unit
def DW (i:rV)(v:rS)(R:Type)(K:rS ⊕ rT->Option R):Option R:=bif decide (v.1<(i.2.2.2.2.2.2.2.2.1.length:Int))then(lAt i.2.2.2.2.2.2.2.2.1 v.1).bind fun a=>(lAt i.1 a.1).bind fun b=>(lAt i.2.2.2.2.2.2.2.2.1 v.1).bind fun c=>(DY (b,c.2.1,())).bind fun d=>bif decide (d.1<0)then K (.inr (.inl ()))else K (.inl (IntKind.i64.wrap (v.1+1),()))else K (.inr (.inr ()))
theorem MD:AX DW:=fun i v R K=>Ae (Ac fun _=>Ac fun _=>Ac fun _=>Ac fun _=>Ae (Aa) (Aa)) (Aa)
def Zi:Tmpl:=⟨(jk 2 (.ptr 0 0 0 (.ptr 1 0 0 (.junk (.slot .i (jk 33 .nil)))))),(.cells 1 (.slot (.slice (.slice Af)) .nil) (.cells 9 (si 7 (.slot (.slice A0) (.slot (.slice A0) .nil))) .nil))⟩
def rR:Exs rV rT:=xs .ret (fun i p=>⟨jn 4 (.b (false)::jn 34 ([])),[some (Cont.cells 1 [[AV.pv (.slice (.slice Af)) i.1]]),some (Cont.cells 9 [[AV.pv .i i.2.1,AV.pv .i i.2.2.1,AV.pv .i i.2.2.2.1,AV.pv .i i.2.2.2.2.1,AV.pv .i i.2.2.2.2.2.1,AV.pv .i i.2.2.2.2.2.2.1,AV.pv .i i.2.2.2.2.2.2.2.1,AV.pv (.slice A0) i.2.2.2.2.2.2.2.2.1,AV.pv (.slice A0) i.2.2.2.2.2.2.2.2.2.1]])]⟩)<|x1 (.exit 0) fun i p=>⟨jn 39 ([]),[some (Cont.cells 1 [[AV.pv (.slice (.slice Af)) i.1]]),some (Cont.cells 9 [[AV.pv .i i.2.1,AV.pv .i i.2.2.1,AV.pv .i i.2.2.2.1,AV.pv .i i.2.2.2.2.1,AV.pv .i i.2.2.2.2.2.1,AV.pv .i i.2.2.2.2.2.2.1,AV.pv .i i.2.2.2.2.2.2.2.1,AV.pv (.slice A0) i.2.2.2.2.2.2.2.2.1,AV.pv (.slice A0) i.2.2.2.2.2.2.2.2.2.1]])]⟩
def rU:=((.v (.i (.i (.i (.i (.i (.i (.i (.i (.i (.i .n))))))))))):Pk Zi.ty _ _)
def A89:Cfg:={ti:=Ar,ents:=[PB,R7,R6],ann:=[(4,Ao Zi 0 (spP rU) DW rR.E)],lent:=0}
def Dq (x:A4×A3×Unit):Option (Bool×Unit):=(Bs ((x.1.1,()),())).bind fun v=>bif !v.1 then some (false,())else(AO ((x.2.1.1,x.2.1.2.1,x.2.1.2.2.1,x.2.1.2.2.2.1,x.2.1.2.2.2.2.1,x.2.1.2.2.2.2.2.1,x.2.1.2.2.2.2.2.2.1,x.2.1.2.2.2.2.2.2.2.1,x.2.1.2.2.2.2.2.2.2.2.1,()),())).bind fun v=>bif !v.1 then some (false,())else(Ay (fun v=>DW (x.1.1,x.2.1.1,x.2.1.2.1,x.2.1.2.2.1,x.2.1.2.2.2.1,x.2.1.2.2.2.2.1,x.2.1.2.2.2.2.2.1,x.2.1.2.2.2.2.2.2.1,x.2.1.2.2.2.2.2.2.2.1,x.2.1.2.2.2.2.2.2.2.2.1,()) v _ some) (0,())).bind fun p=>Au p (fun p=>some (false,())) fun p=>some (true,())
def Tx:Ent:=⟨103,⟨(.slot Bo (.slot Ad .nil)),.nil⟩,⟨(.slot .bool .nil),.nil⟩,Dq⟩
theorem rX:CfgOK Go.Proofs.Tryz.prog A89:=hcB (all_cons Pb (all_cons Pa (all_cons Zl all_nil)))
theorem A15:AP Go.Proofs.Tryz.prog A89 (lpc Go.Proofs.Tryz.f103 0):=lkA rX Zi rU DW rR [4] MD
theorem Zj:Ah Go.Proofs.Tryz.prog Tx:=okB rX Go.Proofs.Tryz.func103 A15
def F0 (x:A5×Int×Unit):Option (Bool×Unit):=(Ds ((x.1.1,(x.1.2.1.1,()),x.1.2.2.1,x.1.2.2.2.1,x.1.2.2.2.2.1,x.1.2.2.2.2.2.1,()),x.2.1,())).bind fun v=>bif decide (v.1>=0)then(lAt x.1.2.2.1 v.1).bind fun v=>some (v.2.2.1==1,())else some (false,())
def cd:Ent:=⟨104,⟨(.slot Bz (.slot .i .nil)),.nil⟩,⟨(.slot .bool .nil),.nil⟩,F0⟩
theorem Aag:Ah Go.Proofs.Tryz.prog cd:=okA (hcA 0 (all_cons td all_nil)) Go.Proofs.Tryz.func104
abbrev rQ:=Bool×List (List A2)×List A3×List A1×List A1×Int×Unit
abbrev rM:=Int×Unit
abbrev rN:=A3 ⊕ A3 ⊕ A3 ⊕ A3 ⊕ A3 ⊕ A3 ⊕ A3 ⊕ A3 ⊕ Unit
def Cm (i:rQ)(v:rM)(R:Type)(K:rM ⊕ rN->Option R):Option R:=bif decide (v.1<(i.2.2.1.length:Int))then(lAt i.2.2.1 v.1).bind fun a=>(AO ((a.1,a.2.1,a.2.2.1,a.2.2.2.1,a.2.2.2.2.1,a.2.2.2.2.2.1,a.2.2.2.2.2.2.1,a.2.2.2.2.2.2.2.1,a.2.2.2.2.2.2.2.2.1,()),())).bind fun b=>bif !b.1 then K (.inr (.inl (a.1,a.2.1,a.2.2.1,a.2.2.2.1,a.2.2.2.2.1,a.2.2.2.2.2.1,a.2.2.2.2.2.2.1,a.2.2.2.2.2.2.2.1,a.2.2.2.2.2.2.2.2.1,())))else bif decide (v.1>0)then(lAt i.2.2.1 (IntKind.i64.wrap (v.1-1))).bind fun c=>bif decide (c.1>=a.1)then K (.inr (.inr (.inl (a.1,a.2.1,a.2.2.1,a.2.2.2.1,a.2.2.2.2.1,a.2.2.2.2.2.1,a.2.2.2.2.2.2.1,a.2.2.2.2.2.2.2.1,a.2.2.2.2.2.2.2.2.1,()))))else bif decide (a.2.2.2.1>i.2.2.2.2.2.1)then K (.inr (.inr (.inr (.inl (a.1,a.2.1,a.2.2.1,a.2.2.2.1,a.2.2.2.2.1,a.2.2.2.2.2.1,a.2.2.2.2.2.2.1,a.2.2.2.2.2.2.2.1,a.2.2.2.2.2.2.2.2.1,())))))else bif decide (a.2.2.2.2.2.2.1>i.2.2.2.2.2.1)then K (.inr (.inr (.inr (.inr (.inl (a.1,a.2.1,a.2.2.1,a.2.2.2.1,a.2.2.2.2.1,a.2.2.2.2.2.1,a.2.2.2.2.2.2.1,a.2.2.2.2.2.2.2.1,a.2.2.2.2.2.2.2.2.1,()))))))else bif a.2.2.1==1 then(Dq ((i.2.1,()),(a.1,a.2.1,a.2.2.1,a.2.2.2.1,a.2.2.2.2.1,a.2.2.2.2.2.1,a.2.2.2.2.2.2.1,a.2.2.2.2.2.2.2.1,a.2.2.2.2.2.2.2.2.1,()),())).bind fun d=>bif !d.1 then K (.inr (.inr (.inr (.inr (.inr (.inl (a.1,a.2.1,a.2.2.1,a.2.2.2.1,a.2.2.2.2.1,a.2.2.2.2.2.1,a.2.2.2.2.2.2.1,a.2.2.2.2.2.2.2.1,a.2.2.2.2.2.2.2.2.1,())))))))else K (.inl (IntKind.i64.wrap (v.1+1),()))else K (.inl (IntKind.i64.wrap (v.1+1),()))else bif decide (a.2.2.2.1>i.2.2.2.2.2.1)then K (.inr (.inr (.inr (.inr (.inr (.inr (.inl (a.1,a.2.1,a.2.2.1,a.2.2.2.1,a.2.2.2.2.1,a.2.2.2.2.2.1,a.2.2.2.2.2.2.1,a.2.2.2.2.2.2.2.1,a.2.2.2.2.2.2.2.2.1,()))))))))else bif decide (a.2.2.2.2.2.2.1>i.2.2.2.2.2.1)then K (.inr (.inr (.inr (.inr (.inr (.inr (.inr (.inl (a.1,a.2.1,a.2.2.1,a.2.2.2.1,a.2.2.2.2.1,a.2.2.2.2.2.1,a.2.2.2.2.2.2.1,a.2.2.2.2.2.2.2.1,a.2.2.2.2.2.2.2.2.1,())))))))))else bif a.2.2.1==1 then(Dq ((i.2.1,()),(a.1,a.2.1,a.2.2.1,a.2.2.2.1,a.2.2.2.2.1,a.2.2.2.2.2.1,a.2.2.2.2.2.2.1,a.2.2.2.2.2.2.2.1,a.2.2.2.2.2.2.2.2.1,()),())).bind fun c=>bif !c.1 then K (.inr (.inr (.inr (.inr (.inr (.inr (.inr (.inr (.inl (a.1,a.2.1,a.2.2.1,a.2.2.2.1,a.2.2.2.2.1,a.2.2.2.2.2.1,a.2.2.2.2.2.2.1,a.2.2.2.2.2.2.2.1,a.2.2.2.2.2.2.2.2.1,()))))))))))else K (.inl (IntKind.i64.wrap (v.1+1),()))else K (.inl (IntKind.i64.wrap (v.1+1),()))else K (.inr (.inr (.inr (.inr (.inr (.inr (.inr (.inr (.inr ())))))))))
theorem Ls:AX Cm:=fun i v R K=>Ae (Ac fun _=>Ac fun _=>Ae (Aa) (Ae (Ac fun _=>Ae (Aa) (Ae (Aa) (Ae (Aa) (Ae (Ac fun _=>Ae (Aa) (Aa)) (Aa))))) (Ae (Aa) (Ae (Aa) (Ae (Ac fun _=>Ae (Aa) (Aa)) (Aa)))))) (Aa)
def Zh:Tmpl:=⟨(.junk (.ptr 0 0 0 (.junk (.slot .i (jk 134 .nil))))),(.cells 6 (.slot .bool (.slot (.slice (.slice Af)) (.slot (.slice Ad) (.slot (.slice A0) (.slot (.slice A0) (.slot .i .nil)))))) .nil)⟩
def rL:Exs rQ rN:=xs .ret (fun i p=>⟨jn 1 (AV.ptr 0 none 0 0::.b (false)::jn 135 ([])),[some (Cont.cells 6 [[AV.pv .bool i.1,AV.pv (.slice (.slice Af)) i.2.1,AV.pv (.slice Ad) i.2.2.1,AV.pv (.slice A0) i.2.2.2.1,AV.pv (.slice A0) i.2.2.2.2.1,AV.pv (Ty.int IntKind.i64) i.2.2.2.2.2.1]]),some (Cont.cells 9 [[AV.pv .i p.1,AV.pv .i p.2.1,AV.pv .i p.2.2.1,AV.pv .i p.2.2.2.1,AV.pv .i p.2.2.2.2.1,AV.pv .i p.2.2.2.2.2.1,AV.pv .i p.2.2.2.2.2.2.1,AV.pv (.slice A0) p.2.2.2.2.2.2.2.1,AV.pv (.slice A0) p.2.2.2.2.2.2.2.2.1]])]⟩)<|xs .ret (fun i p=>⟨jn 1 (AV.ptr 0 none 0 0::.b (false)::jn 135 ([])),[some (Cont.cells 6 [[AV.pv .bool i.1,AV.pv (.slice (.slice Af)) i.2.1,AV.pv (.slice Ad) i.2.2.1,AV.pv (.slice A0) i.2.2.2.1,AV.pv (.slice A0) i.2.2.2.2.1,AV.pv (Ty.int IntKind.i64) i.2.2.2.2.2.1]]),some (Cont.cells 9 [[AV.pv .i p.1,AV.pv .i p.2.1,AV.pv .i p.2.2.1,AV.pv .i p.2.2.2.1,AV.pv .i p.2.2.2.2.1,AV.pv .i p.2.2.2.2.2.1,AV.pv .i p.2.2.2.2.2.2.1,AV.pv (.slice A0) p.2.2.2.2.2.2.2.1,AV.pv (.slice A0) p.2.2.2.2.2.2.2.2.1]])]⟩)<|xs .ret (fun i p=>⟨jn 1 (AV.ptr 0 none 0 0::.b (false)::jn 135 ([])),[some (Cont.cells 6 [[AV.pv .bool i.1,AV.pv (.slice (.slice Af)) i.2.1,AV.pv (.slice Ad) i.2.2.1,AV.pv (.slice A0) i.2.2.2.1,AV.pv (.slice A0) i.2.2.2.2.1,AV.pv (Ty.int IntKind.i64) i.2.2.2.2.2.1]]),some (Cont.cells 9 [[AV.pv .i p.1,AV.pv .i p.2.1,AV.pv .i p.2.2.1,AV.pv .i p.2.2.2.1,AV.pv .i p.2.2.2.2.1,AV.pv .i p.2.2.2.2.2.1,AV.pv .i p.2.2.2.2.2.2.1,AV.pv (.slice A0) p.2.2.2.2.2.2.2.1,AV.pv (.slice A0) p.2.2.2.2.2.2.2.2.1]])]⟩)<|xs .ret (fun i p=>⟨jn 1 (AV.ptr 0 none 0 0::.b (false)::jn 135 ([])),[some (Cont.cells 6 [[AV.pv .bool i.1,AV.pv (.slice (.slice Af)) i.2.1,AV.pv (.slice Ad) i.2.2.1,AV.pv (.slice A0) i.2.2.2.1,AV.pv (.slice A0) i.2.2.2.2.1,AV.pv (Ty.int IntKind.i64) i.2.2.2.2.2.1]]),some (Cont.cells 9 [[AV.pv .i p.1,AV.pv .i p.2.1,AV.pv .i p.2.2.1,AV.pv .i p.2.2.2.1,AV.pv .i p.2.2.2.2.1,AV.pv .i p.2.2.2.2.2.1,AV.pv .i p.2.2.2.2.2.2.1,AV.pv (.slice A0) p.2.2.2.2.2.2.2.1,AV.pv (.slice A0) p.2.2.2.2.2.2.2.2.1]])]⟩)<|xs .ret (fun i p=>⟨jn 1 (AV.ptr 0 none 0 0::.b (false)::jn 135 ([])),[some (Cont.cells 6 [[AV.pv .bool i.1,AV.pv (.slice (.slice Af)) i.2.1,AV.pv (.slice Ad) i.2.2.1,AV.pv (.slice A0) i.2.2.2.1,AV.pv (.slice A0) i.2.2.2.2.1,AV.pv (Ty.int IntKind.i64) i.2.2.2.2.2.1]]),some (Cont.cells 9 [[AV.pv .i p.1,AV.pv .i p.2.1,AV.pv .i p.2.2.1,AV.pv .i p.2.2.2.1,AV.pv .i p.2.2.2.2.1,AV.pv .i p.2.2.2.2.2.1,AV.pv .i p.2.2.2.2.2.2.1,AV.pv (.slice A0) p.2.2.2.2.2.2.2.1,AV.pv (.slice A0) p.2.2.2.2.2.2.2.2.1]])]⟩)<|xs .ret (fun i p=>⟨jn 1 (AV.ptr 0 none 0 0::.b (false)::jn 135 ([])),[some (Cont.cells 6 [[AV.pv .bool i.1,AV.pv (.slice (.slice Af)) i.2.1,AV.pv (.slice Ad) i.2.2.1,AV.pv (.slice A0) i.2.2.2.1,AV.pv (.slice A0) i.2.2.2.2.1,AV.pv (Ty.int IntKind.i64) i.2.2.2.2.2.1]]),some (Cont.cells 9 [[AV.pv .i p.1,AV.pv .i p.2.1,AV.pv .i p.2.2.1,AV.pv .i p.2.2.2.1,AV.pv .i p.2.2.2.2.1,AV.pv .i p.2.2.2.2.2.1,AV.pv .i p.2.2.2.2.2.2.1,AV.pv (.slice A0) p.2.2.2.2.2.2.2.1,AV.pv (.slice A0) p.2.2.2.2.2.2.2.2.1]])]⟩)<|xs .ret (fun i p=>⟨jn 1 (AV.ptr 0 none 0 0::.b (false)::jn 135 ([])),[some (Cont.cells 6 [[AV.pv .bool i.1,AV.pv (.slice (.slice Af)) i.2.1,AV.pv (.slice Ad) i.2.2.1,AV.pv (.slice A0) i.2.2.2.1,AV.pv (.slice A0) i.2.2.2.2.1,AV.pv (Ty.int IntKind.i64) i.2.2.2.2.2.1]]),some (Cont.cells 9 [[AV.pv .i p.1,AV.pv .i p.2.1,AV.pv .i p.2.2.1,AV.pv .i p.2.2.2.1,AV.pv .i p.2.2.2.2.1,AV.pv .i p.2.2.2.2.2.1,AV.pv .i p.2.2.2.2.2.2.1,AV.pv (.slice A0) p.2.2.2.2.2.2.2.1,AV.pv (.slice A0) p.2.2.2.2.2.2.2.2.1]])]⟩)<|xs .ret (fun i p=>⟨jn 1 (AV.ptr 0 none 0 0::.b (false)::jn 135 ([])),[some (Cont.cells 6 [[AV.pv .bool i.1,AV.pv (.slice (.slice Af)) i.2.1,AV.pv (.slice Ad) i.2.2.1,AV.pv (.slice A0) i.2.2.2.1,AV.pv (.slice A0) i.2.2.2.2.1,AV.pv (Ty.int IntKind.i64) i.2.2.2.2.2.1]]),some (Cont.cells 9 [[AV.pv .i p.1,AV.pv .i p.2.1,AV.pv .i p.2.2.1,AV.pv .i p.2.2.2.1,AV.pv .i p.2.2.2.2.1,AV.pv .i p.2.2.2.2.2.1,AV.pv .i p.2.2.2.2.2.2.1,AV.pv (.slice A0) p.2.2.2.2.2.2.2.1,AV.pv (.slice A0) p.2.2.2.2.2.2.2.2.1]])]⟩)<|x1 (.exit 0) fun i p=>⟨jn 1 (AV.ptr 0 none 0 0::jn 136 ([])),[some (Cont.cells 6 [[AV.pv .bool i.1,AV.pv (.slice (.slice Af)) i.2.1,AV.pv (.slice Ad) i.2.2.1,AV.pv (.slice A0) i.2.2.2.1,AV.pv (.slice A0) i.2.2.2.2.1,AV.pv .i i.2.2.2.2.2.1]])]⟩
def rO:=((.v (.i (.i (.i (.i (.i (.i .n))))))):Pk Zh.ty _ _)
abbrev c9:=Bool×List (List A2)×List A3×List A1×List A1×Int×Unit
abbrev bV:=Int×Unit
abbrev bX:=Unit ⊕ Unit
def C7 (i:c9)(v:bV)(R:Type)(K:bV ⊕ bX->Option R):Option R:=bif decide (v.1<(i.2.2.2.1.length:Int))then(lAt i.2.2.2.1 v.1).bind fun a=>(F0 ((i.1,(i.2.1,()),i.2.2.1,i.2.2.2.1,i.2.2.2.2.1,i.2.2.2.2.2.1,()),a.2.1,())).bind fun b=>bif !b.1 then K (.inr (.inl ()))else K (.inl (IntKind.i64.wrap (v.1+1),()))else K (.inr (.inr ()))
theorem L5:AX C7:=fun i v R K=>Ae (Ac fun _=>Ac fun _=>Ae (Aa) (Aa)) (Aa)
def Tv:Tmpl:=⟨(.junk (.ptr 0 0 0 (jk 3 (.slot .i (jk 132 .nil))))),(.cells 6 (.slot .bool (.slot (.slice (.slice Af)) (.slot (.slice Ad) (.slot (.slice A0) (.slot (.slice A0) (.slot .i .nil)))))) .nil)⟩
def bT:Exs c9 bX:=xs .ret (fun i p=>⟨jn 1 (AV.ptr 0 none 0 0::.b (false)::jn 135 ([])),[some (Cont.cells 6 [[AV.pv .bool i.1,AV.pv (.slice (.slice Af)) i.2.1,AV.pv (.slice Ad) i.2.2.1,AV.pv (.slice A0) i.2.2.2.1,AV.pv (.slice A0) i.2.2.2.2.1,AV.pv (Ty.int IntKind.i64) i.2.2.2.2.2.1]])]⟩)<|x1 (.exit 2) fun i p=>⟨jn 1 (AV.ptr 0 none 0 0::jn 136 ([])),[some (Cont.cells 6 [[AV.pv .bool i.1,AV.pv (.slice (.slice Af)) i.2.1,AV.pv (.slice Ad) i.2.2.1,AV.pv (.slice A0) i.2.2.2.1,AV.pv (.slice A0) i.2.2.2.2.1,AV.pv .i i.2.2.2.2.2.1]])]⟩
def c7:=((.v (.i (.i (.i (.i (.i (.i .n))))))):Pk Tv.ty _ _)
abbrev c8:=Bool×List (List A2)×List A3×List A1×List A1×Int×Unit
abbrev bU:=Int×Unit
abbrev bW:=Unit ⊕ Unit ⊕ Unit
def C6 (i:c8)(v:bU)(R:Type)(K:bU ⊕ bW->Option R):Option R:=bif decide (v.1<(i.2.2.2.2.1.length:Int))then(lAt i.2.2.2.2.1 v.1).bind fun a=>(F0 ((i.1,(i.2.1,()),i.2.2.1,i.2.2.2.1,i.2.2.2.2.1,i.2.2.2.2.2.1,()),a.1,())).bind fun b=>bif !b.1 then K (.inr (.inl ()))else(lAt i.2.2.2.2.1 v.1).bind fun c=>(F0 ((i.1,(i.2.1,()),i.2.2.1,i.2.2.2.1,i.2.2.2.2.1,i.2.2.2.2.2.1,()),c.2.1,())).bind fun d=>bif !d.1 then K (.inr (.inr (.inl ())))else K (.inl (IntKind.i64.wrap (v.1+1),()))else K (.inr (.inr (.inr ())))
theorem L4:AX C6:=fun i v R K=>Ae (Ac fun _=>Ac fun _=>Ae (Aa) (Ac fun _=>Ac fun _=>Ae (Aa) (Aa))) (Aa)
def Tu:Tmpl:=⟨(.junk (.ptr 0 0 0 (jk 4 (.slot .i (jk 131 .nil))))),(.cells 6 (.slot .bool (.slot (.slice (.slice Af)) (.slot (.slice Ad) (.slot (.slice A0) (.slot (.slice A0) (.slot .i .nil)))))) .nil)⟩
def bS:Exs c8 bW:=xs .ret (fun i p=>⟨jn 2 (.b (false)::jn 135 ([])),[some (Cont.cells 6 [[AV.pv .bool i.1,AV.pv (.slice (.slice Af)) i.2.1,AV.pv (.slice Ad) i.2.2.1,AV.pv (.slice A0) i.2.2.2.1,AV.pv (.slice A0) i.2.2.2.2.1,AV.pv .i i.2.2.2.2.2.1]])]⟩)<|xs .ret (fun i p=>⟨jn 2 (.b (false)::jn 135 ([])),[some (Cont.cells 6 [[AV.pv .bool i.1,AV.pv (.slice (.slice Af)) i.2.1,AV.pv (.slice Ad) i.2.2.1,AV.pv (.slice A0) i.2.2.2.1,AV.pv (.slice A0) i.2.2.2.2.1,AV.pv .i i.2.2.2.2.2.1]])]⟩)<|x1 (.exit 4) fun i p=>⟨jn 138 ([]),[some (Cont.cells 6 [[AV.pv .bool i.1,AV.pv (.slice (.slice Af)) i.2.1,AV.pv (.slice Ad) i.2.2.1,AV.pv (.slice A0) i.2.2.2.1,AV.pv (.slice A0) i.2.2.2.2.1,AV.pv .i i.2.2.2.2.2.1]])]⟩
def bZ:=((.v (.i (.i (.i (.i (.i (.i .n))))))):Pk Tu.ty _ _)
def cc:Cfg:={ti:=Ar,ents:=[PB,TA,R8,cg,Ly,R7,Tx,cd],ann:=[(4,Ao Zh 0 (spP rO) Cm rL.E),(10,Ao Tv 0 (spP c7) C7 bT.E),(15,Ao Tu 0 (spP bZ) C6 bS.E)],lent:=0}
def Ea (x:A5×Unit):Option (Bool×Unit):=(Bs ((x.1.2.1.1,()),())).bind fun v=>bif !v.1 then some (false,())else(EA (x.1.2.2.2.1,())).bind fun v=>bif !v.1 then some (false,())else(Ez (x.1.2.2.2.2.1,())).bind fun v=>bif !v.1 then some (false,())else(GP ((x.1.2.1.1,()),())).bind fun v=>(Am (x.1.2.2.2.2.2.1,v.1,999,())).bind fun v=>bif !v.1 then some (false,())else bif decide ((x.1.2.2.1.length:Int)>6)then some (false,())else(Ay (fun v=>Cm (x.1.1,x.1.2.1.1,x.1.2.2.1,x.1.2.2.2.1,x.1.2.2.2.2.1,x.1.2.2.2.2.2.1,()) v _ some) (0,())).bind fun p=>Au p (fun p=>some (false,())) fun p=>Au p (fun p=>some (false,())) fun p=>Au p (fun p=>some (false,())) fun p=>Au p (fun p=>some (false,())) fun p=>Au p (fun p=>some (false,())) fun p=>Au p (fun p=>some (false,())) fun p=>Au p (fun p=>some (false,())) fun p=>Au p (fun p=>some (false,())) fun p=>(Ay (fun v=>C7 (x.1.1,x.1.2.1.1,x.1.2.2.1,x.1.2.2.2.1,x.1.2.2.2.2.1,x.1.2.2.2.2.2.1,()) v _ some) (0,())).bind fun p=>Au p (fun p=>some (false,())) fun p=>(Ay (fun v=>C6 (x.1.1,x.1.2.1.1,x.1.2.2.1,x.1.2.2.2.1,x.1.2.2.2.2.1,x.1.2.2.2.2.2.1,()) v _ some) (0,())).bind fun p=>Au p (fun p=>some (false,())) fun p=>Au p (fun p=>some (false,())) fun p=>some (true,())
def ca:Ent:=⟨51,⟨(.slot Bz .nil),.nil⟩,⟨(.slot .bool .nil),.nil⟩,Ea⟩
theorem Tw:CfgOK Go.Proofs.Tryz.prog cc:=hcB (all_cons Pb (all_cons Zv (all_cons Zt (all_cons sy (all_cons Jx (all_cons Pa (all_cons Zj (all_cons Aag all_nil))))))))
theorem rJ:AP Go.Proofs.Tryz.prog cc (lpc Go.Proofs.Tryz.f51 2):=lkA Tw Tu bZ C6 bS [2] L4
theorem rK:AP Go.Proofs.Tryz.prog cc (lpc Go.Proofs.Tryz.f51 1):=lkA Tw Tv c7 C7 bT [1,2] L5
theorem A14:AP Go.Proofs.Tryz.prog cc (lpc Go.Proofs.Tryz.f51 0):=lkA Tw Zh rO Cm rL [1,2] Ls
theorem rP:Ah Go.Proofs.Tryz.prog ca:=mP Tw Go.Proofs.Tryz.func51 3 (by kernel_rfl) (fun k hk=>match k,hk with|0,_=>A14|1,_=>rK|2,_=>rJ) (by kernel_rfl) (by kernel_rfl) (fun x=>by kernel_rfl)
def DX (x:A6×Unit):Option (Bool×Unit):=bif x.1.1==1 then bif !(x.1.1==x.1.1&&(x.1.2.1==x.1.2.1&&(x.1.2.2.1==x.1.2.2.1&&(0==x.1.2.2.2.1&&(0==x.1.2.2.2.2.1&&(0==x.1.2.2.2.2.2.1&&true))))))then some (false,())else(Am (x.1.2.1,1,9,())).bind fun v=>bif !v.1 then some (false,())else(Am (x.1.2.2.2.1,0,5,())).bind fun v=>bif !v.1 then some (false,())else(Am (x.1.2.2.2.2.2.1,-1,99,())).bind fun v=>bif !v.1 then some (false,())else bif x.1.1 != 1 then bif x.1.1 != 4 then some (true,())else(Am (x.1.2.2.2.2.1,x.1.2.2.2.1,5,())).bind fun v=>some (v.1,())else(Am (x.1.2.2.1,1,4,())).bind fun v=>bif v.1 then bif x.1.1 != 4 then some (true,())else(Am (x.1.2.2.2.2.1,x.1.2.2.2.1,5,())).bind fun v=>some (v.1,())else some (false,())else bif x.1.1==2 then bif !(x.1.1==x.1.1&&(x.1.2.1==x.1.2.1&&(0==x.1.2.2.1&&(x.1.2.2.2.1==x.1.2.2.2.1&&(0==x.1.2.2.2.2.1&&(0==x.1.2.2.2.2.2.1&&true))))))then some (false,())else(Am (x.1.2.1,1,9,())).bind fun v=>bif !v.1 then some (false,())else(Am (x.1.2.2.2.1,0,5,())).bind fun v=>bif !v.1 then some (false,())else(Am (x.1.2.2.2.2.2.1,-1,99,())).bind fun v=>bif !v.1 then some (false,())else bif x.1.1 != 1 then bif x.1.1 != 4 then some (true,())else(Am (x.1.2.2.2.2.1,x.1.2.2.2.1,5,())).bind fun v=>some (v.1,())else(Am (x.1.2.2.1,1,4,())).bind fun v=>bif v.1 then bif x.1.1 != 4 then some (true,())else(Am (x.1.2.2.2.2.1,x.1.2.2.2.1,5,())).bind fun v=>some (v.1,())else some (false,())else bif x.1.1==3 then bif !(x.1.1==x.1.1&&(x.1.2.1==x.1.2.1&&(0==x.1.2.2.1&&(x.1.2.2.2.1==x.1.2.2.2.1&&(0==x.1.2.2.2.2.1&&(x.1.2.2.2.2.2.1==x.1.2.2.2.2.2.1&&true))))))then some (false,())else(Am (x.1.2.1,1,9,())).bind fun v=>bif !v.1 then some (false,())else(Am (x.1.2.2.2.1,0,5,())).bind fun v=>bif !v.1 then some (false,())else(Am (x.1.2.2.2.2.2.1,-1,99,())).bind fun v=>bif !v.1 then some (false,())else bif x.1.1 != 1 then bif x.1.1 != 4 then some (true,())else(Am (x.1.2.2.2.2.1,x.1.2.2.2.1,5,())).bind fun v=>some (v.1,())else(Am (x.1.2.2.1,1,4,())).bind fun v=>bif v.1 then bif x.1.1 != 4 then some (true,())else(Am (x.1.2.2.2.2.1,x.1.2.2.2.1,5,())).bind fun v=>some (v.1,())else some (false,())else bif x.1.1==4 then bif !(x.1.1==x.1.1&&(x.1.2.1==x.1.2.1&&(0==x.1.2.2.1&&(x.1.2.2.2.1==x.1.2.2.2.1&&(x.1.2.2.2.2.1==x.1.2.2.2.2.1&&(0==x.1.2.2.2.2.2.1&&true))))))then some (false,())else(Am (x.1.2.1,1,9,())).bind fun v=>bif !v.1 then some (false,())else(Am (x.1.2.2.2.1,0,5,())).bind fun v=>bif !v.1 then some (false,())else(Am (x.1.2.2.2.2.2.1,-1,99,())).bind fun v=>bif !v.1 then some (false,())else bif x.1.1 != 1 then bif x.1.1 != 4 then some (true,())else(Am (x.1.2.2.2.2.1,x.1.2.2.2.1,5,())).bind fun v=>some (v.1,())else(Am (x.1.2.2.1,1,4,())).bind fun v=>bif v.1 then bif x.1.1 != 4 then some (true,())else(Am (x.1.2.2.2.2.1,x.1.2.2.2.1,5,())).bind fun v=>some (v.1,())else some (false,())else bif x.1.1==5 then bif x.1.1==5 then bif !(x.1.1==x.1.1&&(x.1.2.1==x.1.2.1&&(0==x.1.2.2.1&&(0==x.1.2.2.2.1&&(0==x.1.2.2.2.2.1&&(0==x.1.2.2.2.2.2.1&&true))))))then some (false,())else(Am (x.1.2.1,1,9,())).bind fun v=>bif !v.1 then some (false,())else(Am (x.1.2.2.2.1,0,5,())).bind fun v=>bif !v.1 then some (false,())else(Am (x.1.2.2.2.2.2.1,-1,99,())).bind fun v=>bif !v.1 then some (false,())else bif x.1.1 != 1 then bif x.1.1 != 4 then some (true,())else(Am (x.1.2.2.2.2.1,x.1.2.2.2.1,5,())).bind fun v=>some (v.1,())else(Am (x.1.2.2.1,1,4,())).bind fun v=>bif v.1 then bif x.1.1 != 4 then some (true,())else(Am (x.1.2.2.2.2.1,x.1.2.2.2.1,5,())).bind fun v=>some (v.1,())else some (false,())else some (false,())else bif x.1.1==6 then bif !(x.1.1==x.1.1&&(x.1.2.1==x.1.2.1&&(0==x.1.2.2.1&&(0==x.1.2.2.2.1&&(0==x.1.2.2.2.2.1&&(0==x.1.2.2.2.2.2.1&&true))))))then some (false,())else(Am (x.1.2.1,1,9,())).bind fun v=>bif !v.1 then some (false,())else(Am (x.1.2.2.2.1,0,5,())).bind fun v=>bif !v.1 then some (false,())else(Am (x.1.2.2.2.2.2.1,-1,99,())).bind fun v=>bif !v.1 then some (false,())else bif x.1.1 != 1 then bif x.1.1 != 4 then some (true,())else(Am (x.1.2.2.2.2.1,x.1.2.2.2.1,5,())).bind fun v=>some (v.1,())else(Am (x.1.2.2.1,1,4,())).bind fun v=>bif v.1 then bif x.1.1 != 4 then some (true,())else(Am (x.1.2.2.2.2.1,x.1.2.2.2.1,5,())).bind fun v=>some (v.1,())else some (false,())else some (false,())
def Tt:Ent:=⟨52,⟨(.slot YOp .nil),.nil⟩,⟨(.slot .bool .nil),.nil⟩,DX⟩
theorem rI:Ah Go.Proofs.Tryz.prog Tt:=okA (hcA 0 (all_cons Jx all_nil)) Go.Proofs.Tryz.func52
def Fx (x:B3):Option (Int×Int×Int×Int×Int×Int×Int×Bool×Unit):=(AO ((x.1,x.2.1,1,x.2.2.1,0,1000,0,[],[],()),())).bind fun v=>bif !v.1 then some (0,0,0,0,0,0,0,false,())else some (x.1,x.2.1,1,x.2.2.1,0,1000,0,true,())
def bR:Ent:=⟨53,⟨(si 3 .nil),.nil⟩,⟨(.agg (si 7 (.const (AV.nils) (.const (AV.nils) .nil))) (.slot .bool .nil)),.nil⟩,Fx⟩
theorem Aaf:Ah Go.Proofs.Tryz.prog bR:=okA (hcA 0 (all_cons Pa all_nil)) Go.Proofs.Tryz.func53
abbrev rG:=List A1×Int×Unit
abbrev rD:=Int×List A1×Unit
abbrev rE:=List A1×Unit
def FU (i:rG)(v:rD)(R:Type)(K:rD ⊕ rE->Option R):Option R:=bif decide (v.1<(i.1.length:Int))then(lAt i.1 v.1).bind fun a=>bif a.1 != i.2.1 then(lAt i.1 v.1).bind fun b=>if(v.2.1++[(b.1,b.2.1,())]).length<=2199023255552 then K (.inl (IntKind.i64.wrap (v.1+1),v.2.1++[(b.1,b.2.1,())],()))else none else K (.inl (IntKind.i64.wrap (v.1+1),v.2.1,()))else K (.inr (v.2.1,()))
theorem OB:AX FU:=fun i v R K=>Ae (Ac fun _=>Ae (Ac fun _=>Aq (Aa)) (Aa)) (Aa)
def Zg:Tmpl:=⟨(.slot (.slice A0) (.slot .i (jk 3 (.own 0 (.slot .i (jk 22 .nil)))))),(.lst false A0 .nil)⟩
def rC:Exs rG rE:=x1 (.exit 0) fun i p=>⟨jn 5 (AV.own 0 none none::jn 23 ([])),[some (Cont.lst false A0 p.1)]⟩
def rF:=((.i (.i (.v (.v .n)))):Pk Zg.ty _ _)
def A88:Cfg:={ti:=Ar,ents:=[],ann:=[(3,Ao Zg 0 (spP rF) FU rC.E)],lent:=0}
def Jv (x:List A1×Int×Unit):Option (List A1×Unit):=(Ay (fun v=>FU (x.1,x.2.1,()) v _ some) (0,[],())).bind fun p=>some (p.1,())
def bQ:Ent:=⟨54,⟨(.slot (.slice A0) (.slot .i .nil)),.nil⟩,⟨(.own 0 .nil),(.lst false A0 .nil)⟩,Jv⟩
theorem rH:CfgOK Go.Proofs.Tryz.prog A88:=hcB all_nil
theorem A13:AP Go.Proofs.Tryz.prog A88 (lpc Go.Proofs.Tryz.f54 0):=lkA rH Zg rF FU rC [5] OB
theorem Aae:Ah Go.Proofs.Tryz.prog bQ:=okB rH Go.Proofs.Tryz.func54 A13
abbrev rA:=Int×A3
abbrev rx:=Int×Unit
abbrev ry:=Int×Unit ⊕ Unit
def El (i:rA)(v:rx)(R:Type)(K:rx ⊕ ry->Option R):Option R:=bif decide (v.1<(i.2.2.2.2.2.2.2.2.2.1.length:Int))then(lAt i.2.2.2.2.2.2.2.2.2.1 v.1).bind fun a=>bif a.1==i.1 then K (.inr (.inl (v.1,())))else K (.inl (IntKind.i64.wrap (v.1+1),()))else K (.inr (.inr ()))
theorem Nk:AX El:=fun i v R K=>Ae (Ac fun _=>Ae (Aa) (Aa)) (Aa)
def Zf:Tmpl:=⟨(.junk (.slot .i (.ptr 0 0 0 (jk 2 (.slot .i (jk 16 .nil)))))),(.cells 9 (si 7 (.slot (.slice A0) (.slot (.slice A0) .nil))) .nil)⟩
def ru:Exs rA ry:=xs .ret (fun i p=>⟨jn 4 (.n (p.1)::jn 17 ([])),[some (Cont.cells 9 [[AV.pv .i i.2.1,AV.pv .i i.2.2.1,AV.pv .i i.2.2.2.1,AV.pv .i i.2.2.2.2.1,AV.pv .i i.2.2.2.2.2.1,AV.pv .i i.2.2.2.2.2.2.1,AV.pv .i i.2.2.2.2.2.2.2.1,AV.pv (.slice A0) i.2.2.2.2.2.2.2.2.1,AV.pv (.slice A0) i.2.2.2.2.2.2.2.2.2.1]])]⟩)<|x1 (.exit 0) fun i p=>⟨jn 22 ([]),[some (Cont.cells 9 [[AV.pv .i i.2.1,AV.pv .i i.2.2.1,AV.pv .i i.2.2.2.1,AV.pv .i i.2.2.2.2.1,AV.pv .i i.2.2.2.2.2.1,AV.pv (Ty.int IntKind.i64) i.2.2.2.2.2.2.1,AV.pv .i i.2.2.2.2.2.2.2.1,AV.pv (.slice A0) i.2.2.2.2.2.2.2.2.1,AV.pv (.slice A0) i.2.2.2.2.2.2.2.2.2.1]])]⟩
def rz:=((.i (.v (.i (.i (.i (.i (.i (.i (.i (.i (.i .n))))))))))):Pk Zf.ty _ _)
def A87:Cfg:={ti:=Ar,ents:=[],ann:=[(2,Ao Zf 0 (spP rz) El ru.E)],lent:=0}
def IE (x:A3×Int×Unit):Option (Int×Unit):=(Ay (fun v=>El (x.2.1,x.1.1,x.1.2.1,x.1.2.2.1,x.1.2.2.2.1,x.1.2.2.2.2.1,x.1.2.2.2.2.2.1,x.1.2.2.2.2.2.2.1,x.1.2.2.2.2.2.2.2.1,x.1.2.2.2.2.2.2.2.2.1,()) v _ some) (0,())).bind fun p=>Au p (fun p=>some (p.1,())) fun p=>some (-1,())
def bP:Ent:=⟨105,⟨(.slot Ad (.slot .i .nil)),.nil⟩,⟨(.slot .i .nil),.nil⟩,IE⟩
theorem rB:CfgOK Go.Proofs.Tryz.prog A87:=hcB all_nil
theorem A12:AP Go.Proofs.Tryz.prog A87 (lpc Go.Proofs.Tryz.f105 0):=lkA rB Zf rz El ru [4] Nk
theorem Aad:Ah Go.Proofs.Tryz.prog bP:=okB rB Go.Proofs.Tryz.func105 A12
def GN (x:A4×A3×Int×Unit):Option (Bool×Unit):=(Bs ((x.1.1,()),())).bind fun v=>bif v.1 then(AO ((x.2.1.1,x.2.1.2.1,x.2.1.2.2.1,x.2.1.2.2.2.1,x.2.1.2.2.2.2.1,x.2.1.2.2.2.2.2.1,x.2.1.2.2.2.2.2.2.1,x.2.1.2.2.2.2.2.2.2.1,x.2.1.2.2.2.2.2.2.2.2.1,()),())).bind fun v=>bif v.1 then bif x.2.1.2.2.1==1 then(Am (x.2.2.1,0,5,())).bind fun v=>some (v.1,())else some (false,())else some (false,())else some (false,())
def bO:Ent:=⟨173,⟨(.slot Bo (.slot Ad (.slot .i .nil))),.nil⟩,⟨(.slot .bool .nil),.nil⟩,GN⟩
theorem Ze:Ah Go.Proofs.Tryz.prog bO:=okA (hcA 0 (all_cons Pb (all_cons Pa (all_cons Jx all_nil)))) Go.Proofs.Tryz.func173
def BE (x:List A2×Unit):Option A2:=(CN (x.1,())).bind fun v=>bif !v.1 then some (0,0,0,0,0,())else(lAt x.1 (IntKind.i64.wrap ((x.1.length:Int)-1))).bind fun v=>some (v.1,v.2.1,v.2.2.1,v.2.2.2.1,v.2.2.2.2.1,())
def Ts:Ent:=⟨174,⟨(.slot (.slice Af) .nil),.nil⟩,⟨(.agg (si 5 .nil) .nil),.nil⟩,BE⟩
theorem Rn:Ah Go.Proofs.Tryz.prog Ts:=okA (hcA 0 (all_cons Zy all_nil)) Go.Proofs.Tryz.func174
abbrev rq:=List A2×Int×Unit
abbrev rm:=Int×Int×Unit
abbrev rn:=Int×Unit ⊕ Int×Unit
def Eh (i:rq)(v:rm)(R:Type)(K:rm ⊕ rn->Option R):Option R:=bif decide (v.2.1<(i.1.length:Int))then(CN (i.1,())).bind fun a=>bif a.1 then(lAt i.1 v.2.1).bind fun b=>bif decide (b.2.2.1<=i.2.1)then K (.inl (v.2.1,IntKind.i64.wrap (v.2.1+1),()))else K (.inl (v.1,IntKind.i64.wrap (v.2.1+1),()))else K (.inr (.inl (v.1,())))else K (.inr (.inr (v.1,())))
theorem Nf:AX Eh:=fun i v R K=>Ae (Ac fun _=>Ae (Ac fun _=>Ae (Aa) (Aa)) (Aa)) (Aa)
def Zd:Tmpl:=⟨(.slot (.slice Af) (.slot .i (jk 3 (si 2 (jk 19 .nil))))),.nil⟩
def rk:Exs rq rn:=xs (.exit 0) (fun i p=>⟨jn 5 (.n (p.1)::jn 20 ([])),[]⟩)<|x1 (.exit 0) fun i p=>⟨jn 5 (.n (p.1)::jn 20 ([])),[]⟩
def rp:=((.i (.i (.v (.v .n)))):Pk Zd.ty _ _)
def A86:Cfg:={ti:=Ar,ents:=[TB],ann:=[(3,Ao Zd 0 (spP rp) Eh rk.E)],lent:=0}
def IB (x:List A2×Int×Unit):Option (Int×Unit):=(Ay (fun v=>Eh (x.1,x.2.1,()) v _ some) (-1,0,())).bind fun p=>Au p (fun p=>some (p.1,())) fun p=>some (p.1,())
def A11:Ent:=⟨222,⟨(.slot (.slice Af) (.slot .i .nil)),.nil⟩,⟨(.slot .i .nil),.nil⟩,IB⟩
theorem rt:CfgOK Go.Proofs.Tryz.prog A86:=hcB (all_cons Zy all_nil)
theorem A10:AP Go.Proofs.Tryz.prog A86 (lpc Go.Proofs.Tryz.f222 0):=lkA rt Zd rp Eh rk [5] Nf
theorem Aab:Ah Go.Proofs.Tryz.prog A11:=okB rt Go.Proofs.Tryz.func222 A10
def LH (x:A4×Int×Int×Unit):Option (Int×Int×Int×Int×Int×Bool×Unit):=(Bs ((x.1.1,()),())).bind fun v=>bif !v.1 then some (0,0,0,0,0,false,())else(Am (x.2.1,0,5,())).bind fun v=>bif !v.1 then some (0,0,0,0,0,false,())else(lAt x.1.1 x.2.1).bind fun v=>(IB (v,x.2.2.1,())).bind fun v=>bif decide (v.1<0)then some (0,0,0,0,0,false,())else(lAt x.1.1 x.2.1).bind fun a=>(lAt a v.1).bind fun v=>some (v.1,v.2.1,v.2.2.1,v.2.2.2.1,v.2.2.2.2.1,true,())
def A0z:Ent:=⟨175,⟨(.slot Bo (si 2 .nil)),.nil⟩,⟨(.agg (si 5 .nil) (.slot .bool .nil)),.nil⟩,LH⟩
theorem Aaa:Ah Go.Proofs.Tryz.prog A0z:=okA (hcA 0 (all_cons Pb (all_cons Jx (all_cons Aab all_nil)))) Go.Proofs.Tryz.func175
def G7 (x:A4×A3×Int×Unit):Option A6:=(GN ((x.1.1,()),(x.2.1.1,x.2.1.2.1,x.2.1.2.2.1,x.2.1.2.2.2.1,x.2.1.2.2.2.2.1,x.2.1.2.2.2.2.2.1,x.2.1.2.2.2.2.2.2.1,x.2.1.2.2.2.2.2.2.2.1,x.2.1.2.2.2.2.2.2.2.2.1,()),x.2.2.1,())).bind fun v=>bif !v.1 then some (0,0,0,0,0,6,())else(lAt x.1.1 x.2.2.1).bind fun v=>(BE (v,())).bind fun v=>bif x.2.1.2.1==2 then(LH ((x.1.1,()),x.2.2.1,x.2.1.2.2.2.1,())).bind fun v=>bif !v.2.2.2.2.2.1 then some (0,0,0,0,0,3,())else some (v.1,v.2.1,v.2.2.1,v.2.2.2.1,v.2.2.2.2.1,0,())else bif x.2.1.2.1==4 then bif decide (v.2.2.1>x.2.1.2.2.2.1)then some (0,0,0,0,0,3,())else some (v.1,v.2.1,v.2.2.1,v.2.2.2.1,v.2.2.2.2.1,0,())else some (v.1,v.2.1,v.2.2.1,v.2.2.2.1,v.2.2.2.2.1,0,())
def bN:Ent:=⟨106,⟨(.slot Bo (.slot Ad (.slot .i .nil))),.nil⟩,⟨(.agg (si 5 .nil) (.slot .i .nil)),.nil⟩,G7⟩
theorem Aa9:Ah Go.Proofs.Tryz.prog bN:=okA (hcA 0 (all_cons Ze (all_cons Rn (all_cons Aaa all_nil)))) Go.Proofs.Tryz.func106
abbrev ri:=List A1×Int×Unit
abbrev rc:=Int×List A1×Unit
abbrev re:=List A1×Unit
def D8 (i:ri)(v:rc)(R:Type)(K:rc ⊕ re->Option R):Option R:=bif decide (v.1<(i.1.length:Int))then(lAt i.1 v.1).bind fun a=>bif a.2.1 != i.2.1 then(lAt i.1 v.1).bind fun b=>if(v.2.1++[(b.1,b.2.1,())]).length<=2199023255552 then K (.inl (IntKind.i64.wrap (v.1+1),v.2.1++[(b.1,b.2.1,())],()))else none else K (.inl (IntKind.i64.wrap (v.1+1),v.2.1,()))else K (.inr (v.2.1,()))
theorem LG:AX D8:=fun i v R K=>Ae (Ac fun _=>Ae (Ac fun _=>Aq (Aa)) (Aa)) (Aa)
def Zc:Tmpl:=⟨(.slot (.slice A0) (.slot .i (jk 3 (.own 0 (.slot .i (jk 22 .nil)))))),(.lst false A0 .nil)⟩
def rb:Exs ri re:=x1 (.exit 0) fun i p=>⟨jn 5 (AV.own 0 none none::jn 23 ([])),[some (Cont.lst false A0 p.1)]⟩
def rf:=((.i (.i (.v (.v .n)))):Pk Zc.ty _ _)
def A85:Cfg:={ti:=Ar,ents:=[],ann:=[(3,Ao Zc 0 (spP rf) D8 rb.E)],lent:=0}
def EF (x:List A1×Int×Unit):Option (List A1×Unit):=(Ay (fun v=>D8 (x.1,x.2.1,()) v _ some) (0,[],())).bind fun p=>some (p.1,())
def A0y:Ent:=⟨117,⟨(.slot (.slice A0) (.slot .i .nil)),.nil⟩,⟨(.own 0 .nil),(.lst false A0 .nil)⟩,EF⟩
theorem rj:CfgOK Go.Proofs.Tryz.prog A85:=hcB all_nil
theorem A0x:AP Go.Proofs.Tryz.prog A85 (lpc Go.Proofs.Tryz.f117 0):=lkA rj Zc rf D8 rb [5] LG
theorem Aa8:Ah Go.Proofs.Tryz.prog A0y:=okB rj Go.Proofs.Tryz.func117 A0x
abbrev r9:=List A1×Int×Unit
abbrev r6:=Int×List A1×Unit
abbrev r7:=List A1×Unit
def DZ (i:r9)(v:r6)(R:Type)(K:r6 ⊕ r7->Option R):Option R:=bif decide (v.1<(i.1.length:Int))then(lAt i.1 v.1).bind fun a=>bif a.1 != i.2.1 then(lAt i.1 v.1).bind fun b=>bif b.2.1 != i.2.1 then(lAt i.1 v.1).bind fun c=>if(v.2.1++[(c.1,c.2.1,())]).length<=2199023255552 then K (.inl (IntKind.i64.wrap (v.1+1),v.2.1++[(c.1,c.2.1,())],()))else none else K (.inl (IntKind.i64.wrap (v.1+1),v.2.1,()))else K (.inl (IntKind.i64.wrap (v.1+1),v.2.1,()))else K (.inr (v.2.1,()))
theorem MF:AX DZ:=fun i v R K=>Ae (Ac fun _=>Ae (Ac fun _=>Ae (Ac fun _=>Aq (Aa)) (Aa)) (Aa)) (Aa)
def Zb:Tmpl:=⟨(.slot (.slice A0) (.slot .i (jk 3 (.own 0 (.slot .i (jk 31 .nil)))))),(.lst false A0 .nil)⟩
def r5:Exs r9 r7:=x1 (.exit 0) fun i p=>⟨jn 5 (AV.own 0 none none::jn 32 ([])),[some (Cont.lst false A0 p.1)]⟩
def r8:=((.i (.i (.v (.v .n)))):Pk Zb.ty _ _)
def A84:Cfg:={ti:=Ar,ents:=[],ann:=[(3,Ao Zb 0 (spP r8) DZ r5.E)],lent:=0}
def G6 (x:List A1×Int×Unit):Option (List A1×Unit):=(Ay (fun v=>DZ (x.1,x.2.1,()) v _ some) (0,[],())).bind fun p=>some (p.1,())
def A0w:Ent:=⟨118,⟨(.slot (.slice A0) (.slot .i .nil)),.nil⟩,⟨(.own 0 .nil),(.lst false A0 .nil)⟩,G6⟩
theorem ra:CfgOK Go.Proofs.Tryz.prog A84:=hcB all_nil
theorem A0v:AP Go.Proofs.Tryz.prog A84 (lpc Go.Proofs.Tryz.f118 0):=lkA ra Zb r8 DZ r5 [5] MF
theorem Aa7:Ah Go.Proofs.Tryz.prog A0w:=okB ra Go.Proofs.Tryz.func118 A0v
def Bi (x:Int×Bool×Int×A7):Option (Bool×Int×List (List A2)×List A3×List A1×List A1×A9):=if 0<=x.1/\x.1<(x.2.2.2.2.1.length:Int)then x.2.2.2.2.1[0+x.1.toNat]?.bind fun v=>if 0<=x.1/\x.1<(x.2.2.2.2.1.length:Int)then x.2.2.2.2.1[0+x.1.toNat]?.bind fun a=>bif a.2.2.1==1 then if 0<=x.1/\x.1<(x.2.2.2.2.1.length:Int)then x.2.2.2.2.1[0+x.1.toNat]?.bind fun b=>(EF (x.2.2.2.2.2.1,v.1,())).bind fun c=>(G6 (x.2.2.2.2.2.2.1,v.1,())).bind fun v=>some (x.2.1,x.2.2.1,x.2.2.2.1,x.2.2.2.2.1.set (0+x.1.toNat) (b.1,b.2.1,3,b.2.2.2.1,b.2.2.2.2.1,b.2.2.2.2.2.1,b.2.2.2.2.2.2.1,b.2.2.2.2.2.2.2.1,b.2.2.2.2.2.2.2.2.1,()),x.2.2.2.2.2.1,x.2.2.2.2.2.2.1,c.1,v.1,())else none else(EF (x.2.2.2.2.2.1,v.1,())).bind fun b=>(G6 (x.2.2.2.2.2.2.1,v.1,())).bind fun v=>some (x.2.1,x.2.2.1,x.2.2.2.1,x.2.2.2.2.1,x.2.2.2.2.2.1,x.2.2.2.2.2.2.1,b.1,v.1,())else none else none
def PA:Ent:=⟨59,⟨(.ptr 0 0 0 (.slot .i .nil)),(.cells 6 (.slot .bool (.own 1 (.own 2 (.own 3 (.own 4 (.slot .i .nil)))))) (.tree false 0 (.slice Af) (.tree false 0 Ad (.lst false A0 (.lst false A0 .nil)))))⟩,⟨.nil,(.cells 6 (.slot .bool (.own 1 (.own 2 (.own 5 (.own 6 (.slot .i .nil)))))) (.tree false 0 (.slice Af) (.tree false 1 Ad (.lst false A0 (.lst false A0 (.lst false A0 (.lst false A0 .nil)))))))⟩,Bi⟩
theorem Tq:Ah Go.Proofs.Tryz.prog PA:=okA (hcA 5 (all_cons Aa8 (all_cons Aa7 all_nil))) Go.Proofs.Tryz.func59
abbrev qZ:=List A1×Int×Int×Unit
abbrev qW:=Int×Unit
abbrev qX:=Int×Unit ⊕ Int×Unit
def Eg (i:qZ)(v:qW)(R:Type)(K:qW ⊕ qX->Option R):Option R:=bif decide (v.1<(i.1.length:Int))then(lAt i.1 v.1).bind fun a=>(HP ((a.1,a.2.1,()),(i.2.1,i.2.2.1,()),())).bind fun b=>bif b.1 then K (.inl (IntKind.i64.wrap (v.1+1),()))else K (.inr (.inl (v.1,())))else K (.inr (.inr (v.1,())))
theorem Na:AX Eg:=fun i v R K=>Ae (Ac fun _=>Ac fun _=>Ae (Aa) (Aa)) (Aa)
def Za:Tmpl:=⟨(.slot (.slice A0) (jk 2 (.ptr 0 0 0 (.junk (.slot .i (jk 41 .nil)))))),(.cells 2 (si 2 .nil) .nil)⟩
def qV:Exs qZ qX:=xs (.exit 0) (fun i p=>⟨AV.pv (.slice A0) i.1::jn 2 (AV.ptr 0 none 0 0::jn 1 (.n (p.1)::jn 41 ([]))),[some (Cont.cells 2 [[AV.pv .i i.2.1,AV.pv .i i.2.2.1]])]⟩)<|x1 (.exit 0) fun i p=>⟨AV.pv (.slice A0) i.1::jn 2 (AV.ptr 0 none 0 0::jn 1 (.n (p.1)::jn 41 ([]))),[some (Cont.cells 2 [[AV.pv .i i.2.1,AV.pv .i i.2.2.1]])]⟩
def qY:=((.i (.v (.i (.i .n)))):Pk Za.ty _ _)
def A83:Cfg:={ti:=Ar,ents:=[Tz],ann:=[(2,Ao Za 0 (spP qY) Eg qV.E)],lent:=0}
def Iz (x:List A1×A1×Unit):Option (List A1×Unit):=(Ay (fun v=>Eg (x.1,x.2.1.1,x.2.1.2.1,()) v _ some) (0,())).bind fun p=>Au p (fun p=>bif decide (p.1<(x.1.length:Int))then(lAt x.1 p.1).bind fun v=>bif v.1==x.2.1.1&&(v.2.1==x.2.1.2.1&&true)then if x.1.length<=2199023255552 then some (x.1,())else none else(Js x.1 0 p.1).bind fun v=>if v.length<=2199023255552 then if(v++[(x.2.1.1,x.2.1.2.1,())]).length<=2199023255552 then(Js x.1 p.1 (x.1.length:Int)).bind fun a=>if(v++[(x.2.1.1,x.2.1.2.1,())]++a).length<=2199023255552 then some (v++[(x.2.1.1,x.2.1.2.1,())]++a,())else none else none else none else(Js x.1 0 p.1).bind fun v=>if v.length<=2199023255552 then if(v++[(x.2.1.1,x.2.1.2.1,())]).length<=2199023255552 then(Js x.1 p.1 (x.1.length:Int)).bind fun a=>if(v++[(x.2.1.1,x.2.1.2.1,())]++a).length<=2199023255552 then some (v++[(x.2.1.1,x.2.1.2.1,())]++a,())else none else none else none) fun p=>bif decide (p.1<(x.1.length:Int))then(lAt x.1 p.1).bind fun v=>bif v.1==x.2.1.1&&(v.2.1==x.2.1.2.1&&true)then if x.1.length<=2199023255552 then some (x.1,())else none else(Js x.1 0 p.1).bind fun v=>if v.length<=2199023255552 then if(v++[(x.2.1.1,x.2.1.2.1,())]).length<=2199023255552 then(Js x.1 p.1 (x.1.length:Int)).bind fun a=>if(v++[(x.2.1.1,x.2.1.2.1,())]++a).length<=2199023255552 then some (v++[(x.2.1.1,x.2.1.2.1,())]++a,())else none else none else none else(Js x.1 0 p.1).bind fun v=>if v.length<=2199023255552 then if(v++[(x.2.1.1,x.2.1.2.1,())]).length<=2199023255552 then(Js x.1 p.1 (x.1.length:Int)).bind fun a=>if(v++[(x.2.1.1,x.2.1.2.1,())]++a).length<=2199023255552 then some (v++[(x.2.1.1,x.2.1.2.1,())]++a,())else none else none else none
def A0u:Ent:=⟨177,⟨(.slot (.slice A0) (.slot A0 .nil)),.nil⟩,⟨(.own 0 .nil),(.lst false A0 .nil)⟩,Iz⟩
theorem r4:CfgOK Go.Proofs.Tryz.prog A83:=hcB (all_cons sn all_nil)
theorem A0t:AP Go.Proofs.Tryz.prog A83 (lpc Go.Proofs.Tryz.f177 0):=lkA r4 Za qY Eg qV [0,3,5] Na
theorem Aa6:Ah Go.Proofs.Tryz.prog A0u:=okB r4 Go.Proofs.Tryz.func177 A0t
def IC (x:A3×Int×A2×Unit):Option (Int×Int×Int×Int×Int×Int×Int×Bool×A9):=(EZ ((x.1.1,x.1.2.1,x.1.2.2.1,x.1.2.2.2.1,x.1.2.2.2.2.1,x.1.2.2.2.2.2.1,x.1.2.2.2.2.2.2.1,x.1.2.2.2.2.2.2.2.1,x.1.2.2.2.2.2.2.2.2.1,()),())).bind fun v=>(AO ((x.1.1,x.1.2.1,x.1.2.2.1,x.1.2.2.2.1,x.1.2.2.2.2.1,x.1.2.2.2.2.2.1,x.1.2.2.2.2.2.2.1,x.1.2.2.2.2.2.2.2.1,x.1.2.2.2.2.2.2.2.2.1,()),())).bind fun a=>bif !a.1 then some (v.1,v.2.1,v.2.2.1,v.2.2.2.1,v.2.2.2.2.1,v.2.2.2.2.2.1,v.2.2.2.2.2.2.1,false,v.2.2.2.2.2.2.2.1,v.2.2.2.2.2.2.2.2.1,())else bif x.1.2.2.1 != 1 then some (v.1,v.2.1,v.2.2.1,v.2.2.2.1,v.2.2.2.2.1,v.2.2.2.2.2.1,v.2.2.2.2.2.2.1,false,v.2.2.2.2.2.2.2.1,v.2.2.2.2.2.2.2.2.1,())else(Am (x.2.1,0,5,())).bind fun b=>bif !b.1 then some (v.1,v.2.1,v.2.2.1,v.2.2.2.1,v.2.2.2.2.1,v.2.2.2.2.2.1,v.2.2.2.2.2.2.1,false,v.2.2.2.2.2.2.2.1,v.2.2.2.2.2.2.2.2.1,())else(DQ ((x.2.2.1.1,x.2.2.1.2.1,x.2.2.1.2.2.1,x.2.2.1.2.2.2.1,x.2.2.1.2.2.2.2.1,()),())).bind fun c=>bif !c.1 then some (v.1,v.2.1,v.2.2.1,v.2.2.2.1,v.2.2.2.2.1,v.2.2.2.2.2.1,v.2.2.2.2.2.2.1,false,v.2.2.2.2.2.2.2.1,v.2.2.2.2.2.2.2.2.1,())else bif (x.1.2.2.2.2.2.2.2.1.length:Int)==60 then some (v.1,v.2.1,v.2.2.1,v.2.2.2.1,v.2.2.2.2.1,v.2.2.2.2.2.1,v.2.2.2.2.2.2.1,false,v.2.2.2.2.2.2.2.1,v.2.2.2.2.2.2.2.2.1,())else(Iz (x.1.2.2.2.2.2.2.2.1,(x.2.1,x.2.2.1.2.2.1,()),())).bind fun d=>some (v.1,v.2.1,v.2.2.1,v.2.2.2.1,mx x.1.2.2.2.2.1 x.2.2.1.2.2.1,mn x.1.2.2.2.2.2.1 x.2.2.1.2.2.2.2.1,v.2.2.2.2.2.2.1,true,d.1,v.2.2.2.2.2.2.2.2.1,())
def bM:Ent:=⟨107,⟨(.slot Ad (.slot .i (.slot Af .nil))),.nil⟩,⟨(.agg (si 7 (.own 0 (.own 1 .nil))) (.slot .bool .nil)),(.lst false A0 (.lst false A0 .nil))⟩,IC⟩
theorem Aa5:Ah Go.Proofs.Tryz.prog bM:=okA (hcA 0 (all_cons TD (all_cons Pa (all_cons Jx (all_cons t7 (all_cons Aa6 all_nil)))))) Go.Proofs.Tryz.func107
def Acx:Cfg:={ti:=Ar,ents:=[PA,bP,bN,bM],ann:=[],lent:=5,pre:=[(some (0,3)),(some (0,4))]}
def GM (x:Int×Int×Bool×Int×A7):Option (Int×Int×Bool×Int×A7):=if 0<=x.1/\x.1<(x.2.2.2.2.2.1.length:Int)then x.2.2.2.2.2.1[0+x.1.toNat]?.bind fun v=>x.2.2.2.2.2.1[0+x.1.toNat]?.bind fun a=>x.2.2.2.2.2.1[0+x.1.toNat]?.bind fun b=>(IE ((v.1,v.2.1,v.2.2.1,v.2.2.2.1,v.2.2.2.2.1,v.2.2.2.2.2.1,v.2.2.2.2.2.2.1,a.2.2.2.2.2.2.2.1,b.2.2.2.2.2.2.2.2.1,()),x.2.1,())).bind fun c=>bif decide (c.1>=0)then x.2.2.2.2.2.1[0+x.1.toNat]?.bind fun v=>if 0<=c.1/\c.1<(v.2.2.2.2.2.2.2.2.1.length:Int)then x.2.2.2.2.2.1[0+x.1.toNat]?.bind fun v=>v.2.2.2.2.2.2.2.2.1[0+c.1.toNat]?.bind fun v=>some (v.2.1,0,x.2.2.1,x.2.2.2.1,x.2.2.2.2.1,x.2.2.2.2.2.1,x.2.2.2.2.2.2.1,x.2.2.2.2.2.2.2.1,())else none else x.2.2.2.2.2.1[0+x.1.toNat]?.bind fun d=>x.2.2.2.2.2.1[0+x.1.toNat]?.bind fun e=>(G7 ((x.2.2.2.2.1,()),(v.1,v.2.1,v.2.2.1,v.2.2.2.1,v.2.2.2.2.1,v.2.2.2.2.2.1,v.2.2.2.2.2.2.1,d.2.2.2.2.2.2.2.1,e.2.2.2.2.2.2.2.2.1,()),x.2.1,())).bind fun f=>bif f.2.2.2.2.2.1 != 0 then(Bi (x.1,x.2.2.1,x.2.2.2.1,x.2.2.2.2.1,x.2.2.2.2.2.1,x.2.2.2.2.2.2.1,x.2.2.2.2.2.2.2.1,())).bind fun v=>some (0,f.2.2.2.2.2.1,v.1,v.2.1,v.2.2.1,v.2.2.2.1,v.2.2.2.2.2.2.1,v.2.2.2.2.2.2.2.1,())else x.2.2.2.2.2.1[0+x.1.toNat]?.bind fun g=>x.2.2.2.2.2.1[0+x.1.toNat]?.bind fun h=>(IC ((v.1,v.2.1,v.2.2.1,v.2.2.2.1,v.2.2.2.2.1,v.2.2.2.2.2.1,v.2.2.2.2.2.2.1,g.2.2.2.2.2.2.2.1,h.2.2.2.2.2.2.2.2.1,()),x.2.1,(f.1,f.2.1,f.2.2.1,f.2.2.2.1,f.2.2.2.2.1,()),())).bind fun v=>bif !v.2.2.2.2.2.2.2.1 then some (0,6,x.2.2.1,x.2.2.2.1,x.2.2.2.2.1,x.2.2.2.2.2.1,x.2.2.2.2.2.2.1,x.2.2.2.2.2.2.2.1,())else if 0<=x.1/\x.1<(x.2.2.2.2.2.1.length:Int)then x.2.2.2.2.2.1[0+x.1.toNat]?.bind fun j=>some (f.2.1,0,x.2.2.1,x.2.2.2.1,x.2.2.2.2.1,x.2.2.2.2.2.1.set (0+x.1.toNat) (v.1,v.2.1,v.2.2.1,v.2.2.2.1,v.2.2.2.2.1,v.2.2.2.2.2.1,v.2.2.2.2.2.2.1,v.2.2.2.2.2.2.2.2.1,v.2.2.2.2.2.2.2.2.2.1,()),x.2.2.2.2.2.2.1,x.2.2.2.2.2.2.2.1,())else none else none
def Tp:Ent:=⟨55,⟨(.ptr 0 0 0 (si 2 .nil)),(.cells 6 (.slot .bool (.own 1 (.own 2 (.own 3 (.own 4 (.slot .i .nil)))))) (.tree false 0 (.slice Af) (.tree false 0 Ad (.lst false A0 (.lst false A0 .nil)))))⟩,⟨(si 2 .nil),(.cells 6 (.slot .bool (.own 1 (.own 2 (.own 5 (.own 6 (.slot .i .nil)))))) (.tree false 0 (.slice Af) (.tree false 1 Ad (.gone (.gone (.lst false A0 (.lst false A0 .nil)))))))⟩,GM⟩
theorem qU:Ah Go.Proofs.Tryz.prog Tp:=okA (C:=Acx) (hcB (all_cons Tq (all_cons Aad (all_cons Aa9 (all_cons Aa5 all_nil))))) Go.Proofs.Tryz.func55
abbrev qR:=B3
abbrev qO:=Int×Bool×Int×List (List A2)×List A3×List A1×List A1×List Int×Unit
abbrev qP:=Bool×Int×List (List A2)×List A3×Int×List Int×A9 ⊕ Bool×Int×List (List A2)×List A3×List A1×List A1×List Int×Unit
def Dp (i:qR)(v:qO)(R:Type)(K:qO ⊕ qP->Option R):Option R:=bif decide (v.1<=i.2.1)then(GM (i.1,v.1,v.2.1,v.2.2.1,v.2.2.2.1,v.2.2.2.2.1,v.2.2.2.2.2.1,v.2.2.2.2.2.2.1,())).bind fun a=>bif a.2.1 != 0 then K (.inr (.inl (a.2.2.1,a.2.2.2.1,a.2.2.2.2.1,a.2.2.2.2.2.1,a.2.1,v.2.2.2.2.2.2.2.1,a.2.2.2.2.2.2.1,a.2.2.2.2.2.2.2.1,())))else if(v.2.2.2.2.2.2.2.1++[a.1]).length<=4398046511104 then K (.inl (IntKind.i64.wrap (v.1+1),a.2.2.1,a.2.2.2.1,a.2.2.2.2.1,a.2.2.2.2.2.1,a.2.2.2.2.2.2.1,a.2.2.2.2.2.2.2.1,v.2.2.2.2.2.2.2.1++[a.1],()))else none else K (.inr (.inr (v.2.1,v.2.2.1,v.2.2.2.1,v.2.2.2.2.1,v.2.2.2.2.2.1,v.2.2.2.2.2.2.1,v.2.2.2.2.2.2.2.1,())))
theorem Nb:AX Dp:=fun i v R K=>Ae (Ac fun _=>Ae (Aa) (Aq (Aa))) (Aa)
def Z9:Tmpl:=⟨(.ptr 0 0 0 (.slot .i (.junk (.slot .i (jk 4 (.ptr 7 0 0 (.own 8 (.slot .i (jk 26 .nil))))))))),(.cells 6 (.slot .bool (.own 1 (.own 2 (.own 5 (.own 6 (.slot .i .nil)))))) (.tree false 0 (.slice Af) (.tree false 1 Ad (.gone (.gone (.lst false A0 (.lst false A0 (.cells 2 (.slot .i (.const (AV.nils) .nil)) (.lst false .i .nil)))))))))⟩
def qN:Exs qR qP:=xs .ret (fun i p=>⟨jn 8 (AV.ptr 7 none 0 0::AV.own 8 none none::jn 27 ([])),[some (Cont.cells 6 [[AV.pv .bool p.1,AV.own 1 none none,AV.own 2 none none,AV.own 14 none none,AV.own 15 none none,AV.pv .i p.2.1]]),some (Cont.tree false 0 (.slice Af) p.2.2.1 none),some (Cont.tree false 2 Ad p.2.2.2.1 none),some Cont.dead,some Cont.dead,some Cont.dead,some Cont.dead,some (Cont.cells 2 [[AV.pv .i p.2.2.2.2.1,AV.nils]]),some (Cont.lst false .i p.2.2.2.2.2.1),none,none,none,none,none,some (Cont.lst false A0 p.2.2.2.2.2.2.1),some (Cont.lst false A0 p.2.2.2.2.2.2.2.1)]⟩)<|x1 (.exit 0) fun i p=>⟨jn 8 (AV.ptr 7 none 0 0::AV.own 8 none none::jn 27 ([])),[some (Cont.cells 6 [[AV.pv .bool p.1,AV.own 1 none none,AV.own 2 none none,AV.own 5 none none,AV.own 6 none none,AV.pv .i p.2.1]]),some (Cont.tree false 0 (.slice Af) p.2.2.1 none),some (Cont.tree false 1 Ad p.2.2.2.1 none),some Cont.dead,some Cont.dead,some (Cont.lst false A0 p.2.2.2.2.1),some (Cont.lst false A0 p.2.2.2.2.2.1),some (Cont.cells 2 [[AV.pv .i i.2.2.1,AV.nils]]),some (Cont.lst false .i p.2.2.2.2.2.2.1)]⟩
def qQ:=((.i (.i (.v (.v (.v (.v (.v (.v (.v (.i (.v .n))))))))))):Pk Z9.ty _ _)
def A82:Cfg:={ti:=Ar,ents:=[Tp],ann:=[(3,Ao Z9 5 (spP qQ) Dp qN.E)],lent:=5,pre:=[(some (0,3)),(some (0,4))]}
def K1 (x:Int×Int×Int×Bool×Int×A7):Option (Int×Bool×Int×List (List A2)×List A3×List A1×List A1×List Int×Unit):=(Ay (fun v=>Dp (x.1,x.2.2.1,0,()) v _ some) (x.2.1,x.2.2.2.1,x.2.2.2.2.1,x.2.2.2.2.2.1,x.2.2.2.2.2.2.1,x.2.2.2.2.2.2.2.1,x.2.2.2.2.2.2.2.2.1,[],())).bind fun p=>Au p (fun p=>some (p.2.2.2.2.1,p.1,p.2.1,p.2.2.1,p.2.2.2.1,p.2.2.2.2.2.2.1,p.2.2.2.2.2.2.2.1,[],())) fun p=>some (0,p.1,p.2.1,p.2.2.1,p.2.2.2.1,p.2.2.2.2.1,p.2.2.2.2.2.1,p.2.2.2.2.2.2.1,())
def bL:Ent:=⟨56,⟨(.ptr 0 0 0 (si 3 .nil)),(.cells 6 (.slot .bool (.own 1 (.own 2 (.own 3 (.own 4 (.slot .i .nil)))))) (.tree false 0 (.slice Af) (.tree false 0 Ad (.lst false A0 (.lst false A0 .nil)))))⟩,⟨(.agg (.slot .i (.own 7 .nil)) .nil),(.cells 6 (.slot .bool (.own 1 (.own 2 (.own 5 (.own 6 (.slot .i .nil)))))) (.tree false 0 (.slice Af) (.tree false 1 Ad (.gone (.gone (.lst false A0 (.lst false A0 (.lst false .i .nil))))))))⟩,K1⟩
theorem qS:CfgOK Go.Proofs.Tryz.prog A82:=hcB (all_cons qU all_nil)
theorem A0s:AP Go.Proofs.Tryz.prog A82 (lpc Go.Proofs.Tryz.f56 0):=lkA qS Z9 qQ Dp qN [8,9] Nb
theorem Aa4:Ah Go.Proofs.Tryz.prog bL:=okB qS Go.Proofs.Tryz.func56 A0s
abbrev qL:=List A1×Int×Unit
abbrev qI:=Int×Unit
abbrev qJ:=Int×Unit ⊕ Unit
def Dr (i:qL)(v:qI)(R:Type)(K:qI ⊕ qJ->Option R):Option R:=bif decide (v.1<(i.1.length:Int))then(lAt i.1 v.1).bind fun a=>bif a.1==i.2.1 then(lAt i.1 v.1).bind fun v=>K (.inr (.inl (v.2.1,())))else K (.inl (IntKind.i64.wrap (v.1+1),()))else K (.inr (.inr ()))
theorem Ng:AX Dr:=fun i v R K=>Ae (Ac fun _=>Ae (Ac fun _=>Aa) (Aa)) (Aa)
def Z7:Tmpl:=⟨(.slot (.slice A0) (.slot .i (jk 3 (.slot .i (jk 18 .nil))))),.nil⟩
def qH:Exs qL qJ:=xs .ret (fun i p=>⟨jn 4 (.n (p.1)::jn 19 ([])),[]⟩)<|x1 (.exit 0) fun i p=>⟨jn 24 ([]),[]⟩
def qK:=((.i (.i (.v .n))):Pk Z7.ty _ _)
def A81:Cfg:={ti:=Ar,ents:=[],ann:=[(2,Ao Z7 0 (spP qK) Dr qH.E)],lent:=0}
def F6 (x:List A1×Int×Unit):Option (Int×Unit):=(Ay (fun v=>Dr (x.1,x.2.1,()) v _ some) (0,())).bind fun p=>Au p (fun p=>some (p.1,())) fun p=>some (0,())
def To:Ent:=⟨109,⟨(.slot (.slice A0) (.slot .i .nil)),.nil⟩,⟨(.slot .i .nil),.nil⟩,F6⟩
theorem qM:CfgOK Go.Proofs.Tryz.prog A81:=hcB all_nil
theorem A0r:AP Go.Proofs.Tryz.prog A81 (lpc Go.Proofs.Tryz.f109 0):=lkA qM Z7 qK Dr qH [4] Ng
theorem Z8:Ah Go.Proofs.Tryz.prog To:=okB qM Go.Proofs.Tryz.func109 A0r
def IA (x:A4×List A1×A3×Int×Unit):Option (Int×Unit):=(GN ((x.1.1,()),(x.2.2.1.1,x.2.2.1.2.1,x.2.2.1.2.2.1,x.2.2.1.2.2.2.1,x.2.2.1.2.2.2.2.1,x.2.2.1.2.2.2.2.2.1,x.2.2.1.2.2.2.2.2.2.1,x.2.2.1.2.2.2.2.2.2.2.1,x.2.2.1.2.2.2.2.2.2.2.2.1,()),x.2.2.2.1,())).bind fun v=>bif !v.1 then some (6,())else(EA (x.2.1,())).bind fun v=>bif !v.1 then some (6,())else(F6 (x.2.1,x.2.2.2.1,())).bind fun v=>bif v.1 != 0 then(lAt x.1.1 x.2.2.2.1).bind fun a=>(BE (a,())).bind fun b=>bif x.2.2.1.2.1==1 then bif v.1 != x.2.2.1.1 then some (1,())else bif x.2.2.1.2.1==2 then bif v.1 != x.2.2.1.1 then some (2,())else bif decide (b.2.2.1>x.2.2.1.2.2.2.1)then some (2,())else bif x.2.2.1.2.1==4 then bif decide (b.2.2.1>x.2.2.1.2.2.2.1)then some (3,())else bif decide (b.2.2.2.1>x.2.2.1.2.2.2.1)then some (3,())else some (0,())else some (0,())else bif x.2.2.1.2.1==4 then bif decide (b.2.2.1>x.2.2.1.2.2.2.1)then some (3,())else bif decide (b.2.2.2.1>x.2.2.1.2.2.2.1)then some (3,())else some (0,())else some (0,())else bif x.2.2.1.2.1==2 then bif v.1 != x.2.2.1.1 then some (2,())else bif decide (b.2.2.1>x.2.2.1.2.2.2.1)then some (2,())else bif x.2.2.1.2.1==4 then bif decide (b.2.2.1>x.2.2.1.2.2.2.1)then some (3,())else bif decide (b.2.2.2.1>x.2.2.1.2.2.2.1)then some (3,())else some (0,())else some (0,())else bif x.2.2.1.2.1==4 then bif decide (b.2.2.1>x.2.2.1.2.2.2.1)then some (3,())else bif decide (b.2.2.2.1>x.2.2.1.2.2.2.1)then some (3,())else some (0,())else some (0,())else(lAt x.1.1 x.2.2.2.1).bind fun v=>(BE (v,())).bind fun v=>bif x.2.2.1.2.1==1 then bif x.2.2.1.2.1==2 then bif decide (v.2.2.1>x.2.2.1.2.2.2.1)then some (2,())else bif x.2.2.1.2.1==4 then bif decide (v.2.2.1>x.2.2.1.2.2.2.1)then some (3,())else bif decide (v.2.2.2.1>x.2.2.1.2.2.2.1)then some (3,())else some (0,())else some (0,())else bif x.2.2.1.2.1==4 then bif decide (v.2.2.1>x.2.2.1.2.2.2.1)then some (3,())else bif decide (v.2.2.2.1>x.2.2.1.2.2.2.1)then some (3,())else some (0,())else some (0,())else bif x.2.2.1.2.1==2 then bif decide (v.2.2.1>x.2.2.1.2.2.2.1)then some (2,())else bif x.2.2.1.2.1==4 then bif decide (v.2.2.1>x.2.2.1.2.2.2.1)then some (3,())else bif decide (v.2.2.2.1>x.2.2.1.2.2.2.1)then some (3,())else some (0,())else some (0,())else bif x.2.2.1.2.1==4 then bif decide (v.2.2.1>x.2.2.1.2.2.2.1)then some (3,())else bif decide (v.2.2.2.1>x.2.2.1.2.2.2.1)then some (3,())else some (0,())else some (0,())
def bK:Ent:=⟨108,⟨(.slot Bo (.slot (.slice A0) (.slot Ad (.slot .i .nil)))),.nil⟩,⟨(.slot .i .nil),.nil⟩,IA⟩
theorem Aa3:Ah Go.Proofs.Tryz.prog bK:=okA (hcA 0 (all_cons Ze (all_cons Zv (all_cons Z8 (all_cons Rn all_nil))))) Go.Proofs.Tryz.func108
abbrev qF:=List A1×Int×Int×Unit
abbrev qB:=Int×Unit
abbrev qC:=Int×Unit ⊕ Int×Unit
def FW (i:qF)(v:qB)(R:Type)(K:qB ⊕ qC->Option R):Option R:=bif decide (v.1<(i.1.length:Int))then(lAt i.1 v.1).bind fun a=>bif decide (a.1<i.2.1)then K (.inl (IntKind.i64.wrap (v.1+1),()))else K (.inr (.inl (v.1,())))else K (.inr (.inr (v.1,())))
theorem OD:AX FW:=fun i v R K=>Ae (Ac fun _=>Ae (Aa) (Aa)) (Aa)
def Z6:Tmpl:=⟨(.slot (.slice A0) (si 2 (jk 5 (.slot .i (jk 67 .nil))))),.nil⟩
def qA:Exs qF qC:=xs (.exit 0) (fun i p=>⟨AV.pv (.slice A0) i.1::.n (i.2.1)::.n (i.2.2.1)::jn 5 (.n (p.1)::jn 67 ([])),[]⟩)<|x1 (.exit 0) fun i p=>⟨AV.pv (.slice A0) i.1::.n (i.2.1)::.n (i.2.2.1)::jn 5 (.n (p.1)::jn 67 ([])),[]⟩
def qD:=((.i (.i (.i (.v .n)))):Pk Z6.ty _ _)
def A80:Cfg:={ti:=Ar,ents:=[R8,Ly],ann:=[(4,Ao Z6 0 (spP qD) FW qA.E)],lent:=0}
def Im (x:List A1×Int×Int×Unit):Option (Bool×List A1×Unit):=(Ez (x.1,())).bind fun v=>bif !v.1 then if x.1.length<=2199023255552 then some (false,x.1,())else none else(Am (x.2.1,1,9,())).bind fun v=>bif !v.1 then if x.1.length<=2199023255552 then some (false,x.1,())else none else(Am (x.2.2.1,1,9,())).bind fun v=>bif !v.1 then if x.1.length<=2199023255552 then some (false,x.1,())else none else bif x.2.1==x.2.2.1 then if x.1.length<=2199023255552 then some (false,x.1,())else none else(Ay (fun v=>FW (x.1,x.2.1,x.2.2.1,()) v _ some) (0,())).bind fun p=>Au p (fun p=>(Js x.1 0 p.1).bind fun v=>if v.length<=2199023255552 then if(v++[(x.2.1,x.2.2.1,())]).length<=2199023255552 then bif decide (p.1<(x.1.length:Int))then(lAt x.1 p.1).bind fun a=>bif a.1==x.2.1 then(Js x.1 (IntKind.i64.wrap (p.1+1)) (x.1.length:Int)).bind fun b=>if(v++[(x.2.1,x.2.2.1,())]++b).length<=2199023255552 then some (true,v++[(x.2.1,x.2.2.1,())]++b,())else none else(Js x.1 p.1 (x.1.length:Int)).bind fun b=>if(v++[(x.2.1,x.2.2.1,())]++b).length<=2199023255552 then some (true,v++[(x.2.1,x.2.2.1,())]++b,())else none else(Js x.1 p.1 (x.1.length:Int)).bind fun a=>if(v++[(x.2.1,x.2.2.1,())]++a).length<=2199023255552 then some (true,v++[(x.2.1,x.2.2.1,())]++a,())else none else none else none) fun p=>(Js x.1 0 p.1).bind fun v=>if v.length<=2199023255552 then if(v++[(x.2.1,x.2.2.1,())]).length<=2199023255552 then bif decide (p.1<(x.1.length:Int))then(lAt x.1 p.1).bind fun a=>bif a.1==x.2.1 then(Js x.1 (IntKind.i64.wrap (p.1+1)) (x.1.length:Int)).bind fun b=>if(v++[(x.2.1,x.2.2.1,())]++b).length<=2199023255552 then some (true,v++[(x.2.1,x.2.2.1,())]++b,())else none else(Js x.1 p.1 (x.1.length:Int)).bind fun b=>if(v++[(x.2.1,x.2.2.1,())]++b).length<=2199023255552 then some (true,v++[(x.2.1,x.2.2.1,())]++b,())else none else(Js x.1 p.1 (x.1.length:Int)).bind fun a=>if(v++[(x.2.1,x.2.2.1,())]++a).length<=2199023255552 then some (true,v++[(x.2.1,x.2.2.1,())]++a,())else none else none else none
def bJ:Ent:=⟨111,⟨(.slot (.slice A0) (si 2 .nil)),.nil⟩,⟨(.own 0 (.slot .bool .nil)),(.lst false A0 .nil)⟩,Im⟩
theorem qG:CfgOK Go.Proofs.Tryz.prog A80:=hcB (all_cons Zt (all_cons Jx all_nil))
theorem A0q:AP Go.Proofs.Tryz.prog A80 (lpc Go.Proofs.Tryz.f111 0):=lkA qG Z6 qD FW qA [0,1,2,8] OD
theorem qE:Ah Go.Proofs.Tryz.prog bJ:=okB qG Go.Proofs.Tryz.func111 A0q
abbrev qy:=List A1×Int×Unit
abbrev qv:=Int×Unit
abbrev qw:=Int×Unit ⊕ Unit
def Fl (i:qy)(v:qv)(R:Type)(K:qv ⊕ qw->Option R):Option R:=bif decide (v.1<(i.1.length:Int))then(lAt i.1 v.1).bind fun a=>bif a.1==i.2.1 then(lAt i.1 v.1).bind fun v=>K (.inr (.inl (v.2.1,())))else K (.inl (IntKind.i64.wrap (v.1+1),()))else K (.inr (.inr ()))
theorem P0:AX Fl:=fun i v R K=>Ae (Ac fun _=>Ae (Ac fun _=>Aa) (Aa)) (Aa)
def Z5:Tmpl:=⟨(.slot (.slice A0) (.slot .i (jk 3 (.slot .i (jk 18 .nil))))),.nil⟩
def qu:Exs qy qw:=xs .ret (fun i p=>⟨jn 4 (.n (p.1)::jn 19 ([])),[]⟩)<|x1 (.exit 0) fun i p=>⟨jn 24 ([]),[]⟩
def qx:=((.i (.i (.v .n))):Pk Z5.ty _ _)
def A7z:Cfg:={ti:=Ar,ents:=[],ann:=[(2,Ao Z5 0 (spP qx) Fl qu.E)],lent:=0}
def Kd (x:List A1×Int×Unit):Option (Int×Unit):=(Ay (fun v=>Fl (x.1,x.2.1,()) v _ some) (0,())).bind fun p=>Au p (fun p=>some (p.1,())) fun p=>some (0,())
def bI:Ent:=⟨223,⟨(.slot (.slice A0) (.slot .i .nil)),.nil⟩,⟨(.slot .i .nil),.nil⟩,Kd⟩
theorem qz:CfgOK Go.Proofs.Tryz.prog A7z:=hcB all_nil
theorem A0p:AP Go.Proofs.Tryz.prog A7z (lpc Go.Proofs.Tryz.f223 0):=lkA qz Z5 qx Fl qu [4] P0
theorem Aa2:Ah Go.Proofs.Tryz.prog bI:=okB qz Go.Proofs.Tryz.func223 A0p
abbrev qq:=List A1×Int×List Int×Unit
abbrev qk:=Int×Unit
abbrev qm:=List Int×List Int×Unit ⊕ Unit
def CR (i:qq)(v:qk)(R:Type)(K:qk ⊕ qm->Option R):Option R:=bif decide (v.1<(i.2.2.1.length:Int))then if 0<=v.1/\v.1<(i.2.2.1.length:Int)then i.2.2.1[0+v.1.toNat]?.bind fun a=>bif a==i.2.1 then if(i.2.2.1++[i.2.1]).length<=4398046511104 then K (.inr (.inl ([i.2.1],i.2.2.1++[i.2.1],())))else none else K (.inl (IntKind.i64.wrap (v.1+1),()))else none else K (.inr (.inr ()))
theorem Nc:AX CR:=fun i v R K=>Ae (Aq (Ac fun _=>Ae (Aq (Aa)) (Aa))) (Aa)
def Z2:Tmpl:=⟨(.slot (.slice A0) (jk 4 (.own 0 (si 2 (jk 36 .nil))))),(.lst false .i .nil)⟩
def qi:Exs qq qm:=xs .ret (fun i p=>⟨AV.pv (.slice A0) i.1::jn 3 (AV.own 2 none none::AV.own 0 none none::.n (i.2.1)::jn 37 ([])),[some Cont.dead,some (Cont.lst false .i p.1),some (Cont.lst false .i p.2.1)]⟩)<|x1 (.exit 2) fun i p=>⟨AV.pv (.slice A0) i.1::jn 4 (AV.own 0 none none::.n (i.2.1)::jn 37 ([])),[some (Cont.lst false .i i.2.2.1)]⟩
def qo:=((.i (.i (.v (.i .n)))):Pk Z2.ty _ _)
abbrev qr:=List A1×Unit
abbrev ql:=Int×List Int×Unit
abbrev qn:=List Int×List Int×Unit ⊕ List Int×Unit ⊕ List Int×Unit ⊕ List Int×Unit
def CS (i:qr)(v:ql)(R:Type)(K:ql ⊕ qn->Option R):Option R:=bif decide (v.1>0)then(Ez (i.1,())).bind fun a=>bif a.1 then bif decide (v.1<=9)then(Ay (fun b=>CR (i.1,v.1,v.2.1,()) b _ some) (0,())).bind fun p=>Au p (fun p=>K (.inr (.inl (p.1,p.2.1,())))) fun p=>if(v.2.1++[v.1]).length<=4398046511104 then(Kd (i.1,v.1,())).bind fun b=>K (.inl (b.1,v.2.1++[v.1],()))else none else K (.inr (.inr (.inl (v.2.1,()))))else K (.inr (.inr (.inr (.inl (v.2.1,())))))else K (.inr (.inr (.inr (.inr (v.2.1,())))))
theorem Nd:AX CS:=fun i v R K=>Ae (Ac fun _=>Ae (Ae (Ac fun _=>A61 (fun _=>Aa) (fun _=>Aq (Ac fun _=>Aa))) (Aa)) (Aa)) (Aa)
def Z3:Tmpl:=⟨(.slot (.slice A0) (jk 4 (.own 0 (.slot .i (jk 37 .nil))))),(.lst false .i .nil)⟩
def qj:Exs qr qn:=xs .ret (fun i p=>⟨jn 4 (AV.own 2 none none::AV.own 0 none none::jn 38 ([])),[some Cont.dead,some (Cont.lst false .i p.1),some (Cont.lst false .i p.2.1)]⟩)<|xs (.exit 0) (fun i p=>⟨jn 5 (AV.own 0 none none::jn 38 ([])),[some (Cont.lst false .i p.1)]⟩)<|xs (.exit 0) (fun i p=>⟨jn 5 (AV.own 0 none none::jn 38 ([])),[some (Cont.lst false .i p.1)]⟩)<|x1 (.exit 0) fun i p=>⟨jn 5 (AV.own 0 none none::jn 38 ([])),[some (Cont.lst false .i p.1)]⟩
def qp:=((.i (.v (.v .n))):Pk Z3.ty _ _)
def qt:Cfg:={ti:=Ar,ents:=[R8,bI],ann:=[(6,Ao Z2 0 (spP qo) CR qi.E),(3,Ao Z3 0 (spP qp) CS qj.E)],lent:=0}
def K2 (x:List A1×Int×Unit):Option (List Int×Unit):=(Ay (fun v=>CS (x.1,()) v _ some) (x.2.1,[],())).bind fun p=>Au p (fun p=>some (p.2.1,())) fun p=>Au p (fun p=>some (p.1,())) fun p=>Au p (fun p=>some (p.1,())) fun p=>some (p.1,())
def A0o:Ent:=⟨178,⟨(.slot (.slice A0) (.slot .i .nil)),.nil⟩,⟨(.own 0 .nil),(.lst false .i .nil)⟩,K2⟩
theorem Z4:CfgOK Go.Proofs.Tryz.prog qt:=hcB (all_cons Zt (all_cons Aa2 all_nil))
theorem bH:AP Go.Proofs.Tryz.prog qt (lpc Go.Proofs.Tryz.f178 1):=lkA Z4 Z2 qo CR qi [0,4,5,6] Nc
theorem A0n:AP Go.Proofs.Tryz.prog qt (lpc Go.Proofs.Tryz.f178 0):=lkB Z4 Z3 qp CS qj [4,5] Nd bH
theorem Aa1:Ah Go.Proofs.Tryz.prog A0o:=okC Z4 Go.Proofs.Tryz.func178 A0n bH
def G4 (x:List A1×Int×Int×Unit):Option (Bool×Unit):=(Im (x.1,x.2.1,x.2.2.1,())).bind fun v=>bif !v.1 then some (false,())else(K2 (v.2.1,x.2.1,())).bind fun v=>bif decide ((v.1.length:Int)>1)then if 0<=IntKind.i64.wrap ((v.1.length:Int)-1)/\IntKind.i64.wrap ((v.1.length:Int)-1)<(v.1.length:Int)then v.1[0+(IntKind.i64.wrap ((v.1.length:Int)-1)).toNat]?.bind fun v=>some (v==x.2.1,())else none else some (false,())
def bG:Ent:=⟨110,⟨(.slot (.slice A0) (si 2 .nil)),.nil⟩,⟨(.slot .bool .nil),.nil⟩,G4⟩
theorem Aa0:Ah Go.Proofs.Tryz.prog bG:=okA (hcA 0 (all_cons qE (all_cons Aa1 all_nil))) Go.Proofs.Tryz.func110
def I7 (x:Int×Unit):Option (Bool×Unit):=bif x.1==1 then some (true,())else some (x.1==2,())
def bF:Ent:=⟨112,⟨(.slot .i .nil),.nil⟩,⟨(.slot .bool .nil),.nil⟩,I7⟩
theorem A9z:Ah Go.Proofs.Tryz.prog bF:=okA (hcA 0 all_nil) Go.Proofs.Tryz.func112
abbrev qg:=Int×Int×List A1×Unit
abbrev qd:=Int×Unit
abbrev qe:=Int×Unit ⊕ Int×Unit
def CO (i:qg)(v:qd)(R:Type)(K:qd ⊕ qe->Option R):Option R:=bif decide (v.1<(i.2.2.1.length:Int))then if 0<=v.1/\v.1<(i.2.2.1.length:Int)then i.2.2.1[0+v.1.toNat]?.bind fun a=>bif decide (a.1<i.1)then K (.inl (IntKind.i64.wrap (v.1+1),()))else K (.inr (.inl (v.1,())))else none else K (.inr (.inr (v.1,())))
theorem M5:AX CO:=fun i v R K=>Ae (Aq (Ac fun _=>Ae (Aa) (Aa))) (Aa)
def Z1:Tmpl:=⟨(.junk (si 2 (jk 5 (.own 0 (.junk (.slot .i (jk 61 .nil))))))),(.lst false A0 .nil)⟩
def qc:Exs qg qe:=xs (.exit 0) (fun i p=>⟨jn 1 (.n (i.1)::.n (i.2.1)::jn 5 (AV.own 0 none none::jn 1 (.n (p.1)::jn 61 ([])))),[some (Cont.lst false A0 i.2.2.1)]⟩)<|x1 (.exit 0) fun i p=>⟨jn 1 (.n (i.1)::.n (i.2.1)::jn 5 (AV.own 0 none none::jn 1 (.n (p.1)::jn 61 ([])))),[some (Cont.lst false A0 i.2.2.1)]⟩
def qf:=((.i (.i (.v (.i .n)))):Pk Z1.ty _ _)
def A7y:Cfg:={ti:=Ar,ents:=[TF,To,TA,Ly],ann:=[(8,Ao Z1 0 (spP qf) CO qc.E)],lent:=0}
def Hi (x:List A1×Int×Int×Unit):Option (Bool×List A1×Unit):=(GO (x.1,())).bind fun v=>(F6 (x.1,x.2.1,())).bind fun a=>(EA (x.1,())).bind fun b=>bif !b.1 then some (false,v.1,())else(Am (x.2.1,0,5,())).bind fun c=>bif !c.1 then some (false,v.1,())else(Am (x.2.2.1,1,9,())).bind fun d=>bif !d.1 then some (false,v.1,())else bif a.1 != 0 then bif a.1 != x.2.2.1 then some (false,v.1,())else bif a.1==x.2.2.1 then some (true,v.1,())else(Ay (fun e=>CO (x.2.1,x.2.2.1,v.1,()) e _ some) (0,())).bind fun p=>Au p (fun p=>if(0:Int)<=0/\0<=p.1/\p.1<=(v.1.length:Int)then if(D3 v.1 (some (0,p.1.toNat-Int.toNat 0))).length<=2199023255552 then if(D3 v.1 (some (0,p.1.toNat-Int.toNat 0))++[(x.2.1,x.2.2.1,())]).length<=2199023255552 then if 0<=p.1/\p.1<=(v.1.length:Int)/\(v.1.length:Int)<=(v.1.length:Int)then if(D3 v.1 (some (0,p.1.toNat-Int.toNat 0))++[(x.2.1,x.2.2.1,())]++D3 v.1 (some (0+p.1.toNat,(v.1.length:Int).toNat-p.1.toNat))).length<=2199023255552 then some (true,D3 v.1 (some (0,p.1.toNat-Int.toNat 0))++[(x.2.1,x.2.2.1,())]++D3 v.1 (some (0+p.1.toNat,(v.1.length:Int).toNat-p.1.toNat)),())else none else none else none else none else none) fun p=>if(0:Int)<=0/\0<=p.1/\p.1<=(v.1.length:Int)then if(D3 v.1 (some (0,p.1.toNat-Int.toNat 0))).length<=2199023255552 then if(D3 v.1 (some (0,p.1.toNat-Int.toNat 0))++[(x.2.1,x.2.2.1,())]).length<=2199023255552 then if 0<=p.1/\p.1<=(v.1.length:Int)/\(v.1.length:Int)<=(v.1.length:Int)then if(D3 v.1 (some (0,p.1.toNat-Int.toNat 0))++[(x.2.1,x.2.2.1,())]++D3 v.1 (some (0+p.1.toNat,(v.1.length:Int).toNat-p.1.toNat))).length<=2199023255552 then some (true,D3 v.1 (some (0,p.1.toNat-Int.toNat 0))++[(x.2.1,x.2.2.1,())]++D3 v.1 (some (0+p.1.toNat,(v.1.length:Int).toNat-p.1.toNat)),())else none else none else none else none else none else bif a.1==x.2.2.1 then some (true,v.1,())else(Ay (fun e=>CO (x.2.1,x.2.2.1,v.1,()) e _ some) (0,())).bind fun p=>Au p (fun p=>if(0:Int)<=0/\0<=p.1/\p.1<=(v.1.length:Int)then if(D3 v.1 (some (0,p.1.toNat-Int.toNat 0))).length<=2199023255552 then if(D3 v.1 (some (0,p.1.toNat-Int.toNat 0))++[(x.2.1,x.2.2.1,())]).length<=2199023255552 then if 0<=p.1/\p.1<=(v.1.length:Int)/\(v.1.length:Int)<=(v.1.length:Int)then if(D3 v.1 (some (0,p.1.toNat-Int.toNat 0))++[(x.2.1,x.2.2.1,())]++D3 v.1 (some (0+p.1.toNat,(v.1.length:Int).toNat-p.1.toNat))).length<=2199023255552 then some (true,D3 v.1 (some (0,p.1.toNat-Int.toNat 0))++[(x.2.1,x.2.2.1,())]++D3 v.1 (some (0+p.1.toNat,(v.1.length:Int).toNat-p.1.toNat)),())else none else none else none else none else none) fun p=>if(0:Int)<=0/\0<=p.1/\p.1<=(v.1.length:Int)then if(D3 v.1 (some (0,p.1.toNat-Int.toNat 0))).length<=2199023255552 then if(D3 v.1 (some (0,p.1.toNat-Int.toNat 0))++[(x.2.1,x.2.2.1,())]).length<=2199023255552 then if 0<=p.1/\p.1<=(v.1.length:Int)/\(v.1.length:Int)<=(v.1.length:Int)then if(D3 v.1 (some (0,p.1.toNat-Int.toNat 0))++[(x.2.1,x.2.2.1,())]++D3 v.1 (some (0+p.1.toNat,(v.1.length:Int).toNat-p.1.toNat))).length<=2199023255552 then some (true,D3 v.1 (some (0,p.1.toNat-Int.toNat 0))++[(x.2.1,x.2.2.1,())]++D3 v.1 (some (0+p.1.toNat,(v.1.length:Int).toNat-p.1.toNat)),())else none else none else none else none else none
def bE:Ent:=⟨113,⟨(.slot (.slice A0) (si 2 .nil)),.nil⟩,⟨(.own 0 (.slot .bool .nil)),(.lst false A0 .nil)⟩,Hi⟩
theorem qh:CfgOK Go.Proofs.Tryz.prog A7y:=hcB (all_cons tq (all_cons Z8 (all_cons Zv (all_cons Jx all_nil))))
theorem A0m:AP Go.Proofs.Tryz.prog A7y (lpc Go.Proofs.Tryz.f113 0):=lkA qh Z1 qf CO qc [1,2,8,10] M5
theorem A9y:Ah Go.Proofs.Tryz.prog bE:=okB qh Go.Proofs.Tryz.func113 A0m
abbrev qa:=List A1×Int×Int×Unit
abbrev q7:=Int×Unit
abbrev q8:=Int×Unit ⊕ Int×Unit
def DU (i:qa)(v:q7)(R:Type)(K:q7 ⊕ q8->Option R):Option R:=bif decide (v.1<(i.1.length:Int))then(lAt i.1 v.1).bind fun a=>bif decide (a.1<i.2.1)then K (.inl (IntKind.i64.wrap (v.1+1),()))else K (.inr (.inl (v.1,())))else K (.inr (.inr (v.1,())))
theorem MA:AX DU:=fun i v R K=>Ae (Ac fun _=>Ae (Aa) (Aa)) (Aa)
def Z0:Tmpl:=⟨(.slot (.slice A0) (jk 2 (.ptr 0 0 0 (.junk (.slot .i (jk 46 .nil)))))),(.cells 2 (si 2 .nil) .nil)⟩
def q6:Exs qa q8:=xs (.exit 0) (fun i p=>⟨AV.pv (.slice A0) i.1::jn 2 (AV.ptr 0 none 0 0::jn 1 (.n (p.1)::jn 46 ([]))),[some (Cont.cells 2 [[AV.pv .i i.2.1,AV.pv .i i.2.2.1]])]⟩)<|x1 (.exit 0) fun i p=>⟨AV.pv (.slice A0) i.1::jn 2 (AV.ptr 0 none 0 0::jn 1 (.n (p.1)::jn 46 ([]))),[some (Cont.cells 2 [[AV.pv .i i.2.1,AV.pv .i i.2.2.1]])]⟩
def q9:=((.i (.v (.i (.i .n)))):Pk Z0.ty _ _)
def A7x:Cfg:={ti:=Ar,ents:=[],ann:=[(2,Ao Z0 0 (spP q9) DU q6.E)],lent:=0}
def I5 (x:List A1×A1×Unit):Option (List A1×Unit):=(Ay (fun v=>DU (x.1,x.2.1.1,x.2.1.2.1,()) v _ some) (0,())).bind fun p=>Au p (fun p=>(Js x.1 0 p.1).bind fun v=>if v.length<=2199023255552 then if(v++[(x.2.1.1,x.2.1.2.1,())]).length<=2199023255552 then bif decide (p.1<(x.1.length:Int))then(lAt x.1 p.1).bind fun a=>bif a.1==x.2.1.1 then(Js x.1 (IntKind.i64.wrap (p.1+1)) (x.1.length:Int)).bind fun b=>if(v++[(x.2.1.1,x.2.1.2.1,())]++b).length<=2199023255552 then some (v++[(x.2.1.1,x.2.1.2.1,())]++b,())else none else(Js x.1 p.1 (x.1.length:Int)).bind fun b=>if(v++[(x.2.1.1,x.2.1.2.1,())]++b).length<=2199023255552 then some (v++[(x.2.1.1,x.2.1.2.1,())]++b,())else none else(Js x.1 p.1 (x.1.length:Int)).bind fun a=>if(v++[(x.2.1.1,x.2.1.2.1,())]++a).length<=2199023255552 then some (v++[(x.2.1.1,x.2.1.2.1,())]++a,())else none else none else none) fun p=>(Js x.1 0 p.1).bind fun v=>if v.length<=2199023255552 then if(v++[(x.2.1.1,x.2.1.2.1,())]).length<=2199023255552 then bif decide (p.1<(x.1.length:Int))then(lAt x.1 p.1).bind fun a=>bif a.1==x.2.1.1 then(Js x.1 (IntKind.i64.wrap (p.1+1)) (x.1.length:Int)).bind fun b=>if(v++[(x.2.1.1,x.2.1.2.1,())]++b).length<=2199023255552 then some (v++[(x.2.1.1,x.2.1.2.1,())]++b,())else none else(Js x.1 p.1 (x.1.length:Int)).bind fun b=>if(v++[(x.2.1.1,x.2.1.2.1,())]++b).length<=2199023255552 then some (v++[(x.2.1.1,x.2.1.2.1,())]++b,())else none else(Js x.1 p.1 (x.1.length:Int)).bind fun a=>if(v++[(x.2.1.1,x.2.1.2.1,())]++a).length<=2199023255552 then some (v++[(x.2.1.1,x.2.1.2.1,())]++a,())else none else none else none
def A0l:Ent:=⟨179,⟨(.slot (.slice A0) (.slot A0 .nil)),.nil⟩,⟨(.own 0 .nil),(.lst false A0 .nil)⟩,I5⟩
theorem qb:CfgOK Go.Proofs.Tryz.prog A7x:=hcB all_nil
theorem A0k:AP Go.Proofs.Tryz.prog A7x (lpc Go.Proofs.Tryz.f179 0):=lkA qb Z0 q9 DU q6 [0,3,5] MA
theorem A9x:Ah Go.Proofs.Tryz.prog A0l:=okB qb Go.Proofs.Tryz.func179 A0k
def G5 (x:A4×A3×Int×Int×Unit):Option (Int×Int×Int×Int×Int×Int×Int×Bool×A9):=(EZ ((x.2.1.1,x.2.1.2.1,x.2.1.2.2.1,x.2.1.2.2.2.1,x.2.1.2.2.2.2.1,x.2.1.2.2.2.2.2.1,x.2.1.2.2.2.2.2.2.1,x.2.1.2.2.2.2.2.2.2.1,x.2.1.2.2.2.2.2.2.2.2.1,()),())).bind fun v=>(Bs ((x.1.1,()),())).bind fun a=>bif !a.1 then some (v.1,v.2.1,v.2.2.1,v.2.2.2.1,v.2.2.2.2.1,v.2.2.2.2.2.1,v.2.2.2.2.2.2.1,false,v.2.2.2.2.2.2.2.1,v.2.2.2.2.2.2.2.2.1,())else(AO ((x.2.1.1,x.2.1.2.1,x.2.1.2.2.1,x.2.1.2.2.2.1,x.2.1.2.2.2.2.1,x.2.1.2.2.2.2.2.1,x.2.1.2.2.2.2.2.2.1,x.2.1.2.2.2.2.2.2.2.1,x.2.1.2.2.2.2.2.2.2.2.1,()),())).bind fun b=>bif !b.1 then some (v.1,v.2.1,v.2.2.1,v.2.2.2.1,v.2.2.2.2.1,v.2.2.2.2.2.1,v.2.2.2.2.2.2.1,false,v.2.2.2.2.2.2.2.1,v.2.2.2.2.2.2.2.2.1,())else bif x.2.1.2.2.1 != 1 then some (v.1,v.2.1,v.2.2.1,v.2.2.2.1,v.2.2.2.2.1,v.2.2.2.2.2.1,v.2.2.2.2.2.2.1,false,v.2.2.2.2.2.2.2.1,v.2.2.2.2.2.2.2.2.1,())else(Am (x.2.2.1,0,5,())).bind fun c=>bif !c.1 then some (v.1,v.2.1,v.2.2.1,v.2.2.2.1,v.2.2.2.2.1,v.2.2.2.2.2.1,v.2.2.2.2.2.2.1,false,v.2.2.2.2.2.2.2.1,v.2.2.2.2.2.2.2.2.1,())else(Am (x.2.2.2.1,-1,99,())).bind fun d=>bif !d.1 then some (v.1,v.2.1,v.2.2.1,v.2.2.2.1,v.2.2.2.2.1,v.2.2.2.2.2.1,v.2.2.2.2.2.2.1,false,v.2.2.2.2.2.2.2.1,v.2.2.2.2.2.2.2.2.1,())else(I5 (x.2.1.2.2.2.2.2.2.2.2.1,(x.2.2.1,x.2.2.2.1,()),())).bind fun e=>(lAt x.1.1 x.2.2.1).bind fun f=>(BE (f,())).bind fun g=>some (v.1,v.2.1,v.2.2.1,v.2.2.2.1,mx x.2.1.2.2.2.2.1 g.2.2.2.1,v.2.2.2.2.2.1,v.2.2.2.2.2.2.1,true,v.2.2.2.2.2.2.2.1,e.1,())
def bD:Ent:=⟨114,⟨(.slot Bo (.slot Ad (si 2 .nil))),.nil⟩,⟨(.agg (si 7 (.own 0 (.own 1 .nil))) (.slot .bool .nil)),(.lst false A0 (.lst false A0 .nil))⟩,G5⟩
theorem A9u:Ah Go.Proofs.Tryz.prog bD:=okA (hcA 0 (all_cons TD (all_cons Pb (all_cons Pa (all_cons Jx (all_cons A9x (all_cons Rn all_nil))))))) Go.Proofs.Tryz.func114
def Acs:Cfg:={ti:=Ar,ents:=[PA,bK,To,bG,bJ,bF,bE,bD],ann:=[],lent:=5,hid:=[((8,11),[0]),((14,12),[0])],pre:=[(some (0,3)),(some (0,4))]}
def I6 (x:Int×Int×Int×Int×Int×Int×Int×Bool×Int×A7):Option (Int×Bool×Int×A7):=if 0<=x.1/\x.1<(x.2.2.2.2.2.2.2.2.2.2.1.length:Int)then x.2.2.2.2.2.2.2.2.2.2.1[0+x.1.toNat]?.bind fun v=>x.2.2.2.2.2.2.2.2.2.2.1[0+x.1.toNat]?.bind fun a=>x.2.2.2.2.2.2.2.2.2.2.1[0+x.1.toNat]?.bind fun b=>(IA ((x.2.2.2.2.2.2.2.2.2.1,()),x.2.2.2.2.2.2.2.2.2.2.2.1,(v.1,v.2.1,v.2.2.1,v.2.2.2.1,v.2.2.2.2.1,v.2.2.2.2.2.1,v.2.2.2.2.2.2.1,a.2.2.2.2.2.2.2.1,b.2.2.2.2.2.2.2.2.1,()),x.2.2.2.2.1,())).bind fun c=>bif c.1==1 then(F6 (x.2.2.2.2.2.2.2.2.2.2.2.1,x.2.2.2.2.1,())).bind fun d=>(G4 (x.2.2.2.2.2.2.2.2.2.2.2.2.1,v.1,d.1,())).bind fun e=>bif e.1 then(Bi (x.1,x.2.2.2.2.2.2.2.1,x.2.2.2.2.2.2.2.2.1,x.2.2.2.2.2.2.2.2.2.1,x.2.2.2.2.2.2.2.2.2.2.1,x.2.2.2.2.2.2.2.2.2.2.2.1,x.2.2.2.2.2.2.2.2.2.2.2.2.1,())).bind fun v=>some (4,v.1,v.2.1,v.2.2.1,v.2.2.2.1,v.2.2.2.2.2.2.1,v.2.2.2.2.2.2.2.1,())else(Im (x.2.2.2.2.2.2.2.2.2.2.2.2.1,v.1,d.1,())).bind fun v=>some (c.1,x.2.2.2.2.2.2.2.1,x.2.2.2.2.2.2.2.2.1,x.2.2.2.2.2.2.2.2.2.1,x.2.2.2.2.2.2.2.2.2.2.1,x.2.2.2.2.2.2.2.2.2.2.2.1,v.2.1,())else bif c.1 != 0 then(Bi (x.1,x.2.2.2.2.2.2.2.1,x.2.2.2.2.2.2.2.2.1,x.2.2.2.2.2.2.2.2.2.1,x.2.2.2.2.2.2.2.2.2.2.1,x.2.2.2.2.2.2.2.2.2.2.2.1,x.2.2.2.2.2.2.2.2.2.2.2.2.1,())).bind fun v=>some (c.1,v.1,v.2.1,v.2.2.1,v.2.2.2.1,v.2.2.2.2.2.2.1,v.2.2.2.2.2.2.2.1,())else(I7 (v.2.1,())).bind fun d=>bif d.1 then(Hi (x.2.2.2.2.2.2.2.2.2.2.2.1,x.2.2.2.2.1,v.1,())).bind fun e=>x.2.2.2.2.2.2.2.2.2.2.1[0+x.1.toNat]?.bind fun f=>x.2.2.2.2.2.2.2.2.2.2.1[0+x.1.toNat]?.bind fun g=>(G5 ((x.2.2.2.2.2.2.2.2.2.1,()),(v.1,v.2.1,v.2.2.1,v.2.2.2.1,v.2.2.2.2.1,v.2.2.2.2.2.1,v.2.2.2.2.2.2.1,f.2.2.2.2.2.2.2.1,g.2.2.2.2.2.2.2.2.1,()),x.2.2.2.2.1,x.2.2.2.2.2.2.1,())).bind fun v=>if 0<=x.1/\x.1<(x.2.2.2.2.2.2.2.2.2.2.1.length:Int)then x.2.2.2.2.2.2.2.2.2.2.1[0+x.1.toNat]?.bind fun h=>some (0,x.2.2.2.2.2.2.2.1,x.2.2.2.2.2.2.2.2.1,x.2.2.2.2.2.2.2.2.2.1,x.2.2.2.2.2.2.2.2.2.2.1.set (0+x.1.toNat) (v.1,v.2.1,v.2.2.1,v.2.2.2.1,v.2.2.2.2.1,v.2.2.2.2.2.1,v.2.2.2.2.2.2.1,v.2.2.2.2.2.2.2.2.1,v.2.2.2.2.2.2.2.2.2.1,()),e.2.1,x.2.2.2.2.2.2.2.2.2.2.2.2.1,())else none else x.2.2.2.2.2.2.2.2.2.2.1[0+x.1.toNat]?.bind fun e=>x.2.2.2.2.2.2.2.2.2.2.1[0+x.1.toNat]?.bind fun f=>(G5 ((x.2.2.2.2.2.2.2.2.2.1,()),(v.1,v.2.1,v.2.2.1,v.2.2.2.1,v.2.2.2.2.1,v.2.2.2.2.2.1,v.2.2.2.2.2.2.1,e.2.2.2.2.2.2.2.1,f.2.2.2.2.2.2.2.2.1,()),x.2.2.2.2.1,x.2.2.2.2.2.2.1,())).bind fun v=>if 0<=x.1/\x.1<(x.2.2.2.2.2.2.2.2.2.2.1.length:Int)then x.2.2.2.2.2.2.2.2.2.2.1[0+x.1.toNat]?.bind fun g=>some (0,x.2.2.2.2.2.2.2.1,x.2.2.2.2.2.2.2.2.1,x.2.2.2.2.2.2.2.2.2.1,x.2.2.2.2.2.2.2.2.2.2.1.set (0+x.1.toNat) (v.1,v.2.1,v.2.2.1,v.2.2.2.1,v.2.2.2.2.1,v.2.2.2.2.2.1,v.2.2.2.2.2.2.1,v.2.2.2.2.2.2.2.2.1,v.2.2.2.2.2.2.2.2.2.1,()),x.2.2.2.2.2.2.2.2.2.2.2.1,x.2.2.2.2.2.2.2.2.2.2.2.2.1,())else none else none
def bC:Ent:=⟨57,⟨(.ptr 0 0 0 (.slot .i (.agg (si 6 .nil) .nil))),(.cells 6 (.slot .bool (.own 1 (.own 2 (.own 3 (.own 4 (.slot .i .nil)))))) (.tree false 0 (.slice Af) (.tree false 0 Ad (.lst false A0 (.lst false A0 .nil)))))⟩,⟨(.agg (.slot .i (.const (AV.nils) .nil)) .nil),(.cells 6 (.slot .bool (.own 1 (.own 2 (.own 5 (.own 6 (.slot .i .nil)))))) (.tree false 0 (.slice Af) (.tree false 1 Ad (.gone (.gone (.lst false A0 (.lst false A0 .nil)))))))⟩,I6⟩
theorem A9t:Ah Go.Proofs.Tryz.prog bC:=okA (C:=Acs) (hcB (all_cons Tq (all_cons Aa3 (all_cons Z8 (all_cons Aa0 (all_cons qE (all_cons A9z (all_cons A9y (all_cons A9u all_nil))))))))) Go.Proofs.Tryz.func57
abbrev pX:=List (List A2)×A3
abbrev pU:=Int×Unit
abbrev pV:=Unit ⊕ Unit ⊕ Unit
def BH (i:pX)(v:pU)(R:Type)(K:pU ⊕ pV->Option R):Option R:=bif decide (v.1<(i.2.2.2.2.2.2.2.2.2.1.length:Int))then(lAt i.2.2.2.2.2.2.2.2.2.1 v.1).bind fun a=>(lAt i.1 a.1).bind fun b=>(BE (b,())).bind fun c=>bif decide (c.2.2.1<=i.2.2.2.2.1)then K (.inl (IntKind.i64.wrap (v.1+1),()))else bif i.2.2.1==2 then K (.inr (.inl ()))else bif i.2.2.1==4 then K (.inr (.inr (.inl ())))else K (.inl (IntKind.i64.wrap (v.1+1),()))else K (.inr (.inr (.inr ())))
theorem ME:AX BH:=fun i v R K=>Ae (Ac fun _=>Ac fun _=>Ac fun _=>Ae (Aa) (Ae (Aa) (Ae (Aa) (Aa)))) (Aa)
def YZ:Tmpl:=⟨(jk 2 (.ptr 0 0 0 (.ptr 1 0 0 (.junk (.slot .i (jk 32 .nil)))))),(.cells 1 (.slot (.slice (.slice Af)) .nil) (.cells 9 (si 7 (.slot (.slice A0) (.slot (.slice A0) .nil))) .nil))⟩
def pT:Exs pX pV:=xs .ret (fun i p=>⟨jn 4 (.n (2)::jn 33 ([])),[some (Cont.cells 1 [[AV.pv (.slice (.slice Af)) i.1]]),some (Cont.cells 9 [[AV.pv .i i.2.1,AV.pv .i i.2.2.1,AV.pv .i i.2.2.2.1,AV.pv .i i.2.2.2.2.1,AV.pv .i i.2.2.2.2.2.1,AV.pv .i i.2.2.2.2.2.2.1,AV.pv .i i.2.2.2.2.2.2.2.1,AV.pv (.slice A0) i.2.2.2.2.2.2.2.2.1,AV.pv (.slice A0) i.2.2.2.2.2.2.2.2.2.1]])]⟩)<|xs .ret (fun i p=>⟨jn 4 (.n (3)::jn 33 ([])),[some (Cont.cells 1 [[AV.pv (.slice (.slice Af)) i.1]]),some (Cont.cells 9 [[AV.pv .i i.2.1,AV.pv .i i.2.2.1,AV.pv .i i.2.2.2.1,AV.pv .i i.2.2.2.2.1,AV.pv .i i.2.2.2.2.2.1,AV.pv .i i.2.2.2.2.2.2.1,AV.pv .i i.2.2.2.2.2.2.2.1,AV.pv (.slice A0) i.2.2.2.2.2.2.2.2.1,AV.pv (.slice A0) i.2.2.2.2.2.2.2.2.2.1]])]⟩)<|x1 (.exit 0) fun i p=>⟨jn 38 ([]),[some (Cont.cells 1 [[AV.pv (.slice (.slice Af)) i.1]]),some (Cont.cells 9 [[AV.pv .i i.2.1,AV.pv .i i.2.2.1,AV.pv .i i.2.2.2.1,AV.pv .i i.2.2.2.2.1,AV.pv .i i.2.2.2.2.2.1,AV.pv .i i.2.2.2.2.2.2.1,AV.pv .i i.2.2.2.2.2.2.2.1,AV.pv (.slice A0) i.2.2.2.2.2.2.2.2.1,AV.pv (.slice A0) i.2.2.2.2.2.2.2.2.2.1]])]⟩
def pW:=((.v (.i (.i (.i (.i (.i (.i (.i (.i (.i (.i .n))))))))))):Pk YZ.ty _ _)
def A7q:Cfg:={ti:=Ar,ents:=[bO,Ts],ann:=[(4,Ao YZ 0 (spP pW) BH pT.E)],lent:=0}
def Ia (x:A4×A3×Unit):Option (Int×Unit):=(GN ((x.1.1,()),(x.2.1.1,x.2.1.2.1,x.2.1.2.2.1,x.2.1.2.2.2.1,x.2.1.2.2.2.2.1,x.2.1.2.2.2.2.2.1,x.2.1.2.2.2.2.2.2.1,x.2.1.2.2.2.2.2.2.2.1,x.2.1.2.2.2.2.2.2.2.2.1,()),0,())).bind fun v=>bif !v.1 then some (6,())else(Ay (fun v=>BH (x.1.1,x.2.1.1,x.2.1.2.1,x.2.1.2.2.1,x.2.1.2.2.2.1,x.2.1.2.2.2.2.1,x.2.1.2.2.2.2.2.1,x.2.1.2.2.2.2.2.2.1,x.2.1.2.2.2.2.2.2.2.1,x.2.1.2.2.2.2.2.2.2.2.1,()) v _ some) (0,())).bind fun p=>Au p (fun p=>some (2,())) fun p=>Au p (fun p=>some (3,())) fun p=>some (0,())
def bB:Ent:=⟨115,⟨(.slot Bo (.slot Ad .nil)),.nil⟩,⟨(.slot .i .nil),.nil⟩,Ia⟩
theorem pY:CfgOK Go.Proofs.Tryz.prog A7q:=hcB (all_cons Ze (all_cons Rn all_nil))
theorem A0j:AP Go.Proofs.Tryz.prog A7q (lpc Go.Proofs.Tryz.f115 0):=lkA pY YZ pW BH pT [4] ME
theorem A9s:Ah Go.Proofs.Tryz.prog bB:=okB pY Go.Proofs.Tryz.func115 A0j
abbrev pR:=List (List A2)×A3
abbrev pL:=Int×Int×Unit
abbrev pN:=Int×Unit
def DV (i:pR)(v:pL)(R:Type)(K:pL ⊕ pN->Option R):Option R:=bif decide (v.2.1<(i.2.2.2.2.2.2.2.2.1.length:Int))then(lAt i.2.2.2.2.2.2.2.2.1 v.2.1).bind fun a=>K (.inl (mx v.1 a.2.1,IntKind.i64.wrap (v.2.1+1),()))else K (.inr (v.1,()))
theorem MC:AX DV:=fun i v R K=>Ae (Ac fun _=>Aa) (Aa)
def YX:Tmpl:=⟨(jk 2 (.ptr 0 0 0 (.ptr 1 0 0 (.junk (si 2 (jk 46 .nil)))))),(.cells 1 (.slot (.slice (.slice Af)) .nil) (.cells 9 (si 7 (.slot (.slice A0) (.slot (.slice A0) .nil))) .nil))⟩
def pJ:Exs pR pN:=x1 (.exit 0) fun i p=>⟨jn 2 (AV.ptr 0 none 0 0::AV.ptr 1 none 0 0::jn 1 (.n (p.1)::jn 47 ([]))),[some (Cont.cells 1 [[AV.pv (.slice (.slice Af)) i.1]]),some (Cont.cells 9 [[AV.pv .i i.2.1,AV.pv .i i.2.2.1,AV.pv .i i.2.2.2.1,AV.pv .i i.2.2.2.2.1,AV.pv .i i.2.2.2.2.2.1,AV.pv .i i.2.2.2.2.2.2.1,AV.pv .i i.2.2.2.2.2.2.2.1,AV.pv (.slice A0) i.2.2.2.2.2.2.2.2.1,AV.pv (.slice A0) i.2.2.2.2.2.2.2.2.2.1]])]⟩
def pP:=((.v (.v (.i (.i (.i (.i (.i (.i (.i (.i (.i (.i .n)))))))))))):Pk YX.ty _ _)
abbrev pQ:=List (List A2)×A3
abbrev pK:=Int×Int×Unit
abbrev pM:=Int×Unit
def D5 (i:pQ)(v:pK)(R:Type)(K:pK ⊕ pM->Option R):Option R:=bif decide (v.2.1<(i.2.2.2.2.2.2.2.2.2.1.length:Int))then(lAt i.2.2.2.2.2.2.2.2.2.1 v.2.1).bind fun a=>(lAt i.1 a.1).bind fun b=>(BE (b,())).bind fun c=>K (.inl (mx v.1 c.2.2.2.1,IntKind.i64.wrap (v.2.1+1),()))else K (.inr (v.1,()))
theorem MB:AX D5:=fun i v R K=>Ae (Ac fun _=>Ac fun _=>Ac fun _=>Aa) (Aa)
def YW:Tmpl:=⟨(jk 2 (.ptr 0 0 0 (.ptr 1 0 0 (.junk (.slot .i (.junk (.slot .i (jk 45 .nil)))))))),(.cells 1 (.slot (.slice (.slice Af)) .nil) (.cells 9 (si 7 (.slot (.slice A0) (.slot (.slice A0) .nil))) .nil))⟩
def pI:Exs pQ pM:=x1 (.exit 2) fun i p=>⟨jn 5 (.n (p.1)::jn 47 ([])),[some (Cont.cells 1 [[AV.pv (.slice (.slice Af)) i.1]]),some (Cont.cells 9 [[AV.pv .i i.2.1,AV.pv .i i.2.2.1,AV.pv .i i.2.2.2.1,AV.pv .i i.2.2.2.2.1,AV.pv .i i.2.2.2.2.2.1,AV.pv .i i.2.2.2.2.2.2.1,AV.pv .i i.2.2.2.2.2.2.2.1,AV.pv (.slice A0) i.2.2.2.2.2.2.2.2.1,AV.pv (.slice A0) i.2.2.2.2.2.2.2.2.2.1]])]⟩
def pO:=((.v (.v (.i (.i (.i (.i (.i (.i (.i (.i (.i (.i .n)))))))))))):Pk YW.ty _ _)
def pS:Cfg:={ti:=Ar,ents:=[PB,R7,Ts],ann:=[(5,Ao YX 0 (spP pP) DV pJ.E),(9,Ao YW 0 (spP pO) D5 pI.E)],lent:=0}
def I9 (x:A4×A3×Unit):Option (Int×Unit):=(Bs ((x.1.1,()),())).bind fun v=>bif !v.1 then some (0,())else(AO ((x.2.1.1,x.2.1.2.1,x.2.1.2.2.1,x.2.1.2.2.2.1,x.2.1.2.2.2.2.1,x.2.1.2.2.2.2.2.1,x.2.1.2.2.2.2.2.2.1,x.2.1.2.2.2.2.2.2.2.1,x.2.1.2.2.2.2.2.2.2.2.1,()),())).bind fun v=>bif !v.1 then some (0,())else(Ay (fun v=>DV (x.1.1,x.2.1.1,x.2.1.2.1,x.2.1.2.2.1,x.2.1.2.2.2.1,x.2.1.2.2.2.2.1,x.2.1.2.2.2.2.2.1,x.2.1.2.2.2.2.2.2.1,x.2.1.2.2.2.2.2.2.2.1,x.2.1.2.2.2.2.2.2.2.2.1,()) v _ some) (0,0,())).bind fun p=>(Ay (fun v=>D5 (x.1.1,x.2.1.1,x.2.1.2.1,x.2.1.2.2.1,x.2.1.2.2.2.1,x.2.1.2.2.2.2.1,x.2.1.2.2.2.2.2.1,x.2.1.2.2.2.2.2.2.1,x.2.1.2.2.2.2.2.2.2.1,x.2.1.2.2.2.2.2.2.2.2.1,()) v _ some) (p.1,0,())).bind fun p=>some (p.1,())
def A0i:Ent:=⟨224,⟨(.slot Bo (.slot Ad .nil)),.nil⟩,⟨(.slot .i .nil),.nil⟩,I9⟩
theorem YY:CfgOK Go.Proofs.Tryz.prog pS:=hcB (all_cons Pb (all_cons Pa (all_cons Rn all_nil)))
theorem A0g:AP Go.Proofs.Tryz.prog pS (lpc Go.Proofs.Tryz.f224 1):=lkA YY YW pO D5 pI [5] MB
theorem A0h:AP Go.Proofs.Tryz.prog pS (lpc Go.Proofs.Tryz.f224 0):=lkA YY YX pP DV pJ [2,3,5] MC
theorem A9r:Ah Go.Proofs.Tryz.prog A0i:=okC YY Go.Proofs.Tryz.func224 A0h A0g
abbrev pG:=List (List A2)×A3
abbrev pD:=Int×Int×Unit
abbrev pE:=Int×Unit
def DA (i:pG)(v:pD)(R:Type)(K:pD ⊕ pE->Option R):Option R:=bif decide (v.2.1<(i.2.2.2.2.2.2.2.2.1.length:Int))then(lAt i.2.2.2.2.2.2.2.2.1 v.2.1).bind fun a=>(lAt i.1 a.1).bind fun b=>(lAt i.2.2.2.2.2.2.2.2.1 v.2.1).bind fun c=>(DY (b,c.2.1,())).bind fun d=>(lAt b d.1).bind fun e=>K (.inl (mn v.1 e.2.2.2.2.1,IntKind.i64.wrap (v.2.1+1),()))else K (.inr (v.1,()))
theorem M3:AX DA:=fun i v R K=>Ae (Ac fun _=>Ac fun _=>Ac fun _=>Ac fun _=>Ac fun _=>Aa) (Aa)
def YV:Tmpl:=⟨(jk 2 (.ptr 0 0 0 (.ptr 1 0 0 (.junk (si 2 (jk 37 .nil)))))),(.cells 1 (.slot (.slice (.slice Af)) .nil) (.cells 9 (si 7 (.slot (.slice A0) (.slot (.slice A0) .nil))) .nil))⟩
def pC:Exs pG pE:=x1 (.exit 0) fun i p=>⟨jn 5 (.n (p.1)::jn 38 ([])),[some (Cont.cells 1 [[AV.pv (.slice (.slice Af)) i.1]]),some (Cont.cells 9 [[AV.pv .i i.2.1,AV.pv .i i.2.2.1,AV.pv .i i.2.2.2.1,AV.pv .i i.2.2.2.2.1,AV.pv .i i.2.2.2.2.2.1,AV.pv .i i.2.2.2.2.2.2.1,AV.pv .i i.2.2.2.2.2.2.2.1,AV.pv (.slice A0) i.2.2.2.2.2.2.2.2.1,AV.pv (.slice A0) i.2.2.2.2.2.2.2.2.2.1]])]⟩
def pF:=((.v (.v (.i (.i (.i (.i (.i (.i (.i (.i (.i (.i .n)))))))))))):Pk YV.ty _ _)
def A7p:Cfg:={ti:=Ar,ents:=[Tx,R6],ann:=[(5,Ao YV 0 (spP pF) DA pC.E)],lent:=0}
def Hf (x:A4×A3×Unit):Option (Int×Unit):=(Dq ((x.1.1,()),(x.2.1.1,x.2.1.2.1,x.2.1.2.2.1,x.2.1.2.2.2.1,x.2.1.2.2.2.2.1,x.2.1.2.2.2.2.2.1,x.2.1.2.2.2.2.2.2.1,x.2.1.2.2.2.2.2.2.2.1,x.2.1.2.2.2.2.2.2.2.2.1,()),())).bind fun v=>bif !v.1 then some (0,())else(Ay (fun v=>DA (x.1.1,x.2.1.1,x.2.1.2.1,x.2.1.2.2.1,x.2.1.2.2.2.1,x.2.1.2.2.2.2.1,x.2.1.2.2.2.2.2.1,x.2.1.2.2.2.2.2.2.1,x.2.1.2.2.2.2.2.2.2.1,x.2.1.2.2.2.2.2.2.2.2.1,()) v _ some) (1000,0,())).bind fun p=>some (p.1,())
def A0f:Ent:=⟨225,⟨(.slot Bo (.slot Ad .nil)),.nil⟩,⟨(.slot .i .nil),.nil⟩,Hf⟩
theorem pH:CfgOK Go.Proofs.Tryz.prog A7p:=hcB (all_cons Zj (all_cons Zl all_nil))
theorem A0e:AP Go.Proofs.Tryz.prog A7p (lpc Go.Proofs.Tryz.f225 0):=lkA pH YV pF DA pC [5] M3
theorem A9q:Ah Go.Proofs.Tryz.prog A0f:=okB pH Go.Proofs.Tryz.func225 A0e
def Fm (x:A4×A3×Int×Unit):Option (Int×Int×Bool×Unit):=(Dq ((x.1.1,()),(x.2.1.1,x.2.1.2.1,x.2.1.2.2.1,x.2.1.2.2.2.1,x.2.1.2.2.2.2.1,x.2.1.2.2.2.2.2.1,x.2.1.2.2.2.2.2.2.1,x.2.1.2.2.2.2.2.2.2.1,x.2.1.2.2.2.2.2.2.2.2.1,()),())).bind fun v=>bif !v.1 then some (0,0,false,())else bif x.2.1.2.2.1 != 1 then some (0,0,false,())else(GP ((x.1.1,()),())).bind fun v=>(Am (x.2.2.1,IntKind.i64.wrap (v.1+1),999,())).bind fun v=>bif !v.1 then some (0,0,false,())else(I9 ((x.1.1,()),(x.2.1.1,x.2.1.2.1,x.2.1.2.2.1,x.2.1.2.2.2.1,x.2.1.2.2.2.2.1,x.2.1.2.2.2.2.2.1,x.2.1.2.2.2.2.2.2.1,x.2.1.2.2.2.2.2.2.2.1,x.2.1.2.2.2.2.2.2.2.2.1,()),())).bind fun v=>(Hf ((x.1.1,()),(x.2.1.1,x.2.1.2.1,x.2.1.2.2.1,x.2.1.2.2.2.1,x.2.1.2.2.2.2.1,x.2.1.2.2.2.2.2.1,x.2.1.2.2.2.2.2.2.1,x.2.1.2.2.2.2.2.2.2.1,x.2.1.2.2.2.2.2.2.2.2.1,()),())).bind fun a=>some (mx x.2.1.2.2.2.2.1 v.1,mn (mn x.2.1.2.2.2.2.2.1 a.1) x.2.2.1,true,())
def Tn:Ent:=⟨180,⟨(.slot Bo (.slot Ad (.slot .i .nil))),.nil⟩,⟨(si 2 (.slot .bool .nil)),.nil⟩,Fm⟩
theorem pB:Ah Go.Proofs.Tryz.prog Tn:=okA (hcA 0 (all_cons Zj (all_cons sy (all_cons Jx (all_cons A9r (all_cons A9q all_nil)))))) Go.Proofs.Tryz.func180
abbrev pz:=List (List A2)×A3
abbrev pu:=Int×Unit
abbrev pw:=Unit ⊕ Unit
def Fk (i:pz)(v:pu)(R:Type)(K:pu ⊕ pw->Option R):Option R:=bif decide (v.1<(i.2.2.2.2.2.2.2.2.2.1.length:Int))then(lAt i.2.2.2.2.2.2.2.2.2.1 v.1).bind fun a=>(lAt i.1 a.1).bind fun b=>bif decide ((b.length:Int)>=50)then K (.inr (.inl ()))else K (.inl (IntKind.i64.wrap (v.1+1),()))else K (.inr (.inr ()))
theorem OY:AX Fk:=fun i v R K=>Ae (Ac fun _=>Ac fun _=>Ae (Aa) (Aa)) (Aa)
def YU:Tmpl:=⟨(jk 2 (.ptr 0 0 0 (.ptr 1 0 0 (.junk (.slot .i (jk 19 .nil)))))),(.cells 1 (.slot (.slice (.slice Af)) .nil) (.cells 9 (si 7 (.slot (.slice A0) (.slot (.slice A0) .nil))) .nil))⟩
def pt:Exs pz pw:=xs .ret (fun i p=>⟨jn 4 (.b (false)::jn 20 ([])),[some (Cont.cells 1 [[AV.pv (.slice (.slice Af)) i.1]]),some (Cont.cells 9 [[AV.pv .i i.2.1,AV.pv .i i.2.2.1,AV.pv .i i.2.2.2.1,AV.pv .i i.2.2.2.2.1,AV.pv .i i.2.2.2.2.2.1,AV.pv .i i.2.2.2.2.2.2.1,AV.pv .i i.2.2.2.2.2.2.2.1,AV.pv (.slice A0) i.2.2.2.2.2.2.2.2.1,AV.pv (.slice A0) i.2.2.2.2.2.2.2.2.2.1]])]⟩)<|x1 (.exit 0) fun i p=>⟨jn 25 ([]),[some (Cont.cells 1 [[AV.pv (.slice (.slice Af)) i.1]]),some (Cont.cells 9 [[AV.pv .i i.2.1,AV.pv .i i.2.2.1,AV.pv .i i.2.2.2.1,AV.pv .i i.2.2.2.2.1,AV.pv .i i.2.2.2.2.2.1,AV.pv .i i.2.2.2.2.2.2.1,AV.pv .i i.2.2.2.2.2.2.2.1,AV.pv (.slice A0) i.2.2.2.2.2.2.2.2.1,AV.pv (.slice A0) i.2.2.2.2.2.2.2.2.2.1]])]⟩
def px:=((.v (.i (.i (.i (.i (.i (.i (.i (.i (.i (.i .n))))))))))):Pk YU.ty _ _)
def A7o:Cfg:={ti:=Ar,ents:=[],ann:=[(2,Ao YU 0 (spP px) Fk pt.E)],lent:=0}
def Gt (x:A4×A3×Unit):Option (Bool×Unit):=(Ay (fun v=>Fk (x.1.1,x.2.1.1,x.2.1.2.1,x.2.1.2.2.1,x.2.1.2.2.2.1,x.2.1.2.2.2.2.1,x.2.1.2.2.2.2.2.1,x.2.1.2.2.2.2.2.2.1,x.2.1.2.2.2.2.2.2.2.1,x.2.1.2.2.2.2.2.2.2.2.1,()) v _ some) (0,())).bind fun p=>Au p (fun p=>some (false,())) fun p=>some (true,())
def Tm:Ent:=⟨181,⟨(.slot Bo (.slot Ad .nil)),.nil⟩,⟨(.slot .bool .nil),.nil⟩,Gt⟩
theorem pA:CfgOK Go.Proofs.Tryz.prog A7o:=hcB all_nil
theorem A0d:AP Go.Proofs.Tryz.prog A7o (lpc Go.Proofs.Tryz.f181 0):=lkA pA YU px Fk pt [4] OY
theorem py:Ah Go.Proofs.Tryz.prog Tm:=okB pA Go.Proofs.Tryz.func181 A0d
abbrev pq:=Int×Int×Int×Int×Int×Int×Int×Int×Int×List A1×List A1×Int×Int×Int×Int×Int×Int×Int×A3
abbrev pm:=Int×List (List A2)×Unit
abbrev pn:=List (List A2)×Unit
def Dn (i:pq)(v:pm)(R:Type)(K:pm ⊕ pn->Option R):Option R:=bif decide (v.1<(i.2.2.2.2.2.2.2.2.2.1.length:Int))then(lAt i.2.2.2.2.2.2.2.2.2.1 v.1).bind fun a=>if 0<=a.1/\a.1<(v.2.1.length:Int)then v.2.1[0+a.1.toNat]?.bind fun b=>(lAt i.2.2.2.2.2.2.2.2.2.1 v.1).bind fun c=>v.2.1[0+a.1.toNat]?.bind fun d=>(DY (d,c.2.1,())).bind fun e=>if 0<=a.1/\a.1<(v.2.1.length:Int)then v.2.1[0+a.1.toNat]?.bind fun f=>if 0<=a.1/\a.1<(v.2.1.length:Int)then v.2.1[0+a.1.toNat]?.bind fun g=>v.2.1[0+a.1.toNat]?.bind fun h=>if 0<=e.1/\e.1<(h.length:Int)then v.2.1[0+a.1.toNat]?.bind fun j=>j[0+e.1.toNat]?.bind fun k=>v.2.1[0+a.1.toNat]?.bind fun l=>if 0<=e.1/\e.1<(l.length:Int)then v.2.1[0+a.1.toNat]?.bind fun m=>m[0+e.1.toNat]?.bind fun n=>K (.inl (IntKind.i64.wrap (v.1+1),v.2.1.set (0+a.1.toNat) (m.set (0+e.1.toNat) (n.1,n.2.1,n.2.2.1,mx k.2.2.2.1 i.1,n.2.2.2.2.1,())),()))else none else none else none else none else none else K (.inr (v.2.1,()))
theorem N9:AX Dn:=fun i v R K=>Ae (Ac fun _=>Aq (Ac fun _=>Ac fun _=>Ac fun _=>Ac fun _=>Aq (Ac fun _=>Aq (Ac fun _=>Ac fun _=>Aq (Ac fun _=>Ac fun _=>Ac fun _=>Aq (Ac fun _=>Ac fun _=>Aa)))))) (Aa)
def YS:Tmpl:=⟨(jk 2 (.slot .i (.junk (.slot .i (.junk (.ptr 0 0 0 (jk 3 (.ptr 1 0 0 (.ptr 2 0 0 (.ptr 3 0 0 (.ptr 5 0 0 (.slot .i (jk 113 .nil))))))))))))),(.cells 9 (si 7 (.slot (.slice A0) (.slot (.slice A0) .nil))) (.cells 1 (.const (AV.nils) .nil) (.cells 9 (si 7 (.const (AV.nils) (.const (AV.nils) .nil))) (.cells 1 (.own 4 .nil) (.tree false 0 (.slice Af) (.cells 9 (si 7 (.own 6 (.own 7 .nil))) (.lst false A0 (.lst false A0 .nil))))))))⟩
def pl:Exs pq pn:=x1 (.exit 0) fun i p=>⟨jn 2 (.n (i.1)::jn 1 (.n (i.2.1)::jn 1 (AV.ptr 0 none 0 0::jn 3 (AV.ptr 1 none 0 0::AV.ptr 2 none 0 0::AV.ptr 3 none 0 0::AV.ptr 5 none 0 0::jn 114 ([]))))),[some (Cont.cells 9 [[AV.pv .i i.2.2.1,AV.pv .i i.2.2.2.1,AV.pv .i i.2.2.2.2.1,AV.pv .i i.2.2.2.2.2.1,AV.pv .i i.2.2.2.2.2.2.1,AV.pv .i i.2.2.2.2.2.2.2.1,AV.pv .i i.2.2.2.2.2.2.2.2.1,AV.pv (.slice A0) i.2.2.2.2.2.2.2.2.2.1,AV.pv (.slice A0) i.2.2.2.2.2.2.2.2.2.2.1]]),some (Cont.cells 1 [[AV.nils]]),some (Cont.cells 9 [[AV.pv .i i.2.2.2.2.2.2.2.2.2.2.2.1,AV.pv .i i.2.2.2.2.2.2.2.2.2.2.2.2.1,AV.pv .i i.2.2.2.2.2.2.2.2.2.2.2.2.2.1,AV.pv .i i.2.2.2.2.2.2.2.2.2.2.2.2.2.2.1,AV.pv .i i.2.2.2.2.2.2.2.2.2.2.2.2.2.2.2.1,AV.pv .i i.2.2.2.2.2.2.2.2.2.2.2.2.2.2.2.2.1,AV.pv (Ty.int IntKind.i64) i.2.2.2.2.2.2.2.2.2.2.2.2.2.2.2.2.2.1,AV.nils,AV.nils]]),some (Cont.cells 1 [[AV.own 4 none none]]),some (Cont.tree false 0 (.slice Af) p.1 none),some (Cont.cells 9 [[AV.pv .i i.2.2.2.2.2.2.2.2.2.2.2.2.2.2.2.2.2.2.1,AV.pv .i i.2.2.2.2.2.2.2.2.2.2.2.2.2.2.2.2.2.2.2.1,AV.pv .i i.2.2.2.2.2.2.2.2.2.2.2.2.2.2.2.2.2.2.2.2.1,AV.pv .i i.2.2.2.2.2.2.2.2.2.2.2.2.2.2.2.2.2.2.2.2.2.1,AV.pv .i i.2.2.2.2.2.2.2.2.2.2.2.2.2.2.2.2.2.2.2.2.2.2.1,AV.pv .i i.2.2.2.2.2.2.2.2.2.2.2.2.2.2.2.2.2.2.2.2.2.2.2.1,AV.pv .i i.2.2.2.2.2.2.2.2.2.2.2.2.2.2.2.2.2.2.2.2.2.2.2.2.1,AV.own 6 none none,AV.own 7 none none]]),some (Cont.lst false A0 i.2.2.2.2.2.2.2.2.2.2.2.2.2.2.2.2.2.2.2.2.2.2.2.2.2.1),some (Cont.lst false A0 i.2.2.2.2.2.2.2.2.2.2.2.2.2.2.2.2.2.2.2.2.2.2.2.2.2.2.1)]⟩
def po:=((.i (.i (.v (.i (.i (.i (.i (.i (.i (.i (.i (.i (.i (.i (.i (.i (.i (.i (.i (.v (.i (.i (.i (.i (.i (.i (.i (.i (.i .n))))))))))))))))))))))))))))):Pk YS.ty _ _)
abbrev bA:=Int×Int×Int×Int×Int×Int×Int×Int×Int×List A1×List A1×Int×Int×Int×Int×Int×Int×Int×A3
abbrev bw:=Int×List (List A2)×Unit
abbrev bx:=List (List A2)×Unit
def D4 (i:bA)(v:bw)(R:Type)(K:bw ⊕ bx->Option R):Option R:=bif decide (v.1<(i.2.2.2.2.2.2.2.2.2.2.1.length:Int))then(lAt i.2.2.2.2.2.2.2.2.2.2.1 v.1).bind fun a=>if 0<=a.1/\a.1<(v.2.1.length:Int)then v.2.1[0+a.1.toNat]?.bind fun b=>v.2.1[0+a.1.toNat]?.bind fun c=>if 0<=a.1/\a.1<(v.2.1.length:Int)then v.2.1[0+a.1.toNat]?.bind fun d=>v.2.1[0+a.1.toNat]?.bind fun e=>if 0<=IntKind.i64.wrap ((c.length:Int)-1)/\IntKind.i64.wrap ((c.length:Int)-1)<(e.length:Int)then v.2.1[0+a.1.toNat]?.bind fun f=>f[0+(IntKind.i64.wrap ((c.length:Int)-1)).toNat]?.bind fun g=>if 0<=a.1/\a.1<(↑((v.2.1.set (0+a.1.toNat) (f.set (0+(IntKind.i64.wrap ((c.length:Int)-1)).toNat) (g.1,g.2.1,g.2.2.1,g.2.2.2.1,i.2.1,()))).length):Int)then(v.2.1.set (0+a.1.toNat) (f.set (0+(IntKind.i64.wrap ((c.length:Int)-1)).toNat) (g.1,g.2.1,g.2.2.1,g.2.2.2.1,i.2.1,())))[0+a.1.toNat]?.bind fun h=>(lAt i.2.2.2.2.2.2.2.2.2.2.1 v.1).bind fun j=>(v.2.1.set (0+a.1.toNat) (f.set (0+(IntKind.i64.wrap ((c.length:Int)-1)).toNat) (g.1,g.2.1,g.2.2.1,g.2.2.2.1,i.2.1,())))[0+a.1.toNat]?.bind fun k=>if(k++[(i.2.2.1,j.2.1,i.1,i.1,1000,())]).length<=879609302220 then if 0<=a.1/\a.1<(↑((v.2.1.set (0+a.1.toNat) (f.set (0+(IntKind.i64.wrap ((c.length:Int)-1)).toNat) (g.1,g.2.1,g.2.2.1,g.2.2.2.1,i.2.1,()))).length):Int)then(v.2.1.set (0+a.1.toNat) (f.set (0+(IntKind.i64.wrap ((c.length:Int)-1)).toNat) (g.1,g.2.1,g.2.2.1,g.2.2.2.1,i.2.1,())))[0+a.1.toNat]?.bind fun l=>if 1<=1/\true=true/\0+a.1.toNat=0+a.1.toNat/\0<=0/\0<1 then K (.inl (IntKind.i64.wrap (v.1+1),(v.2.1.set (0+a.1.toNat) (f.set (0+(IntKind.i64.wrap ((c.length:Int)-1)).toNat) (g.1,g.2.1,g.2.2.1,g.2.2.2.1,i.2.1,()))).set (0+a.1.toNat) (k++[(i.2.2.1,j.2.1,i.1,i.1,1000,())]),()))else none else none else none else none else none else none else none else K (.inr (v.2.1,()))
theorem Mz:AX D4:=fun i v R K=>Ae (Ac fun _=>Aq (Ac fun _=>Ac fun _=>Aq (Ac fun _=>Ac fun _=>Aq (Ac fun _=>Ac fun _=>Aq (Ac fun _=>Ac fun _=>Ac fun _=>Aq (Aq (Ac fun _=>Aq (Aa)))))))) (Aa)
def Tk:Tmpl:=⟨(jk 2 (.slot .i (.junk (.slot .i (.junk (.ptr 0 0 0 (jk 3 (.ptr 1 0 0 (.ptr 2 0 0 (.ptr 3 0 0 (.ptr 5 0 0 (jk 3 (.slot .i (jk 110 .nil)))))))))))))),(.cells 9 (si 7 (.slot (.slice A0) (.slot (.slice A0) .nil))) (.cells 1 (.const (AV.nils) .nil) (.cells 9 (si 7 (.const (AV.nils) (.const (AV.nils) .nil))) (.cells 1 (.own 4 .nil) (.tree false 1 (.slice Af) (.cells 9 (si 7 (.own 6 (.own 7 .nil))) (.lst false A0 (.lst false A0 .nil))))))))⟩
def bv:Exs bA bx:=x1 (.exit 2) fun i p=>⟨jn 10 (AV.ptr 1 none 0 0::AV.ptr 2 none 0 0::AV.ptr 3 none 0 0::AV.ptr 5 none 0 0::jn 114 ([])),[some (Cont.cells 9 [[AV.pv .i i.2.2.1,AV.pv .i i.2.2.2.1,AV.pv .i i.2.2.2.2.1,AV.pv .i i.2.2.2.2.2.1,AV.pv .i i.2.2.2.2.2.2.1,AV.pv .i i.2.2.2.2.2.2.2.1,AV.pv .i i.2.2.2.2.2.2.2.2.1,AV.pv (.slice A0) i.2.2.2.2.2.2.2.2.2.1,AV.pv (.slice A0) i.2.2.2.2.2.2.2.2.2.2.1]]),some (Cont.cells 1 [[AV.nils]]),some (Cont.cells 9 [[AV.pv (Ty.int IntKind.i64) i.2.2.2.2.2.2.2.2.2.2.2.1,AV.pv .i i.2.2.2.2.2.2.2.2.2.2.2.2.1,AV.pv .i i.2.2.2.2.2.2.2.2.2.2.2.2.2.1,AV.pv .i i.2.2.2.2.2.2.2.2.2.2.2.2.2.2.1,AV.pv .i i.2.2.2.2.2.2.2.2.2.2.2.2.2.2.2.1,AV.pv .i i.2.2.2.2.2.2.2.2.2.2.2.2.2.2.2.2.1,AV.pv .i i.2.2.2.2.2.2.2.2.2.2.2.2.2.2.2.2.2.1,AV.nils,AV.nils]]),some (Cont.cells 1 [[AV.own 4 none none]]),some (Cont.tree false 1 (.slice Af) p.1 none),some (Cont.cells 9 [[AV.pv (Ty.int IntKind.i64) i.2.2.2.2.2.2.2.2.2.2.2.2.2.2.2.2.2.2.1,AV.pv .i i.2.2.2.2.2.2.2.2.2.2.2.2.2.2.2.2.2.2.2.1,AV.pv .i i.2.2.2.2.2.2.2.2.2.2.2.2.2.2.2.2.2.2.2.2.1,AV.pv .i i.2.2.2.2.2.2.2.2.2.2.2.2.2.2.2.2.2.2.2.2.2.1,AV.pv .i i.2.2.2.2.2.2.2.2.2.2.2.2.2.2.2.2.2.2.2.2.2.2.1,AV.pv .i i.2.2.2.2.2.2.2.2.2.2.2.2.2.2.2.2.2.2.2.2.2.2.2.1,AV.pv .i i.2.2.2.2.2.2.2.2.2.2.2.2.2.2.2.2.2.2.2.2.2.2.2.2.1,AV.own 6 none none,AV.own 7 none none]]),some (Cont.lst false A0 i.2.2.2.2.2.2.2.2.2.2.2.2.2.2.2.2.2.2.2.2.2.2.2.2.2.1),some (Cont.lst false A0 i.2.2.2.2.2.2.2.2.2.2.2.2.2.2.2.2.2.2.2.2.2.2.2.2.2.2.1)]⟩
def bz:=((.i (.i (.v (.i (.i (.i (.i (.i (.i (.i (.i (.i (.i (.i (.i (.i (.i (.i (.i (.v (.i (.i (.i (.i (.i (.i (.i (.i (.i .n))))))))))))))))))))))))))))):Pk Tk.ty _ _)
def pr:Cfg:={ti:=Ar,ents:=[TG,TE,R6],ann:=[(8,Ao YS 0 (spP po) Dn pl.E),(14,Ao Tk 0 (spP bz) D4 bv.E)],lent:=0,hid:=[((19,0),[4]),((19,1),[4]),((19,2),[4]),((20,1),[1])]}
def DT (x:A4×A3×B3):Option (Int×Int×Int×Int×Int×Int×Int×List (List A2)×A9):=(IY ((x.1.1,()),())).bind fun v=>(EZ ((x.2.1.1,x.2.1.2.1,x.2.1.2.2.1,x.2.1.2.2.2.1,x.2.1.2.2.2.2.1,x.2.1.2.2.2.2.2.1,x.2.1.2.2.2.2.2.2.1,x.2.1.2.2.2.2.2.2.2.1,x.2.1.2.2.2.2.2.2.2.2.1,()),())).bind fun a=>(Ay (fun v=>Dn (x.2.2.1,x.2.2.2.2.1,x.2.1.1,x.2.1.2.1,x.2.1.2.2.1,x.2.1.2.2.2.1,x.2.1.2.2.2.2.1,x.2.1.2.2.2.2.2.1,x.2.1.2.2.2.2.2.2.1,x.2.1.2.2.2.2.2.2.2.1,x.2.1.2.2.2.2.2.2.2.2.1,0,0,0,0,0,0,0,a.1,a.2.1,2,a.2.2.2.1,x.2.2.2.1,x.2.2.2.2.1,x.2.2.1,a.2.2.2.2.2.2.2.1,a.2.2.2.2.2.2.2.2.1,()) v _ some) (0,v.1,())).bind fun p=>(Ay (fun v=>D4 (x.2.2.1,x.2.2.2.2.1,x.2.1.1,x.2.1.2.1,x.2.1.2.2.1,x.2.1.2.2.2.1,x.2.1.2.2.2.2.1,x.2.1.2.2.2.2.2.1,x.2.1.2.2.2.2.2.2.1,x.2.1.2.2.2.2.2.2.2.1,x.2.1.2.2.2.2.2.2.2.2.1,0,0,0,0,0,0,0,a.1,a.2.1,2,a.2.2.2.1,x.2.2.2.1,x.2.2.2.2.1,x.2.2.1,a.2.2.2.2.2.2.2.1,a.2.2.2.2.2.2.2.2.1,()) v _ some) (0,p.1,())).bind fun p=>some (a.1,a.2.1,2,a.2.2.2.1,x.2.2.2.1,x.2.2.2.2.1,x.2.2.1,p.1,a.2.2.2.2.2.2.2.1,a.2.2.2.2.2.2.2.2.1,())
def Tl:Ent:=⟨182,⟨(.slot Bo (.slot Ad (si 3 .nil))),.nil⟩,⟨(.agg (.own 0 .nil) (.agg (si 7 (.own 1 (.own 2 .nil))) .nil)),(.tree false 1 (.slice Af) (.lst false A0 (.lst false A0 .nil)))⟩,DT⟩
theorem YT:CfgOK Go.Proofs.Tryz.prog pr:=hcB (all_cons tB (all_cons TD (all_cons Zl all_nil)))
theorem pk:AP Go.Proofs.Tryz.prog pr (lpc Go.Proofs.Tryz.f182 1):=lkA YT Tk bz D4 bv [10,11,12,13] Mz
theorem A0c:AP Go.Proofs.Tryz.prog pr (lpc Go.Proofs.Tryz.f182 0):=lkA YT YS po Dn pl [2,4,6,10,11,12,13] N9
theorem pp:Ah Go.Proofs.Tryz.prog Tl:=okC YT Go.Proofs.Tryz.func182 A0c pk
def Acr:Cfg:={ti:=Ar,ents:=[Tn,Tm,Tl],ann:=[],lent:=4,hid:=[((3,2),[6]),((5,1),[6])]}
def GB (x:Bool×Int×Int×Int×Int×Int×Int×Int×Int×Nat×Nat×A7):Option (Int×Int×Int×Int×Int×Int×Int×Nat×Nat×Bool×A7):=x.2.2.2.2.2.2.2.2.2.2.2.2.1[x.2.2.2.2.2.2.2.2.2.1]?.bind fun v=>x.2.2.2.2.2.2.2.2.2.2.2.2.1[x.2.2.2.2.2.2.2.2.2.2.1]?.bind fun a=>(Fm ((x.2.2.2.2.2.2.2.2.2.2.2.1,()),(x.2.2.1,x.2.2.2.1,x.2.2.2.2.1,x.2.2.2.2.2.1,x.2.2.2.2.2.2.1,x.2.2.2.2.2.2.2.1,x.2.2.2.2.2.2.2.2.1,v.2.2.2.2.2.2.2.1,a.2.2.2.2.2.2.2.2.1,()),IntKind.i64.wrap (x.2.1+1),())).bind fun v=>bif !v.2.2.1 then some (x.2.2.1,x.2.2.2.1,x.2.2.2.2.1,x.2.2.2.2.2.1,x.2.2.2.2.2.2.1,x.2.2.2.2.2.2.2.1,x.2.2.2.2.2.2.2.2.1,x.2.2.2.2.2.2.2.2.2.1,x.2.2.2.2.2.2.2.2.2.2.1,false,x.2.2.2.2.2.2.2.2.2.2.2.1,x.2.2.2.2.2.2.2.2.2.2.2.2.1,x.2.2.2.2.2.2.2.2.2.2.2.2.2.1,x.2.2.2.2.2.2.2.2.2.2.2.2.2.2.1,())else bif x.1 then bif decide (v.2.1<=v.1)then some (x.2.2.1,x.2.2.2.1,x.2.2.2.2.1,x.2.2.2.2.2.1,x.2.2.2.2.2.2.1,x.2.2.2.2.2.2.2.1,x.2.2.2.2.2.2.2.2.1,x.2.2.2.2.2.2.2.2.2.1,x.2.2.2.2.2.2.2.2.2.2.1,false,x.2.2.2.2.2.2.2.2.2.2.2.1,x.2.2.2.2.2.2.2.2.2.2.2.2.1,x.2.2.2.2.2.2.2.2.2.2.2.2.2.1,x.2.2.2.2.2.2.2.2.2.2.2.2.2.2.1,())else x.2.2.2.2.2.2.2.2.2.2.2.2.1[x.2.2.2.2.2.2.2.2.2.1]?.bind fun b=>x.2.2.2.2.2.2.2.2.2.2.2.2.1[x.2.2.2.2.2.2.2.2.2.2.1]?.bind fun c=>(Gt ((x.2.2.2.2.2.2.2.2.2.2.2.1,()),(x.2.2.1,x.2.2.2.1,x.2.2.2.2.1,x.2.2.2.2.2.1,x.2.2.2.2.2.2.1,x.2.2.2.2.2.2.2.1,x.2.2.2.2.2.2.2.2.1,b.2.2.2.2.2.2.2.1,c.2.2.2.2.2.2.2.2.1,()),())).bind fun d=>bif !d.1 then some (x.2.2.1,x.2.2.2.1,x.2.2.2.2.1,x.2.2.2.2.2.1,x.2.2.2.2.2.2.1,x.2.2.2.2.2.2.2.1,x.2.2.2.2.2.2.2.2.1,x.2.2.2.2.2.2.2.2.2.1,x.2.2.2.2.2.2.2.2.2.2.1,false,x.2.2.2.2.2.2.2.2.2.2.2.1,x.2.2.2.2.2.2.2.2.2.2.2.2.1,x.2.2.2.2.2.2.2.2.2.2.2.2.2.1,x.2.2.2.2.2.2.2.2.2.2.2.2.2.2.1,())else x.2.2.2.2.2.2.2.2.2.2.2.2.1[x.2.2.2.2.2.2.2.2.2.1]?.bind fun e=>x.2.2.2.2.2.2.2.2.2.2.2.2.1[x.2.2.2.2.2.2.2.2.2.2.1]?.bind fun f=>(DT ((x.2.2.2.2.2.2.2.2.2.2.2.1,()),(x.2.2.1,x.2.2.2.1,x.2.2.2.2.1,x.2.2.2.2.2.1,x.2.2.2.2.2.2.1,x.2.2.2.2.2.2.2.1,x.2.2.2.2.2.2.2.2.1,e.2.2.2.2.2.2.2.1,f.2.2.2.2.2.2.2.2.1,()),IntKind.i64.wrap (x.2.1+1),v.1,v.2.1,())).bind fun v=>none else x.2.2.2.2.2.2.2.2.2.2.2.2.1[x.2.2.2.2.2.2.2.2.2.1]?.bind fun b=>x.2.2.2.2.2.2.2.2.2.2.2.2.1[x.2.2.2.2.2.2.2.2.2.2.1]?.bind fun c=>(Gt ((x.2.2.2.2.2.2.2.2.2.2.2.1,()),(x.2.2.1,x.2.2.2.1,x.2.2.2.2.1,x.2.2.2.2.2.1,x.2.2.2.2.2.2.1,x.2.2.2.2.2.2.2.1,x.2.2.2.2.2.2.2.2.1,b.2.2.2.2.2.2.2.1,c.2.2.2.2.2.2.2.2.1,()),())).bind fun d=>bif !d.1 then some (x.2.2.1,x.2.2.2.1,x.2.2.2.2.1,x.2.2.2.2.2.1,x.2.2.2.2.2.2.1,x.2.2.2.2.2.2.2.1,x.2.2.2.2.2.2.2.2.1,x.2.2.2.2.2.2.2.2.2.1,x.2.2.2.2.2.2.2.2.2.2.1,false,x.2.2.2.2.2.2.2.2.2.2.2.1,x.2.2.2.2.2.2.2.2.2.2.2.2.1,x.2.2.2.2.2.2.2.2.2.2.2.2.2.1,x.2.2.2.2.2.2.2.2.2.2.2.2.2.2.1,())else x.2.2.2.2.2.2.2.2.2.2.2.2.1[x.2.2.2.2.2.2.2.2.2.1]?.bind fun e=>x.2.2.2.2.2.2.2.2.2.2.2.2.1[x.2.2.2.2.2.2.2.2.2.2.1]?.bind fun f=>(DT ((x.2.2.2.2.2.2.2.2.2.2.2.1,()),(x.2.2.1,x.2.2.2.1,x.2.2.2.2.1,x.2.2.2.2.2.1,x.2.2.2.2.2.2.1,x.2.2.2.2.2.2.2.1,x.2.2.2.2.2.2.2.2.1,e.2.2.2.2.2.2.2.1,f.2.2.2.2.2.2.2.2.1,()),IntKind.i64.wrap (x.2.1+1),v.1,v.2.1,())).bind fun v=>none
def bu:Ent:=⟨116,⟨(.agg (.slot .bool (.own 0 (.own 1 (.own 2 (.own 3 (.slot .i .nil)))))) (.agg (si 7 (.nown 1 7 (.nown 1 8 .nil))) .nil)),(.tree false 0 (.slice Af) (.tree false 0 Ad (.lst false A0 (.lst false A0 .nil))))⟩,⟨(.agg (.own 0 .nil) (.agg (si 7 (.nown 1 7 (.nown 1 8 .nil))) (.slot .bool .nil))),(.tree false 0 (.slice Af) (.tree false 0 Ad (.lst false A0 (.lst false A0 .nil))))⟩,GB⟩
theorem A9p:Ah Go.Proofs.Tryz.prog bu:=okA (C:=Acr) (hcB (all_cons pB (all_cons py (all_cons pp all_nil)))) Go.Proofs.Tryz.func116
def Acp:Cfg:={ti:=Ar,ents:=[Tn,Tm,Tl],ann:=[],lent:=4,hid:=[((3,2),[6]),((5,1),[6])]}
def Fv (x:Bool×Int×Int×Int×Int×Int×Int×Int×Int×Nat×Nat×A7):Option (Int×Int×Int×Int×Int×Int×Int×Bool×List (List A2)×List A3×List A1×List A1×List (List A2)×A9):=x.2.2.2.2.2.2.2.2.2.2.2.2.1[x.2.2.2.2.2.2.2.2.2.1]?.bind fun v=>x.2.2.2.2.2.2.2.2.2.2.2.2.1[x.2.2.2.2.2.2.2.2.2.2.1]?.bind fun a=>(Fm ((x.2.2.2.2.2.2.2.2.2.2.2.1,()),(x.2.2.1,x.2.2.2.1,x.2.2.2.2.1,x.2.2.2.2.2.1,x.2.2.2.2.2.2.1,x.2.2.2.2.2.2.2.1,x.2.2.2.2.2.2.2.2.1,v.2.2.2.2.2.2.2.1,a.2.2.2.2.2.2.2.2.1,()),IntKind.i64.wrap (x.2.1+1),())).bind fun v=>bif !v.2.2.1 then none else bif x.1 then bif decide (v.2.1<=v.1)then none else x.2.2.2.2.2.2.2.2.2.2.2.2.1[x.2.2.2.2.2.2.2.2.2.1]?.bind fun b=>x.2.2.2.2.2.2.2.2.2.2.2.2.1[x.2.2.2.2.2.2.2.2.2.2.1]?.bind fun c=>(Gt ((x.2.2.2.2.2.2.2.2.2.2.2.1,()),(x.2.2.1,x.2.2.2.1,x.2.2.2.2.1,x.2.2.2.2.2.1,x.2.2.2.2.2.2.1,x.2.2.2.2.2.2.2.1,x.2.2.2.2.2.2.2.2.1,b.2.2.2.2.2.2.2.1,c.2.2.2.2.2.2.2.2.1,()),())).bind fun d=>bif !d.1 then none else x.2.2.2.2.2.2.2.2.2.2.2.2.1[x.2.2.2.2.2.2.2.2.2.1]?.bind fun e=>x.2.2.2.2.2.2.2.2.2.2.2.2.1[x.2.2.2.2.2.2.2.2.2.2.1]?.bind fun f=>(DT ((x.2.2.2.2.2.2.2.2.2.2.2.1,()),(x.2.2.1,x.2.2.2.1,x.2.2.2.2.1,x.2.2.2.2.2.1,x.2.2.2.2.2.2.1,x.2.2.2.2.2.2.2.1,x.2.2.2.2.2.2.2.2.1,e.2.2.2.2.2.2.2.1,f.2.2.2.2.2.2.2.2.1,()),IntKind.i64.wrap (x.2.1+1),v.1,v.2.1,())).bind fun v=>some (v.1,v.2.1,v.2.2.1,v.2.2.2.1,v.2.2.2.2.1,v.2.2.2.2.2.1,v.2.2.2.2.2.2.1,true,x.2.2.2.2.2.2.2.2.2.2.2.1,x.2.2.2.2.2.2.2.2.2.2.2.2.1,x.2.2.2.2.2.2.2.2.2.2.2.2.2.1,x.2.2.2.2.2.2.2.2.2.2.2.2.2.2.1,v.2.2.2.2.2.2.2.1,v.2.2.2.2.2.2.2.2.1,v.2.2.2.2.2.2.2.2.2.1,())else x.2.2.2.2.2.2.2.2.2.2.2.2.1[x.2.2.2.2.2.2.2.2.2.1]?.bind fun b=>x.2.2.2.2.2.2.2.2.2.2.2.2.1[x.2.2.2.2.2.2.2.2.2.2.1]?.bind fun c=>(Gt ((x.2.2.2.2.2.2.2.2.2.2.2.1,()),(x.2.2.1,x.2.2.2.1,x.2.2.2.2.1,x.2.2.2.2.2.1,x.2.2.2.2.2.2.1,x.2.2.2.2.2.2.2.1,x.2.2.2.2.2.2.2.2.1,b.2.2.2.2.2.2.2.1,c.2.2.2.2.2.2.2.2.1,()),())).bind fun d=>bif !d.1 then none else x.2.2.2.2.2.2.2.2.2.2.2.2.1[x.2.2.2.2.2.2.2.2.2.1]?.bind fun e=>x.2.2.2.2.2.2.2.2.2.2.2.2.1[x.2.2.2.2.2.2.2.2.2.2.1]?.bind fun f=>(DT ((x.2.2.2.2.2.2.2.2.2.2.2.1,()),(x.2.2.1,x.2.2.2.1,x.2.2.2.2.1,x.2.2.2.2.2.1,x.2.2.2.2.2.2.1,x.2.2.2.2.2.2.2.1,x.2.2.2.2.2.2.2.2.1,e.2.2.2.2.2.2.2.1,f.2.2.2.2.2.2.2.2.1,()),IntKind.i64.wrap (x.2.1+1),v.1,v.2.1,())).bind fun v=>some (v.1,v.2.1,v.2.2.1,v.2.2.2.1,v.2.2.2.2.1,v.2.2.2.2.2.1,v.2.2.2.2.2.2.1,true,x.2.2.2.2.2.2.2.2.2.2.2.1,x.2.2.2.2.2.2.2.2.2.2.2.2.1,x.2.2.2.2.2.2.2.2.2.2.2.2.2.1,x.2.2.2.2.2.2.2.2.2.2.2.2.2.2.1,v.2.2.2.2.2.2.2.1,v.2.2.2.2.2.2.2.2.1,v.2.2.2.2.2.2.2.2.2.1,())
def bt:Ent:=⟨116,⟨(.agg (.slot .bool (.own 0 (.own 1 (.own 2 (.own 3 (.slot .i .nil)))))) (.agg (si 7 (.nown 1 7 (.nown 1 8 .nil))) .nil)),(.tree false 0 (.slice Af) (.tree false 0 Ad (.lst false A0 (.lst false A0 .nil))))⟩,⟨(.agg (.own 4 .nil) (.agg (si 7 (.own 5 (.own 6 .nil))) (.slot .bool .nil))),(.tree false 0 (.slice Af) (.tree false 0 Ad (.lst false A0 (.lst false A0 (.tree false 1 (.slice Af) (.lst false A0 (.lst false A0 .nil)))))))⟩,Fv⟩
theorem A9n:Ah Go.Proofs.Tryz.prog bt:=okA (C:=Acp) (hcB (all_cons pB (all_cons py (all_cons pp all_nil)))) Go.Proofs.Tryz.func116
def Aco:Cfg:={ti:=Ar,ents:=[bu,bt,PA,bB],ann:=[],lent:=5,pre:=[(some (0,1)),(some (0,3)),(some (0,4))],two:=[116]}
def He (x:Int×Bool×Int×A7):Option (Int×Bool×Int×List A3×List (List A2)×A9):=if 0<=x.1/\x.1<(x.2.2.2.2.1.length:Int)then x.2.2.2.2.1[0+x.1.toNat]?.bind fun v=>x.2.2.2.2.1[0+x.1.toNat]?.bind fun a=>x.2.2.2.2.1[0+x.1.toNat]?.bind fun b=>(Ia ((x.2.2.2.1,()),(v.1,v.2.1,v.2.2.1,v.2.2.2.1,v.2.2.2.2.1,v.2.2.2.2.2.1,v.2.2.2.2.2.2.1,a.2.2.2.2.2.2.2.1,b.2.2.2.2.2.2.2.2.1,()),())).bind fun c=>bif c.1==0 then bif x.2.2.1==999 then some (6,x.2.1,x.2.2.1,x.2.2.2.2.1,x.2.2.2.1,x.2.2.2.2.2.1,x.2.2.2.2.2.2.1,())else bif c.1==0 then Sl (GB (x.2.1,x.2.2.1,v.1,v.2.1,v.2.2.1,v.2.2.2.1,v.2.2.2.2.1,v.2.2.2.2.2.1,v.2.2.2.2.2.2.1,0+x.1.toNat,0+x.1.toNat,x.2.2.2.1,x.2.2.2.2.1,x.2.2.2.2.2.1,x.2.2.2.2.2.2.1,())) (fun v=>bif v.2.2.2.2.2.2.2.2.2.1 then if 0<=x.1/\x.1<(v.2.2.2.2.2.2.2.2.2.2.2.1.length:Int)then v.2.2.2.2.2.2.2.2.2.2.2.1[0+x.1.toNat]?.bind fun v=>none else none else(Bi (x.1,x.2.1,x.2.2.1,v.2.2.2.2.2.2.2.2.2.2.1,v.2.2.2.2.2.2.2.2.2.2.2.1,v.2.2.2.2.2.2.2.2.2.2.2.2.1,v.2.2.2.2.2.2.2.2.2.2.2.2.2.1,())).bind fun v=>some (5,v.1,v.2.1,v.2.2.2.1,v.2.2.1,v.2.2.2.2.2.2.1,v.2.2.2.2.2.2.2.1,())) ((Fv (x.2.1,x.2.2.1,v.1,v.2.1,v.2.2.1,v.2.2.2.1,v.2.2.2.2.1,v.2.2.2.2.2.1,v.2.2.2.2.2.2.1,0+x.1.toNat,0+x.1.toNat,x.2.2.2.1,x.2.2.2.2.1,x.2.2.2.2.2.1,x.2.2.2.2.2.2.1,())).bind fun v=>bif v.2.2.2.2.2.2.2.1 then if 0<=x.1/\x.1<(v.2.2.2.2.2.2.2.2.2.1.length:Int)then v.2.2.2.2.2.2.2.2.2.1[0+x.1.toNat]?.bind fun d=>(Bi (x.1,x.2.1,IntKind.i64.wrap (x.2.2.1+1),v.2.2.2.2.2.2.2.2.2.2.2.2.1,v.2.2.2.2.2.2.2.2.2.1.set (0+x.1.toNat) (v.1,v.2.1,v.2.2.1,v.2.2.2.1,v.2.2.2.2.1,v.2.2.2.2.2.1,v.2.2.2.2.2.2.1,v.2.2.2.2.2.2.2.2.2.2.2.2.2.1,v.2.2.2.2.2.2.2.2.2.2.2.2.2.2.1,()),v.2.2.2.2.2.2.2.2.2.2.1,v.2.2.2.2.2.2.2.2.2.2.2.1,())).bind fun v=>some (c.1,v.1,v.2.1,v.2.2.2.1,v.2.2.1,v.2.2.2.2.2.2.1,v.2.2.2.2.2.2.2.1,())else none else(Bi (x.1,x.2.1,x.2.2.1,v.2.2.2.2.2.2.2.2.1,v.2.2.2.2.2.2.2.2.2.1,v.2.2.2.2.2.2.2.2.2.2.1,v.2.2.2.2.2.2.2.2.2.2.2.1,())).bind fun v=>some (5,v.1,v.2.1,v.2.2.2.1,v.2.2.1,v.2.2.2.2.2.2.1,v.2.2.2.2.2.2.2.1,()))else(Bi (x.1,x.2.1,x.2.2.1,x.2.2.2.1,x.2.2.2.2.1,x.2.2.2.2.2.1,x.2.2.2.2.2.2.1,())).bind fun v=>some (c.1,v.1,v.2.1,v.2.2.2.1,v.2.2.1,v.2.2.2.2.2.2.1,v.2.2.2.2.2.2.2.1,())else bif c.1==0 then Sl (GB (x.2.1,x.2.2.1,v.1,v.2.1,v.2.2.1,v.2.2.2.1,v.2.2.2.2.1,v.2.2.2.2.2.1,v.2.2.2.2.2.2.1,0+x.1.toNat,0+x.1.toNat,x.2.2.2.1,x.2.2.2.2.1,x.2.2.2.2.2.1,x.2.2.2.2.2.2.1,())) (fun v=>bif v.2.2.2.2.2.2.2.2.2.1 then if 0<=x.1/\x.1<(v.2.2.2.2.2.2.2.2.2.2.2.1.length:Int)then v.2.2.2.2.2.2.2.2.2.2.2.1[0+x.1.toNat]?.bind fun v=>none else none else(Bi (x.1,x.2.1,x.2.2.1,v.2.2.2.2.2.2.2.2.2.2.1,v.2.2.2.2.2.2.2.2.2.2.2.1,v.2.2.2.2.2.2.2.2.2.2.2.2.1,v.2.2.2.2.2.2.2.2.2.2.2.2.2.1,())).bind fun v=>some (5,v.1,v.2.1,v.2.2.2.1,v.2.2.1,v.2.2.2.2.2.2.1,v.2.2.2.2.2.2.2.1,())) ((Fv (x.2.1,x.2.2.1,v.1,v.2.1,v.2.2.1,v.2.2.2.1,v.2.2.2.2.1,v.2.2.2.2.2.1,v.2.2.2.2.2.2.1,0+x.1.toNat,0+x.1.toNat,x.2.2.2.1,x.2.2.2.2.1,x.2.2.2.2.2.1,x.2.2.2.2.2.2.1,())).bind fun v=>bif v.2.2.2.2.2.2.2.1 then if 0<=x.1/\x.1<(v.2.2.2.2.2.2.2.2.2.1.length:Int)then v.2.2.2.2.2.2.2.2.2.1[0+x.1.toNat]?.bind fun d=>(Bi (x.1,x.2.1,IntKind.i64.wrap (x.2.2.1+1),v.2.2.2.2.2.2.2.2.2.2.2.2.1,v.2.2.2.2.2.2.2.2.2.1.set (0+x.1.toNat) (v.1,v.2.1,v.2.2.1,v.2.2.2.1,v.2.2.2.2.1,v.2.2.2.2.2.1,v.2.2.2.2.2.2.1,v.2.2.2.2.2.2.2.2.2.2.2.2.2.1,v.2.2.2.2.2.2.2.2.2.2.2.2.2.2.1,()),v.2.2.2.2.2.2.2.2.2.2.1,v.2.2.2.2.2.2.2.2.2.2.2.1,())).bind fun v=>some (c.1,v.1,v.2.1,v.2.2.2.1,v.2.2.1,v.2.2.2.2.2.2.1,v.2.2.2.2.2.2.2.1,())else none else(Bi (x.1,x.2.1,x.2.2.1,v.2.2.2.2.2.2.2.2.1,v.2.2.2.2.2.2.2.2.2.1,v.2.2.2.2.2.2.2.2.2.2.1,v.2.2.2.2.2.2.2.2.2.2.2.1,())).bind fun v=>some (5,v.1,v.2.1,v.2.2.2.1,v.2.2.1,v.2.2.2.2.2.2.1,v.2.2.2.2.2.2.2.1,()))else(Bi (x.1,x.2.1,x.2.2.1,x.2.2.2.1,x.2.2.2.2.1,x.2.2.2.2.2.1,x.2.2.2.2.2.2.1,())).bind fun v=>some (c.1,v.1,v.2.1,v.2.2.2.1,v.2.2.1,v.2.2.2.2.2.2.1,v.2.2.2.2.2.2.2.1,())else none
def bq:Ent:=⟨58,⟨(.ptr 0 0 0 (.slot .i .nil)),(.cells 6 (.slot .bool (.own 1 (.own 2 (.own 3 (.own 4 (.slot .i .nil)))))) (.tree false 0 (.slice Af) (.tree false 0 Ad (.lst false A0 (.lst false A0 .nil)))))⟩,⟨(.agg (.slot .i (.const (AV.nils) .nil)) .nil),(.cells 6 (.slot .bool (.own 5 (.own 2 (.own 6 (.own 7 (.slot .i .nil)))))) (.gone (.tree false 1 Ad (.gone (.gone (.tree false 1 (.slice Af) (.lst false A0 (.lst false A0 .nil))))))))⟩,He⟩
theorem A9m:Ah Go.Proofs.Tryz.prog bq:=okA (C:=Aco) (hcB (all_cons A9p (all_cons A9n (all_cons Tq (all_cons A9s all_nil))))) Go.Proofs.Tryz.func58
abbrev bo:=Int×Int×Int×Int×Int×Int×Bool×Int×Int×Bool×Int×List (List A2)×List A3×List A1×List A1×Int×A6
abbrev bl:=Int×Unit
abbrev bm:=Int×Unit ⊕ Int×Unit
def Dz (i:bo)(v:bl)(R:Type)(K:bl ⊕ bm->Option R):Option R:=bif decide (v.1<(i.2.2.2.2.2.2.2.2.2.2.2.2.1.length:Int))then if 0<=v.1/\v.1<(i.2.2.2.2.2.2.2.2.2.2.2.2.1.length:Int)then i.2.2.2.2.2.2.2.2.2.2.2.2.1[0+v.1.toNat]?.bind fun a=>bif decide (a.1<i.2.1)then K (.inl (IntKind.i64.wrap (v.1+1),()))else K (.inr (.inl (v.1,())))else none else K (.inr (.inr (v.1,())))
theorem M2:AX Dz:=fun i v R K=>Ae (Aq (Ac fun _=>Ae (Aa) (Aa))) (Aa)
def Tj:Tmpl:=⟨(jk 3 (.ptr 0 0 0 (.ptr 1 0 0 (.ptr 2 0 0 (.ptr 3 0 0 (jk 2 (.ptr 8 0 0 (.junk (.slot .i (jk 137 .nil)))))))))),(.cells 6 (si 6 .nil) (.cells 6 (.slot .bool (.const (AV.nils) (.const (AV.nils) (.const (AV.nils) (.const (AV.nils) (.slot .i .nil)))))) (.cells 2 (.slot .i (.const (AV.nils) .nil)) (.cells 6 (.slot .bool (.own 4 (.own 5 (.own 6 (.own 7 (.slot .i .nil)))))) (.tree false 0 (.slice Af) (.tree false 0 Ad (.lst false A0 (.lst false A0 (.cells 9 (si 7 (.const (AV.nils) (.const (AV.nils) .nil))) .nil)))))))))⟩
def bk:Exs bo bm:=xs (.exit 0) (fun i p=>⟨jn 4 (AV.ptr 1 none 0 0::AV.ptr 2 none 0 0::AV.ptr 3 none 0 0::jn 2 (AV.ptr 8 none 0 0::jn 1 (.n (p.1)::jn 137 ([])))),[some (Cont.cells 6 [[AV.pv .i i.1,AV.pv .i i.2.1,AV.pv (Ty.int IntKind.i64) i.2.2.1,AV.pv .i i.2.2.2.1,AV.pv .i i.2.2.2.2.1,AV.pv .i i.2.2.2.2.2.1]]),some (Cont.cells 6 [[AV.pv .bool i.2.2.2.2.2.2.1,AV.nils,AV.nils,AV.nils,AV.nils,AV.pv .i i.2.2.2.2.2.2.2.1]]),some (Cont.cells 2 [[AV.pv .i i.2.2.2.2.2.2.2.2.1,AV.nils]]),some (Cont.cells 6 [[AV.pv .bool i.2.2.2.2.2.2.2.2.2.1,AV.own 4 none none,AV.own 5 none none,AV.own 6 none none,AV.own 7 none none,AV.pv .i i.2.2.2.2.2.2.2.2.2.2.1]]),some (Cont.tree false 0 (.slice Af) i.2.2.2.2.2.2.2.2.2.2.2.1 none),some (Cont.tree false 0 Ad i.2.2.2.2.2.2.2.2.2.2.2.2.1 none),some (Cont.lst false A0 i.2.2.2.2.2.2.2.2.2.2.2.2.2.1),some (Cont.lst false A0 i.2.2.2.2.2.2.2.2.2.2.2.2.2.2.1),some (Cont.cells 9 [[AV.pv .i i.2.2.2.2.2.2.2.2.2.2.2.2.2.2.2.1,AV.pv .i i.2.2.2.2.2.2.2.2.2.2.2.2.2.2.2.2.1,AV.pv .i i.2.2.2.2.2.2.2.2.2.2.2.2.2.2.2.2.2.1,AV.pv .i i.2.2.2.2.2.2.2.2.2.2.2.2.2.2.2.2.2.2.1,AV.pv .i i.2.2.2.2.2.2.2.2.2.2.2.2.2.2.2.2.2.2.2.1,AV.pv .i i.2.2.2.2.2.2.2.2.2.2.2.2.2.2.2.2.2.2.2.2.1,AV.pv .i i.2.2.2.2.2.2.2.2.2.2.2.2.2.2.2.2.2.2.2.2.2.1,AV.nils,AV.nils]])]⟩)<|x1 (.exit 0) fun i p=>⟨jn 4 (AV.ptr 1 none 0 0::AV.ptr 2 none 0 0::AV.ptr 3 none 0 0::jn 2 (AV.ptr 8 none 0 0::jn 1 (.n (p.1)::jn 137 ([])))),[some (Cont.cells 6 [[AV.pv .i i.1,AV.pv .i i.2.1,AV.pv (Ty.int IntKind.i64) i.2.2.1,AV.pv .i i.2.2.2.1,AV.pv .i i.2.2.2.2.1,AV.pv .i i.2.2.2.2.2.1]]),some (Cont.cells 6 [[AV.pv .bool i.2.2.2.2.2.2.1,AV.nils,AV.nils,AV.nils,AV.nils,AV.pv .i i.2.2.2.2.2.2.2.1]]),some (Cont.cells 2 [[AV.pv .i i.2.2.2.2.2.2.2.2.1,AV.nils]]),some (Cont.cells 6 [[AV.pv .bool i.2.2.2.2.2.2.2.2.2.1,AV.own 4 none none,AV.own 5 none none,AV.own 6 none none,AV.own 7 none none,AV.pv .i i.2.2.2.2.2.2.2.2.2.2.1]]),some (Cont.tree false 0 (.slice Af) i.2.2.2.2.2.2.2.2.2.2.2.1 none),some (Cont.tree false 0 Ad i.2.2.2.2.2.2.2.2.2.2.2.2.1 none),some (Cont.lst false A0 i.2.2.2.2.2.2.2.2.2.2.2.2.2.1),some (Cont.lst false A0 i.2.2.2.2.2.2.2.2.2.2.2.2.2.2.1),some (Cont.cells 9 [[AV.pv .i i.2.2.2.2.2.2.2.2.2.2.2.2.2.2.2.1,AV.pv .i i.2.2.2.2.2.2.2.2.2.2.2.2.2.2.2.2.1,AV.pv .i i.2.2.2.2.2.2.2.2.2.2.2.2.2.2.2.2.2.1,AV.pv .i i.2.2.2.2.2.2.2.2.2.2.2.2.2.2.2.2.2.2.1,AV.pv .i i.2.2.2.2.2.2.2.2.2.2.2.2.2.2.2.2.2.2.2.1,AV.pv .i i.2.2.2.2.2.2.2.2.2.2.2.2.2.2.2.2.2.2.2.2.1,AV.pv .i i.2.2.2.2.2.2.2.2.2.2.2.2.2.2.2.2.2.2.2.2.2.1,AV.nils,AV.nils]])]⟩
def bn:=((.v (.i (.i (.i (.i (.i (.i (.i (.i (.i (.i (.i (.i (.i (.i (.i (.i (.i (.i (.i (.i (.i (.i .n))))))))))))))))))))))):Pk Tj.ty _ _)
def A7n:Cfg:={ti:=Ar,ents:=[Tp,bL,bC,bq,PA,TC,ci,ca,Tt,bR,bQ],ann:=[(11,Ao Tj 0 (spP bn) Dz bk.E)],lent:=0,hid:=[((5,1),[2]),((8,1),[2]),((16,1),[2]),((32,1),[2])],gho:=[(13,[5])]}
def I8 (x:A5×A6×Unit):Option (Bool×Int×Int×List (List A2)×List A3×List A1×List A1×List Int×Unit):=(Il ((x.1.1,(x.1.2.1.1,()),x.1.2.2.1,x.1.2.2.2.1,x.1.2.2.2.2.1,x.1.2.2.2.2.2.1,()),())).bind fun v=>(Ds ((x.1.1,(x.1.2.1.1,()),x.1.2.2.1,x.1.2.2.2.1,x.1.2.2.2.2.1,x.1.2.2.2.2.2.1,()),x.2.1.2.1,())).bind fun a=>(Ea ((x.1.1,(x.1.2.1.1,()),x.1.2.2.1,x.1.2.2.2.1,x.1.2.2.2.2.1,x.1.2.2.2.2.2.1,()),())).bind fun b=>bif !b.1 then some (v.1,v.2.1,6,v.2.2.1,v.2.2.2.1,v.2.2.2.2.1,v.2.2.2.2.2.1,[],())else(DX ((x.2.1.1,x.2.1.2.1,x.2.1.2.2.1,x.2.1.2.2.2.1,x.2.1.2.2.2.2.1,x.2.1.2.2.2.2.2.1,()),())).bind fun c=>bif !c.1 then some (v.1,v.2.1,6,v.2.2.1,v.2.2.2.1,v.2.2.2.2.1,v.2.2.2.2.2.1,[],())else bif !(x.2.1.1==1)==decide (a.1<0)then some (v.1,v.2.1,6,v.2.2.1,v.2.2.2.1,v.2.2.2.2.1,v.2.2.2.2.2.1,[],())else bif x.2.1.1==1 then bif (x.1.2.2.1.length:Int)==6 then some (v.1,v.2.1,6,v.2.2.1,v.2.2.2.1,v.2.2.2.2.1,v.2.2.2.2.2.1,[],())else(Fx (x.2.1.2.1,x.2.1.2.2.1,x.1.2.2.2.2.2.1,())).bind fun d=>(Ay (fun e=>Dz (x.2.1.1,x.2.1.2.1,x.2.1.2.2.1,x.2.1.2.2.2.1,x.2.1.2.2.2.2.1,x.2.1.2.2.2.2.2.1,false,0,0,v.1,v.2.1,v.2.2.1,v.2.2.2.1,v.2.2.2.2.1,v.2.2.2.2.2.1,d.1,d.2.1,d.2.2.1,d.2.2.2.1,d.2.2.2.2.1,d.2.2.2.2.2.1,d.2.2.2.2.2.2.1,()) e _ some) (0,())).bind fun p=>Au p (fun p=>if(0:Int)<=0/\0<=p.1/\p.1<=(v.2.2.2.1.length:Int)then if(D3 v.2.2.2.1 (some (0,p.1.toNat-Int.toNat 0))).length<=338311270084 then if(D3 v.2.2.2.1 (some (0,p.1.toNat-Int.toNat 0))++[(d.1,d.2.1,d.2.2.1,d.2.2.2.1,d.2.2.2.2.1,d.2.2.2.2.2.1,d.2.2.2.2.2.2.1,[],[],())]).length<=338311270084 then if 0<=p.1/\p.1<=(v.2.2.2.1.length:Int)/\(v.2.2.2.1.length:Int)<=(v.2.2.2.1.length:Int)then if(D3 v.2.2.2.1 (some (0,p.1.toNat-Int.toNat 0))++[(d.1,d.2.1,d.2.2.1,d.2.2.2.1,d.2.2.2.2.1,d.2.2.2.2.2.1,d.2.2.2.2.2.2.1,[],[],())]++D3 v.2.2.2.1 (some (0+p.1.toNat,(v.2.2.2.1.length:Int).toNat-p.1.toNat))).length<=338311270084 then some (v.1,v.2.1,0,v.2.2.1,D3 v.2.2.2.1 (some (0,p.1.toNat-Int.toNat 0))++[(d.1,d.2.1,d.2.2.1,d.2.2.2.1,d.2.2.2.2.1,d.2.2.2.2.2.1,d.2.2.2.2.2.2.1,[],[],())]++D3 v.2.2.2.1 (some (0+p.1.toNat,(v.2.2.2.1.length:Int).toNat-p.1.toNat)),v.2.2.2.2.1,v.2.2.2.2.2.1,[],())else none else none else none else none else none) fun p=>if(0:Int)<=0/\0<=p.1/\p.1<=(v.2.2.2.1.length:Int)then if(D3 v.2.2.2.1 (some (0,p.1.toNat-Int.toNat 0))).length<=338311270084 then if(D3 v.2.2.2.1 (some (0,p.1.toNat-Int.toNat 0))++[(d.1,d.2.1,d.2.2.1,d.2.2.2.1,d.2.2.2.2.1,d.2.2.2.2.2.1,d.2.2.2.2.2.2.1,[],[],())]).length<=338311270084 then if 0<=p.1/\p.1<=(v.2.2.2.1.length:Int)/\(v.2.2.2.1.length:Int)<=(v.2.2.2.1.length:Int)then if(D3 v.2.2.2.1 (some (0,p.1.toNat-Int.toNat 0))++[(d.1,d.2.1,d.2.2.1,d.2.2.2.1,d.2.2.2.2.1,d.2.2.2.2.2.1,d.2.2.2.2.2.2.1,[],[],())]++D3 v.2.2.2.1 (some (0+p.1.toNat,(v.2.2.2.1.length:Int).toNat-p.1.toNat))).length<=338311270084 then some (v.1,v.2.1,0,v.2.2.1,D3 v.2.2.2.1 (some (0,p.1.toNat-Int.toNat 0))++[(d.1,d.2.1,d.2.2.1,d.2.2.2.1,d.2.2.2.2.1,d.2.2.2.2.2.1,d.2.2.2.2.2.2.1,[],[],())]++D3 v.2.2.2.1 (some (0+p.1.toNat,(v.2.2.2.1.length:Int).toNat-p.1.toNat)),v.2.2.2.2.1,v.2.2.2.2.2.1,[],())else none else none else none else none else none else(lAt x.1.2.2.1 a.1).bind fun d=>bif d.2.2.1 != 1 then some (v.1,v.2.1,6,v.2.2.1,v.2.2.2.1,v.2.2.2.2.1,v.2.2.2.2.2.1,[],())else(Jv (v.2.2.2.2.2.1,x.2.1.2.1,())).bind fun e=>bif x.2.1.1==2 then(GM (a.1,x.2.1.2.2.2.1,v.1,v.2.1,v.2.2.1,v.2.2.2.1,v.2.2.2.2.1,e.1,())).bind fun v=>bif v.2.1==0 then some (v.2.2.1,v.2.2.2.1,v.2.1,v.2.2.2.2.1,v.2.2.2.2.2.1,v.2.2.2.2.2.2.1,v.2.2.2.2.2.2.2.1,[v.1],())else some (v.2.2.1,v.2.2.2.1,v.2.1,v.2.2.2.2.1,v.2.2.2.2.2.1,v.2.2.2.2.2.2.1,v.2.2.2.2.2.2.2.1,[],())else bif x.2.1.1==4 then(K1 (a.1,x.2.1.2.2.2.1,x.2.1.2.2.2.2.1,v.1,v.2.1,v.2.2.1,v.2.2.2.1,v.2.2.2.2.1,e.1,())).bind fun v=>some (v.2.1,v.2.2.1,v.1,v.2.2.2.1,v.2.2.2.2.1,v.2.2.2.2.2.1,v.2.2.2.2.2.2.1,v.2.2.2.2.2.2.2.1,())else bif x.2.1.1==3 then(I6 (a.1,x.2.1.1,x.2.1.2.1,x.2.1.2.2.1,x.2.1.2.2.2.1,x.2.1.2.2.2.2.1,x.2.1.2.2.2.2.2.1,v.1,v.2.1,v.2.2.1,v.2.2.2.1,v.2.2.2.2.1,e.1,())).bind fun v=>some (v.2.1,v.2.2.1,v.1,v.2.2.2.1,v.2.2.2.2.1,v.2.2.2.2.2.1,v.2.2.2.2.2.2.1,[],())else bif x.2.1.1==5 then(He (a.1,v.1,v.2.1,v.2.2.1,v.2.2.2.1,v.2.2.2.2.1,e.1,())).bind fun v=>some (v.2.1,v.2.2.1,v.1,v.2.2.2.2.1,v.2.2.2.1,v.2.2.2.2.2.1,v.2.2.2.2.2.2.1,[],())else(Bi (a.1,v.1,v.2.1,v.2.2.1,v.2.2.2.1,v.2.2.2.2.1,e.1,())).bind fun v=>some (v.1,v.2.1,0,v.2.2.1,v.2.2.2.1,v.2.2.2.2.2.2.1,v.2.2.2.2.2.2.2.1,[],())
def bp:Ent:=⟨10,⟨(.slot Bz (.slot YOp .nil)),.nil⟩,⟨(.agg (.slot .bool (.own 0 (.own 1 (.own 2 (.own 3 (.slot .i .nil)))))) (.agg (.slot .i (.own 4 .nil)) .nil)),(.tree false 1 (.slice Af) (.lst false Ad (.lst false A0 (.lst false A0 (.lst false .i .nil)))))⟩,I8⟩
theorem pj:CfgOK Go.Proofs.Tryz.prog A7n:=hcB (all_cons qU (all_cons Aa4 (all_cons A9t (all_cons A9m (all_cons Tq (all_cons tm (all_cons td (all_cons rP (all_cons rI (all_cons Aaf (all_cons Aae all_nil)))))))))))
theorem pi:AP Go.Proofs.Tryz.prog A7n (lpc Go.Proofs.Tryz.f10 0):=lkA pj Tj bn Dz bk [4,5,6,9,11] M2
theorem A9l:Ah Go.Proofs.Tryz.prog bp:=okB pj Go.Proofs.Tryz.func10 pi
def Dk (x:List A2×Unit):Option (List A2×Unit):=bif x.1.length==0 then Sr (some ([],())) (if x.1.length<=879609302220 then some (x.1,())else none)else if x.1.length<=879609302220 then some (x.1,())else none
def bj:Ent:=⟨186,⟨(.slot (.slice Af) .nil),.nil⟩,⟨(.own 0 .nil),(.lst false Af .nil)⟩,Dk⟩
theorem A9k:Ah Go.Proofs.Tryz.prog bj:=okA (hcA 0 all_nil) Go.Proofs.Tryz.func186
abbrev pg:=List (List A2)×Int×Unit
abbrev pd:=Int×List (List A2)×Unit
abbrev pe:=List (List A2)×Unit
def Dh (i:pg)(v:pd)(R:Type)(K:pd ⊕ pe->Option R):Option R:=bif decide (v.1<i.2.1)then(lAt i.1 v.1).bind fun a=>(Dk (a,())).bind fun b=>if(v.2.1++[b.1]).length<=1466015503701 then K (.inl (IntKind.i64.wrap (v.1+1),v.2.1++[b.1],()))else none else K (.inr (v.2.1,()))
theorem LU:AX Dh:=fun i v R K=>Ae (Ac fun _=>Ac fun _=>Aq (Aa)) (Aa)
def YR:Tmpl:=⟨(jk 2 (.ptr 0 0 0 (.ptr 1 0 0 (jk 4 (.slot (.slice (.slice Af)) (si 2 (jk 12 .nil))))))),(.cells 1 (.const (AV.nils) .nil) (.cells 1 (.own 2 .nil) (.tree false 0 (.slice Af) .nil)))⟩
def pc:Exs pg pe:=x1 (.exit 0) fun i p=>⟨jn 2 (AV.ptr 0 none 0 0::AV.ptr 1 none 0 0::jn 19 ([])),[some (Cont.cells 1 [[AV.nils]]),some (Cont.cells 1 [[AV.own 2 none none]]),some (Cont.tree false 0 (.slice Af) p.1 none)]⟩
def pf:=((.i (.i (.v (.v .n)))):Pk YR.ty _ _)
def A7m:Cfg:={ti:=Ar,ents:=[bj],ann:=[(3,Ao YR 0 (spP pf) Dh pc.E)],lent:=0}
def GG (x:A4×Unit):Option A4:=(Ay (fun v=>Dh (x.1.1,(x.1.1.length:Int),()) v _ some) (0,[],())).bind fun p=>some (p.1,())
def bi:Ent:=⟨123,⟨(.slot Bo .nil),.nil⟩,⟨(.agg (.own 0 .nil) .nil),(.tree false 0 (.slice Af) .nil)⟩,GG⟩
theorem ph:CfgOK Go.Proofs.Tryz.prog A7m:=hcB (all_cons A9k all_nil)
theorem A0b:AP Go.Proofs.Tryz.prog A7m (lpc Go.Proofs.Tryz.f123 0):=lkA ph YR pf Dh pc [2,3] LU
theorem A9j:Ah Go.Proofs.Tryz.prog bi:=okB ph Go.Proofs.Tryz.func123 A0b
def Ci (x:List A1×Unit):Option (List A1×Unit):=bif x.1.length==0 then Sr (some ([],())) (if x.1.length<=2199023255552 then some (x.1,())else none)else if x.1.length<=2199023255552 then some (x.1,())else none
def bh:Ent:=⟨124,⟨(.slot (.slice A0) .nil),.nil⟩,⟨(.own 0 .nil),(.lst false A0 .nil)⟩,Ci⟩
theorem YQ:Ah Go.Proofs.Tryz.prog bh:=okA (hcA 0 all_nil) Go.Proofs.Tryz.func124
def BJ (x:List A1×Unit):Option (List A1×Unit):=bif x.1.length==0 then Sr (some ([],())) (if x.1.length<=2199023255552 then some (x.1,())else none)else if x.1.length<=2199023255552 then some (x.1,())else none
def Ti:Ent:=⟨125,⟨(.slot (.slice A0) .nil),.nil⟩,⟨(.own 0 .nil),(.lst false A0 .nil)⟩,BJ⟩
theorem Th:Ah Go.Proofs.Tryz.prog Ti:=okA (hcA 0 all_nil) Go.Proofs.Tryz.func125
def Ce (x:List A1×Unit):Option (List A1×Unit):=bif x.1.length==0 then Sr (some ([],())) (if x.1.length<=2199023255552 then some (x.1,())else none)else if x.1.length<=2199023255552 then some (x.1,())else none
def bg:Ent:=⟨187,⟨(.slot (.slice A0) .nil),.nil⟩,⟨(.own 0 .nil),(.lst false A0 .nil)⟩,Ce⟩
theorem pb:Ah Go.Proofs.Tryz.prog bg:=okA (hcA 0 all_nil) Go.Proofs.Tryz.func187
def CK (x:List A1×Unit):Option (List A1×Unit):=bif x.1.length==0 then Sr (some ([],())) (if x.1.length<=2199023255552 then some (x.1,())else none)else if x.1.length<=2199023255552 then some (x.1,())else none
def bf:Ent:=⟨188,⟨(.slot (.slice A0) .nil),.nil⟩,⟨(.own 0 .nil),(.lst false A0 .nil)⟩,CK⟩
theorem pa:Ah Go.Proofs.Tryz.prog bf:=okA (hcA 0 all_nil) Go.Proofs.Tryz.func188
def DP (x:A3×Unit):Option A3:=(Ce (x.1.2.2.2.2.2.2.2.1,())).bind fun v=>(CK (x.1.2.2.2.2.2.2.2.2.1,())).bind fun a=>some (x.1.1,x.1.2.1,x.1.2.2.1,x.1.2.2.2.1,x.1.2.2.2.2.1,x.1.2.2.2.2.2.1,x.1.2.2.2.2.2.2.1,v.1,a.1,())
def bd:Ent:=⟨126,⟨(.slot Ad .nil),.nil⟩,⟨(.agg (si 7 (.own 0 (.own 1 .nil))) .nil),(.lst false A0 (.lst false A0 .nil))⟩,DP⟩
theorem A9i:Ah Go.Proofs.Tryz.prog bd:=okA (hcA 0 (all_cons pb (all_cons pa all_nil))) Go.Proofs.Tryz.func126
abbrev p8:=List A3×Int×Bool×Int×Bool×Int×List (List A2)×A9
abbrev p5:=Int×List A3×Unit
abbrev p6:=List A3×Unit
def D0 (i:p8)(v:p5)(R:Type)(K:p5 ⊕ p6->Option R):Option R:=bif decide (v.1<i.2.1)then(lAt i.1 v.1).bind fun a=>(DP ((a.1,a.2.1,a.2.2.1,a.2.2.2.1,a.2.2.2.2.1,a.2.2.2.2.2.1,a.2.2.2.2.2.2.1,a.2.2.2.2.2.2.2.1,a.2.2.2.2.2.2.2.2.1,()),())).bind fun b=>if(v.2.1++[(b.1,b.2.1,b.2.2.1,b.2.2.2.1,b.2.2.2.2.1,b.2.2.2.2.2.1,b.2.2.2.2.2.2.1,b.2.2.2.2.2.2.2.1,b.2.2.2.2.2.2.2.2.1,())]).length<=338311270084 then K (.inl (IntKind.i64.wrap (v.1+1),v.2.1++[(b.1,b.2.1,b.2.2.1,b.2.2.2.1,b.2.2.2.2.1,b.2.2.2.2.2.1,b.2.2.2.2.2.2.1,b.2.2.2.2.2.2.2.1,b.2.2.2.2.2.2.2.2.1,())],()))else none else K (.inr (v.2.1,()))
theorem Lw:AX D0:=fun i v R K=>Ae (Ac fun _=>Ac fun _=>Aq (Aa)) (Aa)
def YP:Tmpl:=⟨(jk 2 (.ptr 0 0 0 (.ptr 1 0 0 (jk 17 (.slot (.slice Ad) (si 2 (jk 12 .nil))))))),(.cells 6 (.slot .bool (.const (AV.nils) (.const (AV.nils) (.const (AV.nils) (.const (AV.nils) (.slot .i .nil)))))) (.cells 6 (.slot .bool (.own 2 (.own 5 (.own 3 (.own 4 (.slot .i .nil)))))) (.tree false 0 (.slice Af) (.lst false A0 (.lst false A0 (.tree false 0 Ad .nil))))))⟩
def p4:Exs p8 p6:=x1 (.exit 0) fun i p=>⟨jn 2 (AV.ptr 0 none 0 0::AV.ptr 1 none 0 0::jn 32 ([])),[some (Cont.cells 6 [[AV.pv .bool i.2.2.1,AV.nils,AV.nils,AV.nils,AV.nils,AV.pv .i i.2.2.2.1]]),some (Cont.cells 6 [[AV.pv .bool i.2.2.2.2.1,AV.own 2 none none,AV.own 5 none none,AV.own 3 none none,AV.own 4 none none,AV.pv .i i.2.2.2.2.2.1]]),some (Cont.tree false 0 (.slice Af) i.2.2.2.2.2.2.1 none),some (Cont.lst false A0 i.2.2.2.2.2.2.2.1),some (Cont.lst false A0 i.2.2.2.2.2.2.2.2.1),some (Cont.tree false 0 Ad p.1 none)]⟩
def p7:=((.i (.i (.v (.i (.i (.i (.i (.i (.i (.i (.v .n))))))))))):Pk YP.ty _ _)
def A7l:Cfg:={ti:=Ar,ents:=[bi,bh,Ti,bd],ann:=[(3,Ao YP 0 (spP p7) D0 p4.E)],lent:=0}
def Gq (x:A5×Unit):Option (Bool×Int×A7):=(GG ((x.1.2.1.1,()),())).bind fun v=>(Ci (x.1.2.2.2.1,())).bind fun a=>(BJ (x.1.2.2.2.2.1,())).bind fun b=>(Ay (fun c=>D0 (x.1.2.2.1,(x.1.2.2.1.length:Int),false,0,x.1.1,x.1.2.2.2.2.2.1,v.1,a.1,b.1,()) c _ some) (0,[],())).bind fun p=>some (x.1.1,x.1.2.2.2.2.2.1,v.1,p.1,a.1,b.1,())
def bc:Ent:=⟨64,⟨(.slot Bz .nil),.nil⟩,⟨(.agg (.slot .bool (.own 0 (.own 1 (.own 2 (.own 3 (.slot .i .nil)))))) .nil),(.tree false 0 (.slice Af) (.tree false 0 Ad (.lst false A0 (.lst false A0 .nil))))⟩,Gq⟩
theorem p9:CfgOK Go.Proofs.Tryz.prog A7l:=hcB (all_cons A9j (all_cons YQ (all_cons Th (all_cons A9i all_nil))))
theorem A0a:AP Go.Proofs.Tryz.prog A7l (lpc Go.Proofs.Tryz.f64 0):=lkA p9 YP p7 D0 p4 [2,3] Lw
theorem A9g:Ah Go.Proofs.Tryz.prog bc:=okB p9 Go.Proofs.Tryz.func64 A0a
def BB (x:B3):Option (Bool×Unit):=bif decide (x.2.1<=x.1)then some (decide (x.1<=x.2.2.1),())else some (false,())
def Tg:Ent:=⟨130,⟨(si 3 .nil),.nil⟩,⟨(.slot .bool .nil),.nil⟩,BB⟩
theorem L7:Ah Go.Proofs.Tryz.prog Tg:=okA (hcA 0 all_nil) Go.Proofs.Tryz.func130
def GV (x:Int×Unit):Option (Bool×Unit):=(BB (x.1,-1,99,())).bind fun v=>some (v.1,())
def bb:Ent:=⟨140,⟨(.slot .i .nil),.nil⟩,⟨(.slot .bool .nil),.nil⟩,GV⟩
theorem YO:Ah Go.Proofs.Tryz.prog bb:=okA (hcA 0 (all_cons L7 all_nil)) Go.Proofs.Tryz.func140
def BG (x:Int×Unit):Option (Bool×Unit):=(BB (x.1,1,9,())).bind fun v=>some (v.1,())
def R5:Ent:=⟨141,⟨(.slot .i .nil),.nil⟩,⟨(.slot .bool .nil),.nil⟩,BG⟩
theorem NI:Ah Go.Proofs.Tryz.prog R5:=okA (hcA 0 (all_cons L7 all_nil)) Go.Proofs.Tryz.func141
def FF (x:A2×Unit):Option (Bool×Unit):=(GV (x.1.2.1,())).bind fun v=>bif !v.1 then some (false,())else(BB (x.1.2.2.1,0,999,())).bind fun v=>bif !v.1 then some (false,())else(BB (x.1.2.2.2.1,x.1.2.2.1,999,())).bind fun v=>bif !v.1 then some (false,())else(BB (x.1.2.2.2.2.1,1,1000,())).bind fun v=>bif !v.1 then some (false,())else bif x.1.2.2.1==0 then bif x.1.1==0 then some (x.1.2.1==-1,())else some (false,())else(BG (x.1.1,())).bind fun v=>some (v.1,())
def ba:Ent:=⟨230,⟨(.slot Af .nil),.nil⟩,⟨(.slot .bool .nil),.nil⟩,FF⟩
theorem A9f:Ah Go.Proofs.Tryz.prog ba:=okA (hcA 0 (all_cons YO (all_cons L7 (all_cons NI all_nil)))) Go.Proofs.Tryz.func230
abbrev p0:=List A2×List A2×Int×Unit
abbrev oX:=Int×Unit
abbrev oY:=A2 ⊕ A2 ⊕ A2 ⊕ Unit
def Di (i:p0)(v:oX)(R:Type)(K:oX ⊕ oY->Option R):Option R:=bif decide (v.1<i.2.2.1)then(lAt i.2.1 v.1).bind fun a=>(FF ((a.1,a.2.1,a.2.2.1,a.2.2.2.1,a.2.2.2.2.1,()),())).bind fun b=>bif !b.1 then K (.inr (.inl (a.1,a.2.1,a.2.2.1,a.2.2.2.1,a.2.2.2.2.1,())))else bif decide (v.1>0)then(lAt i.1 (IntKind.i64.wrap (v.1-1))).bind fun c=>bif decide (c.2.2.1>=a.2.2.1)then K (.inr (.inr (.inl (a.1,a.2.1,a.2.2.1,a.2.2.2.1,a.2.2.2.2.1,()))))else(lAt i.1 (IntKind.i64.wrap (v.1-1))).bind fun d=>bif decide (d.2.2.2.2.1>a.2.2.1)then K (.inr (.inr (.inr (.inl (a.1,a.2.1,a.2.2.1,a.2.2.2.1,a.2.2.2.2.1,())))))else K (.inl (IntKind.i64.wrap (v.1+1),()))else K (.inl (IntKind.i64.wrap (v.1+1),()))else K (.inr (.inr (.inr (.inr ()))))
theorem LV:AX Di:=fun i v R K=>Ae (Ac fun _=>Ac fun _=>Ae (Aa) (Ae (Ac fun _=>Ae (Aa) (Ac fun _=>Ae (Aa) (Aa))) (Aa))) (Aa)
def YN:Tmpl:=⟨(.slot (.slice Af) (jk 4 (.slot (.slice Af) (si 2 (jk 47 .nil))))),.nil⟩
def oW:Exs p0 oY:=xs .ret (fun i p=>⟨AV.pv (.slice Af) i.1::jn 1 (.b (false)::jn 52 ([])),[some (Cont.cells 5 [[AV.pv .i p.1,AV.pv .i p.2.1,AV.pv .i p.2.2.1,AV.pv .i p.2.2.2.1,AV.pv .i p.2.2.2.2.1]])]⟩)<|xs .ret (fun i p=>⟨AV.pv (.slice Af) i.1::jn 1 (.b (false)::jn 52 ([])),[some (Cont.cells 5 [[AV.pv .i p.1,AV.pv .i p.2.1,AV.pv .i p.2.2.1,AV.pv .i p.2.2.2.1,AV.pv .i p.2.2.2.2.1]])]⟩)<|xs .ret (fun i p=>⟨AV.pv (.slice Af) i.1::jn 1 (.b (false)::jn 52 ([])),[some (Cont.cells 5 [[AV.pv .i p.1,AV.pv .i p.2.1,AV.pv .i p.2.2.1,AV.pv .i p.2.2.2.1,AV.pv .i p.2.2.2.2.1]])]⟩)<|x1 (.exit 0) fun i p=>⟨AV.pv (.slice Af) i.1::jn 54 ([]),[]⟩
def oZ:=((.i (.i (.i (.v .n)))):Pk YN.ty _ _)
def A7k:Cfg:={ti:=Ar,ents:=[ba],ann:=[(2,Ao YN 0 (spP oZ) Di oW.E)],lent:=0}
def EL (x:List A2×Unit):Option (Bool×Unit):=(Ay (fun v=>Di (x.1,x.1,(x.1.length:Int),()) v _ some) (0,())).bind fun p=>Au p (fun p=>some (false,())) fun p=>Au p (fun p=>some (false,())) fun p=>Au p (fun p=>some (false,())) fun p=>bif decide ((x.1.length:Int)>0)then(lAt x.1 (IntKind.i64.wrap ((x.1.length:Int)-1))).bind fun v=>some (v.2.2.2.2.1==1000,())else some (false,())
def A09:Ent:=⟨191,⟨(.slot (.slice Af) .nil),.nil⟩,⟨(.slot .bool .nil),.nil⟩,EL⟩
theorem p3:CfgOK Go.Proofs.Tryz.prog A7k:=hcB (all_cons A9f all_nil)
theorem A08:AP Go.Proofs.Tryz.prog A7k (lpc Go.Proofs.Tryz.f191 0):=lkA p3 YN oZ Di oW [0,2] LV
theorem A9e:Ah Go.Proofs.Tryz.prog A09:=okB p3 Go.Proofs.Tryz.func191 A08
def FG (x:List A2×Unit):Option (Bool×Unit):=(EL (x.1,())).bind fun v=>bif !v.1 then some (true,())else some (decide ((x.1.length:Int)>50),())
def b9:Ent:=⟨190,⟨(.slot (.slice Af) .nil),.nil⟩,⟨(.slot .bool .nil),.nil⟩,FG⟩
theorem A9d:Ah Go.Proofs.Tryz.prog b9:=okA (hcA 0 (all_cons A9e all_nil)) Go.Proofs.Tryz.func190
abbrev oU:=List (List A2)×Unit×Int×Unit
abbrev oQ:=Int×Unit
abbrev oS:=Int×Unit ⊕ Unit
def AJ (i:oU)(v:oQ)(R:Type)(K:oQ ⊕ oS->Option R):Option R:=bif decide (v.1<i.2.2.1)then(lAt i.1 v.1).bind fun a=>(FG (a,())).bind fun b=>bif b.1 then K (.inr (.inl (v.1,())))else K (.inl (IntKind.i64.wrap (v.1+1),()))else K (.inr (.inr ()))
theorem GS:AX AJ:=fun i v R K=>Ae (Ac fun _=>Ac fun _=>Ae (Aa) (Aa)) (Aa)
def YM:Tmpl:=⟨(.slot (.slice (.slice Af)) (.slot (.fn 190 .unit) (jk 5 (si 2 (jk 10 .nil))))),.nil⟩
def oP:Exs oU oS:=xs .ret (fun i p=>⟨jn 4 (.n (p.1)::jn 14 ([])),[]⟩)<|x1 (.exit 0) fun i p=>⟨jn 19 ([]),[]⟩
def oT:=((.i (.i (.i (.v .n)))):Pk YM.ty _ _)
def A7j:Cfg:={ti:=Ar,ents:=[b9],ann:=[(2,Ao YM 0 (spP oT) AJ oP.E)],lent:=0}
def Cs (x:List (List A2)×Unit×Unit):Option (Int×Unit):=(Ay (fun v=>AJ (x.1,x.2.1,(x.1.length:Int),()) v _ some) (0,())).bind fun p=>Au p (fun p=>some (p.1,())) fun p=>some (-1,())
def A07:Ent:=⟨229,⟨(.slot (.slice (.slice Af)) (.slot (.fn 190 .unit) .nil)),.nil⟩,⟨(.slot .i .nil),.nil⟩,Cs⟩
theorem oV:CfgOK Go.Proofs.Tryz.prog A7j:=hcB (all_cons A9d all_nil)
theorem A06:AP Go.Proofs.Tryz.prog A7j (lpc Go.Proofs.Tryz.f229 0):=lkA oV YM oT AJ oP [4] GS
theorem A9c:Ah Go.Proofs.Tryz.prog A07:=okB oV Go.Proofs.Tryz.func229 A06
def C9 (x:List (List A2)×Unit×Unit):Option (Bool×Unit):=(Cs (x.1,x.2.1,())).bind fun v=>some (decide (v.1>=0),())
def A05:Ent:=⟨189,⟨(.slot (.slice (.slice Af)) (.slot (.fn 190 .unit) .nil)),.nil⟩,⟨(.slot .bool .nil),.nil⟩,C9⟩
theorem A9b:Ah Go.Proofs.Tryz.prog A05:=okA (hcA 0 (all_cons A9c all_nil)) Go.Proofs.Tryz.func189
def GJ (x:A4×Unit):Option (Bool×Unit):=bif (x.1.1.length:Int)==6 then(C9 (x.1.1,(),())).bind fun v=>some (!v.1,())else some (false,())
def A04:Ent:=⟨127,⟨(.slot Bo .nil),.nil⟩,⟨(.slot .bool .nil),.nil⟩,GJ⟩
theorem A9a:Ah Go.Proofs.Tryz.prog A04:=okA (hcA 0 (all_cons A9b all_nil)) Go.Proofs.Tryz.func127
def E8 (x:Int×Unit):Option (Bool×Unit):=(BB (x.1,0,5,())).bind fun v=>some (v.1,())
def PE:Ent:=⟨139,⟨(.slot .i .nil),.nil⟩,⟨(.slot .bool .nil),.nil⟩,E8⟩
theorem PD:Ah Go.Proofs.Tryz.prog PE:=okA (hcA 0 (all_cons L7 all_nil)) Go.Proofs.Tryz.func139
abbrev mJ:=List A1×List A1×Int×Unit
abbrev mF:=Int×Unit
abbrev mG:=Int×Int×Unit ⊕ Int×Int×Unit ⊕ Int×Int×Unit ⊕ Unit
def Fh (i:mJ)(v:mF)(R:Type)(K:mF ⊕ mG->Option R):Option R:=bif decide (v.1<i.2.2.1)then(lAt i.2.1 v.1).bind fun a=>(E8 (a.1,())).bind fun b=>bif !b.1 then K (.inr (.inl (a.1,a.2.1,())))else(BG (a.2.1,())).bind fun c=>bif !c.1 then K (.inr (.inr (.inl (a.1,a.2.1,()))))else bif decide (v.1>0)then(lAt i.1 (IntKind.i64.wrap (v.1-1))).bind fun d=>bif decide (d.1>=a.1)then K (.inr (.inr (.inr (.inl (a.1,a.2.1,())))))else K (.inl (IntKind.i64.wrap (v.1+1),()))else K (.inl (IntKind.i64.wrap (v.1+1),()))else K (.inr (.inr (.inr (.inr ()))))
theorem O1:AX Fh:=fun i v R K=>Ae (Ac fun _=>Ac fun _=>Ae (Aa) (Ac fun _=>Ae (Aa) (Ae (Ac fun _=>Ae (Aa) (Aa)) (Aa)))) (Aa)
def V2:Tmpl:=⟨(.slot (.slice A0) (jk 4 (.slot (.slice A0) (si 2 (jk 30 .nil))))),.nil⟩
def mE:Exs mJ mG:=xs .ret (fun i p=>⟨jn 2 (.b (false)::jn 35 ([])),[some (Cont.cells 2 [[AV.pv .i p.1,AV.pv .i p.2.1]])]⟩)<|xs .ret (fun i p=>⟨jn 2 (.b (false)::jn 35 ([])),[some (Cont.cells 2 [[AV.pv .i p.1,AV.pv .i p.2.1]])]⟩)<|xs .ret (fun i p=>⟨jn 2 (.b (false)::jn 35 ([])),[some (Cont.cells 2 [[AV.pv .i p.1,AV.pv .i p.2.1]])]⟩)<|x1 (.exit 0) fun i p=>⟨jn 38 ([]),[]⟩
def mH:=((.i (.i (.i (.v .n)))):Pk V2.ty _ _)
def yp:Cfg:={ti:=Ar,ents:=[PE,R5],ann:=[(2,Ao V2 0 (spP mH) Fh mE.E)],lent:=0}
def EE (x:List A1×Unit):Option (Bool×Unit):=(Ay (fun v=>Fh (x.1,x.1,(x.1.length:Int),()) v _ some) (0,())).bind fun p=>Au p (fun p=>some (false,())) fun p=>Au p (fun p=>some (false,())) fun p=>Au p (fun p=>some (false,())) fun p=>some (true,())
def yn:Ent:=⟨128,⟨(.slot (.slice A0) .nil),.nil⟩,⟨(.slot .bool .nil),.nil⟩,EE⟩
theorem mK:CfgOK Go.Proofs.Tryz.prog yp:=hcB (all_cons PD (all_cons NI all_nil))
theorem ym:AP Go.Proofs.Tryz.prog yp (lpc Go.Proofs.Tryz.f128 0):=lkA mK V2 mH Fh mE [2] O1
theorem mI:Ah Go.Proofs.Tryz.prog yn:=okB mK Go.Proofs.Tryz.func128 ym
abbrev mC:=List A1×List A1×Int×Unit
abbrev mz:=Int×Unit
abbrev mA:=Int×Int×Unit ⊕ Int×Int×Unit ⊕ Int×Int×Unit ⊕ Int×Int×Unit ⊕ Unit
def Fg (i:mC)(v:mz)(R:Type)(K:mz ⊕ mA->Option R):Option R:=bif decide (v.1<i.2.2.1)then(lAt i.2.1 v.1).bind fun a=>(BG (a.1,())).bind fun b=>bif !b.1 then K (.inr (.inl (a.1,a.2.1,())))else(BG (a.2.1,())).bind fun c=>bif !c.1 then K (.inr (.inr (.inl (a.1,a.2.1,()))))else bif a.1==a.2.1 then K (.inr (.inr (.inr (.inl (a.1,a.2.1,())))))else bif decide (v.1>0)then(lAt i.1 (IntKind.i64.wrap (v.1-1))).bind fun d=>bif decide (d.1>=a.1)then K (.inr (.inr (.inr (.inr (.inl (a.1,a.2.1,()))))))else K (.inl (IntKind.i64.wrap (v.1+1),()))else K (.inl (IntKind.i64.wrap (v.1+1),()))else K (.inr (.inr (.inr (.inr (.inr ())))))
theorem O0:AX Fg:=fun i v R K=>Ae (Ac fun _=>Ac fun _=>Ae (Aa) (Ac fun _=>Ae (Aa) (Ae (Aa) (Ae (Ac fun _=>Ae (Aa) (Aa)) (Aa))))) (Aa)
def V0:Tmpl:=⟨(.slot (.slice A0) (jk 4 (.slot (.slice A0) (si 2 (jk 37 .nil))))),.nil⟩
def my:Exs mC mA:=xs .ret (fun i p=>⟨jn 2 (.b (false)::jn 42 ([])),[some (Cont.cells 2 [[AV.pv .i p.1,AV.pv .i p.2.1]])]⟩)<|xs .ret (fun i p=>⟨jn 2 (.b (false)::jn 42 ([])),[some (Cont.cells 2 [[AV.pv .i p.1,AV.pv .i p.2.1]])]⟩)<|xs .ret (fun i p=>⟨jn 2 (.b (false)::jn 42 ([])),[some (Cont.cells 2 [[AV.pv .i p.1,AV.pv .i p.2.1]])]⟩)<|xs .ret (fun i p=>⟨jn 2 (.b (false)::jn 42 ([])),[some (Cont.cells 2 [[AV.pv .i p.1,AV.pv .i p.2.1]])]⟩)<|x1 (.exit 0) fun i p=>⟨jn 45 ([]),[]⟩
def mB:=((.i (.i (.i (.v .n)))):Pk V0.ty _ _)
def yl:Cfg:={ti:=Ar,ents:=[R5],ann:=[(2,Ao V0 0 (spP mB) Fg my.E)],lent:=0}
def DM (x:List A1×Unit):Option (Bool×Unit):=(Ay (fun v=>Fg (x.1,x.1,(x.1.length:Int),()) v _ some) (0,())).bind fun p=>Au p (fun p=>some (false,())) fun p=>Au p (fun p=>some (false,())) fun p=>Au p (fun p=>some (false,())) fun p=>Au p (fun p=>some (false,())) fun p=>some (true,())
def Xw:Ent:=⟨129,⟨(.slot (.slice A0) .nil),.nil⟩,⟨(.slot .bool .nil),.nil⟩,DM⟩
theorem mD:CfgOK Go.Proofs.Tryz.prog yl:=hcB (all_cons NI all_nil)
theorem yk:AP Go.Proofs.Tryz.prog yl (lpc Go.Proofs.Tryz.f129 0):=lkA mD V0 mB Fg my [2] O0
theorem V1:Ah Go.Proofs.Tryz.prog Xw:=okB mD Go.Proofs.Tryz.func129 yk
abbrev mv:=List (List A2)×Int×Int×List A2×Int×Unit
abbrev mo:=Int×Int×Unit
abbrev mq:=Int×Unit
def Cv (i:mv)(v:mo)(R:Type)(K:mo ⊕ mq->Option R):Option R:=bif decide (v.2.1<i.2.2.2.2.1)then(lAt i.2.2.2.1 v.2.1).bind fun a=>K (.inl (mx v.1 a.2.2.2.1,IntKind.i64.wrap (v.2.1+1),()))else K (.inr (v.1,()))
theorem KV:AX Cv:=fun i v R K=>Ae (Ac fun _=>Aa) (Aa)
def UX:Tmpl:=⟨(jk 3 (.slot .i (jk 5 (.slot (.slice (.slice Af)) (si 2 (jk 3 (.slot (.slice Af) (si 2 (jk 10 .nil))))))))),.nil⟩
def ml:Exs mv mq:=x1 (.exit 2) fun i p=>⟨jn 3 (.n (p.1)::jn 5 (AV.pv (.slice (.slice Af)) i.1::.n (i.2.1)::.n (i.2.2.1)::jn 16 ([]))),[]⟩
def mt:=((.v (.i (.i (.i (.i (.i (.v .n))))))):Pk UX.ty _ _)
abbrev mw:=List (List A2)×Int×Unit
abbrev mp:=Int×Int×Unit
abbrev mr:=Int×Unit
def Cw (i:mw)(v:mp)(R:Type)(K:mp ⊕ mr->Option R):Option R:=bif decide (v.2.1<i.2.1)then(lAt i.1 v.2.1).bind fun a=>(Ay (fun b=>Cv (i.1,i.2.1,v.2.1,a,(a.length:Int),()) b _ some) (v.1,0,())).bind fun p=>K (.inl (p.1,IntKind.i64.wrap (v.2.1+1),()))else K (.inr (v.1,()))
theorem KW:AX Cw:=fun i v R K=>Ae (Ac fun _=>Ac fun _=>Aa) (Aa)
def UY:Tmpl:=⟨(jk 3 (.slot .i (jk 5 (.slot (.slice (.slice Af)) (si 2 (jk 16 .nil)))))),.nil⟩
def mm:Exs mw mr:=x1 (.exit 0) fun i p=>⟨jn 3 (.n (p.1)::jn 24 ([])),[]⟩
def mu:=((.v (.i (.i (.v .n)))):Pk UY.ty _ _)
def ZL:Cfg:={ti:=Ar,ents:=[],ann:=[(6,Ao UX 0 (spP mt) Cv ml.E),(3,Ao UY 0 (spP mu) Cw mm.E)],lent:=0}
def EW (x:A4×Unit):Option (Int×Unit):=(Ay (fun v=>Cw (x.1.1,(x.1.1.length:Int),()) v _ some) (0,0,())).bind fun p=>some (p.1,())
def yj:Ent:=⟨131,⟨(.slot Bo .nil),.nil⟩,⟨(.slot .i .nil),.nil⟩,EW⟩
theorem UZ:CfgOK Go.Proofs.Tryz.prog ZL:=hcB all_nil
theorem Xv:AP Go.Proofs.Tryz.prog ZL (lpc Go.Proofs.Tryz.f131 1):=lkA UZ UX mt Cv ml [3,9,10,11] KV
theorem yi:AP Go.Proofs.Tryz.prog ZL (lpc Go.Proofs.Tryz.f131 0):=lkB UZ UY mu Cw mm [3] KW Xv
theorem A5o:Ah Go.Proofs.Tryz.prog yj:=okC UZ Go.Proofs.Tryz.func131 yi Xv
def G3 (x:Int×Unit):Option (Bool×Unit):=(BB (x.1,1,4,())).bind fun v=>some (v.1,())
def yh:Ent:=⟨138,⟨(.slot .i .nil),.nil⟩,⟨(.slot .bool .nil),.nil⟩,G3⟩
theorem mj:Ah Go.Proofs.Tryz.prog yh:=okA (hcA 0 (all_cons L7 all_nil)) Go.Proofs.Tryz.func138
def Ln (x:Int×Unit):Option (Bool×Unit):=(BB (x.1,1,999,())).bind fun v=>some (v.1,())
def yg:Ent:=⟨231,⟨(.slot .i .nil),.nil⟩,⟨(.slot .bool .nil),.nil⟩,Ln⟩
theorem A5n:Ah Go.Proofs.Tryz.prog yg:=okA (hcA 0 (all_cons L7 all_nil)) Go.Proofs.Tryz.func231
def Jb (x:Int×Unit):Option (Bool×Unit):=some (x.1 != x.1,())
def yf:Ent:=⟨237,⟨(.slot .i .nil),.nil⟩,⟨(.slot .bool .nil),.nil⟩,Jb⟩
theorem A5m:Ah Go.Proofs.Tryz.prog yf:=okA (hcA 0 all_nil) Go.Proofs.Tryz.func237
def C1 (x:Int×Int×Unit):Option (Int×Unit):=(Jb (x.1,())).bind fun v=>(Jb (x.2.1,())).bind fun a=>bif v.1 then bif a.1 then some (0,())else some (-1,())else bif a.1 then some (1,())else bif decide (x.1<x.2.1)then some (-1,())else bif decide (x.1>x.2.1)then some (1,())else some (0,())
def ye:Ent:=⟨198,⟨(si 2 .nil),.nil⟩,⟨(.slot .i .nil),.nil⟩,C1⟩
theorem PC:Ah Go.Proofs.Tryz.prog ye:=okA (hcA 0 (all_cons A5m all_nil)) Go.Proofs.Tryz.func198
abbrev mh:=Int×List Int×Int×Unit
abbrev me:=Int×Unit
abbrev mf:=Int×Unit ⊕ Unit
def Dm (i:mh)(v:me)(R:Type)(K:me ⊕ mf->Option R):Option R:=bif decide (v.1<i.2.2.1)then(lAt i.2.1 v.1).bind fun a=>bif a != i.1 then K (.inr (.inl (a,())))else K (.inl (IntKind.i64.wrap (v.1+1),()))else K (.inr (.inr ()))
theorem Q1:AX Dm:=fun i v R K=>Ae (Ac fun _=>Ae (Aa) (Aa)) (Aa)
def UW:Tmpl:=⟨(jk 3 (.slot .i (jk 2 (.slot (.slice .i) (si 2 (jk 9 .nil)))))),.nil⟩
def md:Exs mh mf:=xs .ret (fun i p=>⟨jn 2 (.n (p.1)::.n (i.1)::jn 14 ([])),[]⟩)<|x1 (.exit 0) fun i p=>⟨jn 3 (.n (i.1)::jn 14 ([])),[]⟩
def mg:=((.i (.i (.i (.v .n)))):Pk UW.ty _ _)
def yd:Cfg:={ti:=Ar,ents:=[],ann:=[(3,Ao UW 0 (spP mg) Dm md.E)],lent:=0}
def KY (x:List Int×Unit):Option (Int×Unit):=(Ay (fun v=>Dm (0,x.1,(x.1.length:Int),()) v _ some) (0,())).bind fun p=>Au p (fun p=>some (p.1,())) fun p=>some (0,())
def yc:Ent:=⟨284,⟨(.slot (.slice .i) .nil),.nil⟩,⟨(.slot .i .nil),.nil⟩,KY⟩
theorem mi:CfgOK Go.Proofs.Tryz.prog yd:=hcB all_nil
theorem yb:AP Go.Proofs.Tryz.prog yd (lpc Go.Proofs.Tryz.f284 0):=lkA mi UW mg Dm md [2,3] Q1
theorem A5l:Ah Go.Proofs.Tryz.prog yc:=okB mi Go.Proofs.Tryz.func284 yb
def BX (x:A1×A1×Unit):Option (Int×Unit):=(C1 (x.1.1,x.2.1.1,())).bind fun v=>(C1 (x.1.2.1,x.2.1.2.1,())).bind fun a=>(KY ([v.1,a.1],())).bind fun v=>some (v.1,())
def Rt:Ent:=⟨265,⟨(.slot A0 (.slot A0 .nil)),.nil⟩,⟨(.slot .i .nil),.nil⟩,BX⟩
theorem mc:Ah Go.Proofs.Tryz.prog Rt:=okA (hcA 0 (all_cons PC (all_cons A5l all_nil))) Go.Proofs.Tryz.func265
abbrev m9:=List A1×List A1×Int×Unit
abbrev m0:=Int×Unit
abbrev m7:=Int×Int×Unit ⊕ Int×Int×Unit ⊕ Int×Int×Unit ⊕ Unit
def Fd (i:m9)(v:m0)(R:Type)(K:m0 ⊕ m7->Option R):Option R:=bif decide (v.1<i.2.2.1)then(lAt i.2.1 v.1).bind fun a=>(E8 (a.1,())).bind fun b=>bif !b.1 then K (.inr (.inl (a.1,a.2.1,())))else(BB (a.2.1,0,999,())).bind fun c=>bif !c.1 then K (.inr (.inr (.inl (a.1,a.2.1,()))))else bif decide (v.1>0)then(lAt i.1 (IntKind.i64.wrap (v.1-1))).bind fun d=>(BX ((d.1,d.2.1,()),(a.1,a.2.1,()),())).bind fun e=>bif decide (e.1>=0)then K (.inr (.inr (.inr (.inl (a.1,a.2.1,())))))else K (.inl (IntKind.i64.wrap (v.1+1),()))else K (.inl (IntKind.i64.wrap (v.1+1),()))else K (.inr (.inr (.inr (.inr ()))))
theorem NY:AX Fd:=fun i v R K=>Ae (Ac fun _=>Ac fun _=>Ae (Aa) (Ac fun _=>Ae (Aa) (Ae (Ac fun _=>Ac fun _=>Ae (Aa) (Aa)) (Aa)))) (Aa)
def UV:Tmpl:=⟨(.slot (.slice A0) (jk 4 (.slot (.slice A0) (si 2 (jk 32 .nil))))),.nil⟩
def lZ:Exs m9 m7:=xs .ret (fun i p=>⟨AV.pv (.slice A0) i.1::jn 1 (.b (false)::jn 37 ([])),[some (Cont.cells 2 [[AV.pv .i p.1,AV.pv .i p.2.1]])]⟩)<|xs .ret (fun i p=>⟨AV.pv (.slice A0) i.1::jn 1 (.b (false)::jn 37 ([])),[some (Cont.cells 2 [[AV.pv .i p.1,AV.pv .i p.2.1]])]⟩)<|xs .ret (fun i p=>⟨AV.pv (.slice A0) i.1::jn 1 (.b (false)::jn 37 ([])),[some (Cont.cells 2 [[AV.pv .i p.1,AV.pv .i p.2.1]])]⟩)<|x1 (.exit 0) fun i p=>⟨AV.pv (.slice A0) i.1::jn 39 ([]),[]⟩
def m8:=((.i (.i (.i (.v .n)))):Pk UV.ty _ _)
def ya:Cfg:={ti:=Ar,ents:=[PE,Tg,Rt],ann:=[(2,Ao UV 0 (spP m8) Fd lZ.E)],lent:=0}
def DL (x:List A1×Unit):Option (Bool×Unit):=(Ay (fun v=>Fd (x.1,x.1,(x.1.length:Int),()) v _ some) (0,())).bind fun p=>Au p (fun p=>some (false,())) fun p=>Au p (fun p=>some (false,())) fun p=>Au p (fun p=>some (false,())) fun p=>some (decide ((x.1.length:Int)<=60),())
def y9:Ent:=⟨232,⟨(.slot (.slice A0) .nil),.nil⟩,⟨(.slot .bool .nil),.nil⟩,DL⟩
theorem ma:CfgOK Go.Proofs.Tryz.prog ya:=hcB (all_cons PD (all_cons L7 (all_cons mc all_nil)))
theorem y8:AP Go.Proofs.Tryz.prog ya (lpc Go.Proofs.Tryz.f232 0):=lkA ma UV m8 Fd lZ [0,2] NY
theorem A5k:Ah Go.Proofs.Tryz.prog y9:=okB ma Go.Proofs.Tryz.func232 y8
end
end Go.Ab
