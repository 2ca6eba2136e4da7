import Derived.Test.YtchkllapojehpaaGreatHp
set_option linter.all false
set_option maxRecDepth 100000
namespace Go.Ab
noncomputable section
def Qb (x:List A2×Int×Unit):Option (Int×Unit):=bif decide (IntKind.i64.wrap (x.2.1-(x.1.length:Int))<0)then some (-1,())else some (IntKind.i64.wrap (x.2.1-(x.1.length:Int)),())
def ir:Ent:=⟨166,⟨(.slot (.slice Af) (.slot .i .nil)),.nil⟩,⟨(.slot .i .nil),.nil⟩,Qb⟩
theorem Aaj:Ai Go.Proofs.Tryz.prog ir:=okA (hcA 0 all_nil) Go.Proofs.Tryz.func166
abbrev ABc:=List (List A2)×Unit
abbrev AB9:=Int×Int×Unit
abbrev ABa:=Int×Unit ⊕ Int×Unit
def OX (i:ABc)(v:AB9)(R:Type)(K:AB9 ⊕ ABa->Option R):Option R:=bif decide (v.2.1<(i.1.length:Int))then(lAt i.1 v.2.1).bind fun a=>(Qb (a,v.1,())).bind fun b=>bif decide (b.1<0)then K (.inr (.inl (b.1,())))else K (.inl (b.1,IntKind.i64.wrap (v.2.1+1),()))else K (.inr (.inr (v.1,())))
theorem ZV:Bg OX:=fun i v R K=>Ae (Ac fun _=>Ac fun _=>Ae (Aa) (Aa)) (Aa)
def Ave:Tmpl:=⟨(.slot (.slice (.slice Af)) (.slot .i (jk 3 (.slot .i (jk 21 .nil))))),.nil⟩
def AB8:Exs ABc ABa:=xs .ret (fun i p=>⟨jn 1 (.n (p.1)::jn 2 (.n (-1)::jn 22 ([]))),[]⟩)<|x1 (.exit 0) fun i p=>⟨jn 1 (.n (p.1)::jn 25 ([])),[]⟩
def ABb:=((.i (.v (.v .n))):Pk Ave.ty _ _)
def AIg:Cfg:={ti:=Aw,ents:=[ir],ann:=[(5,Ao Ave 0 (spP ABb) OX AB8.E)],lent:=0}
def RL (x:List (List A2)×Int×Unit):Option (Int×Unit):=bif decide (IntKind.i64.wrap (x.2.1-(x.1.length:Int))<0)then some (-1,())else(AC (fun v=>OX (x.1,()) v _ some) (IntKind.i64.wrap (x.2.1-(x.1.length:Int)),0,())).bind fun p=>Az p (fun p=>some (-1,())) fun p=>some (p.1,())
def jD:Ent:=⟨92,⟨(.slot (.slice (.slice Af)) (.slot .i .nil)),.nil⟩,⟨(.slot .i .nil),.nil⟩,RL⟩
theorem ABd:CfgOK Go.Proofs.Tryz.prog AIg:=hcB (all_cons Aaj all_nil)
theorem ABn:B9 Go.Proofs.Tryz.prog AIg (lpc Go.Proofs.Tryz.f92 0):=lkA ABd Ave ABb OX AB8 [1,4] ZV
theorem A9e:Ai Go.Proofs.Tryz.prog jD:=okB ABd Go.Proofs.Tryz.func92 ABn
def Xj (x:A4×Int×Unit):Option (Int×Unit):=(RL (x.1.1,x.2.1,())).bind fun v=>bif decide (v.1<0)then some (-1,())else some (v.1,())
def kN:Ent:=⟨45,⟨(.slot Bp (.slot .i .nil)),.nil⟩,⟨(.slot .i .nil),.nil⟩,Xj⟩
theorem A8a:Ai Go.Proofs.Tryz.prog kN:=okA (hcA 0 (all_cons A9e all_nil)) Go.Proofs.Tryz.func45
def RM (x:List A1×Int×Unit):Option (Int×Unit):=bif decide (IntKind.i64.wrap (x.2.1-(x.1.length:Int))<0)then some (-1,())else some (IntKind.i64.wrap (x.2.1-(x.1.length:Int)),())
def vJ:Ent:=⟨167,⟨(.slot (.slice A0) (.slot .i .nil)),.nil⟩,⟨(.slot .i .nil),.nil⟩,RM⟩
theorem A81:Ai Go.Proofs.Tryz.prog vJ:=okA (hcA 0 all_nil) Go.Proofs.Tryz.func167
def VJ (x:List A1×Int×Unit):Option (Int×Unit):=bif decide (IntKind.i64.wrap (x.2.1-(x.1.length:Int))<0)then some (-1,())else some (IntKind.i64.wrap (x.2.1-(x.1.length:Int)),())
def ji:Ent:=⟨168,⟨(.slot (.slice A0) (.slot .i .nil)),.nil⟩,⟨(.slot .i .nil),.nil⟩,VJ⟩
theorem A7v:Ai Go.Proofs.Tryz.prog ji:=okA (hcA 0 all_nil) Go.Proofs.Tryz.func168
def Oy (x:A3×Int×Unit):Option (Int×Unit):=(RM (x.1.2.2.2.2.2.2.2.1,x.2.1,())).bind fun v=>bif decide (v.1<0)then some (-1,())else(VJ (x.1.2.2.2.2.2.2.2.2.1,v.1,())).bind fun v=>bif decide (v.1<0)then some (-1,())else some (v.1,())
def dx:Ent:=⟨93,⟨(.slot Ad (.slot .i .nil)),.nil⟩,⟨(.slot .i .nil),.nil⟩,Oy⟩
theorem A7s:Ai Go.Proofs.Tryz.prog dx:=okA (hcA 0 (all_cons A81 (all_cons A7v all_nil))) Go.Proofs.Tryz.func93
abbrev AAi:=List A3×Unit
abbrev AAf:=Int×Int×Unit
abbrev AAg:=Int×Unit ⊕ Int×Unit
def Nl (i:AAi)(v:AAf)(R:Type)(K:AAf ⊕ AAg->Option R):Option R:=bif decide (v.2.1<(i.1.length:Int))then(lAt i.1 v.2.1).bind fun a=>(Oy ((a.1,a.2.1,a.2.2.1,a.2.2.2.1,a.2.2.2.2.1,a.2.2.2.2.2.1,a.2.2.2.2.2.2.1,a.2.2.2.2.2.2.2.1,a.2.2.2.2.2.2.2.2.1,()),v.1,())).bind fun b=>bif decide (b.1<0)then K (.inr (.inl (b.1,())))else K (.inl (b.1,IntKind.i64.wrap (v.2.1+1),()))else K (.inr (.inr (v.1,())))
theorem Xi:Bg Nl:=fun i v R K=>Ae (Ac fun _=>Ac fun _=>Ae (Aa) (Aa)) (Aa)
def Aq5:Tmpl:=⟨(.slot (.slice Ad) (.slot .i (jk 3 (.slot .i (jk 21 .nil))))),.nil⟩
def AAe:Exs AAi AAg:=xs .ret (fun i p=>⟨jn 1 (.n (p.1)::jn 2 (.n (-1)::jn 22 ([]))),[]⟩)<|x1 (.exit 0) fun i p=>⟨jn 1 (.n (p.1)::jn 25 ([])),[]⟩
def AAh:=((.i (.v (.v .n))):Pk Aq5.ty _ _)
def A7r:Cfg:={ti:=Aw,ents:=[dx],ann:=[(5,Ao Aq5 0 (spP AAh) Nl AAe.E)],lent:=0}
def O0 (x:List A3×Int×Unit):Option (Int×Unit):=bif decide (IntKind.i64.wrap (x.2.1-(x.1.length:Int))<0)then some (-1,())else(AC (fun v=>Nl (x.1,()) v _ some) (IntKind.i64.wrap (x.2.1-(x.1.length:Int)),0,())).bind fun p=>Az p (fun p=>some (-1,())) fun p=>some (p.1,())
def aI:Ent:=⟨46,⟨(.slot (.slice Ad) (.slot .i .nil)),.nil⟩,⟨(.slot .i .nil),.nil⟩,O0⟩
theorem qR:CfgOK Go.Proofs.Tryz.prog A7r:=hcB (all_cons A7s all_nil)
theorem ABk:B9 Go.Proofs.Tryz.prog A7r (lpc Go.Proofs.Tryz.f46 0):=lkA qR Aq5 AAh Nl AAe [1,4] Xi
theorem uf:Ai Go.Proofs.Tryz.prog aI:=okB qR Go.Proofs.Tryz.func46 ABk
def Tg (x:List A1×Int×Unit):Option (Int×Unit):=bif decide (IntKind.i64.wrap (x.2.1-(x.1.length:Int))<0)then some (-1,())else some (IntKind.i64.wrap (x.2.1-(x.1.length:Int)),())
def aD:Ent:=⟨47,⟨(.slot (.slice A0) (.slot .i .nil)),.nil⟩,⟨(.slot .i .nil),.nil⟩,Tg⟩
theorem tF:Ai Go.Proofs.Tryz.prog aD:=okA (hcA 0 all_nil) Go.Proofs.Tryz.func47
def Tf (x:List A1×Int×Unit):Option (Int×Unit):=bif decide (IntKind.i64.wrap (x.2.1-(x.1.length:Int))<0)then some (-1,())else some (IntKind.i64.wrap (x.2.1-(x.1.length:Int)),())
def aC:Ent:=⟨48,⟨(.slot (.slice A0) (.slot .i .nil)),.nil⟩,⟨(.slot .i .nil),.nil⟩,Tf⟩
theorem dq:Ai Go.Proofs.Tryz.prog aC:=okA (hcA 0 all_nil) Go.Proofs.Tryz.func48
def VK (x:A5×Int×Unit):Option (Int×Unit):=(Xj ((x.1.2.1.1,()),x.2.1,())).bind fun v=>bif decide (v.1<0)then some (-1,())else(O0 (x.1.2.2.1,v.1,())).bind fun v=>bif decide (v.1<0)then some (-1,())else(Tg (x.1.2.2.2.1,v.1,())).bind fun v=>bif decide (v.1<0)then some (-1,())else(Tf (x.1.2.2.2.2.1,v.1,())).bind fun v=>bif decide (v.1<0)then some (-1,())else some (v.1,())
def iK:Ent:=⟨9,⟨(.slot D9 (.slot .i .nil)),.nil⟩,⟨(.slot .i .nil),.nil⟩,VK⟩
theorem A7e:Ai Go.Proofs.Tryz.prog iK:=okA (hcA 0 (all_cons A8a (all_cons uf (all_cons tF (all_cons dq all_nil))))) Go.Proofs.Tryz.func9
def TK (x:A2×Unit):Option A2:=some (x.1.1,x.1.2.1,x.1.2.2.1,x.1.2.2.2.1,x.1.2.2.2.2.1,())
def XE:Ent:=⟨226,⟨(.slot Af .nil),.nil⟩,⟨(.agg (si 5 .nil) .nil),.nil⟩,TK⟩
theorem iq:Ai Go.Proofs.Tryz.prog XE:=okA (hcA 0 all_nil) Go.Proofs.Tryz.func226
abbrev Ax4:=List A2×Unit
abbrev Ax1:=Int×List A2×Unit
abbrev Ax2:=List A2×Unit
def M9 (i:Ax4)(v:Ax1)(R:Type)(K:Ax1 ⊕ Ax2->Option R):Option R:=bif decide (v.1<(i.1.length:Int))then(lAt i.1 v.1).bind fun a=>(TK ((a.1,a.2.1,a.2.2.1,a.2.2.2.1,a.2.2.2.2.1,()),())).bind fun b=>if 0<=v.1/\v.1<(v.2.1.length:Int)then v.2.1[0+v.1.toNat]?.bind fun c=>K (.inl (IntKind.i64.wrap (v.1+1),v.2.1.set (0+v.1.toNat) (b.1,b.2.1,b.2.2.1,b.2.2.2.1,b.2.2.2.2.1,()),()))else none else K (.inr (v.2.1,()))
theorem bT:Bg M9:=fun i v R K=>Ae (Ac fun _=>Ac fun _=>Aq (Ac fun _=>Aa)) (Aa)
def Acs:Tmpl:=⟨(.slot (.slice Af) (jk 2 (.own 0 (.slot .i (jk 18 .nil))))),(.lst false Af .nil)⟩
def Ax0:Exs Ax4 Ax2:=x1 (.exit 0) fun i p=>⟨jn 3 (AV.own 0 none none::jn 19 ([])),[some (Cont.lst false Af p.1)]⟩
def Ax3:=((.i (.v (.v .n))):Pk Acs.ty _ _)
def ABf:Cfg:={ti:=Aw,ents:=[XE],ann:=[(3,Ao Acs 0 (spP Ax3) M9 Ax0.E)],lent:=0}
def Q9 (x:List A2×Unit):Option (List A2×Unit):=if 0<=(x.1.length:Int)/\(x.1.length:Int)<=(x.1.length:Int)/\(x.1.length:Int)<=(↑879609302220:Int)then(AC (fun v=>M9 (x.1,()) v _ some) (0,List.replicate ((x.1.length:Int).toNat) (0,0,0,0,0,()),())).bind fun p=>some (p.1,())else none
def Nb:Ent:=⟨183,⟨(.slot (.slice Af) .nil),.nil⟩,⟨(.own 0 .nil),(.lst false Af .nil)⟩,Q9⟩
theorem Ax5:CfgOK Go.Proofs.Tryz.prog ABf:=hcB (all_cons iq all_nil)
theorem AA2:B9 Go.Proofs.Tryz.prog ABf (lpc Go.Proofs.Tryz.f183 0):=lkA Ax5 Acs Ax3 M9 Ax0 [3] bT
theorem KM:Ai Go.Proofs.Tryz.prog Nb:=okB Ax5 Go.Proofs.Tryz.func183 AA2
abbrev Awt:=List (List A2)×Unit
abbrev Awq:=Int×List (List A2)×Unit
abbrev Awr:=List (List A2)×Unit
def LC (i:Awt)(v:Awq)(R:Type)(K:Awq ⊕ Awr->Option R):Option R:=bif decide (v.1<(i.1.length:Int))then(lAt i.1 v.1).bind fun a=>(Q9 (a,())).bind fun b=>if 0<=v.1/\v.1<(v.2.1.length:Int)then v.2.1[0+v.1.toNat]?.bind fun c=>K (.inl (IntKind.i64.wrap (v.1+1),v.2.1.set (0+v.1.toNat) b.1,()))else none else K (.inr (v.2.1,()))
theorem ZT:Bg LC:=fun i v R K=>Ae (Ac fun _=>Ac fun _=>Aq (Ac fun _=>Aa)) (Aa)
def Acq:Tmpl:=⟨(.slot (.slice (.slice Af)) (jk 2 (.own 0 (.slot .i (jk 18 .nil))))),(.tree false 1 (.slice Af) .nil)⟩
def Awp:Exs Awt Awr:=x1 (.exit 0) fun i p=>⟨jn 3 (AV.own 0 none none::jn 19 ([])),[some (Cont.tree false 1 (.slice Af) p.1 none)]⟩
def Aws:=((.i (.v (.v .n))):Pk Acq.ty _ _)
def ABe:Cfg:={ti:=Aw,ents:=[Nb],ann:=[(3,Ao Acq 0 (spP Aws) LC Awp.E)],lent:=0}
def PP (x:List (List A2)×Unit):Option A4:=if 0<=(x.1.length:Int)/\(x.1.length:Int)<=(x.1.length:Int)/\(x.1.length:Int)<=(↑1466015503701:Int)then(AC (fun v=>LC (x.1,()) v _ some) (0,List.replicate ((x.1.length:Int).toNat) [],())).bind fun p=>some (p.1,())else none
def bB:Ent:=⟨119,⟨(.slot (.slice (.slice Af)) .nil),.nil⟩,⟨(.own 0 .nil),(.tree false 1 (.slice Af) .nil)⟩,PP⟩
theorem Awu:CfgOK Go.Proofs.Tryz.prog ABe:=hcB (all_cons KM all_nil)
theorem AA1:B9 Go.Proofs.Tryz.prog ABe (lpc Go.Proofs.Tryz.f119 0):=lkA Awu Acq Aws LC Awp [3] ZT
theorem jP:Ai Go.Proofs.Tryz.prog bB:=okB Awu Go.Proofs.Tryz.func119 AA1
def Tc (x:A4×Unit):Option A4:=(PP (x.1.1,())).bind fun v=>some (v.1,())
def W9:Ent:=⟨60,⟨(.slot Bp .nil),.nil⟩,⟨(.agg (.own 0 .nil) .nil),(.tree false 1 (.slice Af) .nil)⟩,Tc⟩
theorem bw:Ai Go.Proofs.Tryz.prog W9:=okA (hcA 0 (all_cons jP all_nil)) Go.Proofs.Tryz.func60
def Td (x:A1×Unit):Option A1:=some (x.1.1,x.1.2.1,())
def Q6:Ent:=⟨227,⟨(.slot A0 .nil),.nil⟩,⟨(.agg (si 2 .nil) .nil),.nil⟩,Td⟩
theorem Qw:Ai Go.Proofs.Tryz.prog Q6:=okA (hcA 0 all_nil) Go.Proofs.Tryz.func227
abbrev Aw6:=List A1×Unit
abbrev Aw3:=Int×List A1×Unit
abbrev Aw4:=List A1×Unit
def LD (i:Aw6)(v:Aw3)(R:Type)(K:Aw3 ⊕ Aw4->Option R):Option R:=bif decide (v.1<(i.1.length:Int))then(lAt i.1 v.1).bind fun a=>(Td ((a.1,a.2.1,()),())).bind fun b=>if 0<=v.1/\v.1<(v.2.1.length:Int)then v.2.1[0+v.1.toNat]?.bind fun c=>K (.inl (IntKind.i64.wrap (v.1+1),v.2.1.set (0+v.1.toNat) (b.1,b.2.1,()),()))else none else K (.inr (v.2.1,()))
theorem ZU:Bg LD:=fun i v R K=>Ae (Ac fun _=>Ac fun _=>Aq (Ac fun _=>Aa)) (Aa)
def Acm:Tmpl:=⟨(.slot (.slice A0) (jk 2 (.own 0 (.slot .i (jk 18 .nil))))),(.lst false A0 .nil)⟩
def Aw2:Exs Aw6 Aw4:=x1 (.exit 0) fun i p=>⟨jn 3 (AV.own 0 none none::jn 19 ([])),[some (Cont.lst false A0 p.1)]⟩
def Aw5:=((.i (.v (.v .n))):Pk Acm.ty _ _)
def rc:Cfg:={ti:=Aw,ents:=[Q6],ann:=[(3,Ao Acm 0 (spP Aw5) LD Aw2.E)],lent:=0}
def PQ (x:List A1×Unit):Option (List A1×Unit):=if 0<=(x.1.length:Int)/\(x.1.length:Int)<=(x.1.length:Int)/\(x.1.length:Int)<=(↑2199023255552:Int)then(AC (fun v=>LD (x.1,()) v _ some) (0,List.replicate ((x.1.length:Int).toNat) (0,0,()),())).bind fun p=>some (p.1,())else none
def W8:Ent:=⟨184,⟨(.slot (.slice A0) .nil),.nil⟩,⟨(.own 0 .nil),(.lst false A0 .nil)⟩,PQ⟩
theorem eS:CfgOK Go.Proofs.Tryz.prog rc:=hcB (all_cons Qw all_nil)
theorem AA0:B9 Go.Proofs.Tryz.prog rc (lpc Go.Proofs.Tryz.f184 0):=lkA eS Acm Aw5 LD Aw2 [3] ZU
theorem ba:Ai Go.Proofs.Tryz.prog W8:=okB eS Go.Proofs.Tryz.func184 AA0
def Xf (x:A1×Unit):Option A1:=some (x.1.1,x.1.2.1,())
def RD:Ent:=⟨228,⟨(.slot A0 .nil),.nil⟩,⟨(.agg (si 2 .nil) .nil),.nil⟩,Xf⟩
theorem b9:Ai Go.Proofs.Tryz.prog RD:=okA (hcA 0 all_nil) Go.Proofs.Tryz.func228
abbrev eH:=List A1×Unit
abbrev eE:=Int×List A1×Unit
abbrev eF:=List A1×Unit
def Nz (i:eH)(v:eE)(R:Type)(K:eE ⊕ eF->Option R):Option R:=bif decide (v.1<(i.1.length:Int))then(lAt i.1 v.1).bind fun a=>(Xf ((a.1,a.2.1,()),())).bind fun b=>if 0<=v.1/\v.1<(v.2.1.length:Int)then v.2.1[0+v.1.toNat]?.bind fun c=>K (.inl (IntKind.i64.wrap (v.1+1),v.2.1.set (0+v.1.toNat) (b.1,b.2.1,()),()))else none else K (.inr (v.2.1,()))
theorem gh:Bg Nz:=fun i v R K=>Ae (Ac fun _=>Ac fun _=>Aq (Ac fun _=>Aa)) (Aa)
def WC:Tmpl:=⟨(.slot (.slice A0) (jk 2 (.own 0 (.slot .i (jk 18 .nil))))),(.lst false A0 .nil)⟩
def eD:Exs eH eF:=x1 (.exit 0) fun i p=>⟨jn 3 (AV.own 0 none none::jn 19 ([])),[some (Cont.lst false A0 p.1)]⟩
def eG:=((.i (.v (.v .n))):Pk WC.ty _ _)
def iB:Cfg:={ti:=Aw,ents:=[RD],ann:=[(3,Ao WC 0 (spP eG) Nz eD.E)],lent:=0}
def RJ (x:List A1×Unit):Option (List A1×Unit):=if 0<=(x.1.length:Int)/\(x.1.length:Int)<=(x.1.length:Int)/\(x.1.length:Int)<=(↑2199023255552:Int)then(AC (fun v=>Nz (x.1,()) v _ some) (0,List.replicate ((x.1.length:Int).toNat) (0,0,()),())).bind fun p=>some (p.1,())else none
def b8:Ent:=⟨185,⟨(.slot (.slice A0) .nil),.nil⟩,⟨(.own 0 .nil),(.lst false A0 .nil)⟩,RJ⟩
theorem Z9:CfgOK Go.Proofs.Tryz.prog iB:=hcB (all_cons b9 all_nil)
theorem m0:B9 Go.Proofs.Tryz.prog iB (lpc Go.Proofs.Tryz.f185 0):=lkA Z9 WC eG Nz eD [3] gh
theorem jI:Ai Go.Proofs.Tryz.prog b8:=okB Z9 Go.Proofs.Tryz.func185 m0
def Ox (x:A3×Unit):Option A3:=(PQ (x.1.2.2.2.2.2.2.2.1,())).bind fun v=>(RJ (x.1.2.2.2.2.2.2.2.2.1,())).bind fun a=>some (x.1.1,x.1.2.1,x.1.2.2.1,x.1.2.2.2.1,x.1.2.2.2.2.1,x.1.2.2.2.2.2.1,x.1.2.2.2.2.2.2.1,v.1,a.1,())
def TR:Ent:=⟨120,⟨(.slot Ad .nil),.nil⟩,⟨(.agg (si 7 (.own 0 (.own 1 .nil))) .nil),(.lst false A0 (.lst false A0 .nil))⟩,Ox⟩
theorem jG:Ai Go.Proofs.Tryz.prog TR:=okA (hcA 0 (all_cons ba (all_cons jI all_nil))) Go.Proofs.Tryz.func120
abbrev Avj:=List A3×Unit
abbrev Avg:=Int×List A3×Unit
abbrev Avh:=List A3×Unit
def K0 (i:Avj)(v:Avg)(R:Type)(K:Avg ⊕ Avh->Option R):Option R:=bif decide (v.1<(i.1.length:Int))then(lAt i.1 v.1).bind fun a=>(Ox ((a.1,a.2.1,a.2.2.1,a.2.2.2.1,a.2.2.2.2.1,a.2.2.2.2.2.1,a.2.2.2.2.2.2.1,a.2.2.2.2.2.2.2.1,a.2.2.2.2.2.2.2.2.1,()),())).bind fun b=>if 0<=v.1/\v.1<(v.2.1.length:Int)then v.2.1[0+v.1.toNat]?.bind fun c=>K (.inl (IntKind.i64.wrap (v.1+1),v.2.1.set (0+v.1.toNat) (b.1,b.2.1,b.2.2.1,b.2.2.2.1,b.2.2.2.2.1,b.2.2.2.2.2.1,b.2.2.2.2.2.2.1,b.2.2.2.2.2.2.2.1,b.2.2.2.2.2.2.2.2.1,()),()))else none else K (.inr (v.2.1,()))
theorem Xg:Bg K0:=fun i v R K=>Ae (Ac fun _=>Ac fun _=>Aq (Ac fun _=>Aa)) (Aa)
def Ack:Tmpl:=⟨(.slot (.slice Ad) (jk 2 (.own 0 (.slot .i (jk 18 .nil))))),(.tree false 1 Ad .nil)⟩
def Avf:Exs Avj Avh:=x1 (.exit 0) fun i p=>⟨jn 3 (AV.own 0 none none::jn 19 ([])),[some (Cont.tree false 1 Ad p.1 none)]⟩
def Avi:=((.i (.v (.v .n))):Pk Ack.ty _ _)
def iA:Cfg:={ti:=Aw,ents:=[TR],ann:=[(3,Ao Ack 0 (spP Avi) K0 Avf.E)],lent:=0}
def NZ (x:List A3×Unit):Option (List A3×Unit):=if 0<=(x.1.length:Int)/\(x.1.length:Int)<=(x.1.length:Int)/\(x.1.length:Int)<=(↑338311270084:Int)then(AC (fun v=>K0 (x.1,()) v _ some) (0,List.replicate ((x.1.length:Int).toNat) (0,0,0,0,0,0,0,[],[],()),())).bind fun p=>some (p.1,())else none
def SG:Ent:=⟨61,⟨(.slot (.slice Ad) .nil),.nil⟩,⟨(.own 0 .nil),(.tree false 1 Ad .nil)⟩,NZ⟩
theorem Z8:CfgOK Go.Proofs.Tryz.prog iA:=hcB (all_cons jG all_nil)
theorem Azu:B9 Go.Proofs.Tryz.prog iA (lpc Go.Proofs.Tryz.f61 0):=lkA Z8 Ack Avi K0 Avf [3] Xg
theorem Qv:Ai Go.Proofs.Tryz.prog SG:=okB Z8 Go.Proofs.Tryz.func61 Azu
def Zc (x:A1×Unit):Option A1:=some (x.1.1,x.1.2.1,())
def RC:Ent:=⟨121,⟨(.slot A0 .nil),.nil⟩,⟨(.agg (si 2 .nil) .nil),.nil⟩,Zc⟩
theorem aY:Ai Go.Proofs.Tryz.prog RC:=okA (hcA 0 all_nil) Go.Proofs.Tryz.func121
abbrev Auy:=List A1×Unit
abbrev Auv:=Int×List A1×Unit
abbrev Auw:=List A1×Unit
def Od (i:Auy)(v:Auv)(R:Type)(K:Auv ⊕ Auw->Option R):Option R:=bif decide (v.1<(i.1.length:Int))then(lAt i.1 v.1).bind fun a=>(Zc ((a.1,a.2.1,()),())).bind fun b=>if 0<=v.1/\v.1<(v.2.1.length:Int)then v.2.1[0+v.1.toNat]?.bind fun c=>K (.inl (IntKind.i64.wrap (v.1+1),v.2.1.set (0+v.1.toNat) (b.1,b.2.1,()),()))else none else K (.inr (v.2.1,()))
theorem iu:Bg Od:=fun i v R K=>Ae (Ac fun _=>Ac fun _=>Aq (Ac fun _=>Aa)) (Aa)
def Aci:Tmpl:=⟨(.slot (.slice A0) (jk 2 (.own 0 (.slot .i (jk 18 .nil))))),(.lst false A0 .nil)⟩
def Auu:Exs Auy Auw:=x1 (.exit 0) fun i p=>⟨jn 3 (AV.own 0 none none::jn 19 ([])),[some (Cont.lst false A0 p.1)]⟩
def Aux:=((.i (.v (.v .n))):Pk Aci.ty _ _)
def r9:Cfg:={ti:=Aw,ents:=[RC],ann:=[(3,Ao Aci 0 (spP Aux) Od Auu.E)],lent:=0}
def Te (x:List A1×Unit):Option (List A1×Unit):=if 0<=(x.1.length:Int)/\(x.1.length:Int)<=(x.1.length:Int)/\(x.1.length:Int)<=(↑2199023255552:Int)then(AC (fun v=>Od (x.1,()) v _ some) (0,List.replicate ((x.1.length:Int).toNat) (0,0,()),())).bind fun p=>some (p.1,())else none
def W4:Ent:=⟨62,⟨(.slot (.slice A0) .nil),.nil⟩,⟨(.own 0 .nil),(.lst false A0 .nil)⟩,Te⟩
theorem er:CfgOK Go.Proofs.Tryz.prog r9:=hcB (all_cons aY all_nil)
theorem Azr:B9 Go.Proofs.Tryz.prog r9 (lpc Go.Proofs.Tryz.f62 0):=lkA er Aci Aux Od Auu [3] iu
theorem aX:Ai Go.Proofs.Tryz.prog W4:=okB er Go.Proofs.Tryz.func62 Azr
def Zb (x:A1×Unit):Option A1:=some (x.1.1,x.1.2.1,())
def Y9:Ent:=⟨122,⟨(.slot A0 .nil),.nil⟩,⟨(.agg (si 2 .nil) .nil),.nil⟩,Zb⟩
theorem wx:Ai Go.Proofs.Tryz.prog Y9:=okA (hcA 0 all_nil) Go.Proofs.Tryz.func122
abbrev Au2:=List A1×Unit
abbrev Atz:=Int×List A1×Unit
abbrev Au0:=List A1×Unit
def Oc (i:Au2)(v:Atz)(R:Type)(K:Atz ⊕ Au0->Option R):Option R:=bif decide (v.1<(i.1.length:Int))then(lAt i.1 v.1).bind fun a=>(Zb ((a.1,a.2.1,()),())).bind fun b=>if 0<=v.1/\v.1<(v.2.1.length:Int)then v.2.1[0+v.1.toNat]?.bind fun c=>K (.inl (IntKind.i64.wrap (v.1+1),v.2.1.set (0+v.1.toNat) (b.1,b.2.1,()),()))else none else K (.inr (v.2.1,()))
theorem it:Bg Oc:=fun i v R K=>Ae (Ac fun _=>Ac fun _=>Aq (Ac fun _=>Aa)) (Aa)
def Ach:Tmpl:=⟨(.slot (.slice A0) (jk 2 (.own 0 (.slot .i (jk 18 .nil))))),(.lst false A0 .nil)⟩
def Aty:Exs Au2 Au0:=x1 (.exit 0) fun i p=>⟨jn 3 (AV.own 0 none none::jn 19 ([])),[some (Cont.lst false A0 p.1)]⟩
def Au1:=((.i (.v (.v .n))):Pk Ach.ty _ _)
def cc:Cfg:={ti:=Aw,ents:=[Y9],ann:=[(3,Ao Ach 0 (spP Au1) Oc Aty.E)],lent:=0}
def Tb (x:List A1×Unit):Option (List A1×Unit):=if 0<=(x.1.length:Int)/\(x.1.length:Int)<=(x.1.length:Int)/\(x.1.length:Int)<=(↑2199023255552:Int)then(AC (fun v=>Oc (x.1,()) v _ some) (0,List.replicate ((x.1.length:Int).toNat) (0,0,()),())).bind fun p=>some (p.1,())else none
def aW:Ent:=⟨63,⟨(.slot (.slice A0) .nil),.nil⟩,⟨(.own 0 .nil),(.lst false A0 .nil)⟩,Tb⟩
theorem VF:CfgOK Go.Proofs.Tryz.prog cc:=hcB (all_cons wx all_nil)
theorem Az9:B9 Go.Proofs.Tryz.prog cc (lpc Go.Proofs.Tryz.f63 0):=lkA VF Ach Au1 Oc Aty [3] it
theorem wv:Ai Go.Proofs.Tryz.prog aW:=okB VF Go.Proofs.Tryz.func63 Az9
def N9 (x:A5×Unit):Option (Bool×Int×A7):=(Tc ((x.1.2.1.1,()),())).bind fun v=>(NZ (x.1.2.2.1,())).bind fun a=>(Te (x.1.2.2.2.1,())).bind fun b=>(Tb (x.1.2.2.2.2.1,())).bind fun c=>some (x.1.1,x.1.2.2.2.2.2.1,v.1,a.1,b.1,c.1,())
def XD:Ent:=⟨11,⟨(.slot D9 .nil),.nil⟩,⟨(.agg (.slot .bool (.own 0 (.own 1 (.own 2 (.own 3 (.slot .i .nil)))))) .nil),(.tree false 1 (.slice Af) (.tree false 1 Ad (.lst false A0 (.lst false A0 .nil))))⟩,N9⟩
theorem kO:Ai Go.Proofs.Tryz.prog XD:=okA (hcA 0 (all_cons bw (all_cons Qv (all_cons aX (all_cons wv all_nil))))) Go.Proofs.Tryz.func11
def LH (x:A6×Unit):Option A6:=some (x.1.1,x.1.2.1,x.1.2.2.1,x.1.2.2.2.1,x.1.2.2.2.2.1,x.1.2.2.2.2.2.1,())
def Zj:Ent:=⟨12,⟨(.slot YOp .nil),.nil⟩,⟨(.agg (si 6 .nil) .nil),.nil⟩,LH⟩
theorem wk:Ai Go.Proofs.Tryz.prog Zj:=okA (hcA 0 all_nil) Go.Proofs.Tryz.func12
def Kh (x:List A2×Unit):Option (List A2×Unit):=if x.1.length<=879609302220 then some (x.1,())else none
def Y8:Ent:=⟨169,⟨(.slot (.slice Af) .nil),.nil⟩,⟨(.own 0 .nil),(.lst false Af .nil)⟩,Kh⟩
theorem wh:Ai Go.Proofs.Tryz.prog Y8:=okA (hcA 0 all_nil) Go.Proofs.Tryz.func169
abbrev Atu:=List (List A2)×Unit
abbrev Atr:=Int×List (List A2)×Unit
abbrev Ats:=List (List A2)×Unit
def Fu (i:Atu)(v:Atr)(R:Type)(K:Atr ⊕ Ats->Option R):Option R:=bif decide (v.1<(i.1.length:Int))then(lAt i.1 v.1).bind fun a=>(Kh (a,())).bind fun b=>if(v.2.1++[b.1]).length<=1466015503701 then K (.inl (IntKind.i64.wrap (v.1+1),v.2.1++[b.1],()))else none else K (.inr (v.2.1,()))
theorem ND:Bg Fu:=fun i v R K=>Ae (Ac fun _=>Ac fun _=>Aq (Aa)) (Aa)
def Acg:Tmpl:=⟨(.junk (.ptr 0 0 0 (.ptr 1 0 0 (.ptr 2 0 0 (.slot .i (jk 20 .nil)))))),(.cells 1 (.slot (.slice (.slice Af)) .nil) (.cells 1 (.const (AV.nils) .nil) (.cells 1 (.own 3 .nil) (.tree false 0 (.slice Af) .nil))))⟩
def Atq:Exs Atu Ats:=x1 (.exit 0) fun i p=>⟨jn 2 (AV.ptr 1 none 0 0::AV.ptr 2 none 0 0::jn 21 ([])),[some (Cont.cells 1 [[AV.pv (.slice (.slice Af)) i.1]]),some (Cont.cells 1 [[AV.nils]]),some (Cont.cells 1 [[AV.own 3 none none]]),some (Cont.tree false 0 (.slice Af) p.1 none)]⟩
def Att:=((.v (.i (.v .n))):Pk Acg.ty _ _)
def r6:Cfg:={ti:=Aw,ents:=[Y8],ann:=[(3,Ao Acg 0 (spP Att) Fu Atq.E)],lent:=0}
def Hi (x:A4×Unit):Option A4:=(AC (fun v=>Fu (x.1.1,()) v _ some) (0,[],())).bind fun p=>some (p.1,())
def W3:Ent:=⟨94,⟨(.slot Bp .nil),.nil⟩,⟨(.agg (.own 0 .nil) .nil),(.tree false 0 (.slice Af) .nil)⟩,Hi⟩
theorem ep:CfgOK Go.Proofs.Tryz.prog r6:=hcB (all_cons wh all_nil)
theorem Ays:B9 Go.Proofs.Tryz.prog r6 (lpc Go.Proofs.Tryz.f94 0):=lkA ep Acg Att Fu Atq [2,3] ND
theorem qx:Ai Go.Proofs.Tryz.prog W3:=okB ep Go.Proofs.Tryz.func94 Ays
def Fx (x:List A1×Unit):Option (List A1×Unit):=if x.1.length<=2199023255552 then some (x.1,())else none
def W2:Ent:=⟨95,⟨(.slot (.slice A0) .nil),.nil⟩,⟨(.own 0 .nil),(.lst false A0 .nil)⟩,Fx⟩
theorem Z7:Ai Go.Proofs.Tryz.prog W2:=okA (hcA 0 all_nil) Go.Proofs.Tryz.func95
def E5 (x:A3×Unit):Option A3:=if x.1.2.2.2.2.2.2.2.1.length<=2199023255552 then if x.1.2.2.2.2.2.2.2.2.1.length<=2199023255552 then some (x.1.1,x.1.2.1,x.1.2.2.1,x.1.2.2.2.1,x.1.2.2.2.2.1,x.1.2.2.2.2.2.1,x.1.2.2.2.2.2.2.1,x.1.2.2.2.2.2.2.2.1,x.1.2.2.2.2.2.2.2.2.1,())else none else none
def SF:Ent:=⟨96,⟨(.slot Ad .nil),.nil⟩,⟨(.agg (si 7 (.own 0 (.own 1 .nil))) .nil),(.lst false A0 (.lst false A0 .nil))⟩,E5⟩
theorem Rg:Ai Go.Proofs.Tryz.prog SF:=okA (hcA 0 all_nil) Go.Proofs.Tryz.func96
abbrev ek:=Bool×List (List A2)×List A3×List A1×List A1×Int×Bool×Int×Bool×Int×List (List A2)×A9
abbrev eh:=Int×List A3×Unit
abbrev ei:=List A3×Unit
def EM (i:ek)(v:eh)(R:Type)(K:eh ⊕ ei->Option R):Option R:=bif decide (v.1<(i.2.2.1.length:Int))then(lAt i.2.2.1 v.1).bind fun a=>(E5 ((a.1,a.2.1,a.2.2.1,a.2.2.2.1,a.2.2.2.2.1,a.2.2.2.2.2.1,a.2.2.2.2.2.2.1,a.2.2.2.2.2.2.2.1,a.2.2.2.2.2.2.2.2.1,()),())).bind fun b=>if(v.2.1++[(b.1,b.2.1,b.2.2.1,b.2.2.2.1,b.2.2.2.2.1,b.2.2.2.2.2.1,b.2.2.2.2.2.2.1,b.2.2.2.2.2.2.2.1,b.2.2.2.2.2.2.2.2.1,())]).length<=338311270084 then K (.inl (IntKind.i64.wrap (v.1+1),v.2.1++[(b.1,b.2.1,b.2.2.1,b.2.2.2.1,b.2.2.2.2.1,b.2.2.2.2.2.1,b.2.2.2.2.2.2.1,b.2.2.2.2.2.2.2.1,b.2.2.2.2.2.2.2.2.1,())],()))else none else K (.inr (v.2.1,()))
theorem Nd:Bg EM:=fun i v R K=>Ae (Ac fun _=>Ac fun _=>Aq (Aa)) (Aa)
def WA:Tmpl:=⟨(.junk (.ptr 0 0 0 (.ptr 1 0 0 (.ptr 2 0 0 (.slot .i (jk 36 .nil)))))),(.cells 6 (.slot .bool (.slot (.slice (.slice Af)) (.slot (.slice Ad) (.slot (.slice A0) (.slot (.slice A0) (.slot .i .nil)))))) (.cells 6 (.slot .bool (.const (AV.nils) (.const (AV.nils) (.const (AV.nils) (.const (AV.nils) (.slot .i .nil)))))) (.cells 6 (.slot .bool (.own 3 (.own 6 (.own 4 (.own 5 (.slot .i .nil)))))) (.tree false 0 (.slice Af) (.lst false A0 (.lst false A0 (.tree false 0 Ad .nil)))))))⟩
def ed:Exs ek ei:=x1 (.exit 0) fun i p=>⟨jn 2 (AV.ptr 1 none 0 0::AV.ptr 2 none 0 0::jn 37 ([])),[some (Cont.cells 6 [[AV.pv .bool i.1,AV.pv (.slice (.slice Af)) i.2.1,AV.pv (.slice Ad) i.2.2.1,AV.pv (.slice A0) i.2.2.2.1,AV.pv (.slice A0) i.2.2.2.2.1,AV.pv (Ty.int IntKind.i64) i.2.2.2.2.2.1]]),some (Cont.cells 6 [[AV.pv .bool i.2.2.2.2.2.2.1,AV.nils,AV.nils,AV.nils,AV.nils,AV.pv .i i.2.2.2.2.2.2.2.1]]),some (Cont.cells 6 [[AV.pv .bool i.2.2.2.2.2.2.2.2.1,AV.own 3 none none,AV.own 6 none none,AV.own 4 none none,AV.own 5 none none,AV.pv .i i.2.2.2.2.2.2.2.2.2.1]]),some (Cont.tree false 0 (.slice Af) i.2.2.2.2.2.2.2.2.2.2.1 none),some (Cont.lst false A0 i.2.2.2.2.2.2.2.2.2.2.2.1),some (Cont.lst false A0 i.2.2.2.2.2.2.2.2.2.2.2.2.1),some (Cont.tree false 0 Ad p.1 none)]⟩
def ej:=((.v (.i (.i (.i (.i (.i (.i (.i (.i (.i (.i (.i (.i (.i (.v .n))))))))))))))):Pk WA.ty _ _)
def r5:Cfg:={ti:=Aw,ents:=[W3,W2,SF],ann:=[(3,Ao WA 0 (spP ej) EM ed.E)],lent:=0}
def HU (x:A5×Unit):Option (Bool×Int×A7):=(Hi ((x.1.2.1.1,()),())).bind fun v=>(Fx (x.1.2.2.2.1,())).bind fun a=>if x.1.2.2.2.2.1.length<=2199023255552 then(AC (fun b=>EM (x.1.1,x.1.2.1.1,x.1.2.2.1,x.1.2.2.2.1,x.1.2.2.2.2.1,x.1.2.2.2.2.2.1,false,0,x.1.1,x.1.2.2.2.2.2.1,v.1,a.1,x.1.2.2.2.2.1,()) b _ some) (0,[],())).bind fun p=>some (x.1.1,x.1.2.2.2.2.2.1,v.1,p.1,a.1,x.1.2.2.2.2.1,())else none
def cr:Ent:=⟨49,⟨(.slot D9 .nil),.nil⟩,⟨(.agg (.slot .bool (.own 0 (.own 1 (.own 2 (.own 3 (.slot .i .nil)))))) .nil),(.tree false 0 (.slice Af) (.tree false 0 Ad (.lst false A0 (.lst false A0 .nil))))⟩,HU⟩
theorem eo:CfgOK Go.Proofs.Tryz.prog r5:=hcB (all_cons qx (all_cons Z7 (all_cons Rg all_nil)))
theorem kM:B9 Go.Proofs.Tryz.prog r5 (lpc Go.Proofs.Tryz.f49 0):=lkA eo WA ej EM ed [2,3] Nd
theorem rE:Ai Go.Proofs.Tryz.prog cr:=okB eo Go.Proofs.Tryz.func49 kM
abbrev Atn:=Int×Bool×List (List A2)×List A3×List A1×List A1×Int×Unit
abbrev Atk:=Int×Unit
abbrev Atl:=Int×Unit ⊕ Unit
def C9 (i:Atn)(v:Atk)(R:Type)(K:Atk ⊕ Atl->Option R):Option R:=bif decide (v.1<(i.2.2.2.1.length:Int))then(lAt i.2.2.2.1 v.1).bind fun a=>bif a.1==i.1 then K (.inr (.inl (v.1,())))else K (.inl (IntKind.i64.wrap (v.1+1),()))else K (.inr (.inr ()))
theorem Jp:Bg C9:=fun i v R K=>Ae (Ac fun _=>Ae (Aa) (Aa)) (Aa)
def Ace:Tmpl:=⟨(.junk (.slot .i (.ptr 0 0 0 (jk 2 (.slot .i (jk 16 .nil)))))),(.cells 6 (.slot .bool (.slot (.slice (.slice Af)) (.slot (.slice Ad) (.slot (.slice A0) (.slot (.slice A0) (.slot .i .nil)))))) .nil)⟩
def Atj:Exs Atn Atl:=xs .ret (fun i p=>⟨jn 4 (.n (p.1)::jn 17 ([])),[some (Cont.cells 6 [[AV.pv .bool i.2.1,AV.pv (.slice (.slice Af)) i.2.2.1,AV.pv (.slice Ad) i.2.2.2.1,AV.pv (.slice A0) i.2.2.2.2.1,AV.pv (.slice A0) i.2.2.2.2.2.1,AV.pv .i i.2.2.2.2.2.2.1]])]⟩)<|x1 (.exit 0) fun i p=>⟨jn 22 ([]),[some (Cont.cells 6 [[AV.pv .bool i.2.1,AV.pv (.slice (.slice Af)) i.2.2.1,AV.pv (.slice Ad) i.2.2.2.1,AV.pv (.slice A0) i.2.2.2.2.1,AV.pv (.slice A0) i.2.2.2.2.2.1,AV.pv .i i.2.2.2.2.2.2.1]])]⟩
def Atm:=((.i (.v (.i (.i (.i (.i (.i (.i .n)))))))):Pk Ace.ty _ _)
def AAr:Cfg:={ti:=Aw,ents:=[],ann:=[(2,Ao Ace 0 (spP Atm) C9 Atj.E)],lent:=0}
def CJ (x:A5×Int×Unit):Option (Int×Unit):=(AC (fun v=>C9 (x.2.1,x.1.1,x.1.2.1.1,x.1.2.2.1,x.1.2.2.2.1,x.1.2.2.2.2.1,x.1.2.2.2.2.2.1,()) v _ some) (0,())).bind fun p=>Az p (fun p=>some (p.1,())) fun p=>some (-1,())
def hZ:Ent:=⟨50,⟨(.slot D9 (.slot .i .nil)),.nil⟩,⟨(.slot .i .nil),.nil⟩,CJ⟩
theorem Ato:CfgOK Go.Proofs.Tryz.prog AAr:=hcB all_nil
theorem Ayr:B9 Go.Proofs.Tryz.prog AAr (lpc Go.Proofs.Tryz.f50 0):=lkA Ato Ace Atm C9 Atj [4] Jp
theorem qw:Ai Go.Proofs.Tryz.prog hZ:=okB Ato Go.Proofs.Tryz.func50 Ayr
def Ak (x:B3):Option (Bool×Unit):=bif decide (x.1>=x.2.1)then some (decide (x.1<=x.2.2.1),())else some (false,())
def Qi:Ent:=⟨100,⟨(si 3 .nil),.nil⟩,⟨(.slot .bool .nil),.nil⟩,Ak⟩
theorem Qg:Ai Go.Proofs.Tryz.prog Qi:=okA (hcA 0 all_nil) Go.Proofs.Tryz.func100
def Da (x:A2×Unit):Option (Bool×Unit):=(Ak (x.1.2.1,-1,99,())).bind fun v=>bif !v.1 then some (false,())else(Ak (x.1.2.2.1,0,999,())).bind fun v=>bif !v.1 then some (false,())else(Ak (x.1.2.2.2.1,x.1.2.2.1,999,())).bind fun v=>bif !v.1 then some (false,())else(Ak (x.1.2.2.2.2.1,1,1000,())).bind fun v=>bif !v.1 then some (false,())else bif x.1.2.2.1==0 then bif x.1.1==0 then some (x.1.2.1==-1,())else some (false,())else(Ak (x.1.1,1,9,())).bind fun v=>some (v.1,())
def hY:Ent:=⟨176,⟨(.slot Af .nil),.nil⟩,⟨(.slot .bool .nil),.nil⟩,Da⟩
theorem qv:Ai Go.Proofs.Tryz.prog hY:=okA (hcA 0 (all_cons Qg all_nil)) Go.Proofs.Tryz.func176
abbrev Ati:=List A2×Unit
abbrev Atf:=Int×Unit
abbrev Atg:=Unit ⊕ Unit ⊕ Unit ⊕ Unit
def CD (i:Ati)(v:Atf)(R:Type)(K:Atf ⊕ Atg->Option R):Option R:=bif decide (v.1<(i.1.length:Int))then(lAt i.1 v.1).bind fun a=>(Da ((a.1,a.2.1,a.2.2.1,a.2.2.2.1,a.2.2.2.2.1,()),())).bind fun b=>bif !b.1 then K (.inr (.inl ()))else bif decide (IntKind.i64.wrap (v.1+1)<(i.1.length:Int))then(lAt i.1 v.1).bind fun c=>(lAt i.1 (IntKind.i64.wrap (v.1+1))).bind fun d=>bif decide (c.2.2.1>=d.2.2.1)then K (.inr (.inr (.inl ())))else(lAt i.1 v.1).bind fun e=>(lAt i.1 (IntKind.i64.wrap (v.1+1))).bind fun f=>bif decide (e.2.2.2.2.1>f.2.2.1)then K (.inr (.inr (.inr (.inl ()))))else K (.inl (IntKind.i64.wrap (v.1+1),()))else K (.inl (IntKind.i64.wrap (v.1+1),()))else K (.inr (.inr (.inr (.inr ()))))
theorem Kl:Bg CD:=fun i v R K=>Ae (Ac fun _=>Ac fun _=>Ae (Aa) (Ae (Ac fun _=>Ac fun _=>Ae (Aa) (Ac fun _=>Ac fun _=>Ae (Aa) (Aa))) (Aa))) (Aa)
def Acd:Tmpl:=⟨(.slot (.slice Af) (jk 2 (.slot .i (jk 58 .nil)))),.nil⟩
def Ate:Exs Ati Atg:=xs .ret (fun i p=>⟨AV.pv (.slice Af) i.1::jn 1 (.b (false)::jn 59 ([])),[]⟩)<|xs .ret (fun i p=>⟨AV.pv (.slice Af) i.1::jn 1 (.b (false)::jn 59 ([])),[]⟩)<|xs .ret (fun i p=>⟨AV.pv (.slice Af) i.1::jn 1 (.b (false)::jn 59 ([])),[]⟩)<|x1 (.exit 0) fun i p=>⟨AV.pv (.slice Af) i.1::jn 61 ([]),[]⟩
def Ath:=((.i (.v .n)):Pk Acd.ty _ _)
def r4:Cfg:={ti:=Aw,ents:=[hY],ann:=[(2,Ao Acd 0 (spP Ath) CD Ate.E)],lent:=0}
def Ck (x:List A2×Unit):Option (Bool×Unit):=(AC (fun v=>CD (x.1,()) v _ some) (0,())).bind fun p=>Az p (fun p=>some (false,())) fun p=>Az p (fun p=>some (false,())) fun p=>Az p (fun p=>some (false,())) fun p=>bif decide ((x.1.length:Int)>0)then(lAt x.1 (IntKind.i64.wrap ((x.1.length:Int)-1))).bind fun v=>some (v.2.2.2.2.1==1000,())else some (false,())
def aR:Ent:=⟨170,⟨(.slot (.slice Af) .nil),.nil⟩,⟨(.slot .bool .nil),.nil⟩,Ck⟩
theorem eb:CfgOK Go.Proofs.Tryz.prog r4:=hcB (all_cons qv all_nil)
theorem Ayq:B9 Go.Proofs.Tryz.prog r4 (lpc Go.Proofs.Tryz.f170 0):=lkA eb Acd Ath CD Ate [0,2] Kl
theorem jw:Ai Go.Proofs.Tryz.prog aR:=okB eb Go.Proofs.Tryz.func170 Ayq
abbrev Atc:=List (List A2)×Unit
abbrev At9:=Int×Unit
abbrev Ata:=Unit ⊕ Unit ⊕ Unit ⊕ Unit ⊕ Unit
def CC (i:Atc)(v:At9)(R:Type)(K:At9 ⊕ Ata->Option R):Option R:=bif decide (v.1<(i.1.length:Int))then(lAt i.1 v.1).bind fun a=>(Ck (a,())).bind fun b=>bif !b.1 then K (.inr (.inl ()))else(lAt i.1 v.1).bind fun c=>(lAt c 0).bind fun d=>bif decide (d.2.2.1>0)then(lAt i.1 v.1).bind fun e=>bif decide ((e.length:Int)>50)then K (.inr (.inr (.inl ())))else(lAt i.1 v.1).bind fun f=>bif decide ((f.length:Int)>50)then K (.inr (.inr (.inr (.inl ()))))else K (.inl (IntKind.i64.wrap (v.1+1),()))else(lAt i.1 v.1).bind fun e=>bif decide ((e.length:Int)>50)then K (.inr (.inr (.inr (.inr (.inl ())))))else K (.inl (IntKind.i64.wrap (v.1+1),()))else K (.inr (.inr (.inr (.inr (.inr ())))))
theorem Kk:Bg CC:=fun i v R K=>Ae (Ac fun _=>Ac fun _=>Ae (Aa) (Ac fun _=>Ac fun _=>Ae (Ac fun _=>Ae (Aa) (Ac fun _=>Ae (Aa) (Aa))) (Ac fun _=>Ae (Aa) (Aa)))) (Aa)
def Acc:Tmpl:=⟨(.junk (.ptr 0 0 0 (.junk (.slot .i (jk 47 .nil))))),(.cells 1 (.slot (.slice (.slice Af)) .nil) .nil)⟩
def At8:Exs Atc Ata:=xs .ret (fun i p=>⟨jn 1 (AV.ptr 0 none 0 0::.b (false)::jn 48 ([])),[some (Cont.cells 1 [[AV.pv (.slice (.slice Af)) i.1]])]⟩)<|xs .ret (fun i p=>⟨jn 1 (AV.ptr 0 none 0 0::.b (false)::jn 48 ([])),[some (Cont.cells 1 [[AV.pv (.slice (.slice Af)) i.1]])]⟩)<|xs .ret (fun i p=>⟨jn 1 (AV.ptr 0 none 0 0::.b (false)::jn 48 ([])),[some (Cont.cells 1 [[AV.pv (.slice (.slice Af)) i.1]])]⟩)<|xs .ret (fun i p=>⟨jn 1 (AV.ptr 0 none 0 0::.b (false)::jn 48 ([])),[some (Cont.cells 1 [[AV.pv (.slice (.slice Af)) i.1]])]⟩)<|x1 (.exit 0) fun i p=>⟨jn 1 (AV.ptr 0 none 0 0::jn 49 ([])),[some (Cont.cells 1 [[AV.pv (.slice (.slice Af)) i.1]])]⟩
def Atb:=((.v (.i .n)):Pk Acc.ty _ _)
def AAq:Cfg:={ti:=Aw,ents:=[aR],ann:=[(2,Ao Acc 0 (spP Atb) CC At8.E)],lent:=0}
def Bk (x:A4×Unit):Option (Bool×Unit):=(AC (fun v=>CC (x.1.1,()) v _ some) (0,())).bind fun p=>Az p (fun p=>some (false,())) fun p=>Az p (fun p=>some (false,())) fun p=>Az p (fun p=>some (false,())) fun p=>Az p (fun p=>some (false,())) fun p=>some ((x.1.1.length:Int)==6,())
def Oo:Ent:=⟨97,⟨(.slot Bp .nil),.nil⟩,⟨(.slot .bool .nil),.nil⟩,Bk⟩
theorem Atd:CfgOK Go.Proofs.Tryz.prog AAq:=hcB (all_cons jw all_nil)
theorem Ayp:B9 Go.Proofs.Tryz.prog AAq (lpc Go.Proofs.Tryz.f97 0):=lkA Atd Acc Atb CC At8 [1,2] Kk
theorem Qu:Ai Go.Proofs.Tryz.prog Oo:=okB Atd Go.Proofs.Tryz.func97 Ayp
abbrev dZ:=List A1×Unit
abbrev dW:=Int×Unit
abbrev dX:=Unit ⊕ Unit ⊕ Unit ⊕ Unit
def Ed (i:dZ)(v:dW)(R:Type)(K:dW ⊕ dX->Option R):Option R:=bif decide (v.1<(i.1.length:Int))then(lAt i.1 v.1).bind fun a=>(Ak (a.1,0,5,())).bind fun b=>bif !b.1 then K (.inr (.inl ()))else(lAt i.1 v.1).bind fun c=>(Ak (c.2.1,1,9,())).bind fun d=>bif !d.1 then K (.inr (.inr (.inl ())))else bif decide (v.1>0)then(lAt i.1 (IntKind.i64.wrap (v.1-1))).bind fun e=>(lAt i.1 v.1).bind fun f=>bif decide (e.1>=f.1)then K (.inr (.inr (.inr (.inl ()))))else K (.inl (IntKind.i64.wrap (v.1+1),()))else K (.inl (IntKind.i64.wrap (v.1+1),()))else K (.inr (.inr (.inr (.inr ()))))
theorem Mk:Bg Ed:=fun i v R K=>Ae (Ac fun _=>Ac fun _=>Ae (Aa) (Ac fun _=>Ac fun _=>Ae (Aa) (Ae (Ac fun _=>Ac fun _=>Ae (Aa) (Aa)) (Aa)))) (Aa)
def Wz:Tmpl:=⟨(.slot (.slice A0) (jk 2 (.slot .i (jk 40 .nil)))),.nil⟩
def dV:Exs dZ dX:=xs .ret (fun i p=>⟨jn 2 (.b (false)::jn 41 ([])),[]⟩)<|xs .ret (fun i p=>⟨jn 2 (.b (false)::jn 41 ([])),[]⟩)<|xs .ret (fun i p=>⟨jn 2 (.b (false)::jn 41 ([])),[]⟩)<|x1 (.exit 0) fun i p=>⟨jn 44 ([]),[]⟩
def dY:=((.i (.v .n)):Pk Wz.ty _ _)
def qZ:Cfg:={ti:=Aw,ents:=[Qi],ann:=[(2,Ao Wz 0 (spP dY) Ed dV.E)],lent:=0}
def DF (x:List A1×Unit):Option (Bool×Unit):=(AC (fun v=>Ed (x.1,()) v _ some) (0,())).bind fun p=>Az p (fun p=>some (false,())) fun p=>Az p (fun p=>some (false,())) fun p=>Az p (fun p=>some (false,())) fun p=>some (true,())
def aQ:Ent:=⟨98,⟨(.slot (.slice A0) .nil),.nil⟩,⟨(.slot .bool .nil),.nil⟩,DF⟩
theorem e9:CfgOK Go.Proofs.Tryz.prog qZ:=hcB (all_cons Qg all_nil)
theorem kL:B9 Go.Proofs.Tryz.prog qZ (lpc Go.Proofs.Tryz.f98 0):=lkA e9 Wz dY Ed dV [2] Mk
theorem ju:Ai Go.Proofs.Tryz.prog aQ:=okB e9 Go.Proofs.Tryz.func98 kL
abbrev At6:=List A1×Unit
abbrev At3:=Int×Unit
abbrev At4:=Unit ⊕ Unit ⊕ Unit ⊕ Unit ⊕ Unit
def Eb (i:At6)(v:At3)(R:Type)(K:At3 ⊕ At4->Option R):Option R:=bif decide (v.1<(i.1.length:Int))then(lAt i.1 v.1).bind fun a=>(Ak (a.1,1,9,())).bind fun b=>bif !b.1 then K (.inr (.inl ()))else(lAt i.1 v.1).bind fun c=>(Ak (c.2.1,1,9,())).bind fun d=>bif !d.1 then K (.inr (.inr (.inl ())))else(lAt i.1 v.1).bind fun e=>(lAt i.1 v.1).bind fun f=>bif e.1==f.2.1 then K (.inr (.inr (.inr (.inl ()))))else bif decide (v.1>0)then(lAt i.1 (IntKind.i64.wrap (v.1-1))).bind fun g=>(lAt i.1 v.1).bind fun h=>bif decide (g.1>=h.1)then K (.inr (.inr (.inr (.inr (.inl ())))))else K (.inl (IntKind.i64.wrap (v.1+1),()))else K (.inl (IntKind.i64.wrap (v.1+1),()))else K (.inr (.inr (.inr (.inr (.inr ())))))
theorem Mj:Bg Eb:=fun i v R K=>Ae (Ac fun _=>Ac fun _=>Ae (Aa) (Ac fun _=>Ac fun _=>Ae (Aa) (Ac fun _=>Ac fun _=>Ae (Aa) (Ae (Ac fun _=>Ac fun _=>Ae (Aa) (Aa)) (Aa))))) (Aa)
def Acb:Tmpl:=⟨(.slot (.slice A0) (jk 2 (.slot .i (jk 53 .nil)))),.nil⟩
def At2:Exs At6 At4:=xs .ret (fun i p=>⟨jn 2 (.b (false)::jn 54 ([])),[]⟩)<|xs .ret (fun i p=>⟨jn 2 (.b (false)::jn 54 ([])),[]⟩)<|xs .ret (fun i p=>⟨jn 2 (.b (false)::jn 54 ([])),[]⟩)<|xs .ret (fun i p=>⟨jn 2 (.b (false)::jn 54 ([])),[]⟩)<|x1 (.exit 0) fun i p=>⟨jn 57 ([]),[]⟩
def At5:=((.i (.v .n)):Pk Acb.ty _ _)
def AAp:Cfg:={ti:=Aw,ents:=[Qi],ann:=[(2,Ao Acb 0 (spP At5) Eb At2.E)],lent:=0}
def DE (x:List A1×Unit):Option (Bool×Unit):=(AC (fun v=>Eb (x.1,()) v _ some) (0,())).bind fun p=>Az p (fun p=>some (false,())) fun p=>Az p (fun p=>some (false,())) fun p=>Az p (fun p=>some (false,())) fun p=>Az p (fun p=>some (false,())) fun p=>some (true,())
def TQ:Ent:=⟨99,⟨(.slot (.slice A0) .nil),.nil⟩,⟨(.slot .bool .nil),.nil⟩,DE⟩
theorem At7:CfgOK Go.Proofs.Tryz.prog AAp:=hcB (all_cons Qg all_nil)
theorem Ayo:B9 Go.Proofs.Tryz.prog AAp (lpc Go.Proofs.Tryz.f99 0):=lkA At7 Acb At5 Eb At2 [2] Mj
theorem jt:Ai Go.Proofs.Tryz.prog TQ:=okB At7 Go.Proofs.Tryz.func99 Ayo
abbrev At0:=Int×List (List A2)×Unit
abbrev Asu:=Int×Int×Unit
abbrev Asw:=Int×Unit
def Du (i:At0)(v:Asu)(R:Type)(K:Asu ⊕ Asw->Option R):Option R:=(lAt i.2.1 i.1).bind fun a=>bif decide (v.2.1<(a.length:Int))then(lAt i.2.1 i.1).bind fun b=>(lAt b v.2.1).bind fun c=>(lAt i.2.1 i.1).bind fun d=>(lAt d v.2.1).bind fun e=>K (.inl (mx (mx v.1 c.2.2.1) e.2.2.2.1,IntKind.i64.wrap (v.2.1+1),()))else K (.inr (v.1,()))
theorem LW:Bg Du:=fun i v R K=>Ac fun _=>Ae (Ac fun _=>Ac fun _=>Ac fun _=>Ac fun _=>Aa) (Aa)
def Ac8:Tmpl:=⟨(.junk (.ptr 0 0 0 (.junk (si 3 (jk 42 .nil))))),(.cells 1 (.slot (.slice (.slice Af)) .nil) .nil)⟩
def Ass:Exs At0 Asw:=x1 (.exit 2) fun i p=>⟨jn 1 (AV.ptr 0 none 0 0::jn 1 (.n (p.1)::.n (i.1)::jn 43 ([]))),[some (Cont.cells 1 [[AV.pv (.slice (.slice Af)) i.2.1]])]⟩
def Asy:=((.v (.i (.v (.i .n)))):Pk Ac8.ty _ _)
abbrev At1:=List (List A2)×Unit
abbrev Asv:=Int×Int×Unit
abbrev Asx:=Int×Unit ⊕ Int×Unit
def Dv (i:At1)(v:Asv)(R:Type)(K:Asv ⊕ Asx->Option R):Option R:=bif decide (v.2.1<(i.1.length:Int))then(Bk ((i.1,()),())).bind fun a=>bif a.1 then(AC (fun b=>Du (v.2.1,i.1,()) b _ some) (v.1,0,())).bind fun p=>K (.inl (p.1,IntKind.i64.wrap (v.2.1+1),()))else K (.inr (.inl (v.1,())))else K (.inr (.inr (v.1,())))
theorem LX:Bg Dv:=fun i v R K=>Ae (Ac fun _=>Ae (Ac fun _=>Aa) (Aa)) (Aa)
def Ac9:Tmpl:=⟨(.junk (.ptr 0 0 0 (.junk (si 2 (jk 43 .nil))))),(.cells 1 (.slot (.slice (.slice Af)) .nil) .nil)⟩
def Ast:Exs At1 Asx:=xs (.exit 0) (fun i p=>⟨jn 3 (.n (p.1)::jn 44 ([])),[some (Cont.cells 1 [[AV.pv (.slice (.slice Af)) i.1]])]⟩)<|x1 (.exit 0) fun i p=>⟨jn 3 (.n (p.1)::jn 44 ([])),[some (Cont.cells 1 [[AV.pv (.slice (.slice Af)) i.1]])]⟩
def Asz:=((.v (.v (.i .n))):Pk Ac9.ty _ _)
def vQ:Cfg:={ti:=Aw,ents:=[Oo],ann:=[(6,Ao Ac8 0 (spP Asy) Du Ass.E),(3,Ao Ac9 0 (spP Asz) Dv Ast.E)],lent:=0}
def Fy (x:A4×Unit):Option (Int×Unit):=(AC (fun v=>Dv (x.1.1,()) v _ some) (0,0,())).bind fun p=>Az p (fun p=>some (p.1,())) fun p=>some (p.1,())
def TP:Ent:=⟨101,⟨(.slot Bp .nil),.nil⟩,⟨(.slot .i .nil),.nil⟩,Fy⟩
theorem Aca:CfgOK Go.Proofs.Tryz.prog vQ:=hcB (all_cons Qu all_nil)
theorem Adu:B9 Go.Proofs.Tryz.prog vQ (lpc Go.Proofs.Tryz.f101 1):=lkA Aca Ac8 Asy Du Ass [1,3,4] LW
theorem Ayn:B9 Go.Proofs.Tryz.prog vQ (lpc Go.Proofs.Tryz.f101 0):=lkB Aca Ac9 Asz Dv Ast [3] LX Adu
theorem dU:Ai Go.Proofs.Tryz.prog TP:=okC Aca Go.Proofs.Tryz.func101 Ayn Adu
def G3 (x:A1×A1×Unit):Option (Bool×Unit):=bif decide (x.1.1<x.2.1.1)then some (true,())else bif x.1.1==x.2.1.1 then some (decide (x.1.2.1<x.2.1.2.1),())else some (false,())
def W0:Ent:=⟨171,⟨(.slot A0 (.slot A0 .nil)),.nil⟩,⟨(.slot .bool .nil),.nil⟩,G3⟩
theorem qu:Ai Go.Proofs.Tryz.prog W0:=okA (hcA 0 all_nil) Go.Proofs.Tryz.func171
abbrev dS:=A3
abbrev dP:=Int×Unit
abbrev dQ:=Int×Int×Unit ⊕ Int×Int×Unit ⊕ Int×Int×Unit ⊕ Unit
def BK (i:dS)(v:dP)(R:Type)(K:dP ⊕ dQ->Option R):Option R:=bif decide (v.1<(i.2.2.2.2.2.2.2.1.length:Int))then(lAt i.2.2.2.2.2.2.2.1 v.1).bind fun a=>(Ak (a.1,0,5,())).bind fun b=>bif !b.1 then K (.inr (.inl (a.1,a.2.1,())))else(Ak (a.2.1,0,999,())).bind fun c=>bif !c.1 then K (.inr (.inr (.inl (a.1,a.2.1,()))))else bif decide (v.1>0)then(lAt i.2.2.2.2.2.2.2.1 (IntKind.i64.wrap (v.1-1))).bind fun d=>(G3 ((d.1,d.2.1,()),(a.1,a.2.1,()),())).bind fun e=>bif !e.1 then K (.inr (.inr (.inr (.inl (a.1,a.2.1,())))))else K (.inl (IntKind.i64.wrap (v.1+1),()))else K (.inl (IntKind.i64.wrap (v.1+1),()))else K (.inr (.inr (.inr (.inr ()))))
theorem Iv:Bg BK:=fun i v R K=>Ae (Ac fun _=>Ac fun _=>Ae (Aa) (Ac fun _=>Ae (Aa) (Ae (Ac fun _=>Ac fun _=>Ae (Aa) (Aa)) (Aa)))) (Aa)
def Wy:Tmpl:=⟨(.junk (.ptr 0 0 0 (.junk (.slot .i (jk 127 .nil))))),(.cells 9 (si 7 (.slot (.slice A0) (.slot (.slice A0) .nil))) .nil)⟩
def dN:Exs dS dQ:=xs .ret (fun i p=>⟨jn 1 (AV.ptr 0 none 0 0::.b (false)::jn 128 ([])),[some (Cont.cells 9 [[AV.pv .i i.1,AV.pv .i i.2.1,AV.pv .i i.2.2.1,AV.pv .i i.2.2.2.1,AV.pv (Ty.int IntKind.i64) i.2.2.2.2.1,AV.pv .i i.2.2.2.2.2.1,AV.pv .i i.2.2.2.2.2.2.1,AV.pv (.slice A0) i.2.2.2.2.2.2.2.1,AV.pv (.slice A0) i.2.2.2.2.2.2.2.2.1]]),some (Cont.cells 2 [[AV.pv .i p.1,AV.pv .i p.2.1]])]⟩)<|xs .ret (fun i p=>⟨jn 1 (AV.ptr 0 none 0 0::.b (false)::jn 128 ([])),[some (Cont.cells 9 [[AV.pv .i i.1,AV.pv .i i.2.1,AV.pv .i i.2.2.1,AV.pv .i i.2.2.2.1,AV.pv (Ty.int IntKind.i64) i.2.2.2.2.1,AV.pv .i i.2.2.2.2.2.1,AV.pv .i i.2.2.2.2.2.2.1,AV.pv (.slice A0) i.2.2.2.2.2.2.2.1,AV.pv (.slice A0) i.2.2.2.2.2.2.2.2.1]]),some (Cont.cells 2 [[AV.pv .i p.1,AV.pv .i p.2.1]])]⟩)<|xs .ret (fun i p=>⟨jn 1 (AV.ptr 0 none 0 0::.b (false)::jn 128 ([])),[some (Cont.cells 9 [[AV.pv .i i.1,AV.pv .i i.2.1,AV.pv .i i.2.2.1,AV.pv .i i.2.2.2.1,AV.pv (Ty.int IntKind.i64) i.2.2.2.2.1,AV.pv .i i.2.2.2.2.2.1,AV.pv .i i.2.2.2.2.2.2.1,AV.pv (.slice A0) i.2.2.2.2.2.2.2.1,AV.pv (.slice A0) i.2.2.2.2.2.2.2.2.1]]),some (Cont.cells 2 [[AV.pv .i p.1,AV.pv .i p.2.1]])]⟩)<|x1 (.exit 0) fun i p=>⟨jn 1 (AV.ptr 0 none 0 0::jn 129 ([])),[some (Cont.cells 9 [[AV.pv .i i.1,AV.pv .i i.2.1,AV.pv .i i.2.2.1,AV.pv .i i.2.2.2.1,AV.pv .i i.2.2.2.2.1,AV.pv .i i.2.2.2.2.2.1,AV.pv .i i.2.2.2.2.2.2.1,AV.pv (.slice A0) i.2.2.2.2.2.2.2.1,AV.pv (.slice A0) i.2.2.2.2.2.2.2.2.1]])]⟩
def dR:=((.v (.i (.i (.i (.i (.i (.i (.i (.i (.i .n)))))))))):Pk Wy.ty _ _)
abbrev Asq:=A3
abbrev Asn:=Int×Unit
abbrev Aso:=Int×Int×Unit ⊕ Int×Int×Unit ⊕ Int×Int×Unit ⊕ Unit
def BJ (i:Asq)(v:Asn)(R:Type)(K:Asn ⊕ Aso->Option R):Option R:=bif decide (v.1<(i.2.2.2.2.2.2.2.2.1.length:Int))then(lAt i.2.2.2.2.2.2.2.2.1 v.1).bind fun a=>(Ak (a.1,0,5,())).bind fun b=>bif !b.1 then K (.inr (.inl (a.1,a.2.1,())))else(Ak (a.2.1,-1,99,())).bind fun c=>bif !c.1 then K (.inr (.inr (.inl (a.1,a.2.1,()))))else bif decide (v.1>0)then(lAt i.2.2.2.2.2.2.2.2.1 (IntKind.i64.wrap (v.1-1))).bind fun d=>bif decide (d.1>=a.1)then K (.inr (.inr (.inr (.inl (a.1,a.2.1,())))))else K (.inl (IntKind.i64.wrap (v.1+1),()))else K (.inl (IntKind.i64.wrap (v.1+1),()))else K (.inr (.inr (.inr (.inr ()))))
theorem Iu:Bg BJ:=fun i v R K=>Ae (Ac fun _=>Ac fun _=>Ae (Aa) (Ac fun _=>Ae (Aa) (Ae (Ac fun _=>Ae (Aa) (Aa)) (Aa)))) (Aa)
def Ac6:Tmpl:=⟨(.junk (.ptr 0 0 0 (jk 3 (.slot .i (jk 125 .nil))))),(.cells 9 (si 7 (.slot (.slice A0) (.slot (.slice A0) .nil))) .nil)⟩
def Asm:Exs Asq Aso:=xs .ret (fun i p=>⟨jn 1 (AV.ptr 0 none 0 0::.b (false)::jn 128 ([])),[some (Cont.cells 9 [[AV.pv .i i.1,AV.pv .i i.2.1,AV.pv .i i.2.2.1,AV.pv .i i.2.2.2.1,AV.pv (Ty.int IntKind.i64) i.2.2.2.2.1,AV.pv .i i.2.2.2.2.2.1,AV.pv .i i.2.2.2.2.2.2.1,AV.pv (.slice A0) i.2.2.2.2.2.2.2.1,AV.pv (.slice A0) i.2.2.2.2.2.2.2.2.1]]),some (Cont.cells 2 [[AV.pv .i p.1,AV.pv .i p.2.1]])]⟩)<|xs .ret (fun i p=>⟨jn 1 (AV.ptr 0 none 0 0::.b (false)::jn 128 ([])),[some (Cont.cells 9 [[AV.pv .i i.1,AV.pv .i i.2.1,AV.pv .i i.2.2.1,AV.pv .i i.2.2.2.1,AV.pv (Ty.int IntKind.i64) i.2.2.2.2.1,AV.pv .i i.2.2.2.2.2.1,AV.pv .i i.2.2.2.2.2.2.1,AV.pv (.slice A0) i.2.2.2.2.2.2.2.1,AV.pv (.slice A0) i.2.2.2.2.2.2.2.2.1]]),some (Cont.cells 2 [[AV.pv .i p.1,AV.pv .i p.2.1]])]⟩)<|xs .ret (fun i p=>⟨jn 1 (AV.ptr 0 none 0 0::.b (false)::jn 128 ([])),[some (Cont.cells 9 [[AV.pv .i i.1,AV.pv .i i.2.1,AV.pv .i i.2.2.1,AV.pv .i i.2.2.2.1,AV.pv (Ty.int IntKind.i64) i.2.2.2.2.1,AV.pv .i i.2.2.2.2.2.1,AV.pv .i i.2.2.2.2.2.2.1,AV.pv (.slice A0) i.2.2.2.2.2.2.2.1,AV.pv (.slice A0) i.2.2.2.2.2.2.2.2.1]]),some (Cont.cells 2 [[AV.pv .i p.1,AV.pv .i p.2.1]])]⟩)<|x1 (.exit 2) fun i p=>⟨jn 1 (AV.ptr 0 none 0 0::jn 129 ([])),[some (Cont.cells 9 [[AV.pv .i i.1,AV.pv .i i.2.1,AV.pv .i i.2.2.1,AV.pv .i i.2.2.2.1,AV.pv .i i.2.2.2.2.1,AV.pv .i i.2.2.2.2.2.1,AV.pv .i i.2.2.2.2.2.2.1,AV.pv (.slice A0) i.2.2.2.2.2.2.2.1,AV.pv (.slice A0) i.2.2.2.2.2.2.2.2.1]])]⟩
def Asp:=((.v (.i (.i (.i (.i (.i (.i (.i (.i (.i .n)))))))))):Pk Ac6.ty _ _)
def kK:Cfg:={ti:=Aw,ents:=[Qi,W0],ann:=[(2,Ao Wy 0 (spP dR) BK dN.E),(8,Ao Ac6 0 (spP Asp) BJ Asm.E)],lent:=0}
def AJ (x:A3×Unit):Option (Bool×Unit):=(AC (fun v=>BK (x.1.1,x.1.2.1,x.1.2.2.1,x.1.2.2.2.1,x.1.2.2.2.2.1,x.1.2.2.2.2.2.1,x.1.2.2.2.2.2.2.1,x.1.2.2.2.2.2.2.2.1,x.1.2.2.2.2.2.2.2.2.1,()) v _ some) (0,())).bind fun p=>Az p (fun p=>some (false,())) fun p=>Az p (fun p=>some (false,())) fun p=>Az p (fun p=>some (false,())) fun p=>(AC (fun v=>BJ (x.1.1,x.1.2.1,x.1.2.2.1,x.1.2.2.2.1,x.1.2.2.2.2.1,x.1.2.2.2.2.2.1,x.1.2.2.2.2.2.2.1,x.1.2.2.2.2.2.2.2.1,x.1.2.2.2.2.2.2.2.2.1,()) v _ some) (0,())).bind fun p=>Az p (fun p=>some (false,())) fun p=>Az p (fun p=>some (false,())) fun p=>Az p (fun p=>some (false,())) fun p=>(Ak (x.1.1,1,9,())).bind fun v=>bif !v.1 then some (false,())else(Ak (x.1.2.1,1,4,())).bind fun v=>bif !v.1 then some (false,())else(Ak (x.1.2.2.2.1,0,999,())).bind fun v=>bif !v.1 then some (false,())else(Ak (x.1.2.2.1,1,3,())).bind fun v=>bif v.1 then(Ak (x.1.2.2.2.2.1,0,999,())).bind fun v=>bif v.1 then(Ak (x.1.2.2.2.2.2.1,1,1000,())).bind fun v=>bif v.1 then bif (x.1.2.2.1==2)==decide (x.1.2.2.2.2.2.2.1>0)then(Ak (x.1.2.2.2.2.2.2.1,0,999,())).bind fun v=>bif v.1 then some (decide ((x.1.2.2.2.2.2.2.2.1.length:Int)<=60),())else some (false,())else some (false,())else some (false,())else some (false,())else some (false,())
def RB:Ent:=⟨102,⟨(.slot Ad .nil),.nil⟩,⟨(.slot .bool .nil),.nil⟩,AJ⟩
theorem aP:CfgOK Go.Proofs.Tryz.prog kK:=hcB (all_cons Qg (all_cons qu all_nil))
theorem Aym:B9 Go.Proofs.Tryz.prog kK (lpc Go.Proofs.Tryz.f102 1):=lkA aP Ac6 Asp BJ Asm [1,2] Iu
theorem kJ:B9 Go.Proofs.Tryz.prog kK (lpc Go.Proofs.Tryz.f102 0):=lkA aP Wy dR BK dN [1,2] Iv
theorem RK:Ai Go.Proofs.Tryz.prog RB:=okC aP Go.Proofs.Tryz.func102 kJ Aym
abbrev Ask:=List A2×Int×Unit
abbrev Ash:=Int×Unit
abbrev Asi:=Int×Unit ⊕ Unit
def D1 (i:Ask)(v:Ash)(R:Type)(K:Ash ⊕ Asi->Option R):Option R:=bif decide (v.1<(i.1.length:Int))then(lAt i.1 v.1).bind fun a=>bif a.2.2.1==i.2.1 then K (.inr (.inl (v.1,())))else K (.inl (IntKind.i64.wrap (v.1+1),()))else K (.inr (.inr ()))
theorem KH:Bg D1:=fun i v R K=>Ae (Ac fun _=>Ae (Aa) (Aa)) (Aa)
def Ac5:Tmpl:=⟨(.slot (.slice Af) (.slot .i (jk 3 (.slot .i (jk 14 .nil))))),.nil⟩
def Asg:Exs Ask Asi:=xs .ret (fun i p=>⟨jn 4 (.n (p.1)::jn 15 ([])),[]⟩)<|x1 (.exit 0) fun i p=>⟨jn 20 ([]),[]⟩
def Asj:=((.i (.i (.v .n))):Pk Ac5.ty _ _)
def AAo:Cfg:={ti:=Aw,ents:=[],ann:=[(2,Ao Ac5 0 (spP Asj) D1 Asg.E)],lent:=0}
def Dh (x:List A2×Int×Unit):Option (Int×Unit):=(AC (fun v=>D1 (x.1,x.2.1,()) v _ some) (0,())).bind fun p=>Az p (fun p=>some (p.1,())) fun p=>some (-1,())
def TN:Ent:=⟨172,⟨(.slot (.slice Af) (.slot .i .nil)),.nil⟩,⟨(.slot .i .nil),.nil⟩,Dh⟩
theorem Asl:CfgOK Go.Proofs.Tryz.prog AAo:=hcB all_nil
theorem Ayl:B9 Go.Proofs.Tryz.prog AAo (lpc Go.Proofs.Tryz.f172 0):=lkA Asl Ac5 Asj D1 Asg [4] KH
theorem jr:Ai Go.Proofs.Tryz.prog TN:=okB Asl Go.Proofs.Tryz.func172 Ayl
abbrev dL:=List (List A2)×A3
abbrev dI:=Int×Unit
abbrev dJ:=Unit ⊕ Unit
def Dg (i:dL)(v:dI)(R:Type)(K:dI ⊕ dJ->Option R):Option R:=bif decide (v.1<(i.2.2.2.2.2.2.2.2.1.length:Int))then(lAt i.2.2.2.2.2.2.2.2.1 v.1).bind fun a=>(lAt i.1 a.1).bind fun b=>(lAt i.2.2.2.2.2.2.2.2.1 v.1).bind fun c=>(Dh (b,c.2.1,())).bind fun d=>bif decide (d.1<0)then K (.inr (.inl ()))else K (.inl (IntKind.i64.wrap (v.1+1),()))else K (.inr (.inr ()))
theorem Lf:Bg Dg:=fun i v R K=>Ae (Ac fun _=>Ac fun _=>Ac fun _=>Ac fun _=>Ae (Aa) (Aa)) (Aa)
def Wx:Tmpl:=⟨(jk 2 (.ptr 0 0 0 (.ptr 1 0 0 (.junk (.slot .i (jk 33 .nil)))))),(.cells 1 (.slot (.slice (.slice Af)) .nil) (.cells 9 (si 7 (.slot (.slice A0) (.slot (.slice A0) .nil))) .nil))⟩
def dH:Exs dL dJ:=xs .ret (fun i p=>⟨jn 4 (.b (false)::jn 34 ([])),[some (Cont.cells 1 [[AV.pv (.slice (.slice Af)) i.1]]),some (Cont.cells 9 [[AV.pv .i i.2.1,AV.pv .i i.2.2.1,AV.pv .i i.2.2.2.1,AV.pv .i i.2.2.2.2.1,AV.pv .i i.2.2.2.2.2.1,AV.pv .i i.2.2.2.2.2.2.1,AV.pv .i i.2.2.2.2.2.2.2.1,AV.pv (.slice A0) i.2.2.2.2.2.2.2.2.1,AV.pv (.slice A0) i.2.2.2.2.2.2.2.2.2.1]])]⟩)<|x1 (.exit 0) fun i p=>⟨jn 39 ([]),[some (Cont.cells 1 [[AV.pv (.slice (.slice Af)) i.1]]),some (Cont.cells 9 [[AV.pv .i i.2.1,AV.pv .i i.2.2.1,AV.pv .i i.2.2.2.1,AV.pv .i i.2.2.2.2.1,AV.pv .i i.2.2.2.2.2.1,AV.pv .i i.2.2.2.2.2.2.1,AV.pv .i i.2.2.2.2.2.2.2.1,AV.pv (.slice A0) i.2.2.2.2.2.2.2.2.1,AV.pv (.slice A0) i.2.2.2.2.2.2.2.2.2.1]])]⟩
def dK:=((.v (.i (.i (.i (.i (.i (.i (.i (.i (.i (.i .n))))))))))):Pk Wx.ty _ _)
def qY:Cfg:={ti:=Aw,ents:=[Oo,RB,TN],ann:=[(4,Ao Wx 0 (spP dK) Dg dH.E)],lent:=0}
def CR (x:A4×A3×Unit):Option (Bool×Unit):=(Bk ((x.1.1,()),())).bind fun v=>bif !v.1 then some (false,())else(AJ ((x.2.1.1,x.2.1.2.1,x.2.1.2.2.1,x.2.1.2.2.2.1,x.2.1.2.2.2.2.1,x.2.1.2.2.2.2.2.1,x.2.1.2.2.2.2.2.2.1,x.2.1.2.2.2.2.2.2.2.1,x.2.1.2.2.2.2.2.2.2.2.1,()),())).bind fun v=>bif !v.1 then some (false,())else(AC (fun v=>Dg (x.1.1,x.2.1.1,x.2.1.2.1,x.2.1.2.2.1,x.2.1.2.2.2.1,x.2.1.2.2.2.2.1,x.2.1.2.2.2.2.2.1,x.2.1.2.2.2.2.2.2.1,x.2.1.2.2.2.2.2.2.2.1,x.2.1.2.2.2.2.2.2.2.2.1,()) v _ some) (0,())).bind fun p=>Az p (fun p=>some (false,())) fun p=>some (true,())
def VZ:Ent:=⟨103,⟨(.slot Bp (.slot Ad .nil)),.nil⟩,⟨(.slot .bool .nil),.nil⟩,CR⟩
theorem dM:CfgOK Go.Proofs.Tryz.prog qY:=hcB (all_cons Qu (all_cons RK (all_cons jr all_nil)))
theorem kI:B9 Go.Proofs.Tryz.prog qY (lpc Go.Proofs.Tryz.f103 0):=lkA dM Wx dK Dg dH [4] Lf
theorem aO:Ai Go.Proofs.Tryz.prog VZ:=okB dM Go.Proofs.Tryz.func103 kI
def E8 (x:A5×Int×Unit):Option (Bool×Unit):=(CJ ((x.1.1,(x.1.2.1.1,()),x.1.2.2.1,x.1.2.2.2.1,x.1.2.2.2.2.1,x.1.2.2.2.2.2.1,()),x.2.1,())).bind fun v=>bif decide (v.1>=0)then(lAt x.1.2.2.1 v.1).bind fun v=>some (v.2.2.1==1,())else some (false,())
def Y7:Ent:=⟨104,⟨(.slot D9 (.slot .i .nil)),.nil⟩,⟨(.slot .bool .nil),.nil⟩,E8⟩
theorem vF:Ai Go.Proofs.Tryz.prog Y7:=okA (hcA 0 (all_cons qw all_nil)) Go.Proofs.Tryz.func104
abbrev Asf:=Bool×List (List A2)×List A3×List A1×List A1×Int×Unit
abbrev Asc:=Int×Unit
abbrev Asd:=A3 ⊕ A3 ⊕ A3 ⊕ A3 ⊕ A3 ⊕ A3 ⊕ A3 ⊕ A3 ⊕ Unit
def C5 (i:Asf)(v:Asc)(R:Type)(K:Asc ⊕ Asd->Option R):Option R:=bif decide (v.1<(i.2.2.1.length:Int))then(lAt i.2.2.1 v.1).bind fun a=>(AJ ((a.1,a.2.1,a.2.2.1,a.2.2.2.1,a.2.2.2.2.1,a.2.2.2.2.2.1,a.2.2.2.2.2.2.1,a.2.2.2.2.2.2.2.1,a.2.2.2.2.2.2.2.2.1,()),())).bind fun b=>bif !b.1 then K (.inr (.inl (a.1,a.2.1,a.2.2.1,a.2.2.2.1,a.2.2.2.2.1,a.2.2.2.2.2.1,a.2.2.2.2.2.2.1,a.2.2.2.2.2.2.2.1,a.2.2.2.2.2.2.2.2.1,())))else bif decide (v.1>0)then(lAt i.2.2.1 (IntKind.i64.wrap (v.1-1))).bind fun c=>bif decide (c.1>=a.1)then K (.inr (.inr (.inl (a.1,a.2.1,a.2.2.1,a.2.2.2.1,a.2.2.2.2.1,a.2.2.2.2.2.1,a.2.2.2.2.2.2.1,a.2.2.2.2.2.2.2.1,a.2.2.2.2.2.2.2.2.1,()))))else bif decide (a.2.2.2.1>i.2.2.2.2.2.1)then K (.inr (.inr (.inr (.inl (a.1,a.2.1,a.2.2.1,a.2.2.2.1,a.2.2.2.2.1,a.2.2.2.2.2.1,a.2.2.2.2.2.2.1,a.2.2.2.2.2.2.2.1,a.2.2.2.2.2.2.2.2.1,())))))else bif decide (a.2.2.2.2.2.2.1>i.2.2.2.2.2.1)then K (.inr (.inr (.inr (.inr (.inl (a.1,a.2.1,a.2.2.1,a.2.2.2.1,a.2.2.2.2.1,a.2.2.2.2.2.1,a.2.2.2.2.2.2.1,a.2.2.2.2.2.2.2.1,a.2.2.2.2.2.2.2.2.1,()))))))else bif a.2.2.1==1 then(CR ((i.2.1,()),(a.1,a.2.1,a.2.2.1,a.2.2.2.1,a.2.2.2.2.1,a.2.2.2.2.2.1,a.2.2.2.2.2.2.1,a.2.2.2.2.2.2.2.1,a.2.2.2.2.2.2.2.2.1,()),())).bind fun d=>bif !d.1 then K (.inr (.inr (.inr (.inr (.inr (.inl (a.1,a.2.1,a.2.2.1,a.2.2.2.1,a.2.2.2.2.1,a.2.2.2.2.2.1,a.2.2.2.2.2.2.1,a.2.2.2.2.2.2.2.1,a.2.2.2.2.2.2.2.2.1,())))))))else K (.inl (IntKind.i64.wrap (v.1+1),()))else K (.inl (IntKind.i64.wrap (v.1+1),()))else bif decide (a.2.2.2.1>i.2.2.2.2.2.1)then K (.inr (.inr (.inr (.inr (.inr (.inr (.inl (a.1,a.2.1,a.2.2.1,a.2.2.2.1,a.2.2.2.2.1,a.2.2.2.2.2.1,a.2.2.2.2.2.2.1,a.2.2.2.2.2.2.2.1,a.2.2.2.2.2.2.2.2.1,()))))))))else bif decide (a.2.2.2.2.2.2.1>i.2.2.2.2.2.1)then K (.inr (.inr (.inr (.inr (.inr (.inr (.inr (.inl (a.1,a.2.1,a.2.2.1,a.2.2.2.1,a.2.2.2.2.1,a.2.2.2.2.2.1,a.2.2.2.2.2.2.1,a.2.2.2.2.2.2.2.1,a.2.2.2.2.2.2.2.2.1,())))))))))else bif a.2.2.1==1 then(CR ((i.2.1,()),(a.1,a.2.1,a.2.2.1,a.2.2.2.1,a.2.2.2.2.1,a.2.2.2.2.2.1,a.2.2.2.2.2.2.1,a.2.2.2.2.2.2.2.1,a.2.2.2.2.2.2.2.2.1,()),())).bind fun c=>bif !c.1 then K (.inr (.inr (.inr (.inr (.inr (.inr (.inr (.inr (.inl (a.1,a.2.1,a.2.2.1,a.2.2.2.1,a.2.2.2.2.1,a.2.2.2.2.2.1,a.2.2.2.2.2.2.1,a.2.2.2.2.2.2.2.1,a.2.2.2.2.2.2.2.2.1,()))))))))))else K (.inl (IntKind.i64.wrap (v.1+1),()))else K (.inl (IntKind.i64.wrap (v.1+1),()))else K (.inr (.inr (.inr (.inr (.inr (.inr (.inr (.inr (.inr ())))))))))
theorem K5:Bg C5:=fun i v R K=>Ae (Ac fun _=>Ac fun _=>Ae (Aa) (Ae (Ac fun _=>Ae (Aa) (Ae (Aa) (Ae (Aa) (Ae (Ac fun _=>Ae (Aa) (Aa)) (Aa))))) (Ae (Aa) (Ae (Aa) (Ae (Ac fun _=>Ae (Aa) (Aa)) (Aa)))))) (Aa)
def Ac4:Tmpl:=⟨(.junk (.ptr 0 0 0 (.junk (.slot .i (jk 134 .nil))))),(.cells 6 (.slot .bool (.slot (.slice (.slice Af)) (.slot (.slice Ad) (.slot (.slice A0) (.slot (.slice A0) (.slot .i .nil)))))) .nil)⟩
def Asb:Exs Asf Asd:=xs .ret (fun i p=>⟨jn 1 (AV.ptr 0 none 0 0::.b (false)::jn 135 ([])),[some (Cont.cells 6 [[AV.pv .bool i.1,AV.pv (.slice (.slice Af)) i.2.1,AV.pv (.slice Ad) i.2.2.1,AV.pv (.slice A0) i.2.2.2.1,AV.pv (.slice A0) i.2.2.2.2.1,AV.pv (Ty.int IntKind.i64) i.2.2.2.2.2.1]]),some (Cont.cells 9 [[AV.pv .i p.1,AV.pv .i p.2.1,AV.pv .i p.2.2.1,AV.pv .i p.2.2.2.1,AV.pv .i p.2.2.2.2.1,AV.pv .i p.2.2.2.2.2.1,AV.pv .i p.2.2.2.2.2.2.1,AV.pv (.slice A0) p.2.2.2.2.2.2.2.1,AV.pv (.slice A0) p.2.2.2.2.2.2.2.2.1]])]⟩)<|xs .ret (fun i p=>⟨jn 1 (AV.ptr 0 none 0 0::.b (false)::jn 135 ([])),[some (Cont.cells 6 [[AV.pv .bool i.1,AV.pv (.slice (.slice Af)) i.2.1,AV.pv (.slice Ad) i.2.2.1,AV.pv (.slice A0) i.2.2.2.1,AV.pv (.slice A0) i.2.2.2.2.1,AV.pv (Ty.int IntKind.i64) i.2.2.2.2.2.1]]),some (Cont.cells 9 [[AV.pv .i p.1,AV.pv .i p.2.1,AV.pv .i p.2.2.1,AV.pv .i p.2.2.2.1,AV.pv .i p.2.2.2.2.1,AV.pv .i p.2.2.2.2.2.1,AV.pv .i p.2.2.2.2.2.2.1,AV.pv (.slice A0) p.2.2.2.2.2.2.2.1,AV.pv (.slice A0) p.2.2.2.2.2.2.2.2.1]])]⟩)<|xs .ret (fun i p=>⟨jn 1 (AV.ptr 0 none 0 0::.b (false)::jn 135 ([])),[some (Cont.cells 6 [[AV.pv .bool i.1,AV.pv (.slice (.slice Af)) i.2.1,AV.pv (.slice Ad) i.2.2.1,AV.pv (.slice A0) i.2.2.2.1,AV.pv (.slice A0) i.2.2.2.2.1,AV.pv (Ty.int IntKind.i64) i.2.2.2.2.2.1]]),some (Cont.cells 9 [[AV.pv .i p.1,AV.pv .i p.2.1,AV.pv .i p.2.2.1,AV.pv .i p.2.2.2.1,AV.pv .i p.2.2.2.2.1,AV.pv .i p.2.2.2.2.2.1,AV.pv .i p.2.2.2.2.2.2.1,AV.pv (.slice A0) p.2.2.2.2.2.2.2.1,AV.pv (.slice A0) p.2.2.2.2.2.2.2.2.1]])]⟩)<|xs .ret (fun i p=>⟨jn 1 (AV.ptr 0 none 0 0::.b (false)::jn 135 ([])),[some (Cont.cells 6 [[AV.pv .bool i.1,AV.pv (.slice (.slice Af)) i.2.1,AV.pv (.slice Ad) i.2.2.1,AV.pv (.slice A0) i.2.2.2.1,AV.pv (.slice A0) i.2.2.2.2.1,AV.pv (Ty.int IntKind.i64) i.2.2.2.2.2.1]]),some (Cont.cells 9 [[AV.pv .i p.1,AV.pv .i p.2.1,AV.pv .i p.2.2.1,AV.pv .i p.2.2.2.1,AV.pv .i p.2.2.2.2.1,AV.pv .i p.2.2.2.2.2.1,AV.pv .i p.2.2.2.2.2.2.1,AV.pv (.slice A0) p.2.2.2.2.2.2.2.1,AV.pv (.slice A0) p.2.2.2.2.2.2.2.2.1]])]⟩)<|xs .ret (fun i p=>⟨jn 1 (AV.ptr 0 none 0 0::.b (false)::jn 135 ([])),[some (Cont.cells 6 [[AV.pv .bool i.1,AV.pv (.slice (.slice Af)) i.2.1,AV.pv (.slice Ad) i.2.2.1,AV.pv (.slice A0) i.2.2.2.1,AV.pv (.slice A0) i.2.2.2.2.1,AV.pv (Ty.int IntKind.i64) i.2.2.2.2.2.1]]),some (Cont.cells 9 [[AV.pv .i p.1,AV.pv .i p.2.1,AV.pv .i p.2.2.1,AV.pv .i p.2.2.2.1,AV.pv .i p.2.2.2.2.1,AV.pv .i p.2.2.2.2.2.1,AV.pv .i p.2.2.2.2.2.2.1,AV.pv (.slice A0) p.2.2.2.2.2.2.2.1,AV.pv (.slice A0) p.2.2.2.2.2.2.2.2.1]])]⟩)<|xs .ret (fun i p=>⟨jn 1 (AV.ptr 0 none 0 0::.b (false)::jn 135 ([])),[some (Cont.cells 6 [[AV.pv .bool i.1,AV.pv (.slice (.slice Af)) i.2.1,AV.pv (.slice Ad) i.2.2.1,AV.pv (.slice A0) i.2.2.2.1,AV.pv (.slice A0) i.2.2.2.2.1,AV.pv (Ty.int IntKind.i64) i.2.2.2.2.2.1]]),some (Cont.cells 9 [[AV.pv .i p.1,AV.pv .i p.2.1,AV.pv .i p.2.2.1,AV.pv .i p.2.2.2.1,AV.pv .i p.2.2.2.2.1,AV.pv .i p.2.2.2.2.2.1,AV.pv .i p.2.2.2.2.2.2.1,AV.pv (.slice A0) p.2.2.2.2.2.2.2.1,AV.pv (.slice A0) p.2.2.2.2.2.2.2.2.1]])]⟩)<|xs .ret (fun i p=>⟨jn 1 (AV.ptr 0 none 0 0::.b (false)::jn 135 ([])),[some (Cont.cells 6 [[AV.pv .bool i.1,AV.pv (.slice (.slice Af)) i.2.1,AV.pv (.slice Ad) i.2.2.1,AV.pv (.slice A0) i.2.2.2.1,AV.pv (.slice A0) i.2.2.2.2.1,AV.pv (Ty.int IntKind.i64) i.2.2.2.2.2.1]]),some (Cont.cells 9 [[AV.pv .i p.1,AV.pv .i p.2.1,AV.pv .i p.2.2.1,AV.pv .i p.2.2.2.1,AV.pv .i p.2.2.2.2.1,AV.pv .i p.2.2.2.2.2.1,AV.pv .i p.2.2.2.2.2.2.1,AV.pv (.slice A0) p.2.2.2.2.2.2.2.1,AV.pv (.slice A0) p.2.2.2.2.2.2.2.2.1]])]⟩)<|xs .ret (fun i p=>⟨jn 1 (AV.ptr 0 none 0 0::.b (false)::jn 135 ([])),[some (Cont.cells 6 [[AV.pv .bool i.1,AV.pv (.slice (.slice Af)) i.2.1,AV.pv (.slice Ad) i.2.2.1,AV.pv (.slice A0) i.2.2.2.1,AV.pv (.slice A0) i.2.2.2.2.1,AV.pv (Ty.int IntKind.i64) i.2.2.2.2.2.1]]),some (Cont.cells 9 [[AV.pv .i p.1,AV.pv .i p.2.1,AV.pv .i p.2.2.1,AV.pv .i p.2.2.2.1,AV.pv .i p.2.2.2.2.1,AV.pv .i p.2.2.2.2.2.1,AV.pv .i p.2.2.2.2.2.2.1,AV.pv (.slice A0) p.2.2.2.2.2.2.2.1,AV.pv (.slice A0) p.2.2.2.2.2.2.2.2.1]])]⟩)<|x1 (.exit 0) fun i p=>⟨jn 1 (AV.ptr 0 none 0 0::jn 136 ([])),[some (Cont.cells 6 [[AV.pv .bool i.1,AV.pv (.slice (.slice Af)) i.2.1,AV.pv (.slice Ad) i.2.2.1,AV.pv (.slice A0) i.2.2.2.1,AV.pv (.slice A0) i.2.2.2.2.1,AV.pv .i i.2.2.2.2.2.1]])]⟩
def Ase:=((.v (.i (.i (.i (.i (.i (.i .n))))))):Pk Ac4.ty _ _)
abbrev Adt:=Bool×List (List A2)×List A3×List A1×List A1×Int×Unit
abbrev Adn:=Int×Unit
abbrev Adp:=Unit ⊕ Unit
def BT (i:Adt)(v:Adn)(R:Type)(K:Adn ⊕ Adp->Option R):Option R:=bif decide (v.1<(i.2.2.2.1.length:Int))then(lAt i.2.2.2.1 v.1).bind fun a=>(E8 ((i.1,(i.2.1,()),i.2.2.1,i.2.2.2.1,i.2.2.2.2.1,i.2.2.2.2.2.1,()),a.2.1,())).bind fun b=>bif !b.1 then K (.inr (.inl ()))else K (.inl (IntKind.i64.wrap (v.1+1),()))else K (.inr (.inr ()))
theorem JK:Bg BT:=fun i v R K=>Ae (Ac fun _=>Ac fun _=>Ae (Aa) (Aa)) (Aa)
def A49:Tmpl:=⟨(.junk (.ptr 0 0 0 (jk 3 (.slot .i (jk 132 .nil))))),(.cells 6 (.slot .bool (.slot (.slice (.slice Af)) (.slot (.slice Ad) (.slot (.slice A0) (.slot (.slice A0) (.slot .i .nil)))))) .nil)⟩
def Adl:Exs Adt Adp:=xs .ret (fun i p=>⟨jn 1 (AV.ptr 0 none 0 0::.b (false)::jn 135 ([])),[some (Cont.cells 6 [[AV.pv .bool i.1,AV.pv (.slice (.slice Af)) i.2.1,AV.pv (.slice Ad) i.2.2.1,AV.pv (.slice A0) i.2.2.2.1,AV.pv (.slice A0) i.2.2.2.2.1,AV.pv (Ty.int IntKind.i64) i.2.2.2.2.2.1]])]⟩)<|x1 (.exit 2) fun i p=>⟨jn 1 (AV.ptr 0 none 0 0::jn 136 ([])),[some (Cont.cells 6 [[AV.pv .bool i.1,AV.pv (.slice (.slice Af)) i.2.1,AV.pv (.slice Ad) i.2.2.1,AV.pv (.slice A0) i.2.2.2.1,AV.pv (.slice A0) i.2.2.2.2.1,AV.pv .i i.2.2.2.2.2.1]])]⟩
def Adr:=((.v (.i (.i (.i (.i (.i (.i .n))))))):Pk A49.ty _ _)
abbrev Ads:=Bool×List (List A2)×List A3×List A1×List A1×Int×Unit
abbrev Adm:=Int×Unit
abbrev Ado:=Unit ⊕ Unit ⊕ Unit
def BS (i:Ads)(v:Adm)(R:Type)(K:Adm ⊕ Ado->Option R):Option R:=bif decide (v.1<(i.2.2.2.2.1.length:Int))then(lAt i.2.2.2.2.1 v.1).bind fun a=>(E8 ((i.1,(i.2.1,()),i.2.2.1,i.2.2.2.1,i.2.2.2.2.1,i.2.2.2.2.2.1,()),a.1,())).bind fun b=>bif !b.1 then K (.inr (.inl ()))else(lAt i.2.2.2.2.1 v.1).bind fun c=>(E8 ((i.1,(i.2.1,()),i.2.2.1,i.2.2.2.1,i.2.2.2.2.1,i.2.2.2.2.2.1,()),c.2.1,())).bind fun d=>bif !d.1 then K (.inr (.inr (.inl ())))else K (.inl (IntKind.i64.wrap (v.1+1),()))else K (.inr (.inr (.inr ())))
theorem JJ:Bg BS:=fun i v R K=>Ae (Ac fun _=>Ac fun _=>Ae (Aa) (Ac fun _=>Ac fun _=>Ae (Aa) (Aa))) (Aa)
def A48:Tmpl:=⟨(.junk (.ptr 0 0 0 (jk 4 (.slot .i (jk 131 .nil))))),(.cells 6 (.slot .bool (.slot (.slice (.slice Af)) (.slot (.slice Ad) (.slot (.slice A0) (.slot (.slice A0) (.slot .i .nil)))))) .nil)⟩
def Adk:Exs Ads Ado:=xs .ret (fun i p=>⟨jn 2 (.b (false)::jn 135 ([])),[some (Cont.cells 6 [[AV.pv .bool i.1,AV.pv (.slice (.slice Af)) i.2.1,AV.pv (.slice Ad) i.2.2.1,AV.pv (.slice A0) i.2.2.2.1,AV.pv (.slice A0) i.2.2.2.2.1,AV.pv .i i.2.2.2.2.2.1]])]⟩)<|xs .ret (fun i p=>⟨jn 2 (.b (false)::jn 135 ([])),[some (Cont.cells 6 [[AV.pv .bool i.1,AV.pv (.slice (.slice Af)) i.2.1,AV.pv (.slice Ad) i.2.2.1,AV.pv (.slice A0) i.2.2.2.1,AV.pv (.slice A0) i.2.2.2.2.1,AV.pv .i i.2.2.2.2.2.1]])]⟩)<|x1 (.exit 4) fun i p=>⟨jn 138 ([]),[some (Cont.cells 6 [[AV.pv .bool i.1,AV.pv (.slice (.slice Af)) i.2.1,AV.pv (.slice Ad) i.2.2.1,AV.pv (.slice A0) i.2.2.2.1,AV.pv (.slice A0) i.2.2.2.2.1,AV.pv .i i.2.2.2.2.2.1]])]⟩
def Adq:=((.v (.i (.i (.i (.i (.i (.i .n))))))):Pk A48.ty _ _)
def ca:Cfg:={ti:=Aw,ents:=[Oo,aQ,TQ,TP,Qi,RB,VZ,Y7],ann:=[(4,Ao Ac4 0 (spP Ase) C5 Asb.E),(10,Ao A49 0 (spP Adr) BT Adl.E),(15,Ao A48 0 (spP Adq) BS Adk.E)],lent:=0}
def EF (x:A5×Unit):Option (Bool×Unit):=(Bk ((x.1.2.1.1,()),())).bind fun v=>bif !v.1 then some (false,())else(DF (x.1.2.2.2.1,())).bind fun v=>bif !v.1 then some (false,())else(DE (x.1.2.2.2.2.1,())).bind fun v=>bif !v.1 then some (false,())else(Fy ((x.1.2.1.1,()),())).bind fun v=>(Ak (x.1.2.2.2.2.2.1,v.1,999,())).bind fun v=>bif !v.1 then some (false,())else bif decide ((x.1.2.2.1.length:Int)>6)then some (false,())else(AC (fun v=>C5 (x.1.1,x.1.2.1.1,x.1.2.2.1,x.1.2.2.2.1,x.1.2.2.2.2.1,x.1.2.2.2.2.2.1,()) v _ some) (0,())).bind fun p=>Az p (fun p=>some (false,())) fun p=>Az p (fun p=>some (false,())) fun p=>Az p (fun p=>some (false,())) fun p=>Az p (fun p=>some (false,())) fun p=>Az p (fun p=>some (false,())) fun p=>Az p (fun p=>some (false,())) fun p=>Az p (fun p=>some (false,())) fun p=>Az p (fun p=>some (false,())) fun p=>(AC (fun v=>BT (x.1.1,x.1.2.1.1,x.1.2.2.1,x.1.2.2.2.1,x.1.2.2.2.2.1,x.1.2.2.2.2.2.1,()) v _ some) (0,())).bind fun p=>Az p (fun p=>some (false,())) fun p=>(AC (fun v=>BS (x.1.1,x.1.2.1.1,x.1.2.2.1,x.1.2.2.2.1,x.1.2.2.2.2.1,x.1.2.2.2.2.2.1,()) v _ some) (0,())).bind fun p=>Az p (fun p=>some (false,())) fun p=>Az p (fun p=>some (false,())) fun p=>some (true,())
def hX:Ent:=⟨51,⟨(.slot D9 .nil),.nil⟩,⟨(.slot .bool .nil),.nil⟩,EF⟩
theorem VE:CfgOK Go.Proofs.Tryz.prog ca:=hcB (all_cons Qu (all_cons ju (all_cons jt (all_cons dU (all_cons Qg (all_cons RK (all_cons aO (all_cons vF all_nil))))))))
theorem As9:B9 Go.Proofs.Tryz.prog ca (lpc Go.Proofs.Tryz.f51 2):=lkA VE A48 Adq BS Adk [2] JJ
theorem Asa:B9 Go.Proofs.Tryz.prog ca (lpc Go.Proofs.Tryz.f51 1):=lkA VE A49 Adr BT Adl [1,2] JK
theorem Ayk:B9 Go.Proofs.Tryz.prog ca (lpc Go.Proofs.Tryz.f51 0):=lkA VE Ac4 Ase C5 Asb [1,2] K5
theorem rD:Ai Go.Proofs.Tryz.prog hX:=YE VE Go.Proofs.Tryz.func51 3 (by kernel_rfl) (fun k hk=>match k,hk with|0,_=>Ayk|1,_=>Asa|2,_=>As9) (by kernel_rfl) (by kernel_rfl) (fun x=>by kernel_rfl)
def Ea (x:A6×Unit):Option (Bool×Unit):=bif x.1.1==1 then bif !(x.1.1==x.1.1&&(x.1.2.1==x.1.2.1&&(x.1.2.2.1==x.1.2.2.1&&(0==x.1.2.2.2.1&&(0==x.1.2.2.2.2.1&&(0==x.1.2.2.2.2.2.1&&true))))))then some (false,())else(Ak (x.1.2.1,1,9,())).bind fun v=>bif !v.1 then some (false,())else(Ak (x.1.2.2.2.1,0,5,())).bind fun v=>bif !v.1 then some (false,())else(Ak (x.1.2.2.2.2.2.1,-1,99,())).bind fun v=>bif !v.1 then some (false,())else bif x.1.1 != 1 then bif x.1.1 != 4 then some (true,())else(Ak (x.1.2.2.2.2.1,x.1.2.2.2.1,5,())).bind fun v=>some (v.1,())else(Ak (x.1.2.2.1,1,4,())).bind fun v=>bif v.1 then bif x.1.1 != 4 then some (true,())else(Ak (x.1.2.2.2.2.1,x.1.2.2.2.1,5,())).bind fun v=>some (v.1,())else some (false,())else bif x.1.1==2 then bif !(x.1.1==x.1.1&&(x.1.2.1==x.1.2.1&&(0==x.1.2.2.1&&(x.1.2.2.2.1==x.1.2.2.2.1&&(0==x.1.2.2.2.2.1&&(0==x.1.2.2.2.2.2.1&&true))))))then some (false,())else(Ak (x.1.2.1,1,9,())).bind fun v=>bif !v.1 then some (false,())else(Ak (x.1.2.2.2.1,0,5,())).bind fun v=>bif !v.1 then some (false,())else(Ak (x.1.2.2.2.2.2.1,-1,99,())).bind fun v=>bif !v.1 then some (false,())else bif x.1.1 != 1 then bif x.1.1 != 4 then some (true,())else(Ak (x.1.2.2.2.2.1,x.1.2.2.2.1,5,())).bind fun v=>some (v.1,())else(Ak (x.1.2.2.1,1,4,())).bind fun v=>bif v.1 then bif x.1.1 != 4 then some (true,())else(Ak (x.1.2.2.2.2.1,x.1.2.2.2.1,5,())).bind fun v=>some (v.1,())else some (false,())else bif x.1.1==3 then bif !(x.1.1==x.1.1&&(x.1.2.1==x.1.2.1&&(0==x.1.2.2.1&&(x.1.2.2.2.1==x.1.2.2.2.1&&(0==x.1.2.2.2.2.1&&(x.1.2.2.2.2.2.1==x.1.2.2.2.2.2.1&&true))))))then some (false,())else(Ak (x.1.2.1,1,9,())).bind fun v=>bif !v.1 then some (false,())else(Ak (x.1.2.2.2.1,0,5,())).bind fun v=>bif !v.1 then some (false,())else(Ak (x.1.2.2.2.2.2.1,-1,99,())).bind fun v=>bif !v.1 then some (false,())else bif x.1.1 != 1 then bif x.1.1 != 4 then some (true,())else(Ak (x.1.2.2.2.2.1,x.1.2.2.2.1,5,())).bind fun v=>some (v.1,())else(Ak (x.1.2.2.1,1,4,())).bind fun v=>bif v.1 then bif x.1.1 != 4 then some (true,())else(Ak (x.1.2.2.2.2.1,x.1.2.2.2.1,5,())).bind fun v=>some (v.1,())else some (false,())else bif x.1.1==4 then bif !(x.1.1==x.1.1&&(x.1.2.1==x.1.2.1&&(0==x.1.2.2.1&&(x.1.2.2.2.1==x.1.2.2.2.1&&(x.1.2.2.2.2.1==x.1.2.2.2.2.1&&(0==x.1.2.2.2.2.2.1&&true))))))then some (false,())else(Ak (x.1.2.1,1,9,())).bind fun v=>bif !v.1 then some (false,())else(Ak (x.1.2.2.2.1,0,5,())).bind fun v=>bif !v.1 then some (false,())else(Ak (x.1.2.2.2.2.2.1,-1,99,())).bind fun v=>bif !v.1 then some (false,())else bif x.1.1 != 1 then bif x.1.1 != 4 then some (true,())else(Ak (x.1.2.2.2.2.1,x.1.2.2.2.1,5,())).bind fun v=>some (v.1,())else(Ak (x.1.2.2.1,1,4,())).bind fun v=>bif v.1 then bif x.1.1 != 4 then some (true,())else(Ak (x.1.2.2.2.2.1,x.1.2.2.2.1,5,())).bind fun v=>some (v.1,())else some (false,())else bif x.1.1==5 then bif x.1.1==5 then bif !(x.1.1==x.1.1&&(x.1.2.1==x.1.2.1&&(0==x.1.2.2.1&&(0==x.1.2.2.2.1&&(0==x.1.2.2.2.2.1&&(0==x.1.2.2.2.2.2.1&&true))))))then some (false,())else(Ak (x.1.2.1,1,9,())).bind fun v=>bif !v.1 then some (false,())else(Ak (x.1.2.2.2.1,0,5,())).bind fun v=>bif !v.1 then some (false,())else(Ak (x.1.2.2.2.2.2.1,-1,99,())).bind fun v=>bif !v.1 then some (false,())else bif x.1.1 != 1 then bif x.1.1 != 4 then some (true,())else(Ak (x.1.2.2.2.2.1,x.1.2.2.2.1,5,())).bind fun v=>some (v.1,())else(Ak (x.1.2.2.1,1,4,())).bind fun v=>bif v.1 then bif x.1.1 != 4 then some (true,())else(Ak (x.1.2.2.2.2.1,x.1.2.2.2.1,5,())).bind fun v=>some (v.1,())else some (false,())else some (false,())else bif x.1.1==6 then bif !(x.1.1==x.1.1&&(x.1.2.1==x.1.2.1&&(0==x.1.2.2.1&&(0==x.1.2.2.2.1&&(0==x.1.2.2.2.2.1&&(0==x.1.2.2.2.2.2.1&&true))))))then some (false,())else(Ak (x.1.2.1,1,9,())).bind fun v=>bif !v.1 then some (false,())else(Ak (x.1.2.2.2.1,0,5,())).bind fun v=>bif !v.1 then some (false,())else(Ak (x.1.2.2.2.2.2.1,-1,99,())).bind fun v=>bif !v.1 then some (false,())else bif x.1.1 != 1 then bif x.1.1 != 4 then some (true,())else(Ak (x.1.2.2.2.2.1,x.1.2.2.2.1,5,())).bind fun v=>some (v.1,())else(Ak (x.1.2.2.1,1,4,())).bind fun v=>bif v.1 then bif x.1.1 != 4 then some (true,())else(Ak (x.1.2.2.2.2.1,x.1.2.2.2.1,5,())).bind fun v=>some (v.1,())else some (false,())else some (false,())
def XC:Ent:=⟨52,⟨(.slot YOp .nil),.nil⟩,⟨(.slot .bool .nil),.nil⟩,Ea⟩
theorem rC:Ai Go.Proofs.Tryz.prog XC:=okA (hcA 0 (all_cons Qg all_nil)) Go.Proofs.Tryz.func52
def Ew (x:B3):Option (Int×Int×Int×Int×Int×Int×Int×Bool×Unit):=(AJ ((x.1,x.2.1,1,x.2.2.1,0,1000,0,[],[],()),())).bind fun v=>bif !v.1 then some (0,0,0,0,0,0,0,false,())else some (x.1,x.2.1,1,x.2.2.1,0,1000,0,true,())
def Y6:Ent:=⟨53,⟨(si 3 .nil),.nil⟩,⟨(.agg (si 7 (.const (AV.nils) (.const (AV.nils) .nil))) (.slot .bool .nil)),.nil⟩,Ew⟩
theorem vl:Ai Go.Proofs.Tryz.prog Y6:=okA (hcA 0 (all_cons RK all_nil)) Go.Proofs.Tryz.func53
abbrev As8:=List A1×Int×Unit
abbrev As5:=Int×List A1×Unit
abbrev As6:=List A1×Unit
def EL (i:As8)(v:As5)(R:Type)(K:As5 ⊕ As6->Option R):Option R:=bif decide (v.1<(i.1.length:Int))then(lAt i.1 v.1).bind fun a=>bif a.1 != i.2.1 then(lAt i.1 v.1).bind fun b=>if(v.2.1++[(b.1,b.2.1,())]).length<=2199023255552 then K (.inl (IntKind.i64.wrap (v.1+1),v.2.1++[(b.1,b.2.1,())],()))else none else K (.inl (IntKind.i64.wrap (v.1+1),v.2.1,()))else K (.inr (v.2.1,()))
theorem Nc:Bg EL:=fun i v R K=>Ae (Ac fun _=>Ae (Ac fun _=>Aq (Aa)) (Aa)) (Aa)
def Ac3:Tmpl:=⟨(.slot (.slice A0) (.slot .i (jk 3 (.own 0 (.slot .i (jk 22 .nil)))))),(.lst false A0 .nil)⟩
def As4:Exs As8 As6:=x1 (.exit 0) fun i p=>⟨jn 5 (AV.own 0 none none::jn 23 ([])),[some (Cont.lst false A0 p.1)]⟩
def As7:=((.i (.i (.v (.v .n)))):Pk Ac3.ty _ _)
def qX:Cfg:={ti:=Aw,ents:=[],ann:=[(3,Ao Ac3 0 (spP As7) EL As4.E)],lent:=0}
def HY (x:List A1×Int×Unit):Option (List A1×Unit):=(AC (fun v=>EL (x.1,x.2.1,()) v _ some) (0,[],())).bind fun p=>some (p.1,())
def Y5:Ent:=⟨54,⟨(.slot (.slice A0) (.slot .i .nil)),.nil⟩,⟨(.own 0 .nil),(.lst false A0 .nil)⟩,HY⟩
theorem dG:CfgOK Go.Proofs.Tryz.prog qX:=hcB all_nil
theorem Ayj:B9 Go.Proofs.Tryz.prog qX (lpc Go.Proofs.Tryz.f54 0):=lkA dG Ac3 As7 EL As4 [5] Nc
theorem vj:Ai Go.Proofs.Tryz.prog Y5:=okB dG Go.Proofs.Tryz.func54 Ayj
abbrev dE:=Int×A3
abbrev dB:=Int×Unit
abbrev dC:=Int×Unit ⊕ Unit
def Dw (i:dE)(v:dB)(R:Type)(K:dB ⊕ dC->Option R):Option R:=bif decide (v.1<(i.2.2.2.2.2.2.2.2.2.1.length:Int))then(lAt i.2.2.2.2.2.2.2.2.2.1 v.1).bind fun a=>bif a.1==i.1 then K (.inr (.inl (v.1,())))else K (.inl (IntKind.i64.wrap (v.1+1),()))else K (.inr (.inr ()))
theorem LY:Bg Dw:=fun i v R K=>Ae (Ac fun _=>Ae (Aa) (Aa)) (Aa)
def Ww:Tmpl:=⟨(.junk (.slot .i (.ptr 0 0 0 (jk 2 (.slot .i (jk 16 .nil)))))),(.cells 9 (si 7 (.slot (.slice A0) (.slot (.slice A0) .nil))) .nil)⟩
def dA:Exs dE dC:=xs .ret (fun i p=>⟨jn 4 (.n (p.1)::jn 17 ([])),[some (Cont.cells 9 [[AV.pv .i i.2.1,AV.pv .i i.2.2.1,AV.pv .i i.2.2.2.1,AV.pv .i i.2.2.2.2.1,AV.pv .i i.2.2.2.2.2.1,AV.pv .i i.2.2.2.2.2.2.1,AV.pv .i i.2.2.2.2.2.2.2.1,AV.pv (.slice A0) i.2.2.2.2.2.2.2.2.1,AV.pv (.slice A0) i.2.2.2.2.2.2.2.2.2.1]])]⟩)<|x1 (.exit 0) fun i p=>⟨jn 22 ([]),[some (Cont.cells 9 [[AV.pv .i i.2.1,AV.pv .i i.2.2.1,AV.pv .i i.2.2.2.1,AV.pv .i i.2.2.2.2.1,AV.pv .i i.2.2.2.2.2.1,AV.pv (Ty.int IntKind.i64) i.2.2.2.2.2.2.1,AV.pv .i i.2.2.2.2.2.2.2.1,AV.pv (.slice A0) i.2.2.2.2.2.2.2.2.1,AV.pv (.slice A0) i.2.2.2.2.2.2.2.2.2.1]])]⟩
def dD:=((.i (.v (.i (.i (.i (.i (.i (.i (.i (.i (.i .n))))))))))):Pk Ww.ty _ _)
def qW:Cfg:={ti:=Aw,ents:=[],ann:=[(2,Ao Ww 0 (spP dD) Dw dA.E)],lent:=0}
def GO (x:A3×Int×Unit):Option (Int×Unit):=(AC (fun v=>Dw (x.2.1,x.1.1,x.1.2.1,x.1.2.2.1,x.1.2.2.2.1,x.1.2.2.2.2.1,x.1.2.2.2.2.2.1,x.1.2.2.2.2.2.2.1,x.1.2.2.2.2.2.2.2.1,x.1.2.2.2.2.2.2.2.2.1,()) v _ some) (0,())).bind fun p=>Az p (fun p=>some (p.1,())) fun p=>some (-1,())
def hU:Ent:=⟨105,⟨(.slot Ad (.slot .i .nil)),.nil⟩,⟨(.slot .i .nil),.nil⟩,GO⟩
theorem dF:CfgOK Go.Proofs.Tryz.prog qW:=hcB all_nil
theorem kG:B9 Go.Proofs.Tryz.prog qW (lpc Go.Proofs.Tryz.f105 0):=lkA dF Ww dD Dw dA [4] LY
theorem vd:Ai Go.Proofs.Tryz.prog hU:=okB dF Go.Proofs.Tryz.func105 kG
def Fw (x:A4×A3×Int×Unit):Option (Bool×Unit):=(Bk ((x.1.1,()),())).bind fun v=>bif v.1 then(AJ ((x.2.1.1,x.2.1.2.1,x.2.1.2.2.1,x.2.1.2.2.2.1,x.2.1.2.2.2.2.1,x.2.1.2.2.2.2.2.1,x.2.1.2.2.2.2.2.2.1,x.2.1.2.2.2.2.2.2.2.1,x.2.1.2.2.2.2.2.2.2.2.1,()),())).bind fun v=>bif v.1 then bif x.2.1.2.2.1==1 then(Ak (x.2.2.1,0,5,())).bind fun v=>some (v.1,())else some (false,())else some (false,())else some (false,())
def Y4:Ent:=⟨173,⟨(.slot Bp (.slot Ad (.slot .i .nil))),.nil⟩,⟨(.slot .bool .nil),.nil⟩,Fw⟩
theorem jl:Ai Go.Proofs.Tryz.prog Y4:=okA (hcA 0 (all_cons Qu (all_cons RK (all_cons Qg all_nil)))) Go.Proofs.Tryz.func173
def Bq (x:List A2×Unit):Option A2:=(Ck (x.1,())).bind fun v=>bif !v.1 then some (0,0,0,0,0,())else(lAt x.1 (IntKind.i64.wrap ((x.1.length:Int)-1))).bind fun v=>some (v.1,v.2.1,v.2.2.1,v.2.2.2.1,v.2.2.2.2.1,())
def VY:Ent:=⟨174,⟨(.slot (.slice Af) .nil),.nil⟩,⟨(.agg (si 5 .nil) .nil),.nil⟩,Bq⟩
theorem aN:Ai Go.Proofs.Tryz.prog VY:=okA (hcA 0 (all_cons jw all_nil)) Go.Proofs.Tryz.func174
abbrev As2:=List A2×Int×Unit
abbrev Arz:=Int×Int×Unit
abbrev As0:=Int×Unit ⊕ Int×Unit
def Dt (i:As2)(v:Arz)(R:Type)(K:Arz ⊕ As0->Option R):Option R:=bif decide (v.2.1<(i.1.length:Int))then(Ck (i.1,())).bind fun a=>bif a.1 then(lAt i.1 v.2.1).bind fun b=>bif decide (b.2.2.1<=i.2.1)then K (.inl (v.2.1,IntKind.i64.wrap (v.2.1+1),()))else K (.inl (v.1,IntKind.i64.wrap (v.2.1+1),()))else K (.inr (.inl (v.1,())))else K (.inr (.inr (v.1,())))
theorem LU:Bg Dt:=fun i v R K=>Ae (Ac fun _=>Ae (Ac fun _=>Ae (Aa) (Aa)) (Aa)) (Aa)
def Ac2:Tmpl:=⟨(.slot (.slice Af) (.slot .i (jk 3 (si 2 (jk 19 .nil))))),.nil⟩
def Ary:Exs As2 As0:=xs (.exit 0) (fun i p=>⟨jn 5 (.n (p.1)::jn 20 ([])),[]⟩)<|x1 (.exit 0) fun i p=>⟨jn 5 (.n (p.1)::jn 20 ([])),[]⟩
def As1:=((.i (.i (.v (.v .n)))):Pk Ac2.ty _ _)
def qV:Cfg:={ti:=Aw,ents:=[aR],ann:=[(3,Ao Ac2 0 (spP As1) Dt Ary.E)],lent:=0}
def GL (x:List A2×Int×Unit):Option (Int×Unit):=(AC (fun v=>Dt (x.1,x.2.1,()) v _ some) (-1,0,())).bind fun p=>Az p (fun p=>some (p.1,())) fun p=>some (p.1,())
def aM:Ent:=⟨222,⟨(.slot (.slice Af) (.slot .i .nil)),.nil⟩,⟨(.slot .i .nil),.nil⟩,GL⟩
theorem dz:CfgOK Go.Proofs.Tryz.prog qV:=hcB (all_cons jw all_nil)
theorem Ayi:B9 Go.Proofs.Tryz.prog qV (lpc Go.Proofs.Tryz.f222 0):=lkA dz Ac2 As1 Dt Ary [5] LU
theorem va:Ai Go.Proofs.Tryz.prog aM:=okB dz Go.Proofs.Tryz.func222 Ayi
def Kj (x:A4×Int×Int×Unit):Option (Int×Int×Int×Int×Int×Bool×Unit):=(Bk ((x.1.1,()),())).bind fun v=>bif !v.1 then some (0,0,0,0,0,false,())else(Ak (x.2.1,0,5,())).bind fun v=>bif !v.1 then some (0,0,0,0,0,false,())else(lAt x.1.1 x.2.1).bind fun v=>(GL (v,x.2.2.1,())).bind fun v=>bif decide (v.1<0)then some (0,0,0,0,0,false,())else(lAt x.1.1 x.2.1).bind fun a=>(lAt a v.1).bind fun v=>some (v.1,v.2.1,v.2.2.1,v.2.2.2.1,v.2.2.2.2.1,true,())
def kF:Ent:=⟨175,⟨(.slot Bp (si 2 .nil)),.nil⟩,⟨(.agg (si 5 .nil) (.slot .bool .nil)),.nil⟩,Kj⟩
theorem uV:Ai Go.Proofs.Tryz.prog kF:=okA (hcA 0 (all_cons Qu (all_cons Qg (all_cons va all_nil)))) Go.Proofs.Tryz.func175
def EV (x:A4×A3×Int×Unit):Option A6:=(Fw ((x.1.1,()),(x.2.1.1,x.2.1.2.1,x.2.1.2.2.1,x.2.1.2.2.2.1,x.2.1.2.2.2.2.1,x.2.1.2.2.2.2.2.1,x.2.1.2.2.2.2.2.2.1,x.2.1.2.2.2.2.2.2.2.1,x.2.1.2.2.2.2.2.2.2.2.1,()),x.2.2.1,())).bind fun v=>bif !v.1 then some (0,0,0,0,0,6,())else(lAt x.1.1 x.2.2.1).bind fun v=>(Bq (v,())).bind fun v=>bif x.2.1.2.1==2 then(Kj ((x.1.1,()),x.2.2.1,x.2.1.2.2.2.1,())).bind fun v=>bif !v.2.2.2.2.2.1 then some (0,0,0,0,0,3,())else some (v.1,v.2.1,v.2.2.1,v.2.2.2.1,v.2.2.2.2.1,0,())else bif x.2.1.2.1==4 then bif decide (v.2.2.1>x.2.1.2.2.2.1)then some (0,0,0,0,0,3,())else some (v.1,v.2.1,v.2.2.1,v.2.2.2.1,v.2.2.2.2.1,0,())else some (v.1,v.2.1,v.2.2.1,v.2.2.2.1,v.2.2.2.2.1,0,())
def hP:Ent:=⟨106,⟨(.slot Bp (.slot Ad (.slot .i .nil))),.nil⟩,⟨(.agg (si 5 .nil) (.slot .i .nil)),.nil⟩,EV⟩
theorem uK:Ai Go.Proofs.Tryz.prog hP:=okA (hcA 0 (all_cons jl (all_cons aN (all_cons uV all_nil)))) Go.Proofs.Tryz.func106
abbrev Arw:=List A1×Int×Unit
abbrev Art:=Int×List A1×Unit
abbrev Aru:=List A1×Unit
def CB (i:Arw)(v:Art)(R:Type)(K:Art ⊕ Aru->Option R):Option R:=bif decide (v.1<(i.1.length:Int))then(lAt i.1 v.1).bind fun a=>bif a.2.1 != i.2.1 then(lAt i.1 v.1).bind fun b=>if(v.2.1++[(b.1,b.2.1,())]).length<=2199023255552 then K (.inl (IntKind.i64.wrap (v.1+1),v.2.1++[(b.1,b.2.1,())],()))else none else K (.inl (IntKind.i64.wrap (v.1+1),v.2.1,()))else K (.inr (v.2.1,()))
theorem Ki:Bg CB:=fun i v R K=>Ae (Ac fun _=>Ae (Ac fun _=>Aq (Aa)) (Aa)) (Aa)
def Ac1:Tmpl:=⟨(.slot (.slice A0) (.slot .i (jk 3 (.own 0 (.slot .i (jk 22 .nil)))))),(.lst false A0 .nil)⟩
def Ars:Exs Arw Aru:=x1 (.exit 0) fun i p=>⟨jn 5 (AV.own 0 none none::jn 23 ([])),[some (Cont.lst false A0 p.1)]⟩
def Arv:=((.i (.i (.v (.v .n)))):Pk Ac1.ty _ _)
def AAn:Cfg:={ti:=Aw,ents:=[],ann:=[(3,Ao Ac1 0 (spP Arv) CB Ars.E)],lent:=0}
def DL (x:List A1×Int×Unit):Option (List A1×Unit):=(AC (fun v=>CB (x.1,x.2.1,()) v _ some) (0,[],())).bind fun p=>some (p.1,())
def VX:Ent:=⟨117,⟨(.slot (.slice A0) (.slot .i .nil)),.nil⟩,⟨(.own 0 .nil),(.lst false A0 .nil)⟩,DL⟩
theorem Arx:CfgOK Go.Proofs.Tryz.prog AAn:=hcB all_nil
theorem Ayh:B9 Go.Proofs.Tryz.prog AAn (lpc Go.Proofs.Tryz.f117 0):=lkA Arx Ac1 Arv CB Ars [5] Ki
theorem jc:Ai Go.Proofs.Tryz.prog VX:=okB Arx Go.Proofs.Tryz.func117 Ayh
abbrev Arr:=List A1×Int×Unit
abbrev Aro:=Int×List A1×Unit
abbrev Arp:=List A1×Unit
def Di (i:Arr)(v:Aro)(R:Type)(K:Aro ⊕ Arp->Option R):Option R:=bif decide (v.1<(i.1.length:Int))then(lAt i.1 v.1).bind fun a=>bif a.1 != i.2.1 then(lAt i.1 v.1).bind fun b=>bif b.2.1 != i.2.1 then(lAt i.1 v.1).bind fun c=>if(v.2.1++[(c.1,c.2.1,())]).length<=2199023255552 then K (.inl (IntKind.i64.wrap (v.1+1),v.2.1++[(c.1,c.2.1,())],()))else none else K (.inl (IntKind.i64.wrap (v.1+1),v.2.1,()))else K (.inl (IntKind.i64.wrap (v.1+1),v.2.1,()))else K (.inr (v.2.1,()))
theorem Lh:Bg Di:=fun i v R K=>Ae (Ac fun _=>Ae (Ac fun _=>Ae (Ac fun _=>Aq (Aa)) (Aa)) (Aa)) (Aa)
def Ac0:Tmpl:=⟨(.slot (.slice A0) (.slot .i (jk 3 (.own 0 (.slot .i (jk 31 .nil)))))),(.lst false A0 .nil)⟩
def Arn:Exs Arr Arp:=x1 (.exit 0) fun i p=>⟨jn 5 (AV.own 0 none none::jn 32 ([])),[some (Cont.lst false A0 p.1)]⟩
def Arq:=((.i (.i (.v (.v .n)))):Pk Ac0.ty _ _)
def qU:Cfg:={ti:=Aw,ents:=[],ann:=[(3,Ao Ac0 0 (spP Arq) Di Arn.E)],lent:=0}
def EU (x:List A1×Int×Unit):Option (List A1×Unit):=(AC (fun v=>Di (x.1,x.2.1,()) v _ some) (0,[],())).bind fun p=>some (p.1,())
def VW:Ent:=⟨118,⟨(.slot (.slice A0) (.slot .i .nil)),.nil⟩,⟨(.own 0 .nil),(.lst false A0 .nil)⟩,EU⟩
theorem dy:CfgOK Go.Proofs.Tryz.prog qU:=hcB all_nil
theorem Ayg:B9 Go.Proofs.Tryz.prog qU (lpc Go.Proofs.Tryz.f118 0):=lkA dy Ac0 Arq Di Arn [5] Lh
theorem jb:Ai Go.Proofs.Tryz.prog VW:=okB dy Go.Proofs.Tryz.func118 Ayg
def Bd (x:Int×Bool×Int×A7):Option (Bool×Int×List (List A2)×List A3×List A1×List A1×A9):=if 0<=x.1/\x.1<(x.2.2.2.2.1.length:Int)then x.2.2.2.2.1[0+x.1.toNat]?.bind fun v=>if 0<=x.1/\x.1<(x.2.2.2.2.1.length:Int)then x.2.2.2.2.1[0+x.1.toNat]?.bind fun a=>bif a.2.2.1==1 then if 0<=x.1/\x.1<(x.2.2.2.2.1.length:Int)then x.2.2.2.2.1[0+x.1.toNat]?.bind fun b=>(DL (x.2.2.2.2.2.1,v.1,())).bind fun c=>(EU (x.2.2.2.2.2.2.1,v.1,())).bind fun v=>some (x.2.1,x.2.2.1,x.2.2.2.1,x.2.2.2.2.1.set (0+x.1.toNat) (b.1,b.2.1,3,b.2.2.2.1,b.2.2.2.2.1,b.2.2.2.2.2.1,b.2.2.2.2.2.2.1,b.2.2.2.2.2.2.2.1,b.2.2.2.2.2.2.2.2.1,()),x.2.2.2.2.2.1,x.2.2.2.2.2.2.1,c.1,v.1,())else none else(DL (x.2.2.2.2.2.1,v.1,())).bind fun b=>(EU (x.2.2.2.2.2.2.1,v.1,())).bind fun v=>some (x.2.1,x.2.2.1,x.2.2.2.1,x.2.2.2.2.1,x.2.2.2.2.2.1,x.2.2.2.2.2.2.1,b.1,v.1,())else none else none
def R7:Ent:=⟨59,⟨(.ptr 0 0 0 (.slot .i .nil)),(.cells 6 (.slot .bool (.own 1 (.own 2 (.own 3 (.own 4 (.slot .i .nil)))))) (.tree false 0 (.slice Af) (.tree false 0 Ad (.lst false A0 (.lst false A0 .nil)))))⟩,⟨.nil,(.cells 6 (.slot .bool (.own 1 (.own 2 (.own 5 (.own 6 (.slot .i .nil)))))) (.tree false 0 (.slice Af) (.tree false 1 Ad (.lst false A0 (.lst false A0 (.lst false A0 (.lst false A0 .nil)))))))⟩,Bd⟩
theorem Z6:Ai Go.Proofs.Tryz.prog R7:=okA (hcA 5 (all_cons jc (all_cons jb all_nil))) Go.Proofs.Tryz.func59
abbrev Arl:=List A1×Int×Int×Unit
abbrev Ari:=Int×Unit
abbrev Arj:=Int×Unit ⊕ Int×Unit
def Ds (i:Arl)(v:Ari)(R:Type)(K:Ari ⊕ Arj->Option R):Option R:=bif decide (v.1<(i.1.length:Int))then(lAt i.1 v.1).bind fun a=>(G3 ((a.1,a.2.1,()),(i.2.1,i.2.2.1,()),())).bind fun b=>bif b.1 then K (.inl (IntKind.i64.wrap (v.1+1),()))else K (.inr (.inl (v.1,())))else K (.inr (.inr (v.1,())))
theorem LQ:Bg Ds:=fun i v R K=>Ae (Ac fun _=>Ac fun _=>Ae (Aa) (Aa)) (Aa)
def Abz:Tmpl:=⟨(.slot (.slice A0) (jk 2 (.ptr 0 0 0 (.junk (.slot .i (jk 41 .nil)))))),(.cells 2 (si 2 .nil) .nil)⟩
def Arh:Exs Arl Arj:=xs (.exit 0) (fun i p=>⟨AV.pv (.slice A0) i.1::jn 2 (AV.ptr 0 none 0 0::jn 1 (.n (p.1)::jn 41 ([]))),[some (Cont.cells 2 [[AV.pv .i i.2.1,AV.pv .i i.2.2.1]])]⟩)<|x1 (.exit 0) fun i p=>⟨AV.pv (.slice A0) i.1::jn 2 (AV.ptr 0 none 0 0::jn 1 (.n (p.1)::jn 41 ([]))),[some (Cont.cells 2 [[AV.pv .i i.2.1,AV.pv .i i.2.2.1]])]⟩
def Ark:=((.i (.v (.i (.i .n)))):Pk Abz.ty _ _)
def AAm:Cfg:={ti:=Aw,ents:=[W0],ann:=[(2,Ao Abz 0 (spP Ark) Ds Arh.E)],lent:=0}
def GJ (x:List A1×A1×Unit):Option (List A1×Unit):=(AC (fun v=>Ds (x.1,x.2.1.1,x.2.1.2.1,()) v _ some) (0,())).bind fun p=>Az p (fun p=>bif decide (p.1<(x.1.length:Int))then(lAt x.1 p.1).bind fun v=>bif v.1==x.2.1.1&&(v.2.1==x.2.1.2.1&&true)then if x.1.length<=2199023255552 then some (x.1,())else none else(Hz x.1 0 p.1).bind fun v=>if v.length<=2199023255552 then if(v++[(x.2.1.1,x.2.1.2.1,())]).length<=2199023255552 then(Hz x.1 p.1 (x.1.length:Int)).bind fun a=>if(v++[(x.2.1.1,x.2.1.2.1,())]++a).length<=2199023255552 then some (v++[(x.2.1.1,x.2.1.2.1,())]++a,())else none else none else none else(Hz x.1 0 p.1).bind fun v=>if v.length<=2199023255552 then if(v++[(x.2.1.1,x.2.1.2.1,())]).length<=2199023255552 then(Hz x.1 p.1 (x.1.length:Int)).bind fun a=>if(v++[(x.2.1.1,x.2.1.2.1,())]++a).length<=2199023255552 then some (v++[(x.2.1.1,x.2.1.2.1,())]++a,())else none else none else none) fun p=>bif decide (p.1<(x.1.length:Int))then(lAt x.1 p.1).bind fun v=>bif v.1==x.2.1.1&&(v.2.1==x.2.1.2.1&&true)then if x.1.length<=2199023255552 then some (x.1,())else none else(Hz x.1 0 p.1).bind fun v=>if v.length<=2199023255552 then if(v++[(x.2.1.1,x.2.1.2.1,())]).length<=2199023255552 then(Hz x.1 p.1 (x.1.length:Int)).bind fun a=>if(v++[(x.2.1.1,x.2.1.2.1,())]++a).length<=2199023255552 then some (v++[(x.2.1.1,x.2.1.2.1,())]++a,())else none else none else none else(Hz x.1 0 p.1).bind fun v=>if v.length<=2199023255552 then if(v++[(x.2.1.1,x.2.1.2.1,())]).length<=2199023255552 then(Hz x.1 p.1 (x.1.length:Int)).bind fun a=>if(v++[(x.2.1.1,x.2.1.2.1,())]++a).length<=2199023255552 then some (v++[(x.2.1.1,x.2.1.2.1,())]++a,())else none else none else none
def Ayf:Ent:=⟨177,⟨(.slot (.slice A0) (.slot A0 .nil)),.nil⟩,⟨(.own 0 .nil),(.lst false A0 .nil)⟩,GJ⟩
theorem Arm:CfgOK Go.Proofs.Tryz.prog AAm:=hcB (all_cons qu all_nil)
theorem Aye:B9 Go.Proofs.Tryz.prog AAm (lpc Go.Proofs.Tryz.f177 0):=lkA Arm Abz Ark Ds Arh [0,3,5] LQ
theorem ABm:Ai Go.Proofs.Tryz.prog Ayf:=okB Arm Go.Proofs.Tryz.func177 Aye
def GM (x:A3×Int×A2×Unit):Option (Int×Int×Int×Int×Int×Int×Int×Bool×A9):=(E5 ((x.1.1,x.1.2.1,x.1.2.2.1,x.1.2.2.2.1,x.1.2.2.2.2.1,x.1.2.2.2.2.2.1,x.1.2.2.2.2.2.2.1,x.1.2.2.2.2.2.2.2.1,x.1.2.2.2.2.2.2.2.2.1,()),())).bind fun v=>(AJ ((x.1.1,x.1.2.1,x.1.2.2.1,x.1.2.2.2.1,x.1.2.2.2.2.1,x.1.2.2.2.2.2.1,x.1.2.2.2.2.2.2.1,x.1.2.2.2.2.2.2.2.1,x.1.2.2.2.2.2.2.2.2.1,()),())).bind fun a=>bif !a.1 then some (v.1,v.2.1,v.2.2.1,v.2.2.2.1,v.2.2.2.2.1,v.2.2.2.2.2.1,v.2.2.2.2.2.2.1,false,v.2.2.2.2.2.2.2.1,v.2.2.2.2.2.2.2.2.1,())else bif x.1.2.2.1 != 1 then some (v.1,v.2.1,v.2.2.1,v.2.2.2.1,v.2.2.2.2.1,v.2.2.2.2.2.1,v.2.2.2.2.2.2.1,false,v.2.2.2.2.2.2.2.1,v.2.2.2.2.2.2.2.2.1,())else(Ak (x.2.1,0,5,())).bind fun b=>bif !b.1 then some (v.1,v.2.1,v.2.2.1,v.2.2.2.1,v.2.2.2.2.1,v.2.2.2.2.2.1,v.2.2.2.2.2.2.1,false,v.2.2.2.2.2.2.2.1,v.2.2.2.2.2.2.2.2.1,())else(Da ((x.2.2.1.1,x.2.2.1.2.1,x.2.2.1.2.2.1,x.2.2.1.2.2.2.1,x.2.2.1.2.2.2.2.1,()),())).bind fun c=>bif !c.1 then some (v.1,v.2.1,v.2.2.1,v.2.2.2.1,v.2.2.2.2.1,v.2.2.2.2.2.1,v.2.2.2.2.2.2.1,false,v.2.2.2.2.2.2.2.1,v.2.2.2.2.2.2.2.2.1,())else bif (x.1.2.2.2.2.2.2.2.1.length:Int)==60 then some (v.1,v.2.1,v.2.2.1,v.2.2.2.1,v.2.2.2.2.1,v.2.2.2.2.2.1,v.2.2.2.2.2.2.1,false,v.2.2.2.2.2.2.2.1,v.2.2.2.2.2.2.2.2.1,())else(GJ (x.1.2.2.2.2.2.2.2.1,(x.2.1,x.2.2.1.2.2.1,()),())).bind fun d=>some (v.1,v.2.1,v.2.2.1,v.2.2.2.1,mx x.1.2.2.2.2.1 x.2.2.1.2.2.1,mn x.1.2.2.2.2.2.1 x.2.2.1.2.2.2.2.1,v.2.2.2.2.2.2.1,true,d.1,v.2.2.2.2.2.2.2.2.1,())
def Y3:Ent:=⟨107,⟨(.slot Ad (.slot .i (.slot Af .nil))),.nil⟩,⟨(.agg (si 7 (.own 0 (.own 1 .nil))) (.slot .bool .nil)),(.lst false A0 (.lst false A0 .nil))⟩,GM⟩
theorem uq:Ai Go.Proofs.Tryz.prog Y3:=okA (hcA 0 (all_cons Rg (all_cons RK (all_cons Qg (all_cons qv (all_cons ABm all_nil)))))) Go.Proofs.Tryz.func107
def A7t:Cfg:={ti:=Aw,ents:=[R7,hU,hP,Y3],ann:=[],lent:=5,pre:=[(some (0,3)),(some (0,4))]}
def Fv (x:Int×Int×Bool×Int×A7):Option (Int×Int×Bool×Int×A7):=if 0<=x.1/\x.1<(x.2.2.2.2.2.1.length:Int)then x.2.2.2.2.2.1[0+x.1.toNat]?.bind fun v=>x.2.2.2.2.2.1[0+x.1.toNat]?.bind fun a=>x.2.2.2.2.2.1[0+x.1.toNat]?.bind fun b=>(GO ((v.1,v.2.1,v.2.2.1,v.2.2.2.1,v.2.2.2.2.1,v.2.2.2.2.2.1,v.2.2.2.2.2.2.1,a.2.2.2.2.2.2.2.1,b.2.2.2.2.2.2.2.2.1,()),x.2.1,())).bind fun c=>bif decide (c.1>=0)then x.2.2.2.2.2.1[0+x.1.toNat]?.bind fun v=>if 0<=c.1/\c.1<(v.2.2.2.2.2.2.2.2.1.length:Int)then x.2.2.2.2.2.1[0+x.1.toNat]?.bind fun v=>v.2.2.2.2.2.2.2.2.1[0+c.1.toNat]?.bind fun v=>some (v.2.1,0,x.2.2.1,x.2.2.2.1,x.2.2.2.2.1,x.2.2.2.2.2.1,x.2.2.2.2.2.2.1,x.2.2.2.2.2.2.2.1,())else none else x.2.2.2.2.2.1[0+x.1.toNat]?.bind fun d=>x.2.2.2.2.2.1[0+x.1.toNat]?.bind fun e=>(EV ((x.2.2.2.2.1,()),(v.1,v.2.1,v.2.2.1,v.2.2.2.1,v.2.2.2.2.1,v.2.2.2.2.2.1,v.2.2.2.2.2.2.1,d.2.2.2.2.2.2.2.1,e.2.2.2.2.2.2.2.2.1,()),x.2.1,())).bind fun f=>bif f.2.2.2.2.2.1 != 0 then(Bd (x.1,x.2.2.1,x.2.2.2.1,x.2.2.2.2.1,x.2.2.2.2.2.1,x.2.2.2.2.2.2.1,x.2.2.2.2.2.2.2.1,())).bind fun v=>some (0,f.2.2.2.2.2.1,v.1,v.2.1,v.2.2.1,v.2.2.2.1,v.2.2.2.2.2.2.1,v.2.2.2.2.2.2.2.1,())else x.2.2.2.2.2.1[0+x.1.toNat]?.bind fun g=>x.2.2.2.2.2.1[0+x.1.toNat]?.bind fun h=>(GM ((v.1,v.2.1,v.2.2.1,v.2.2.2.1,v.2.2.2.2.1,v.2.2.2.2.2.1,v.2.2.2.2.2.2.1,g.2.2.2.2.2.2.2.1,h.2.2.2.2.2.2.2.2.1,()),x.2.1,(f.1,f.2.1,f.2.2.1,f.2.2.2.1,f.2.2.2.2.1,()),())).bind fun v=>bif !v.2.2.2.2.2.2.2.1 then some (0,6,x.2.2.1,x.2.2.2.1,x.2.2.2.2.1,x.2.2.2.2.2.1,x.2.2.2.2.2.2.1,x.2.2.2.2.2.2.2.1,())else if 0<=x.1/\x.1<(x.2.2.2.2.2.1.length:Int)then x.2.2.2.2.2.1[0+x.1.toNat]?.bind fun j=>some (f.2.1,0,x.2.2.1,x.2.2.2.1,x.2.2.2.2.1,x.2.2.2.2.2.1.set (0+x.1.toNat) (v.1,v.2.1,v.2.2.1,v.2.2.2.1,v.2.2.2.2.1,v.2.2.2.2.2.1,v.2.2.2.2.2.2.1,v.2.2.2.2.2.2.2.2.1,v.2.2.2.2.2.2.2.2.2.1,()),x.2.2.2.2.2.2.1,x.2.2.2.2.2.2.2.1,())else none else none
def VU:Ent:=⟨55,⟨(.ptr 0 0 0 (si 2 .nil)),(.cells 6 (.slot .bool (.own 1 (.own 2 (.own 3 (.own 4 (.slot .i .nil)))))) (.tree false 0 (.slice Af) (.tree false 0 Ad (.lst false A0 (.lst false A0 .nil)))))⟩,⟨(si 2 .nil),(.cells 6 (.slot .bool (.own 1 (.own 2 (.own 5 (.own 6 (.slot .i .nil)))))) (.tree false 0 (.slice Af) (.tree false 1 Ad (.gone (.gone (.lst false A0 (.lst false A0 .nil)))))))⟩,Fv⟩
theorem qt:Ai Go.Proofs.Tryz.prog VU:=okA (C:=A7t) (hcB (all_cons Z6 (all_cons vd (all_cons uK (all_cons uq all_nil))))) Go.Proofs.Tryz.func55
abbrev Are:=B3
abbrev Arb:=Int×Bool×Int×List (List A2)×List A3×List A1×List A1×List Int×Unit
abbrev Arc:=Bool×Int×List (List A2)×List A3×Int×List Int×A9 ⊕ Bool×Int×List (List A2)×List A3×List A1×List A1×List Int×Unit
def CQ (i:Are)(v:Arb)(R:Type)(K:Arb ⊕ Arc->Option R):Option R:=bif decide (v.1<=i.2.1)then(Fv (i.1,v.1,v.2.1,v.2.2.1,v.2.2.2.1,v.2.2.2.2.1,v.2.2.2.2.2.1,v.2.2.2.2.2.2.1,())).bind fun a=>bif a.2.1 != 0 then K (.inr (.inl (a.2.2.1,a.2.2.2.1,a.2.2.2.2.1,a.2.2.2.2.2.1,a.2.1,v.2.2.2.2.2.2.2.1,a.2.2.2.2.2.2.1,a.2.2.2.2.2.2.2.1,())))else if(v.2.2.2.2.2.2.2.1++[a.1]).length<=4398046511104 then K (.inl (IntKind.i64.wrap (v.1+1),a.2.2.1,a.2.2.2.1,a.2.2.2.2.1,a.2.2.2.2.2.1,a.2.2.2.2.2.2.1,a.2.2.2.2.2.2.2.1,v.2.2.2.2.2.2.2.1++[a.1],()))else none else K (.inr (.inr (v.2.1,v.2.2.1,v.2.2.2.1,v.2.2.2.2.1,v.2.2.2.2.2.1,v.2.2.2.2.2.2.1,v.2.2.2.2.2.2.2.1,())))
theorem LR:Bg CQ:=fun i v R K=>Ae (Ac fun _=>Ae (Aa) (Aq (Aa))) (Aa)
def Aby:Tmpl:=⟨(.ptr 0 0 0 (.slot .i (.junk (.slot .i (jk 4 (.ptr 7 0 0 (.own 8 (.slot .i (jk 26 .nil))))))))),(.cells 6 (.slot .bool (.own 1 (.own 2 (.own 5 (.own 6 (.slot .i .nil)))))) (.tree false 0 (.slice Af) (.tree false 1 Ad (.gone (.gone (.lst false A0 (.lst false A0 (.cells 2 (.slot .i (.const (AV.nils) .nil)) (.lst false .i .nil)))))))))⟩
def Ara:Exs Are Arc:=xs .ret (fun i p=>⟨jn 8 (AV.ptr 7 none 0 0::AV.own 8 none none::jn 27 ([])),[some (Cont.cells 6 [[AV.pv .bool p.1,AV.own 1 none none,AV.own 2 none none,AV.own 14 none none,AV.own 15 none none,AV.pv .i p.2.1]]),some (Cont.tree false 0 (.slice Af) p.2.2.1 none),some (Cont.tree false 2 Ad p.2.2.2.1 none),some Cont.dead,some Cont.dead,some Cont.dead,some Cont.dead,some (Cont.cells 2 [[AV.pv .i p.2.2.2.2.1,AV.nils]]),some (Cont.lst false .i p.2.2.2.2.2.1),none,none,none,none,none,some (Cont.lst false A0 p.2.2.2.2.2.2.1),some (Cont.lst false A0 p.2.2.2.2.2.2.2.1)]⟩)<|x1 (.exit 0) fun i p=>⟨jn 8 (AV.ptr 7 none 0 0::AV.own 8 none none::jn 27 ([])),[some (Cont.cells 6 [[AV.pv .bool p.1,AV.own 1 none none,AV.own 2 none none,AV.own 5 none none,AV.own 6 none none,AV.pv .i p.2.1]]),some (Cont.tree false 0 (.slice Af) p.2.2.1 none),some (Cont.tree false 1 Ad p.2.2.2.1 none),some Cont.dead,some Cont.dead,some (Cont.lst false A0 p.2.2.2.2.1),some (Cont.lst false A0 p.2.2.2.2.2.1),some (Cont.cells 2 [[AV.pv .i i.2.2.1,AV.nils]]),some (Cont.lst false .i p.2.2.2.2.2.2.1)]⟩
def Ard:=((.i (.i (.v (.v (.v (.v (.v (.v (.v (.i (.v .n))))))))))):Pk Aby.ty _ _)
def A37:Cfg:={ti:=Aw,ents:=[VU],ann:=[(3,Ao Aby 5 (spP Ard) CQ Ara.E)],lent:=5,pre:=[(some (0,3)),(some (0,4))]}
def Iq (x:Int×Int×Int×Bool×Int×A7):Option (Int×Bool×Int×List (List A2)×List A3×List A1×List A1×List Int×Unit):=(AC (fun v=>CQ (x.1,x.2.2.1,0,()) v _ some) (x.2.1,x.2.2.2.1,x.2.2.2.2.1,x.2.2.2.2.2.1,x.2.2.2.2.2.2.1,x.2.2.2.2.2.2.2.1,x.2.2.2.2.2.2.2.2.1,[],())).bind fun p=>Az p (fun p=>some (p.2.2.2.2.1,p.1,p.2.1,p.2.2.1,p.2.2.2.1,p.2.2.2.2.2.2.1,p.2.2.2.2.2.2.2.1,[],())) fun p=>some (0,p.1,p.2.1,p.2.2.1,p.2.2.2.1,p.2.2.2.2.1,p.2.2.2.2.2.1,p.2.2.2.2.2.2.1,())
def Y2:Ent:=⟨56,⟨(.ptr 0 0 0 (si 3 .nil)),(.cells 6 (.slot .bool (.own 1 (.own 2 (.own 3 (.own 4 (.slot .i .nil)))))) (.tree false 0 (.slice Af) (.tree false 0 Ad (.lst false A0 (.lst false A0 .nil)))))⟩,⟨(.agg (.slot .i (.own 7 .nil)) .nil),(.cells 6 (.slot .bool (.own 1 (.own 2 (.own 5 (.own 6 (.slot .i .nil)))))) (.tree false 0 (.slice Af) (.tree false 1 Ad (.gone (.gone (.lst false A0 (.lst false A0 (.lst false .i .nil))))))))⟩,Iq⟩
theorem Arf:CfgOK Go.Proofs.Tryz.prog A37:=hcB (all_cons qt all_nil)
theorem Ayd:B9 Go.Proofs.Tryz.prog A37 (lpc Go.Proofs.Tryz.f56 0):=lkA Arf Aby Ard CQ Ara [8,9] LR
theorem uo:Ai Go.Proofs.Tryz.prog Y2:=okB Arf Go.Proofs.Tryz.func56 Ayd
abbrev Ar9:=List A1×Int×Unit
abbrev Ar6:=Int×Unit
abbrev Ar7:=Int×Unit ⊕ Unit
def CS (i:Ar9)(v:Ar6)(R:Type)(K:Ar6 ⊕ Ar7->Option R):Option R:=bif decide (v.1<(i.1.length:Int))then(lAt i.1 v.1).bind fun a=>bif a.1==i.2.1 then(lAt i.1 v.1).bind fun v=>K (.inr (.inl (v.2.1,())))else K (.inl (IntKind.i64.wrap (v.1+1),()))else K (.inr (.inr ()))
theorem LV:Bg CS:=fun i v R K=>Ae (Ac fun _=>Ae (Ac fun _=>Aa) (Aa)) (Aa)
def Abx:Tmpl:=⟨(.slot (.slice A0) (.slot .i (jk 3 (.slot .i (jk 18 .nil))))),.nil⟩
def Ar5:Exs Ar9 Ar7:=xs .ret (fun i p=>⟨jn 4 (.n (p.1)::jn 19 ([])),[]⟩)<|x1 (.exit 0) fun i p=>⟨jn 24 ([]),[]⟩
def Ar8:=((.i (.i (.v .n))):Pk Abx.ty _ _)
def qT:Cfg:={ti:=Aw,ents:=[],ann:=[(2,Ao Abx 0 (spP Ar8) CS Ar5.E)],lent:=0}
def E9 (x:List A1×Int×Unit):Option (Int×Unit):=(AC (fun v=>CS (x.1,x.2.1,()) v _ some) (0,())).bind fun p=>Az p (fun p=>some (p.1,())) fun p=>some (0,())
def VT:Ent:=⟨109,⟨(.slot (.slice A0) (.slot .i .nil)),.nil⟩,⟨(.slot .i .nil),.nil⟩,E9⟩
theorem dw:CfgOK Go.Proofs.Tryz.prog qT:=hcB all_nil
theorem Ayc:B9 Go.Proofs.Tryz.prog qT (lpc Go.Proofs.Tryz.f109 0):=lkA dw Abx Ar8 CS Ar5 [4] LV
theorem j7:Ai Go.Proofs.Tryz.prog VT:=okB dw Go.Proofs.Tryz.func109 Ayc
def GK (x:A4×List A1×A3×Int×Unit):Option (Int×Unit):=(Fw ((x.1.1,()),(x.2.2.1.1,x.2.2.1.2.1,x.2.2.1.2.2.1,x.2.2.1.2.2.2.1,x.2.2.1.2.2.2.2.1,x.2.2.1.2.2.2.2.2.1,x.2.2.1.2.2.2.2.2.2.1,x.2.2.1.2.2.2.2.2.2.2.1,x.2.2.1.2.2.2.2.2.2.2.2.1,()),x.2.2.2.1,())).bind fun v=>bif !v.1 then some (6,())else(DF (x.2.1,())).bind fun v=>bif !v.1 then some (6,())else(E9 (x.2.1,x.2.2.2.1,())).bind fun v=>bif v.1 != 0 then(lAt x.1.1 x.2.2.2.1).bind fun a=>(Bq (a,())).bind fun b=>bif x.2.2.1.2.1==1 then bif v.1 != x.2.2.1.1 then some (1,())else bif x.2.2.1.2.1==2 then bif v.1 != x.2.2.1.1 then some (2,())else bif decide (b.2.2.1>x.2.2.1.2.2.2.1)then some (2,())else bif x.2.2.1.2.1==4 then bif decide (b.2.2.1>x.2.2.1.2.2.2.1)then some (3,())else bif decide (b.2.2.2.1>x.2.2.1.2.2.2.1)then some (3,())else some (0,())else some (0,())else bif x.2.2.1.2.1==4 then bif decide (b.2.2.1>x.2.2.1.2.2.2.1)then some (3,())else bif decide (b.2.2.2.1>x.2.2.1.2.2.2.1)then some (3,())else some (0,())else some (0,())else bif x.2.2.1.2.1==2 then bif v.1 != x.2.2.1.1 then some (2,())else bif decide (b.2.2.1>x.2.2.1.2.2.2.1)then some (2,())else bif x.2.2.1.2.1==4 then bif decide (b.2.2.1>x.2.2.1.2.2.2.1)then some (3,())else bif decide (b.2.2.2.1>x.2.2.1.2.2.2.1)then some (3,())else some (0,())else some (0,())else bif x.2.2.1.2.1==4 then bif decide (b.2.2.1>x.2.2.1.2.2.2.1)then some (3,())else bif decide (b.2.2.2.1>x.2.2.1.2.2.2.1)then some (3,())else some (0,())else some (0,())else(lAt x.1.1 x.2.2.2.1).bind fun v=>(Bq (v,())).bind fun v=>bif x.2.2.1.2.1==1 then bif x.2.2.1.2.1==2 then bif decide (v.2.2.1>x.2.2.1.2.2.2.1)then some (2,())else bif x.2.2.1.2.1==4 then bif decide (v.2.2.1>x.2.2.1.2.2.2.1)then some (3,())else bif decide (v.2.2.2.1>x.2.2.1.2.2.2.1)then some (3,())else some (0,())else some (0,())else bif x.2.2.1.2.1==4 then bif decide (v.2.2.1>x.2.2.1.2.2.2.1)then some (3,())else bif decide (v.2.2.2.1>x.2.2.1.2.2.2.1)then some (3,())else some (0,())else some (0,())else bif x.2.2.1.2.1==2 then bif decide (v.2.2.1>x.2.2.1.2.2.2.1)then some (2,())else bif x.2.2.1.2.1==4 then bif decide (v.2.2.1>x.2.2.1.2.2.2.1)then some (3,())else bif decide (v.2.2.2.1>x.2.2.1.2.2.2.1)then some (3,())else some (0,())else some (0,())else bif x.2.2.1.2.1==4 then bif decide (v.2.2.1>x.2.2.1.2.2.2.1)then some (3,())else bif decide (v.2.2.2.1>x.2.2.1.2.2.2.1)then some (3,())else some (0,())else some (0,())
def A3z:Ent:=⟨108,⟨(.slot Bp (.slot (.slice A0) (.slot Ad (.slot .i .nil)))),.nil⟩,⟨(.slot .i .nil),.nil⟩,GK⟩
theorem Ar4:Ai Go.Proofs.Tryz.prog A3z:=okA (hcA 0 (all_cons jl (all_cons ju (all_cons j7 (all_cons aN all_nil))))) Go.Proofs.Tryz.func108
abbrev Ar3:=List A1×Int×Int×Unit
abbrev Ar0:=Int×Unit
abbrev Ar1:=Int×Unit ⊕ Int×Unit
def EN (i:Ar3)(v:Ar0)(R:Type)(K:Ar0 ⊕ Ar1->Option R):Option R:=bif decide (v.1<(i.1.length:Int))then(lAt i.1 v.1).bind fun a=>bif decide (a.1<i.2.1)then K (.inl (IntKind.i64.wrap (v.1+1),()))else K (.inr (.inl (v.1,())))else K (.inr (.inr (v.1,())))
theorem Nf:Bg EN:=fun i v R K=>Ae (Ac fun _=>Ae (Aa) (Aa)) (Aa)
def Abw:Tmpl:=⟨(.slot (.slice A0) (si 2 (jk 5 (.slot .i (jk 67 .nil))))),.nil⟩
def Aqz:Exs Ar3 Ar1:=xs (.exit 0) (fun i p=>⟨AV.pv (.slice A0) i.1::.n (i.2.1)::.n (i.2.2.1)::jn 5 (.n (p.1)::jn 67 ([])),[]⟩)<|x1 (.exit 0) fun i p=>⟨AV.pv (.slice A0) i.1::.n (i.2.1)::.n (i.2.2.1)::jn 5 (.n (p.1)::jn 67 ([])),[]⟩
def Ar2:=((.i (.i (.i (.v .n)))):Pk Abw.ty _ _)
def qS:Cfg:={ti:=Aw,ents:=[TQ,Qi],ann:=[(4,Ao Abw 0 (spP Ar2) EN Aqz.E)],lent:=0}
def Gv (x:List A1×Int×Int×Unit):Option (Bool×List A1×Unit):=(DE (x.1,())).bind fun v=>bif !v.1 then if x.1.length<=2199023255552 then some (false,x.1,())else none else(Ak (x.2.1,1,9,())).bind fun v=>bif !v.1 then if x.1.length<=2199023255552 then some (false,x.1,())else none else(Ak (x.2.2.1,1,9,())).bind fun v=>bif !v.1 then if x.1.length<=2199023255552 then some (false,x.1,())else none else bif x.2.1==x.2.2.1 then if x.1.length<=2199023255552 then some (false,x.1,())else none else(AC (fun v=>EN (x.1,x.2.1,x.2.2.1,()) v _ some) (0,())).bind fun p=>Az p (fun p=>(Hz x.1 0 p.1).bind fun v=>if v.length<=2199023255552 then if(v++[(x.2.1,x.2.2.1,())]).length<=2199023255552 then bif decide (p.1<(x.1.length:Int))then(lAt x.1 p.1).bind fun a=>bif a.1==x.2.1 then(Hz x.1 (IntKind.i64.wrap (p.1+1)) (x.1.length:Int)).bind fun b=>if(v++[(x.2.1,x.2.2.1,())]++b).length<=2199023255552 then some (true,v++[(x.2.1,x.2.2.1,())]++b,())else none else(Hz x.1 p.1 (x.1.length:Int)).bind fun b=>if(v++[(x.2.1,x.2.2.1,())]++b).length<=2199023255552 then some (true,v++[(x.2.1,x.2.2.1,())]++b,())else none else(Hz x.1 p.1 (x.1.length:Int)).bind fun a=>if(v++[(x.2.1,x.2.2.1,())]++a).length<=2199023255552 then some (true,v++[(x.2.1,x.2.2.1,())]++a,())else none else none else none) fun p=>(Hz x.1 0 p.1).bind fun v=>if v.length<=2199023255552 then if(v++[(x.2.1,x.2.2.1,())]).length<=2199023255552 then bif decide (p.1<(x.1.length:Int))then(lAt x.1 p.1).bind fun a=>bif a.1==x.2.1 then(Hz x.1 (IntKind.i64.wrap (p.1+1)) (x.1.length:Int)).bind fun b=>if(v++[(x.2.1,x.2.2.1,())]++b).length<=2199023255552 then some (true,v++[(x.2.1,x.2.2.1,())]++b,())else none else(Hz x.1 p.1 (x.1.length:Int)).bind fun b=>if(v++[(x.2.1,x.2.2.1,())]++b).length<=2199023255552 then some (true,v++[(x.2.1,x.2.2.1,())]++b,())else none else(Hz x.1 p.1 (x.1.length:Int)).bind fun a=>if(v++[(x.2.1,x.2.2.1,())]++a).length<=2199023255552 then some (true,v++[(x.2.1,x.2.2.1,())]++a,())else none else none else none
def hO:Ent:=⟨111,⟨(.slot (.slice A0) (si 2 .nil)),.nil⟩,⟨(.own 0 (.slot .bool .nil)),(.lst false A0 .nil)⟩,Gv⟩
theorem dv:CfgOK Go.Proofs.Tryz.prog qS:=hcB (all_cons jt (all_cons Qg all_nil))
theorem Ayb:B9 Go.Proofs.Tryz.prog qS (lpc Go.Proofs.Tryz.f111 0):=lkA dv Abw Ar2 EN Aqz [0,1,2,8] Nf
theorem qr:Ai Go.Proofs.Tryz.prog hO:=okB dv Go.Proofs.Tryz.func111 Ayb
abbrev Aqx:=List A1×Int×Unit
abbrev Aqu:=Int×Unit
abbrev Aqv:=Int×Unit ⊕ Unit
def Ek (i:Aqx)(v:Aqu)(R:Type)(K:Aqu ⊕ Aqv->Option R):Option R:=bif decide (v.1<(i.1.length:Int))then(lAt i.1 v.1).bind fun a=>bif a.1==i.2.1 then(lAt i.1 v.1).bind fun v=>K (.inr (.inl (v.2.1,())))else K (.inl (IntKind.i64.wrap (v.1+1),()))else K (.inr (.inr ()))
theorem NE:Bg Ek:=fun i v R K=>Ae (Ac fun _=>Ae (Ac fun _=>Aa) (Aa)) (Aa)
def Abv:Tmpl:=⟨(.slot (.slice A0) (.slot .i (jk 3 (.slot .i (jk 18 .nil))))),.nil⟩
def Aqt:Exs Aqx Aqv:=xs .ret (fun i p=>⟨jn 4 (.n (p.1)::jn 19 ([])),[]⟩)<|x1 (.exit 0) fun i p=>⟨jn 24 ([]),[]⟩
def Aqw:=((.i (.i (.v .n))):Pk Abv.ty _ _)
def AAl:Cfg:={ti:=Aw,ents:=[],ann:=[(2,Ao Abv 0 (spP Aqw) Ek Aqt.E)],lent:=0}
def IG (x:List A1×Int×Unit):Option (Int×Unit):=(AC (fun v=>Ek (x.1,x.2.1,()) v _ some) (0,())).bind fun p=>Az p (fun p=>some (p.1,())) fun p=>some (0,())
def Y1:Ent:=⟨223,⟨(.slot (.slice A0) (.slot .i .nil)),.nil⟩,⟨(.slot .i .nil),.nil⟩,IG⟩
theorem Aqy:CfgOK Go.Proofs.Tryz.prog AAl:=hcB all_nil
theorem Aya:B9 Go.Proofs.Tryz.prog AAl (lpc Go.Proofs.Tryz.f223 0):=lkA Aqy Abv Aqw Ek Aqt [4] NE
theorem ug:Ai Go.Proofs.Tryz.prog Y1:=okB Aqy Go.Proofs.Tryz.func223 Aya
abbrev Aqq:=List A1×Int×List Int×Unit
abbrev Aqk:=Int×Unit
abbrev Aqm:=List Int×List Int×Unit ⊕ Unit
def Cn (i:Aqq)(v:Aqk)(R:Type)(K:Aqk ⊕ Aqm->Option R):Option R:=bif decide (v.1<(i.2.2.1.length:Int))then if 0<=v.1/\v.1<(i.2.2.1.length:Int)then i.2.2.1[0+v.1.toNat]?.bind fun a=>bif a==i.2.1 then if(i.2.2.1++[i.2.1]).length<=4398046511104 then K (.inr (.inl ([i.2.1],i.2.2.1++[i.2.1],())))else none else K (.inl (IntKind.i64.wrap (v.1+1),()))else none else K (.inr (.inr ()))
theorem LS:Bg Cn:=fun i v R K=>Ae (Aq (Ac fun _=>Ae (Aq (Aa)) (Aa))) (Aa)
def Abs:Tmpl:=⟨(.slot (.slice A0) (jk 4 (.own 0 (si 2 (jk 36 .nil))))),(.lst false .i .nil)⟩
def Aqi:Exs Aqq Aqm:=xs .ret (fun i p=>⟨AV.pv (.slice A0) i.1::jn 3 (AV.own 2 none none::AV.own 0 none none::.n (i.2.1)::jn 37 ([])),[some Cont.dead,some (Cont.lst false .i p.1),some (Cont.lst false .i p.2.1)]⟩)<|x1 (.exit 2) fun i p=>⟨AV.pv (.slice A0) i.1::jn 4 (AV.own 0 none none::.n (i.2.1)::jn 37 ([])),[some (Cont.lst false .i i.2.2.1)]⟩
def Aqo:=((.i (.i (.v (.i .n)))):Pk Abs.ty _ _)
abbrev Aqr:=List A1×Unit
abbrev Aql:=Int×List Int×Unit
abbrev Aqn:=List Int×List Int×Unit ⊕ List Int×Unit ⊕ List Int×Unit ⊕ List Int×Unit
def Co (i:Aqr)(v:Aql)(R:Type)(K:Aql ⊕ Aqn->Option R):Option R:=bif decide (v.1>0)then(DE (i.1,())).bind fun a=>bif a.1 then bif decide (v.1<=9)then(AC (fun b=>Cn (i.1,v.1,v.2.1,()) b _ some) (0,())).bind fun p=>Az p (fun p=>K (.inr (.inl (p.1,p.2.1,())))) fun p=>if(v.2.1++[v.1]).length<=4398046511104 then(IG (i.1,v.1,())).bind fun b=>K (.inl (b.1,v.2.1++[v.1],()))else none else K (.inr (.inr (.inl (v.2.1,()))))else K (.inr (.inr (.inr (.inl (v.2.1,())))))else K (.inr (.inr (.inr (.inr (v.2.1,())))))
theorem LT:Bg Co:=fun i v R K=>Ae (Ac fun _=>Ae (Ae (Ac fun _=>cQ (fun _=>Aa) (fun _=>Aq (Ac fun _=>Aa))) (Aa)) (Aa)) (Aa)
def Abt:Tmpl:=⟨(.slot (.slice A0) (jk 4 (.own 0 (.slot .i (jk 37 .nil))))),(.lst false .i .nil)⟩
def Aqj:Exs Aqr Aqn:=xs .ret (fun i p=>⟨jn 4 (AV.own 2 none none::AV.own 0 none none::jn 38 ([])),[some Cont.dead,some (Cont.lst false .i p.1),some (Cont.lst false .i p.2.1)]⟩)<|xs (.exit 0) (fun i p=>⟨jn 5 (AV.own 0 none none::jn 38 ([])),[some (Cont.lst false .i p.1)]⟩)<|xs (.exit 0) (fun i p=>⟨jn 5 (AV.own 0 none none::jn 38 ([])),[some (Cont.lst false .i p.1)]⟩)<|x1 (.exit 0) fun i p=>⟨jn 5 (AV.own 0 none none::jn 38 ([])),[some (Cont.lst false .i p.1)]⟩
def Aqp:=((.i (.v (.v .n))):Pk Abt.ty _ _)
def Aqs:Cfg:={ti:=Aw,ents:=[TQ,Y1],ann:=[(6,Ao Abs 0 (spP Aqo) Cn Aqi.E),(3,Ao Abt 0 (spP Aqp) Co Aqj.E)],lent:=0}
def Ir (x:List A1×Int×Unit):Option (List Int×Unit):=(AC (fun v=>Co (x.1,()) v _ some) (x.2.1,[],())).bind fun p=>Az p (fun p=>some (p.2.1,())) fun p=>Az p (fun p=>some (p.1,())) fun p=>Az p (fun p=>some (p.1,())) fun p=>some (p.1,())
def XB:Ent:=⟨178,⟨(.slot (.slice A0) (.slot .i .nil)),.nil⟩,⟨(.own 0 .nil),(.lst false .i .nil)⟩,Ir⟩
theorem Abu:CfgOK Go.Proofs.Tryz.prog Aqs:=hcB (all_cons jt (all_cons ug all_nil))
theorem Adj:B9 Go.Proofs.Tryz.prog Aqs (lpc Go.Proofs.Tryz.f178 1):=lkA Abu Abs Aqo Cn Aqi [0,4,5,6] LS
theorem Ay9:B9 Go.Proofs.Tryz.prog Aqs (lpc Go.Proofs.Tryz.f178 0):=lkB Abu Abt Aqp Co Aqj [4,5] LT Adj
theorem OW:Ai Go.Proofs.Tryz.prog XB:=okC Abu Go.Proofs.Tryz.func178 Ay9 Adj
def ES (x:List A1×Int×Int×Unit):Option (Bool×Unit):=(Gv (x.1,x.2.1,x.2.2.1,())).bind fun v=>bif !v.1 then some (false,())else(Ir (v.2.1,x.2.1,())).bind fun v=>bif decide ((v.1.length:Int)>1)then if 0<=IntKind.i64.wrap ((v.1.length:Int)-1)/\IntKind.i64.wrap ((v.1.length:Int)-1)<(v.1.length:Int)then v.1[0+(IntKind.i64.wrap ((v.1.length:Int)-1)).toNat]?.bind fun v=>some (v==x.2.1,())else none else some (false,())
def gZ:Ent:=⟨110,⟨(.slot (.slice A0) (si 2 .nil)),.nil⟩,⟨(.slot .bool .nil),.nil⟩,ES⟩
theorem j5:Ai Go.Proofs.Tryz.prog gZ:=okA (hcA 0 (all_cons qr (all_cons OW all_nil))) Go.Proofs.Tryz.func110
def Gj (x:Int×Unit):Option (Bool×Unit):=bif x.1==1 then some (true,())else some (x.1==2,())
def RA:Ent:=⟨112,⟨(.slot .i .nil),.nil⟩,⟨(.slot .bool .nil),.nil⟩,Gj⟩
theorem Qt:Ai Go.Proofs.Tryz.prog RA:=okA (hcA 0 all_nil) Go.Proofs.Tryz.func112
abbrev Aqg:=Int×Int×List A1×Unit
abbrev Aqd:=Int×Unit
abbrev Aqe:=Int×Unit ⊕ Int×Unit
def Cl (i:Aqg)(v:Aqd)(R:Type)(K:Aqd ⊕ Aqe->Option R):Option R:=bif decide (v.1<(i.2.2.1.length:Int))then if 0<=v.1/\v.1<(i.2.2.1.length:Int)then i.2.2.1[0+v.1.toNat]?.bind fun a=>bif decide (a.1<i.1)then K (.inl (IntKind.i64.wrap (v.1+1),()))else K (.inr (.inl (v.1,())))else none else K (.inr (.inr (v.1,())))
theorem KI:Bg Cl:=fun i v R K=>Ae (Aq (Ac fun _=>Ae (Aa) (Aa))) (Aa)
def Abr:Tmpl:=⟨(.junk (si 2 (jk 5 (.own 0 (.junk (.slot .i (jk 61 .nil))))))),(.lst false A0 .nil)⟩
def Aqc:Exs Aqg Aqe:=xs (.exit 0) (fun i p=>⟨jn 1 (.n (i.1)::.n (i.2.1)::jn 5 (AV.own 0 none none::jn 1 (.n (p.1)::jn 61 ([])))),[some (Cont.lst false A0 i.2.2.1)]⟩)<|x1 (.exit 0) fun i p=>⟨jn 1 (.n (i.1)::.n (i.2.1)::jn 5 (AV.own 0 none none::jn 1 (.n (p.1)::jn 61 ([])))),[some (Cont.lst false A0 i.2.2.1)]⟩
def Aqf:=((.i (.i (.v (.i .n)))):Pk Abr.ty _ _)
def AAk:Cfg:={ti:=Aw,ents:=[W2,VT,aQ,Qi],ann:=[(8,Ao Abr 0 (spP Aqf) Cl Aqc.E)],lent:=0}
def FR (x:List A1×Int×Int×Unit):Option (Bool×List A1×Unit):=(Fx (x.1,())).bind fun v=>(E9 (x.1,x.2.1,())).bind fun a=>(DF (x.1,())).bind fun b=>bif !b.1 then some (false,v.1,())else(Ak (x.2.1,0,5,())).bind fun c=>bif !c.1 then some (false,v.1,())else(Ak (x.2.2.1,1,9,())).bind fun d=>bif !d.1 then some (false,v.1,())else bif a.1 != 0 then bif a.1 != x.2.2.1 then some (false,v.1,())else bif a.1==x.2.2.1 then some (true,v.1,())else(AC (fun e=>Cl (x.2.1,x.2.2.1,v.1,()) e _ some) (0,())).bind fun p=>Az p (fun p=>if(0:Int)<=0/\0<=p.1/\p.1<=(v.1.length:Int)then if(Cv v.1 (some (0,p.1.toNat-Int.toNat 0))).length<=2199023255552 then if(Cv v.1 (some (0,p.1.toNat-Int.toNat 0))++[(x.2.1,x.2.2.1,())]).length<=2199023255552 then if 0<=p.1/\p.1<=(v.1.length:Int)/\(v.1.length:Int)<=(v.1.length:Int)then if(Cv v.1 (some (0,p.1.toNat-Int.toNat 0))++[(x.2.1,x.2.2.1,())]++Cv v.1 (some (0+p.1.toNat,(v.1.length:Int).toNat-p.1.toNat))).length<=2199023255552 then some (true,Cv v.1 (some (0,p.1.toNat-Int.toNat 0))++[(x.2.1,x.2.2.1,())]++Cv v.1 (some (0+p.1.toNat,(v.1.length:Int).toNat-p.1.toNat)),())else none else none else none else none else none) fun p=>if(0:Int)<=0/\0<=p.1/\p.1<=(v.1.length:Int)then if(Cv v.1 (some (0,p.1.toNat-Int.toNat 0))).length<=2199023255552 then if(Cv v.1 (some (0,p.1.toNat-Int.toNat 0))++[(x.2.1,x.2.2.1,())]).length<=2199023255552 then if 0<=p.1/\p.1<=(v.1.length:Int)/\(v.1.length:Int)<=(v.1.length:Int)then if(Cv v.1 (some (0,p.1.toNat-Int.toNat 0))++[(x.2.1,x.2.2.1,())]++Cv v.1 (some (0+p.1.toNat,(v.1.length:Int).toNat-p.1.toNat))).length<=2199023255552 then some (true,Cv v.1 (some (0,p.1.toNat-Int.toNat 0))++[(x.2.1,x.2.2.1,())]++Cv v.1 (some (0+p.1.toNat,(v.1.length:Int).toNat-p.1.toNat)),())else none else none else none else none else none else bif a.1==x.2.2.1 then some (true,v.1,())else(AC (fun e=>Cl (x.2.1,x.2.2.1,v.1,()) e _ some) (0,())).bind fun p=>Az p (fun p=>if(0:Int)<=0/\0<=p.1/\p.1<=(v.1.length:Int)then if(Cv v.1 (some (0,p.1.toNat-Int.toNat 0))).length<=2199023255552 then if(Cv v.1 (some (0,p.1.toNat-Int.toNat 0))++[(x.2.1,x.2.2.1,())]).length<=2199023255552 then if 0<=p.1/\p.1<=(v.1.length:Int)/\(v.1.length:Int)<=(v.1.length:Int)then if(Cv v.1 (some (0,p.1.toNat-Int.toNat 0))++[(x.2.1,x.2.2.1,())]++Cv v.1 (some (0+p.1.toNat,(v.1.length:Int).toNat-p.1.toNat))).length<=2199023255552 then some (true,Cv v.1 (some (0,p.1.toNat-Int.toNat 0))++[(x.2.1,x.2.2.1,())]++Cv v.1 (some (0+p.1.toNat,(v.1.length:Int).toNat-p.1.toNat)),())else none else none else none else none else none) fun p=>if(0:Int)<=0/\0<=p.1/\p.1<=(v.1.length:Int)then if(Cv v.1 (some (0,p.1.toNat-Int.toNat 0))).length<=2199023255552 then if(Cv v.1 (some (0,p.1.toNat-Int.toNat 0))++[(x.2.1,x.2.2.1,())]).length<=2199023255552 then if 0<=p.1/\p.1<=(v.1.length:Int)/\(v.1.length:Int)<=(v.1.length:Int)then if(Cv v.1 (some (0,p.1.toNat-Int.toNat 0))++[(x.2.1,x.2.2.1,())]++Cv v.1 (some (0+p.1.toNat,(v.1.length:Int).toNat-p.1.toNat))).length<=2199023255552 then some (true,Cv v.1 (some (0,p.1.toNat-Int.toNat 0))++[(x.2.1,x.2.2.1,())]++Cv v.1 (some (0+p.1.toNat,(v.1.length:Int).toNat-p.1.toNat)),())else none else none else none else none else none
def Rz:Ent:=⟨113,⟨(.slot (.slice A0) (si 2 .nil)),.nil⟩,⟨(.own 0 (.slot .bool .nil)),(.lst false A0 .nil)⟩,FR⟩
theorem Aqh:CfgOK Go.Proofs.Tryz.prog AAk:=hcB (all_cons Z7 (all_cons j7 (all_cons ju (all_cons Qg all_nil))))
theorem Ay8:B9 Go.Proofs.Tryz.prog AAk (lpc Go.Proofs.Tryz.f113 0):=lkA Aqh Abr Aqf Cl Aqc [1,2,8,10] KI
theorem TJ:Ai Go.Proofs.Tryz.prog Rz:=okB Aqh Go.Proofs.Tryz.func113 Ay8
abbrev Aqa:=List A1×Int×Int×Unit
abbrev Aq7:=Int×Unit
abbrev Aq8:=Int×Unit ⊕ Int×Unit
def De (i:Aqa)(v:Aq7)(R:Type)(K:Aq7 ⊕ Aq8->Option R):Option R:=bif decide (v.1<(i.1.length:Int))then(lAt i.1 v.1).bind fun a=>bif decide (a.1<i.2.1)then K (.inl (IntKind.i64.wrap (v.1+1),()))else K (.inr (.inl (v.1,())))else K (.inr (.inr (v.1,())))
theorem Lc:Bg De:=fun i v R K=>Ae (Ac fun _=>Ae (Aa) (Aa)) (Aa)
def Abq:Tmpl:=⟨(.slot (.slice A0) (jk 2 (.ptr 0 0 0 (.junk (.slot .i (jk 46 .nil)))))),(.cells 2 (si 2 .nil) .nil)⟩
def Aq6:Exs Aqa Aq8:=xs (.exit 0) (fun i p=>⟨AV.pv (.slice A0) i.1::jn 2 (AV.ptr 0 none 0 0::jn 1 (.n (p.1)::jn 46 ([]))),[some (Cont.cells 2 [[AV.pv .i i.2.1,AV.pv .i i.2.2.1]])]⟩)<|x1 (.exit 0) fun i p=>⟨AV.pv (.slice A0) i.1::jn 2 (AV.ptr 0 none 0 0::jn 1 (.n (p.1)::jn 46 ([]))),[some (Cont.cells 2 [[AV.pv .i i.2.1,AV.pv .i i.2.2.1]])]⟩
def Aq9:=((.i (.v (.i (.i .n)))):Pk Abq.ty _ _)
def AAj:Cfg:={ti:=Aw,ents:=[],ann:=[(2,Ao Abq 0 (spP Aq9) De Aq6.E)],lent:=0}
def Gh (x:List A1×A1×Unit):Option (List A1×Unit):=(AC (fun v=>De (x.1,x.2.1.1,x.2.1.2.1,()) v _ some) (0,())).bind fun p=>Az p (fun p=>(Hz x.1 0 p.1).bind fun v=>if v.length<=2199023255552 then if(v++[(x.2.1.1,x.2.1.2.1,())]).length<=2199023255552 then bif decide (p.1<(x.1.length:Int))then(lAt x.1 p.1).bind fun a=>bif a.1==x.2.1.1 then(Hz x.1 (IntKind.i64.wrap (p.1+1)) (x.1.length:Int)).bind fun b=>if(v++[(x.2.1.1,x.2.1.2.1,())]++b).length<=2199023255552 then some (v++[(x.2.1.1,x.2.1.2.1,())]++b,())else none else(Hz x.1 p.1 (x.1.length:Int)).bind fun b=>if(v++[(x.2.1.1,x.2.1.2.1,())]++b).length<=2199023255552 then some (v++[(x.2.1.1,x.2.1.2.1,())]++b,())else none else(Hz x.1 p.1 (x.1.length:Int)).bind fun a=>if(v++[(x.2.1.1,x.2.1.2.1,())]++a).length<=2199023255552 then some (v++[(x.2.1.1,x.2.1.2.1,())]++a,())else none else none else none) fun p=>(Hz x.1 0 p.1).bind fun v=>if v.length<=2199023255552 then if(v++[(x.2.1.1,x.2.1.2.1,())]).length<=2199023255552 then bif decide (p.1<(x.1.length:Int))then(lAt x.1 p.1).bind fun a=>bif a.1==x.2.1.1 then(Hz x.1 (IntKind.i64.wrap (p.1+1)) (x.1.length:Int)).bind fun b=>if(v++[(x.2.1.1,x.2.1.2.1,())]++b).length<=2199023255552 then some (v++[(x.2.1.1,x.2.1.2.1,())]++b,())else none else(Hz x.1 p.1 (x.1.length:Int)).bind fun b=>if(v++[(x.2.1.1,x.2.1.2.1,())]++b).length<=2199023255552 then some (v++[(x.2.1.1,x.2.1.2.1,())]++b,())else none else(Hz x.1 p.1 (x.1.length:Int)).bind fun a=>if(v++[(x.2.1.1,x.2.1.2.1,())]++a).length<=2199023255552 then some (v++[(x.2.1.1,x.2.1.2.1,())]++a,())else none else none else none
def aJ:Ent:=⟨179,⟨(.slot (.slice A0) (.slot A0 .nil)),.nil⟩,⟨(.own 0 .nil),(.lst false A0 .nil)⟩,Gh⟩
theorem Aqb:CfgOK Go.Proofs.Tryz.prog AAj:=hcB all_nil
theorem Ay7:B9 Go.Proofs.Tryz.prog AAj (lpc Go.Proofs.Tryz.f179 0):=lkA Aqb Abq Aq9 De Aq6 [0,3,5] Lc
theorem j4:Ai Go.Proofs.Tryz.prog aJ:=okB Aqb Go.Proofs.Tryz.func179 Ay7
def ET (x:A4×A3×Int×Int×Unit):Option (Int×Int×Int×Int×Int×Int×Int×Bool×A9):=(E5 ((x.2.1.1,x.2.1.2.1,x.2.1.2.2.1,x.2.1.2.2.2.1,x.2.1.2.2.2.2.1,x.2.1.2.2.2.2.2.1,x.2.1.2.2.2.2.2.2.1,x.2.1.2.2.2.2.2.2.2.1,x.2.1.2.2.2.2.2.2.2.2.1,()),())).bind fun v=>(Bk ((x.1.1,()),())).bind fun a=>bif !a.1 then some (v.1,v.2.1,v.2.2.1,v.2.2.2.1,v.2.2.2.2.1,v.2.2.2.2.2.1,v.2.2.2.2.2.2.1,false,v.2.2.2.2.2.2.2.1,v.2.2.2.2.2.2.2.2.1,())else(AJ ((x.2.1.1,x.2.1.2.1,x.2.1.2.2.1,x.2.1.2.2.2.1,x.2.1.2.2.2.2.1,x.2.1.2.2.2.2.2.1,x.2.1.2.2.2.2.2.2.1,x.2.1.2.2.2.2.2.2.2.1,x.2.1.2.2.2.2.2.2.2.2.1,()),())).bind fun b=>bif !b.1 then some (v.1,v.2.1,v.2.2.1,v.2.2.2.1,v.2.2.2.2.1,v.2.2.2.2.2.1,v.2.2.2.2.2.2.1,false,v.2.2.2.2.2.2.2.1,v.2.2.2.2.2.2.2.2.1,())else bif x.2.1.2.2.1 != 1 then some (v.1,v.2.1,v.2.2.1,v.2.2.2.1,v.2.2.2.2.1,v.2.2.2.2.2.1,v.2.2.2.2.2.2.1,false,v.2.2.2.2.2.2.2.1,v.2.2.2.2.2.2.2.2.1,())else(Ak (x.2.2.1,0,5,())).bind fun c=>bif !c.1 then some (v.1,v.2.1,v.2.2.1,v.2.2.2.1,v.2.2.2.2.1,v.2.2.2.2.2.1,v.2.2.2.2.2.2.1,false,v.2.2.2.2.2.2.2.1,v.2.2.2.2.2.2.2.2.1,())else(Ak (x.2.2.2.1,-1,99,())).bind fun d=>bif !d.1 then some (v.1,v.2.1,v.2.2.1,v.2.2.2.1,v.2.2.2.2.1,v.2.2.2.2.2.1,v.2.2.2.2.2.2.1,false,v.2.2.2.2.2.2.2.1,v.2.2.2.2.2.2.2.2.1,())else(Gh (x.2.1.2.2.2.2.2.2.2.2.1,(x.2.2.1,x.2.2.2.1,()),())).bind fun e=>(lAt x.1.1 x.2.2.1).bind fun f=>(Bq (f,())).bind fun g=>some (v.1,v.2.1,v.2.2.1,v.2.2.2.1,mx x.2.1.2.2.2.2.1 g.2.2.2.1,v.2.2.2.2.2.1,v.2.2.2.2.2.2.1,true,v.2.2.2.2.2.2.2.1,e.1,())
def Y0:Ent:=⟨114,⟨(.slot Bp (.slot Ad (si 2 .nil))),.nil⟩,⟨(.agg (si 7 (.own 0 (.own 1 .nil))) (.slot .bool .nil)),(.lst false A0 (.lst false A0 .nil))⟩,ET⟩
theorem ud:Ai Go.Proofs.Tryz.prog Y0:=okA (hcA 0 (all_cons Rg (all_cons Qu (all_cons RK (all_cons Qg (all_cons j4 (all_cons aN all_nil))))))) Go.Proofs.Tryz.func114
def AGr:Cfg:={ti:=Aw,ents:=[R7,A3z,VT,gZ,hO,RA,Rz,Y0],ann:=[],lent:=5,hid:=[((8,11),[0]),((14,12),[0])],pre:=[(some (0,3)),(some (0,4))]}
def Gi (x:Int×Int×Int×Int×Int×Int×Int×Bool×Int×A7):Option (Int×Bool×Int×A7):=if 0<=x.1/\x.1<(x.2.2.2.2.2.2.2.2.2.2.1.length:Int)then x.2.2.2.2.2.2.2.2.2.2.1[0+x.1.toNat]?.bind fun v=>x.2.2.2.2.2.2.2.2.2.2.1[0+x.1.toNat]?.bind fun a=>x.2.2.2.2.2.2.2.2.2.2.1[0+x.1.toNat]?.bind fun b=>(GK ((x.2.2.2.2.2.2.2.2.2.1,()),x.2.2.2.2.2.2.2.2.2.2.2.1,(v.1,v.2.1,v.2.2.1,v.2.2.2.1,v.2.2.2.2.1,v.2.2.2.2.2.1,v.2.2.2.2.2.2.1,a.2.2.2.2.2.2.2.1,b.2.2.2.2.2.2.2.2.1,()),x.2.2.2.2.1,())).bind fun c=>bif c.1==1 then(E9 (x.2.2.2.2.2.2.2.2.2.2.2.1,x.2.2.2.2.1,())).bind fun d=>(ES (x.2.2.2.2.2.2.2.2.2.2.2.2.1,v.1,d.1,())).bind fun e=>bif e.1 then(Bd (x.1,x.2.2.2.2.2.2.2.1,x.2.2.2.2.2.2.2.2.1,x.2.2.2.2.2.2.2.2.2.1,x.2.2.2.2.2.2.2.2.2.2.1,x.2.2.2.2.2.2.2.2.2.2.2.1,x.2.2.2.2.2.2.2.2.2.2.2.2.1,())).bind fun v=>some (4,v.1,v.2.1,v.2.2.1,v.2.2.2.1,v.2.2.2.2.2.2.1,v.2.2.2.2.2.2.2.1,())else(Gv (x.2.2.2.2.2.2.2.2.2.2.2.2.1,v.1,d.1,())).bind fun v=>some (c.1,x.2.2.2.2.2.2.2.1,x.2.2.2.2.2.2.2.2.1,x.2.2.2.2.2.2.2.2.2.1,x.2.2.2.2.2.2.2.2.2.2.1,x.2.2.2.2.2.2.2.2.2.2.2.1,v.2.1,())else bif c.1 != 0 then(Bd (x.1,x.2.2.2.2.2.2.2.1,x.2.2.2.2.2.2.2.2.1,x.2.2.2.2.2.2.2.2.2.1,x.2.2.2.2.2.2.2.2.2.2.1,x.2.2.2.2.2.2.2.2.2.2.2.1,x.2.2.2.2.2.2.2.2.2.2.2.2.1,())).bind fun v=>some (c.1,v.1,v.2.1,v.2.2.1,v.2.2.2.1,v.2.2.2.2.2.2.1,v.2.2.2.2.2.2.2.1,())else(Gj (v.2.1,())).bind fun d=>bif d.1 then(FR (x.2.2.2.2.2.2.2.2.2.2.2.1,x.2.2.2.2.1,v.1,())).bind fun e=>x.2.2.2.2.2.2.2.2.2.2.1[0+x.1.toNat]?.bind fun f=>x.2.2.2.2.2.2.2.2.2.2.1[0+x.1.toNat]?.bind fun g=>(ET ((x.2.2.2.2.2.2.2.2.2.1,()),(v.1,v.2.1,v.2.2.1,v.2.2.2.1,v.2.2.2.2.1,v.2.2.2.2.2.1,v.2.2.2.2.2.2.1,f.2.2.2.2.2.2.2.1,g.2.2.2.2.2.2.2.2.1,()),x.2.2.2.2.1,x.2.2.2.2.2.2.1,())).bind fun v=>if 0<=x.1/\x.1<(x.2.2.2.2.2.2.2.2.2.2.1.length:Int)then x.2.2.2.2.2.2.2.2.2.2.1[0+x.1.toNat]?.bind fun h=>some (0,x.2.2.2.2.2.2.2.1,x.2.2.2.2.2.2.2.2.1,x.2.2.2.2.2.2.2.2.2.1,x.2.2.2.2.2.2.2.2.2.2.1.set (0+x.1.toNat) (v.1,v.2.1,v.2.2.1,v.2.2.2.1,v.2.2.2.2.1,v.2.2.2.2.2.1,v.2.2.2.2.2.2.1,v.2.2.2.2.2.2.2.2.1,v.2.2.2.2.2.2.2.2.2.1,()),e.2.1,x.2.2.2.2.2.2.2.2.2.2.2.2.1,())else none else x.2.2.2.2.2.2.2.2.2.2.1[0+x.1.toNat]?.bind fun e=>x.2.2.2.2.2.2.2.2.2.2.1[0+x.1.toNat]?.bind fun f=>(ET ((x.2.2.2.2.2.2.2.2.2.1,()),(v.1,v.2.1,v.2.2.1,v.2.2.2.1,v.2.2.2.2.1,v.2.2.2.2.2.1,v.2.2.2.2.2.2.1,e.2.2.2.2.2.2.2.1,f.2.2.2.2.2.2.2.2.1,()),x.2.2.2.2.1,x.2.2.2.2.2.2.1,())).bind fun v=>if 0<=x.1/\x.1<(x.2.2.2.2.2.2.2.2.2.2.1.length:Int)then x.2.2.2.2.2.2.2.2.2.2.1[0+x.1.toNat]?.bind fun g=>some (0,x.2.2.2.2.2.2.2.1,x.2.2.2.2.2.2.2.2.1,x.2.2.2.2.2.2.2.2.2.1,x.2.2.2.2.2.2.2.2.2.2.1.set (0+x.1.toNat) (v.1,v.2.1,v.2.2.1,v.2.2.2.1,v.2.2.2.2.1,v.2.2.2.2.2.1,v.2.2.2.2.2.2.1,v.2.2.2.2.2.2.2.2.1,v.2.2.2.2.2.2.2.2.2.1,()),x.2.2.2.2.2.2.2.2.2.2.2.1,x.2.2.2.2.2.2.2.2.2.2.2.2.1,())else none else none
def gY:Ent:=⟨57,⟨(.ptr 0 0 0 (.slot .i (.agg (si 6 .nil) .nil))),(.cells 6 (.slot .bool (.own 1 (.own 2 (.own 3 (.own 4 (.slot .i .nil)))))) (.tree false 0 (.slice Af) (.tree false 0 Ad (.lst false A0 (.lst false A0 .nil)))))⟩,⟨(.agg (.slot .i (.const (AV.nils) .nil)) .nil),(.cells 6 (.slot .bool (.own 1 (.own 2 (.own 5 (.own 6 (.slot .i .nil)))))) (.tree false 0 (.slice Af) (.tree false 1 Ad (.gone (.gone (.lst false A0 (.lst false A0 .nil)))))))⟩,Gi⟩
theorem uc:Ai Go.Proofs.Tryz.prog gY:=okA (C:=AGr) (hcB (all_cons Z6 (all_cons Ar4 (all_cons j7 (all_cons j5 (all_cons qr (all_cons Qt (all_cons TJ (all_cons ud all_nil))))))))) Go.Proofs.Tryz.func57
abbrev Aq3:=List (List A2)×A3
abbrev Aq0:=Int×Unit
abbrev Aq1:=Unit ⊕ Unit ⊕ Unit
def Bu (i:Aq3)(v:Aq0)(R:Type)(K:Aq0 ⊕ Aq1->Option R):Option R:=bif decide (v.1<(i.2.2.2.2.2.2.2.2.2.1.length:Int))then(lAt i.2.2.2.2.2.2.2.2.2.1 v.1).bind fun a=>(lAt i.1 a.1).bind fun b=>(Bq (b,())).bind fun c=>bif decide (c.2.2.1<=i.2.2.2.2.1)then K (.inl (IntKind.i64.wrap (v.1+1),()))else bif i.2.2.1==2 then K (.inr (.inl ()))else bif i.2.2.1==4 then K (.inr (.inr (.inl ())))else K (.inl (IntKind.i64.wrap (v.1+1),()))else K (.inr (.inr (.inr ())))
theorem Lg:Bg Bu:=fun i v R K=>Ae (Ac fun _=>Ac fun _=>Ac fun _=>Ae (Aa) (Ae (Aa) (Ae (Aa) (Aa)))) (Aa)
def Abo:Tmpl:=⟨(jk 2 (.ptr 0 0 0 (.ptr 1 0 0 (.junk (.slot .i (jk 32 .nil)))))),(.cells 1 (.slot (.slice (.slice Af)) .nil) (.cells 9 (si 7 (.slot (.slice A0) (.slot (.slice A0) .nil))) .nil))⟩
def Apz:Exs Aq3 Aq1:=xs .ret (fun i p=>⟨jn 4 (.n (2)::jn 33 ([])),[some (Cont.cells 1 [[AV.pv (.slice (.slice Af)) i.1]]),some (Cont.cells 9 [[AV.pv .i i.2.1,AV.pv .i i.2.2.1,AV.pv .i i.2.2.2.1,AV.pv .i i.2.2.2.2.1,AV.pv .i i.2.2.2.2.2.1,AV.pv .i i.2.2.2.2.2.2.1,AV.pv .i i.2.2.2.2.2.2.2.1,AV.pv (.slice A0) i.2.2.2.2.2.2.2.2.1,AV.pv (.slice A0) i.2.2.2.2.2.2.2.2.2.1]])]⟩)<|xs .ret (fun i p=>⟨jn 4 (.n (3)::jn 33 ([])),[some (Cont.cells 1 [[AV.pv (.slice (.slice Af)) i.1]]),some (Cont.cells 9 [[AV.pv .i i.2.1,AV.pv .i i.2.2.1,AV.pv .i i.2.2.2.1,AV.pv .i i.2.2.2.2.1,AV.pv .i i.2.2.2.2.2.1,AV.pv .i i.2.2.2.2.2.2.1,AV.pv .i i.2.2.2.2.2.2.2.1,AV.pv (.slice A0) i.2.2.2.2.2.2.2.2.1,AV.pv (.slice A0) i.2.2.2.2.2.2.2.2.2.1]])]⟩)<|x1 (.exit 0) fun i p=>⟨jn 38 ([]),[some (Cont.cells 1 [[AV.pv (.slice (.slice Af)) i.1]]),some (Cont.cells 9 [[AV.pv .i i.2.1,AV.pv .i i.2.2.1,AV.pv .i i.2.2.2.1,AV.pv .i i.2.2.2.2.1,AV.pv .i i.2.2.2.2.2.1,AV.pv .i i.2.2.2.2.2.2.1,AV.pv .i i.2.2.2.2.2.2.2.1,AV.pv (.slice A0) i.2.2.2.2.2.2.2.2.1,AV.pv (.slice A0) i.2.2.2.2.2.2.2.2.2.1]])]⟩
def Aq2:=((.v (.i (.i (.i (.i (.i (.i (.i (.i (.i (.i .n))))))))))):Pk Abo.ty _ _)
def AAd:Cfg:={ti:=Aw,ents:=[Y4,VY],ann:=[(4,Ao Abo 0 (spP Aq2) Bu Apz.E)],lent:=0}
def Gl (x:A4×A3×Unit):Option (Int×Unit):=(Fw ((x.1.1,()),(x.2.1.1,x.2.1.2.1,x.2.1.2.2.1,x.2.1.2.2.2.1,x.2.1.2.2.2.2.1,x.2.1.2.2.2.2.2.1,x.2.1.2.2.2.2.2.2.1,x.2.1.2.2.2.2.2.2.2.1,x.2.1.2.2.2.2.2.2.2.2.1,()),0,())).bind fun v=>bif !v.1 then some (6,())else(AC (fun v=>Bu (x.1.1,x.2.1.1,x.2.1.2.1,x.2.1.2.2.1,x.2.1.2.2.2.1,x.2.1.2.2.2.2.1,x.2.1.2.2.2.2.2.1,x.2.1.2.2.2.2.2.2.1,x.2.1.2.2.2.2.2.2.2.1,x.2.1.2.2.2.2.2.2.2.2.1,()) v _ some) (0,())).bind fun p=>Az p (fun p=>some (2,())) fun p=>Az p (fun p=>some (3,())) fun p=>some (0,())
def gX:Ent:=⟨115,⟨(.slot Bp (.slot Ad .nil)),.nil⟩,⟨(.slot .i .nil),.nil⟩,Gl⟩
theorem Aq4:CfgOK Go.Proofs.Tryz.prog AAd:=hcB (all_cons jl (all_cons aN all_nil))
theorem Ay6:B9 Go.Proofs.Tryz.prog AAd (lpc Go.Proofs.Tryz.f115 0):=lkA Aq4 Abo Aq2 Bu Apz [4] Lg
theorem TH:Ai Go.Proofs.Tryz.prog gX:=okB Aq4 Go.Proofs.Tryz.func115 Ay6
abbrev Apx:=List (List A2)×A3
abbrev Apr:=Int×Int×Unit
abbrev Apt:=Int×Unit
def Df (i:Apx)(v:Apr)(R:Type)(K:Apr ⊕ Apt->Option R):Option R:=bif decide (v.2.1<(i.2.2.2.2.2.2.2.2.1.length:Int))then(lAt i.2.2.2.2.2.2.2.2.1 v.2.1).bind fun a=>K (.inl (mx v.1 a.2.1,IntKind.i64.wrap (v.2.1+1),()))else K (.inr (v.1,()))
theorem Le:Bg Df:=fun i v R K=>Ae (Ac fun _=>Aa) (Aa)
def Abm:Tmpl:=⟨(jk 2 (.ptr 0 0 0 (.ptr 1 0 0 (.junk (si 2 (jk 46 .nil)))))),(.cells 1 (.slot (.slice (.slice Af)) .nil) (.cells 9 (si 7 (.slot (.slice A0) (.slot (.slice A0) .nil))) .nil))⟩
def App:Exs Apx Apt:=x1 (.exit 0) fun i p=>⟨jn 2 (AV.ptr 0 none 0 0::AV.ptr 1 none 0 0::jn 1 (.n (p.1)::jn 47 ([]))),[some (Cont.cells 1 [[AV.pv (.slice (.slice Af)) i.1]]),some (Cont.cells 9 [[AV.pv .i i.2.1,AV.pv .i i.2.2.1,AV.pv .i i.2.2.2.1,AV.pv .i i.2.2.2.2.1,AV.pv .i i.2.2.2.2.2.1,AV.pv .i i.2.2.2.2.2.2.1,AV.pv .i i.2.2.2.2.2.2.2.1,AV.pv (.slice A0) i.2.2.2.2.2.2.2.2.1,AV.pv (.slice A0) i.2.2.2.2.2.2.2.2.2.1]])]⟩
def Apv:=((.v (.v (.i (.i (.i (.i (.i (.i (.i (.i (.i (.i .n)))))))))))):Pk Abm.ty _ _)
abbrev Apw:=List (List A2)×A3
abbrev Apq:=Int×Int×Unit
abbrev Aps:=Int×Unit
def Cy (i:Apw)(v:Apq)(R:Type)(K:Apq ⊕ Aps->Option R):Option R:=bif decide (v.2.1<(i.2.2.2.2.2.2.2.2.2.1.length:Int))then(lAt i.2.2.2.2.2.2.2.2.2.1 v.2.1).bind fun a=>(lAt i.1 a.1).bind fun b=>(Bq (b,())).bind fun c=>K (.inl (mx v.1 c.2.2.2.1,IntKind.i64.wrap (v.2.1+1),()))else K (.inr (v.1,()))
theorem Ld:Bg Cy:=fun i v R K=>Ae (Ac fun _=>Ac fun _=>Ac fun _=>Aa) (Aa)
def Abl:Tmpl:=⟨(jk 2 (.ptr 0 0 0 (.ptr 1 0 0 (.junk (.slot .i (.junk (.slot .i (jk 45 .nil)))))))),(.cells 1 (.slot (.slice (.slice Af)) .nil) (.cells 9 (si 7 (.slot (.slice A0) (.slot (.slice A0) .nil))) .nil))⟩
def Apo:Exs Apw Aps:=x1 (.exit 2) fun i p=>⟨jn 5 (.n (p.1)::jn 47 ([])),[some (Cont.cells 1 [[AV.pv (.slice (.slice Af)) i.1]]),some (Cont.cells 9 [[AV.pv .i i.2.1,AV.pv .i i.2.2.1,AV.pv .i i.2.2.2.1,AV.pv .i i.2.2.2.2.1,AV.pv .i i.2.2.2.2.2.1,AV.pv .i i.2.2.2.2.2.2.1,AV.pv .i i.2.2.2.2.2.2.2.1,AV.pv (.slice A0) i.2.2.2.2.2.2.2.2.1,AV.pv (.slice A0) i.2.2.2.2.2.2.2.2.2.1]])]⟩
def Apu:=((.v (.v (.i (.i (.i (.i (.i (.i (.i (.i (.i (.i .n)))))))))))):Pk Abl.ty _ _)
def Apy:Cfg:={ti:=Aw,ents:=[Oo,RB,VY],ann:=[(5,Ao Abm 0 (spP Apv) Df App.E),(9,Ao Abl 0 (spP Apu) Cy Apo.E)],lent:=0}
def Gk (x:A4×A3×Unit):Option (Int×Unit):=(Bk ((x.1.1,()),())).bind fun v=>bif !v.1 then some (0,())else(AJ ((x.2.1.1,x.2.1.2.1,x.2.1.2.2.1,x.2.1.2.2.2.1,x.2.1.2.2.2.2.1,x.2.1.2.2.2.2.2.1,x.2.1.2.2.2.2.2.2.1,x.2.1.2.2.2.2.2.2.2.1,x.2.1.2.2.2.2.2.2.2.2.1,()),())).bind fun v=>bif !v.1 then some (0,())else(AC (fun v=>Df (x.1.1,x.2.1.1,x.2.1.2.1,x.2.1.2.2.1,x.2.1.2.2.2.1,x.2.1.2.2.2.2.1,x.2.1.2.2.2.2.2.1,x.2.1.2.2.2.2.2.2.1,x.2.1.2.2.2.2.2.2.2.1,x.2.1.2.2.2.2.2.2.2.2.1,()) v _ some) (0,0,())).bind fun p=>(AC (fun v=>Cy (x.1.1,x.2.1.1,x.2.1.2.1,x.2.1.2.2.1,x.2.1.2.2.2.1,x.2.1.2.2.2.2.1,x.2.1.2.2.2.2.2.1,x.2.1.2.2.2.2.2.2.1,x.2.1.2.2.2.2.2.2.2.1,x.2.1.2.2.2.2.2.2.2.2.1,()) v _ some) (p.1,0,())).bind fun p=>some (p.1,())
def aH:Ent:=⟨224,⟨(.slot Bp (.slot Ad .nil)),.nil⟩,⟨(.slot .i .nil),.nil⟩,Gk⟩
theorem Abn:CfgOK Go.Proofs.Tryz.prog Apy:=hcB (all_cons Qu (all_cons RK (all_cons aN all_nil)))
theorem Ay4:B9 Go.Proofs.Tryz.prog Apy (lpc Go.Proofs.Tryz.f224 1):=lkA Abn Abl Apu Cy Apo [5] Ld
theorem Ay5:B9 Go.Proofs.Tryz.prog Apy (lpc Go.Proofs.Tryz.f224 0):=lkA Abn Abm Apv Df App [2,3,5] Le
theorem ub:Ai Go.Proofs.Tryz.prog aH:=okC Abn Go.Proofs.Tryz.func224 Ay5 Ay4
abbrev Apn:=List (List A2)×A3
abbrev Apk:=Int×Int×Unit
abbrev Apl:=Int×Unit
def D0 (i:Apn)(v:Apk)(R:Type)(K:Apk ⊕ Apl->Option R):Option R:=bif decide (v.2.1<(i.2.2.2.2.2.2.2.2.1.length:Int))then(lAt i.2.2.2.2.2.2.2.2.1 v.2.1).bind fun a=>(lAt i.1 a.1).bind fun b=>(lAt i.2.2.2.2.2.2.2.2.1 v.2.1).bind fun c=>(Dh (b,c.2.1,())).bind fun d=>(lAt b d.1).bind fun e=>K (.inl (mn v.1 e.2.2.2.2.1,IntKind.i64.wrap (v.2.1+1),()))else K (.inr (v.1,()))
theorem KG:Bg D0:=fun i v R K=>Ae (Ac fun _=>Ac fun _=>Ac fun _=>Ac fun _=>Ac fun _=>Aa) (Aa)
def Abk:Tmpl:=⟨(jk 2 (.ptr 0 0 0 (.ptr 1 0 0 (.junk (si 2 (jk 37 .nil)))))),(.cells 1 (.slot (.slice (.slice Af)) .nil) (.cells 9 (si 7 (.slot (.slice A0) (.slot (.slice A0) .nil))) .nil))⟩
def Apj:Exs Apn Apl:=x1 (.exit 0) fun i p=>⟨jn 5 (.n (p.1)::jn 38 ([])),[some (Cont.cells 1 [[AV.pv (.slice (.slice Af)) i.1]]),some (Cont.cells 9 [[AV.pv .i i.2.1,AV.pv .i i.2.2.1,AV.pv .i i.2.2.2.1,AV.pv .i i.2.2.2.2.1,AV.pv .i i.2.2.2.2.2.1,AV.pv .i i.2.2.2.2.2.2.1,AV.pv .i i.2.2.2.2.2.2.2.1,AV.pv (.slice A0) i.2.2.2.2.2.2.2.2.1,AV.pv (.slice A0) i.2.2.2.2.2.2.2.2.2.1]])]⟩
def Apm:=((.v (.v (.i (.i (.i (.i (.i (.i (.i (.i (.i (.i .n)))))))))))):Pk Abk.ty _ _)
def qQ:Cfg:={ti:=Aw,ents:=[VZ,TN],ann:=[(5,Ao Abk 0 (spP Apm) D0 Apj.E)],lent:=0}
def FQ (x:A4×A3×Unit):Option (Int×Unit):=(CR ((x.1.1,()),(x.2.1.1,x.2.1.2.1,x.2.1.2.2.1,x.2.1.2.2.2.1,x.2.1.2.2.2.2.1,x.2.1.2.2.2.2.2.1,x.2.1.2.2.2.2.2.2.1,x.2.1.2.2.2.2.2.2.2.1,x.2.1.2.2.2.2.2.2.2.2.1,()),())).bind fun v=>bif !v.1 then some (0,())else(AC (fun v=>D0 (x.1.1,x.2.1.1,x.2.1.2.1,x.2.1.2.2.1,x.2.1.2.2.2.1,x.2.1.2.2.2.2.1,x.2.1.2.2.2.2.2.1,x.2.1.2.2.2.2.2.2.1,x.2.1.2.2.2.2.2.2.2.1,x.2.1.2.2.2.2.2.2.2.2.1,()) v _ some) (1000,0,())).bind fun p=>some (p.1,())
def aG:Ent:=⟨225,⟨(.slot Bp (.slot Ad .nil)),.nil⟩,⟨(.slot .i .nil),.nil⟩,FQ⟩
theorem du:CfgOK Go.Proofs.Tryz.prog qQ:=hcB (all_cons aO (all_cons jr all_nil))
theorem Ay3:B9 Go.Proofs.Tryz.prog qQ (lpc Go.Proofs.Tryz.f225 0):=lkA du Abk Apm D0 Apj [5] KG
theorem u9:Ai Go.Proofs.Tryz.prog aG:=okB du Go.Proofs.Tryz.func225 Ay3
def El (x:A4×A3×Int×Unit):Option (Int×Int×Bool×Unit):=(CR ((x.1.1,()),(x.2.1.1,x.2.1.2.1,x.2.1.2.2.1,x.2.1.2.2.2.1,x.2.1.2.2.2.2.1,x.2.1.2.2.2.2.2.1,x.2.1.2.2.2.2.2.2.1,x.2.1.2.2.2.2.2.2.2.1,x.2.1.2.2.2.2.2.2.2.2.1,()),())).bind fun v=>bif !v.1 then some (0,0,false,())else bif x.2.1.2.2.1 != 1 then some (0,0,false,())else(Fy ((x.1.1,()),())).bind fun v=>(Ak (x.2.2.1,IntKind.i64.wrap (v.1+1),999,())).bind fun v=>bif !v.1 then some (0,0,false,())else(Gk ((x.1.1,()),(x.2.1.1,x.2.1.2.1,x.2.1.2.2.1,x.2.1.2.2.2.1,x.2.1.2.2.2.2.1,x.2.1.2.2.2.2.2.1,x.2.1.2.2.2.2.2.2.1,x.2.1.2.2.2.2.2.2.2.1,x.2.1.2.2.2.2.2.2.2.2.1,()),())).bind fun v=>(FQ ((x.1.1,()),(x.2.1.1,x.2.1.2.1,x.2.1.2.2.1,x.2.1.2.2.2.1,x.2.1.2.2.2.2.1,x.2.1.2.2.2.2.2.1,x.2.1.2.2.2.2.2.2.1,x.2.1.2.2.2.2.2.2.2.1,x.2.1.2.2.2.2.2.2.2.2.1,()),())).bind fun a=>some (mx x.2.1.2.2.2.2.1 v.1,mn (mn x.2.1.2.2.2.2.2.1 a.1) x.2.2.1,true,())
def aF:Ent:=⟨180,⟨(.slot Bp (.slot Ad (.slot .i .nil))),.nil⟩,⟨(si 2 (.slot .bool .nil)),.nil⟩,El⟩
theorem qq:Ai Go.Proofs.Tryz.prog aF:=okA (hcA 0 (all_cons aO (all_cons dU (all_cons Qg (all_cons ub (all_cons u9 all_nil)))))) Go.Proofs.Tryz.func180
abbrev Api:=List (List A2)×A3
abbrev Apf:=Int×Unit
abbrev Apg:=Unit ⊕ Unit
def Ej (i:Api)(v:Apf)(R:Type)(K:Apf ⊕ Apg->Option R):Option R:=bif decide (v.1<(i.2.2.2.2.2.2.2.2.2.1.length:Int))then(lAt i.2.2.2.2.2.2.2.2.2.1 v.1).bind fun a=>(lAt i.1 a.1).bind fun b=>bif decide ((b.length:Int)>=50)then K (.inr (.inl ()))else K (.inl (IntKind.i64.wrap (v.1+1),()))else K (.inr (.inr ()))
theorem NC:Bg Ej:=fun i v R K=>Ae (Ac fun _=>Ac fun _=>Ae (Aa) (Aa)) (Aa)
def Abj:Tmpl:=⟨(jk 2 (.ptr 0 0 0 (.ptr 1 0 0 (.junk (.slot .i (jk 19 .nil)))))),(.cells 1 (.slot (.slice (.slice Af)) .nil) (.cells 9 (si 7 (.slot (.slice A0) (.slot (.slice A0) .nil))) .nil))⟩
def Ape:Exs Api Apg:=xs .ret (fun i p=>⟨jn 4 (.b (false)::jn 20 ([])),[some (Cont.cells 1 [[AV.pv (.slice (.slice Af)) i.1]]),some (Cont.cells 9 [[AV.pv .i i.2.1,AV.pv .i i.2.2.1,AV.pv .i i.2.2.2.1,AV.pv .i i.2.2.2.2.1,AV.pv .i i.2.2.2.2.2.1,AV.pv .i i.2.2.2.2.2.2.1,AV.pv .i i.2.2.2.2.2.2.2.1,AV.pv (.slice A0) i.2.2.2.2.2.2.2.2.1,AV.pv (.slice A0) i.2.2.2.2.2.2.2.2.2.1]])]⟩)<|x1 (.exit 0) fun i p=>⟨jn 25 ([]),[some (Cont.cells 1 [[AV.pv (.slice (.slice Af)) i.1]]),some (Cont.cells 9 [[AV.pv .i i.2.1,AV.pv .i i.2.2.1,AV.pv .i i.2.2.2.1,AV.pv .i i.2.2.2.2.1,AV.pv .i i.2.2.2.2.2.1,AV.pv .i i.2.2.2.2.2.2.1,AV.pv .i i.2.2.2.2.2.2.2.1,AV.pv (.slice A0) i.2.2.2.2.2.2.2.2.1,AV.pv (.slice A0) i.2.2.2.2.2.2.2.2.2.1]])]⟩
def Aph:=((.v (.i (.i (.i (.i (.i (.i (.i (.i (.i (.i .n))))))))))):Pk Abj.ty _ _)
def qP:Cfg:={ti:=Aw,ents:=[],ann:=[(2,Ao Abj 0 (spP Aph) Ej Ape.E)],lent:=0}
def Ff (x:A4×A3×Unit):Option (Bool×Unit):=(AC (fun v=>Ej (x.1.1,x.2.1.1,x.2.1.2.1,x.2.1.2.2.1,x.2.1.2.2.2.1,x.2.1.2.2.2.2.1,x.2.1.2.2.2.2.2.1,x.2.1.2.2.2.2.2.2.1,x.2.1.2.2.2.2.2.2.2.1,x.2.1.2.2.2.2.2.2.2.2.1,()) v _ some) (0,())).bind fun p=>Az p (fun p=>some (false,())) fun p=>some (true,())
def aE:Ent:=⟨181,⟨(.slot Bp (.slot Ad .nil)),.nil⟩,⟨(.slot .bool .nil),.nil⟩,Ff⟩
theorem dt:CfgOK Go.Proofs.Tryz.prog qP:=hcB all_nil
theorem Ay2:B9 Go.Proofs.Tryz.prog qP (lpc Go.Proofs.Tryz.f181 0):=lkA dt Abj Aph Ej Ape [4] NC
theorem qp:Ai Go.Proofs.Tryz.prog aE:=okB dt Go.Proofs.Tryz.func181 Ay2
abbrev Apc:=Int×Int×Int×Int×Int×Int×Int×Int×Int×List A1×List A1×Int×Int×Int×Int×Int×Int×Int×A3
abbrev Ap9:=Int×List (List A2)×Unit
abbrev Apa:=List (List A2)×Unit
def CP (i:Apc)(v:Ap9)(R:Type)(K:Ap9 ⊕ Apa->Option R):Option R:=bif decide (v.1<(i.2.2.2.2.2.2.2.2.2.1.length:Int))then(lAt i.2.2.2.2.2.2.2.2.2.1 v.1).bind fun a=>if 0<=a.1/\a.1<(v.2.1.length:Int)then v.2.1[0+a.1.toNat]?.bind fun b=>(lAt i.2.2.2.2.2.2.2.2.2.1 v.1).bind fun c=>v.2.1[0+a.1.toNat]?.bind fun d=>(Dh (d,c.2.1,())).bind fun e=>if 0<=a.1/\a.1<(v.2.1.length:Int)then v.2.1[0+a.1.toNat]?.bind fun f=>if 0<=a.1/\a.1<(v.2.1.length:Int)then v.2.1[0+a.1.toNat]?.bind fun g=>v.2.1[0+a.1.toNat]?.bind fun h=>if 0<=e.1/\e.1<(h.length:Int)then v.2.1[0+a.1.toNat]?.bind fun j=>j[0+e.1.toNat]?.bind fun k=>v.2.1[0+a.1.toNat]?.bind fun l=>if 0<=e.1/\e.1<(l.length:Int)then v.2.1[0+a.1.toNat]?.bind fun m=>m[0+e.1.toNat]?.bind fun n=>K (.inl (IntKind.i64.wrap (v.1+1),v.2.1.set (0+a.1.toNat) (m.set (0+e.1.toNat) (n.1,n.2.1,n.2.2.1,mx k.2.2.2.1 i.1,n.2.2.2.2.1,())),()))else none else none else none else none else none else K (.inr (v.2.1,()))
theorem LP:Bg CP:=fun i v R K=>Ae (Ac fun _=>Aq (Ac fun _=>Ac fun _=>Ac fun _=>Ac fun _=>Aq (Ac fun _=>Aq (Ac fun _=>Ac fun _=>Aq (Ac fun _=>Ac fun _=>Ac fun _=>Aq (Ac fun _=>Ac fun _=>Aa)))))) (Aa)
def Abh:Tmpl:=⟨(jk 2 (.slot .i (.junk (.slot .i (.junk (.ptr 0 0 0 (jk 3 (.ptr 1 0 0 (.ptr 2 0 0 (.ptr 3 0 0 (.ptr 5 0 0 (.slot .i (jk 113 .nil))))))))))))),(.cells 9 (si 7 (.slot (.slice A0) (.slot (.slice A0) .nil))) (.cells 1 (.const (AV.nils) .nil) (.cells 9 (si 7 (.const (AV.nils) (.const (AV.nils) .nil))) (.cells 1 (.own 4 .nil) (.tree false 0 (.slice Af) (.cells 9 (si 7 (.own 6 (.own 7 .nil))) (.lst false A0 (.lst false A0 .nil))))))))⟩
def Ap8:Exs Apc Apa:=x1 (.exit 0) fun i p=>⟨jn 2 (.n (i.1)::jn 1 (.n (i.2.1)::jn 1 (AV.ptr 0 none 0 0::jn 3 (AV.ptr 1 none 0 0::AV.ptr 2 none 0 0::AV.ptr 3 none 0 0::AV.ptr 5 none 0 0::jn 114 ([]))))),[some (Cont.cells 9 [[AV.pv .i i.2.2.1,AV.pv .i i.2.2.2.1,AV.pv .i i.2.2.2.2.1,AV.pv .i i.2.2.2.2.2.1,AV.pv .i i.2.2.2.2.2.2.1,AV.pv .i i.2.2.2.2.2.2.2.1,AV.pv .i i.2.2.2.2.2.2.2.2.1,AV.pv (.slice A0) i.2.2.2.2.2.2.2.2.2.1,AV.pv (.slice A0) i.2.2.2.2.2.2.2.2.2.2.1]]),some (Cont.cells 1 [[AV.nils]]),some (Cont.cells 9 [[AV.pv .i i.2.2.2.2.2.2.2.2.2.2.2.1,AV.pv .i i.2.2.2.2.2.2.2.2.2.2.2.2.1,AV.pv .i i.2.2.2.2.2.2.2.2.2.2.2.2.2.1,AV.pv .i i.2.2.2.2.2.2.2.2.2.2.2.2.2.2.1,AV.pv .i i.2.2.2.2.2.2.2.2.2.2.2.2.2.2.2.1,AV.pv .i i.2.2.2.2.2.2.2.2.2.2.2.2.2.2.2.2.1,AV.pv (Ty.int IntKind.i64) i.2.2.2.2.2.2.2.2.2.2.2.2.2.2.2.2.2.1,AV.nils,AV.nils]]),some (Cont.cells 1 [[AV.own 4 none none]]),some (Cont.tree false 0 (.slice Af) p.1 none),some (Cont.cells 9 [[AV.pv .i i.2.2.2.2.2.2.2.2.2.2.2.2.2.2.2.2.2.2.1,AV.pv .i i.2.2.2.2.2.2.2.2.2.2.2.2.2.2.2.2.2.2.2.1,AV.pv .i i.2.2.2.2.2.2.2.2.2.2.2.2.2.2.2.2.2.2.2.2.1,AV.pv .i i.2.2.2.2.2.2.2.2.2.2.2.2.2.2.2.2.2.2.2.2.2.1,AV.pv .i i.2.2.2.2.2.2.2.2.2.2.2.2.2.2.2.2.2.2.2.2.2.2.1,AV.pv .i i.2.2.2.2.2.2.2.2.2.2.2.2.2.2.2.2.2.2.2.2.2.2.2.1,AV.pv .i i.2.2.2.2.2.2.2.2.2.2.2.2.2.2.2.2.2.2.2.2.2.2.2.2.1,AV.own 6 none none,AV.own 7 none none]]),some (Cont.lst false A0 i.2.2.2.2.2.2.2.2.2.2.2.2.2.2.2.2.2.2.2.2.2.2.2.2.2.1),some (Cont.lst false A0 i.2.2.2.2.2.2.2.2.2.2.2.2.2.2.2.2.2.2.2.2.2.2.2.2.2.2.1)]⟩
def Apb:=((.i (.i (.v (.i (.i (.i (.i (.i (.i (.i (.i (.i (.i (.i (.i (.i (.i (.i (.i (.v (.i (.i (.i (.i (.i (.i (.i (.i (.i .n))))))))))))))))))))))))))))):Pk Abh.ty _ _)
abbrev Adi:=Int×Int×Int×Int×Int×Int×Int×Int×Int×List A1×List A1×Int×Int×Int×Int×Int×Int×Int×A3
abbrev Adf:=Int×List (List A2)×Unit
abbrev Adg:=List (List A2)×Unit
def Cw (i:Adi)(v:Adf)(R:Type)(K:Adf ⊕ Adg->Option R):Option R:=bif decide (v.1<(i.2.2.2.2.2.2.2.2.2.2.1.length:Int))then(lAt i.2.2.2.2.2.2.2.2.2.2.1 v.1).bind fun a=>if 0<=a.1/\a.1<(v.2.1.length:Int)then v.2.1[0+a.1.toNat]?.bind fun b=>v.2.1[0+a.1.toNat]?.bind fun c=>if 0<=a.1/\a.1<(v.2.1.length:Int)then v.2.1[0+a.1.toNat]?.bind fun d=>v.2.1[0+a.1.toNat]?.bind fun e=>if 0<=IntKind.i64.wrap ((c.length:Int)-1)/\IntKind.i64.wrap ((c.length:Int)-1)<(e.length:Int)then v.2.1[0+a.1.toNat]?.bind fun f=>f[0+(IntKind.i64.wrap ((c.length:Int)-1)).toNat]?.bind fun g=>if 0<=a.1/\a.1<(↑((v.2.1.set (0+a.1.toNat) (f.set (0+(IntKind.i64.wrap ((c.length:Int)-1)).toNat) (g.1,g.2.1,g.2.2.1,g.2.2.2.1,i.2.1,()))).length):Int)then(v.2.1.set (0+a.1.toNat) (f.set (0+(IntKind.i64.wrap ((c.length:Int)-1)).toNat) (g.1,g.2.1,g.2.2.1,g.2.2.2.1,i.2.1,())))[0+a.1.toNat]?.bind fun h=>(lAt i.2.2.2.2.2.2.2.2.2.2.1 v.1).bind fun j=>(v.2.1.set (0+a.1.toNat) (f.set (0+(IntKind.i64.wrap ((c.length:Int)-1)).toNat) (g.1,g.2.1,g.2.2.1,g.2.2.2.1,i.2.1,())))[0+a.1.toNat]?.bind fun k=>if(k++[(i.2.2.1,j.2.1,i.1,i.1,1000,())]).length<=879609302220 then if 0<=a.1/\a.1<(↑((v.2.1.set (0+a.1.toNat) (f.set (0+(IntKind.i64.wrap ((c.length:Int)-1)).toNat) (g.1,g.2.1,g.2.2.1,g.2.2.2.1,i.2.1,()))).length):Int)then(v.2.1.set (0+a.1.toNat) (f.set (0+(IntKind.i64.wrap ((c.length:Int)-1)).toNat) (g.1,g.2.1,g.2.2.1,g.2.2.2.1,i.2.1,())))[0+a.1.toNat]?.bind fun l=>if 1<=1/\true=true/\0+a.1.toNat=0+a.1.toNat/\0<=0/\0<1 then K (.inl (IntKind.i64.wrap (v.1+1),(v.2.1.set (0+a.1.toNat) (f.set (0+(IntKind.i64.wrap ((c.length:Int)-1)).toNat) (g.1,g.2.1,g.2.2.1,g.2.2.2.1,i.2.1,()))).set (0+a.1.toNat) (k++[(i.2.2.1,j.2.1,i.1,i.1,1000,())]),()))else none else none else none else none else none else none else none else K (.inr (v.2.1,()))
theorem Lb:Bg Cw:=fun i v R K=>Ae (Ac fun _=>Aq (Ac fun _=>Ac fun _=>Aq (Ac fun _=>Ac fun _=>Aq (Ac fun _=>Ac fun _=>Aq (Ac fun _=>Ac fun _=>Ac fun _=>Aq (Aq (Ac fun _=>Aq (Aa)))))))) (Aa)
def A3v:Tmpl:=⟨(jk 2 (.slot .i (.junk (.slot .i (.junk (.ptr 0 0 0 (jk 3 (.ptr 1 0 0 (.ptr 2 0 0 (.ptr 3 0 0 (.ptr 5 0 0 (jk 3 (.slot .i (jk 110 .nil)))))))))))))),(.cells 9 (si 7 (.slot (.slice A0) (.slot (.slice A0) .nil))) (.cells 1 (.const (AV.nils) .nil) (.cells 9 (si 7 (.const (AV.nils) (.const (AV.nils) .nil))) (.cells 1 (.own 4 .nil) (.tree false 1 (.slice Af) (.cells 9 (si 7 (.own 6 (.own 7 .nil))) (.lst false A0 (.lst false A0 .nil))))))))⟩
def Ade:Exs Adi Adg:=x1 (.exit 2) fun i p=>⟨jn 10 (AV.ptr 1 none 0 0::AV.ptr 2 none 0 0::AV.ptr 3 none 0 0::AV.ptr 5 none 0 0::jn 114 ([])),[some (Cont.cells 9 [[AV.pv .i i.2.2.1,AV.pv .i i.2.2.2.1,AV.pv .i i.2.2.2.2.1,AV.pv .i i.2.2.2.2.2.1,AV.pv .i i.2.2.2.2.2.2.1,AV.pv .i i.2.2.2.2.2.2.2.1,AV.pv .i i.2.2.2.2.2.2.2.2.1,AV.pv (.slice A0) i.2.2.2.2.2.2.2.2.2.1,AV.pv (.slice A0) i.2.2.2.2.2.2.2.2.2.2.1]]),some (Cont.cells 1 [[AV.nils]]),some (Cont.cells 9 [[AV.pv (Ty.int IntKind.i64) i.2.2.2.2.2.2.2.2.2.2.2.1,AV.pv .i i.2.2.2.2.2.2.2.2.2.2.2.2.1,AV.pv .i i.2.2.2.2.2.2.2.2.2.2.2.2.2.1,AV.pv .i i.2.2.2.2.2.2.2.2.2.2.2.2.2.2.1,AV.pv .i i.2.2.2.2.2.2.2.2.2.2.2.2.2.2.2.1,AV.pv .i i.2.2.2.2.2.2.2.2.2.2.2.2.2.2.2.2.1,AV.pv .i i.2.2.2.2.2.2.2.2.2.2.2.2.2.2.2.2.2.1,AV.nils,AV.nils]]),some (Cont.cells 1 [[AV.own 4 none none]]),some (Cont.tree false 1 (.slice Af) p.1 none),some (Cont.cells 9 [[AV.pv (Ty.int IntKind.i64) i.2.2.2.2.2.2.2.2.2.2.2.2.2.2.2.2.2.2.1,AV.pv .i i.2.2.2.2.2.2.2.2.2.2.2.2.2.2.2.2.2.2.2.1,AV.pv .i i.2.2.2.2.2.2.2.2.2.2.2.2.2.2.2.2.2.2.2.2.1,AV.pv .i i.2.2.2.2.2.2.2.2.2.2.2.2.2.2.2.2.2.2.2.2.2.1,AV.pv .i i.2.2.2.2.2.2.2.2.2.2.2.2.2.2.2.2.2.2.2.2.2.2.1,AV.pv .i i.2.2.2.2.2.2.2.2.2.2.2.2.2.2.2.2.2.2.2.2.2.2.2.1,AV.pv .i i.2.2.2.2.2.2.2.2.2.2.2.2.2.2.2.2.2.2.2.2.2.2.2.2.1,AV.own 6 none none,AV.own 7 none none]]),some (Cont.lst false A0 i.2.2.2.2.2.2.2.2.2.2.2.2.2.2.2.2.2.2.2.2.2.2.2.2.2.1),some (Cont.lst false A0 i.2.2.2.2.2.2.2.2.2.2.2.2.2.2.2.2.2.2.2.2.2.2.2.2.2.2.1)]⟩
def Adh:=((.i (.i (.v (.i (.i (.i (.i (.i (.i (.i (.i (.i (.i (.i (.i (.i (.i (.i (.i (.v (.i (.i (.i (.i (.i (.i (.i (.i (.i .n))))))))))))))))))))))))))))):Pk A3v.ty _ _)
def Apd:Cfg:={ti:=Aw,ents:=[W3,SF,TN],ann:=[(8,Ao Abh 0 (spP Apb) CP Ap8.E),(14,Ao A3v 0 (spP Adh) Cw Ade.E)],lent:=0,hid:=[((19,0),[4]),((19,1),[4]),((19,2),[4]),((20,1),[1])]}
def Dd (x:A4×A3×B3):Option (Int×Int×Int×Int×Int×Int×Int×List (List A2)×A9):=(Hi ((x.1.1,()),())).bind fun v=>(E5 ((x.2.1.1,x.2.1.2.1,x.2.1.2.2.1,x.2.1.2.2.2.1,x.2.1.2.2.2.2.1,x.2.1.2.2.2.2.2.1,x.2.1.2.2.2.2.2.2.1,x.2.1.2.2.2.2.2.2.2.1,x.2.1.2.2.2.2.2.2.2.2.1,()),())).bind fun a=>(AC (fun v=>CP (x.2.2.1,x.2.2.2.2.1,x.2.1.1,x.2.1.2.1,x.2.1.2.2.1,x.2.1.2.2.2.1,x.2.1.2.2.2.2.1,x.2.1.2.2.2.2.2.1,x.2.1.2.2.2.2.2.2.1,x.2.1.2.2.2.2.2.2.2.1,x.2.1.2.2.2.2.2.2.2.2.1,0,0,0,0,0,0,0,a.1,a.2.1,2,a.2.2.2.1,x.2.2.2.1,x.2.2.2.2.1,x.2.2.1,a.2.2.2.2.2.2.2.1,a.2.2.2.2.2.2.2.2.1,()) v _ some) (0,v.1,())).bind fun p=>(AC (fun v=>Cw (x.2.2.1,x.2.2.2.2.1,x.2.1.1,x.2.1.2.1,x.2.1.2.2.1,x.2.1.2.2.2.1,x.2.1.2.2.2.2.1,x.2.1.2.2.2.2.2.1,x.2.1.2.2.2.2.2.2.1,x.2.1.2.2.2.2.2.2.2.1,x.2.1.2.2.2.2.2.2.2.2.1,0,0,0,0,0,0,0,a.1,a.2.1,2,a.2.2.2.1,x.2.2.2.1,x.2.2.2.2.1,x.2.2.1,a.2.2.2.2.2.2.2.1,a.2.2.2.2.2.2.2.2.1,()) v _ some) (0,p.1,())).bind fun p=>some (a.1,a.2.1,2,a.2.2.2.1,x.2.2.2.1,x.2.2.2.2.1,x.2.2.1,p.1,a.2.2.2.2.2.2.2.1,a.2.2.2.2.2.2.2.2.1,())
def SE:Ent:=⟨182,⟨(.slot Bp (.slot Ad (si 3 .nil))),.nil⟩,⟨(.agg (.own 0 .nil) (.agg (si 7 (.own 1 (.own 2 .nil))) .nil)),(.tree false 1 (.slice Af) (.lst false A0 (.lst false A0 .nil)))⟩,Dd⟩
theorem Abi:CfgOK Go.Proofs.Tryz.prog Apd:=hcB (all_cons qx (all_cons Rg (all_cons jr all_nil)))
theorem Ap7:B9 Go.Proofs.Tryz.prog Apd (lpc Go.Proofs.Tryz.f182 1):=lkA Abi A3v Adh Cw Ade [10,11,12,13] Lb
theorem Ay1:B9 Go.Proofs.Tryz.prog Apd (lpc Go.Proofs.Tryz.f182 0):=lkA Abi Abh Apb CP Ap8 [2,4,6,10,11,12,13] LP
theorem dr:Ai Go.Proofs.Tryz.prog SE:=okC Abi Go.Proofs.Tryz.func182 Ay1 Ap7
def tN:Cfg:={ti:=Aw,ents:=[aF,aE,SE],ann:=[],lent:=4,hid:=[((3,2),[6]),((5,1),[6])]}
def Fn (x:Bool×Int×Int×Int×Int×Int×Int×Int×Int×Nat×Nat×A7):Option (Int×Int×Int×Int×Int×Int×Int×Nat×Nat×Bool×A7):=x.2.2.2.2.2.2.2.2.2.2.2.2.1[x.2.2.2.2.2.2.2.2.2.1]?.bind fun v=>x.2.2.2.2.2.2.2.2.2.2.2.2.1[x.2.2.2.2.2.2.2.2.2.2.1]?.bind fun a=>(El ((x.2.2.2.2.2.2.2.2.2.2.2.1,()),(x.2.2.1,x.2.2.2.1,x.2.2.2.2.1,x.2.2.2.2.2.1,x.2.2.2.2.2.2.1,x.2.2.2.2.2.2.2.1,x.2.2.2.2.2.2.2.2.1,v.2.2.2.2.2.2.2.1,a.2.2.2.2.2.2.2.2.1,()),IntKind.i64.wrap (x.2.1+1),())).bind fun v=>bif !v.2.2.1 then some (x.2.2.1,x.2.2.2.1,x.2.2.2.2.1,x.2.2.2.2.2.1,x.2.2.2.2.2.2.1,x.2.2.2.2.2.2.2.1,x.2.2.2.2.2.2.2.2.1,x.2.2.2.2.2.2.2.2.2.1,x.2.2.2.2.2.2.2.2.2.2.1,false,x.2.2.2.2.2.2.2.2.2.2.2.1,x.2.2.2.2.2.2.2.2.2.2.2.2.1,x.2.2.2.2.2.2.2.2.2.2.2.2.2.1,x.2.2.2.2.2.2.2.2.2.2.2.2.2.2.1,())else bif x.1 then bif decide (v.2.1<=v.1)then some (x.2.2.1,x.2.2.2.1,x.2.2.2.2.1,x.2.2.2.2.2.1,x.2.2.2.2.2.2.1,x.2.2.2.2.2.2.2.1,x.2.2.2.2.2.2.2.2.1,x.2.2.2.2.2.2.2.2.2.1,x.2.2.2.2.2.2.2.2.2.2.1,false,x.2.2.2.2.2.2.2.2.2.2.2.1,x.2.2.2.2.2.2.2.2.2.2.2.2.1,x.2.2.2.2.2.2.2.2.2.2.2.2.2.1,x.2.2.2.2.2.2.2.2.2.2.2.2.2.2.1,())else x.2.2.2.2.2.2.2.2.2.2.2.2.1[x.2.2.2.2.2.2.2.2.2.1]?.bind fun b=>x.2.2.2.2.2.2.2.2.2.2.2.2.1[x.2.2.2.2.2.2.2.2.2.2.1]?.bind fun c=>(Ff ((x.2.2.2.2.2.2.2.2.2.2.2.1,()),(x.2.2.1,x.2.2.2.1,x.2.2.2.2.1,x.2.2.2.2.2.1,x.2.2.2.2.2.2.1,x.2.2.2.2.2.2.2.1,x.2.2.2.2.2.2.2.2.1,b.2.2.2.2.2.2.2.1,c.2.2.2.2.2.2.2.2.1,()),())).bind fun d=>bif !d.1 then some (x.2.2.1,x.2.2.2.1,x.2.2.2.2.1,x.2.2.2.2.2.1,x.2.2.2.2.2.2.1,x.2.2.2.2.2.2.2.1,x.2.2.2.2.2.2.2.2.1,x.2.2.2.2.2.2.2.2.2.1,x.2.2.2.2.2.2.2.2.2.2.1,false,x.2.2.2.2.2.2.2.2.2.2.2.1,x.2.2.2.2.2.2.2.2.2.2.2.2.1,x.2.2.2.2.2.2.2.2.2.2.2.2.2.1,x.2.2.2.2.2.2.2.2.2.2.2.2.2.2.1,())else x.2.2.2.2.2.2.2.2.2.2.2.2.1[x.2.2.2.2.2.2.2.2.2.1]?.bind fun e=>x.2.2.2.2.2.2.2.2.2.2.2.2.1[x.2.2.2.2.2.2.2.2.2.2.1]?.bind fun f=>(Dd ((x.2.2.2.2.2.2.2.2.2.2.2.1,()),(x.2.2.1,x.2.2.2.1,x.2.2.2.2.1,x.2.2.2.2.2.1,x.2.2.2.2.2.2.1,x.2.2.2.2.2.2.2.1,x.2.2.2.2.2.2.2.2.1,e.2.2.2.2.2.2.2.1,f.2.2.2.2.2.2.2.2.1,()),IntKind.i64.wrap (x.2.1+1),v.1,v.2.1,())).bind fun v=>none else x.2.2.2.2.2.2.2.2.2.2.2.2.1[x.2.2.2.2.2.2.2.2.2.1]?.bind fun b=>x.2.2.2.2.2.2.2.2.2.2.2.2.1[x.2.2.2.2.2.2.2.2.2.2.1]?.bind fun c=>(Ff ((x.2.2.2.2.2.2.2.2.2.2.2.1,()),(x.2.2.1,x.2.2.2.1,x.2.2.2.2.1,x.2.2.2.2.2.1,x.2.2.2.2.2.2.1,x.2.2.2.2.2.2.2.1,x.2.2.2.2.2.2.2.2.1,b.2.2.2.2.2.2.2.1,c.2.2.2.2.2.2.2.2.1,()),())).bind fun d=>bif !d.1 then some (x.2.2.1,x.2.2.2.1,x.2.2.2.2.1,x.2.2.2.2.2.1,x.2.2.2.2.2.2.1,x.2.2.2.2.2.2.2.1,x.2.2.2.2.2.2.2.2.1,x.2.2.2.2.2.2.2.2.2.1,x.2.2.2.2.2.2.2.2.2.2.1,false,x.2.2.2.2.2.2.2.2.2.2.2.1,x.2.2.2.2.2.2.2.2.2.2.2.2.1,x.2.2.2.2.2.2.2.2.2.2.2.2.2.1,x.2.2.2.2.2.2.2.2.2.2.2.2.2.2.1,())else x.2.2.2.2.2.2.2.2.2.2.2.2.1[x.2.2.2.2.2.2.2.2.2.1]?.bind fun e=>x.2.2.2.2.2.2.2.2.2.2.2.2.1[x.2.2.2.2.2.2.2.2.2.2.1]?.bind fun f=>(Dd ((x.2.2.2.2.2.2.2.2.2.2.2.1,()),(x.2.2.1,x.2.2.2.1,x.2.2.2.2.1,x.2.2.2.2.2.1,x.2.2.2.2.2.2.1,x.2.2.2.2.2.2.2.1,x.2.2.2.2.2.2.2.2.1,e.2.2.2.2.2.2.2.1,f.2.2.2.2.2.2.2.2.1,()),IntKind.i64.wrap (x.2.1+1),v.1,v.2.1,())).bind fun v=>none
def gW:Ent:=⟨116,⟨(.agg (.slot .bool (.own 0 (.own 1 (.own 2 (.own 3 (.slot .i .nil)))))) (.agg (si 7 (.nown 1 7 (.nown 1 8 .nil))) .nil)),(.tree false 0 (.slice Af) (.tree false 0 Ad (.lst false A0 (.lst false A0 .nil))))⟩,⟨(.agg (.own 0 .nil) (.agg (si 7 (.nown 1 7 (.nown 1 8 .nil))) (.slot .bool .nil))),(.tree false 0 (.slice Af) (.tree false 0 Ad (.lst false A0 (.lst false A0 .nil))))⟩,Fn⟩
theorem tK:Ai Go.Proofs.Tryz.prog gW:=okA (C:=tN) (hcB (all_cons qq (all_cons qp (all_cons dr all_nil)))) Go.Proofs.Tryz.func116
def AGq:Cfg:={ti:=Aw,ents:=[aF,aE,SE],ann:=[],lent:=4,hid:=[((3,2),[6]),((5,1),[6])]}
def Ev (x:Bool×Int×Int×Int×Int×Int×Int×Int×Int×Nat×Nat×A7):Option (Int×Int×Int×Int×Int×Int×Int×Bool×List (List A2)×List A3×List A1×List A1×List (List A2)×A9):=x.2.2.2.2.2.2.2.2.2.2.2.2.1[x.2.2.2.2.2.2.2.2.2.1]?.bind fun v=>x.2.2.2.2.2.2.2.2.2.2.2.2.1[x.2.2.2.2.2.2.2.2.2.2.1]?.bind fun a=>(El ((x.2.2.2.2.2.2.2.2.2.2.2.1,()),(x.2.2.1,x.2.2.2.1,x.2.2.2.2.1,x.2.2.2.2.2.1,x.2.2.2.2.2.2.1,x.2.2.2.2.2.2.2.1,x.2.2.2.2.2.2.2.2.1,v.2.2.2.2.2.2.2.1,a.2.2.2.2.2.2.2.2.1,()),IntKind.i64.wrap (x.2.1+1),())).bind fun v=>bif !v.2.2.1 then none else bif x.1 then bif decide (v.2.1<=v.1)then none else x.2.2.2.2.2.2.2.2.2.2.2.2.1[x.2.2.2.2.2.2.2.2.2.1]?.bind fun b=>x.2.2.2.2.2.2.2.2.2.2.2.2.1[x.2.2.2.2.2.2.2.2.2.2.1]?.bind fun c=>(Ff ((x.2.2.2.2.2.2.2.2.2.2.2.1,()),(x.2.2.1,x.2.2.2.1,x.2.2.2.2.1,x.2.2.2.2.2.1,x.2.2.2.2.2.2.1,x.2.2.2.2.2.2.2.1,x.2.2.2.2.2.2.2.2.1,b.2.2.2.2.2.2.2.1,c.2.2.2.2.2.2.2.2.1,()),())).bind fun d=>bif !d.1 then none else x.2.2.2.2.2.2.2.2.2.2.2.2.1[x.2.2.2.2.2.2.2.2.2.1]?.bind fun e=>x.2.2.2.2.2.2.2.2.2.2.2.2.1[x.2.2.2.2.2.2.2.2.2.2.1]?.bind fun f=>(Dd ((x.2.2.2.2.2.2.2.2.2.2.2.1,()),(x.2.2.1,x.2.2.2.1,x.2.2.2.2.1,x.2.2.2.2.2.1,x.2.2.2.2.2.2.1,x.2.2.2.2.2.2.2.1,x.2.2.2.2.2.2.2.2.1,e.2.2.2.2.2.2.2.1,f.2.2.2.2.2.2.2.2.1,()),IntKind.i64.wrap (x.2.1+1),v.1,v.2.1,())).bind fun v=>some (v.1,v.2.1,v.2.2.1,v.2.2.2.1,v.2.2.2.2.1,v.2.2.2.2.2.1,v.2.2.2.2.2.2.1,true,x.2.2.2.2.2.2.2.2.2.2.2.1,x.2.2.2.2.2.2.2.2.2.2.2.2.1,x.2.2.2.2.2.2.2.2.2.2.2.2.2.1,x.2.2.2.2.2.2.2.2.2.2.2.2.2.2.1,v.2.2.2.2.2.2.2.1,v.2.2.2.2.2.2.2.2.1,v.2.2.2.2.2.2.2.2.2.1,())else x.2.2.2.2.2.2.2.2.2.2.2.2.1[x.2.2.2.2.2.2.2.2.2.1]?.bind fun b=>x.2.2.2.2.2.2.2.2.2.2.2.2.1[x.2.2.2.2.2.2.2.2.2.2.1]?.bind fun c=>(Ff ((x.2.2.2.2.2.2.2.2.2.2.2.1,()),(x.2.2.1,x.2.2.2.1,x.2.2.2.2.1,x.2.2.2.2.2.1,x.2.2.2.2.2.2.1,x.2.2.2.2.2.2.2.1,x.2.2.2.2.2.2.2.2.1,b.2.2.2.2.2.2.2.1,c.2.2.2.2.2.2.2.2.1,()),())).bind fun d=>bif !d.1 then none else x.2.2.2.2.2.2.2.2.2.2.2.2.1[x.2.2.2.2.2.2.2.2.2.1]?.bind fun e=>x.2.2.2.2.2.2.2.2.2.2.2.2.1[x.2.2.2.2.2.2.2.2.2.2.1]?.bind fun f=>(Dd ((x.2.2.2.2.2.2.2.2.2.2.2.1,()),(x.2.2.1,x.2.2.2.1,x.2.2.2.2.1,x.2.2.2.2.2.1,x.2.2.2.2.2.2.1,x.2.2.2.2.2.2.2.1,x.2.2.2.2.2.2.2.2.1,e.2.2.2.2.2.2.2.1,f.2.2.2.2.2.2.2.2.1,()),IntKind.i64.wrap (x.2.1+1),v.1,v.2.1,())).bind fun v=>some (v.1,v.2.1,v.2.2.1,v.2.2.2.1,v.2.2.2.2.1,v.2.2.2.2.2.1,v.2.2.2.2.2.2.1,true,x.2.2.2.2.2.2.2.2.2.2.2.1,x.2.2.2.2.2.2.2.2.2.2.2.2.1,x.2.2.2.2.2.2.2.2.2.2.2.2.2.1,x.2.2.2.2.2.2.2.2.2.2.2.2.2.2.1,v.2.2.2.2.2.2.2.1,v.2.2.2.2.2.2.2.2.1,v.2.2.2.2.2.2.2.2.2.1,())
def gV:Ent:=⟨116,⟨(.agg (.slot .bool (.own 0 (.own 1 (.own 2 (.own 3 (.slot .i .nil)))))) (.agg (si 7 (.nown 1 7 (.nown 1 8 .nil))) .nil)),(.tree false 0 (.slice Af) (.tree false 0 Ad (.lst false A0 (.lst false A0 .nil))))⟩,⟨(.agg (.own 4 .nil) (.agg (si 7 (.own 5 (.own 6 .nil))) (.slot .bool .nil))),(.tree false 0 (.slice Af) (.tree false 0 Ad (.lst false A0 (.lst false A0 (.tree false 1 (.slice Af) (.lst false A0 (.lst false A0 .nil)))))))⟩,Ev⟩
theorem tE:Ai Go.Proofs.Tryz.prog gV:=okA (C:=AGq) (hcB (all_cons qq (all_cons qp (all_cons dr all_nil)))) Go.Proofs.Tryz.func116
def AGp:Cfg:={ti:=Aw,ents:=[gW,gV,R7,gX],ann:=[],lent:=5,pre:=[(some (0,1)),(some (0,3)),(some (0,4))],two:=[116]}
def FN (x:Int×Bool×Int×A7):Option (Int×Bool×Int×List A3×List (List A2)×A9):=if 0<=x.1/\x.1<(x.2.2.2.2.1.length:Int)then x.2.2.2.2.1[0+x.1.toNat]?.bind fun v=>x.2.2.2.2.1[0+x.1.toNat]?.bind fun a=>x.2.2.2.2.1[0+x.1.toNat]?.bind fun b=>(Gl ((x.2.2.2.1,()),(v.1,v.2.1,v.2.2.1,v.2.2.2.1,v.2.2.2.2.1,v.2.2.2.2.2.1,v.2.2.2.2.2.2.1,a.2.2.2.2.2.2.2.1,b.2.2.2.2.2.2.2.2.1,()),())).bind fun c=>bif c.1==0 then bif x.2.2.1==999 then some (6,x.2.1,x.2.2.1,x.2.2.2.2.1,x.2.2.2.1,x.2.2.2.2.2.1,x.2.2.2.2.2.2.1,())else bif c.1==0 then Rp (Fn (x.2.1,x.2.2.1,v.1,v.2.1,v.2.2.1,v.2.2.2.1,v.2.2.2.2.1,v.2.2.2.2.2.1,v.2.2.2.2.2.2.1,0+x.1.toNat,0+x.1.toNat,x.2.2.2.1,x.2.2.2.2.1,x.2.2.2.2.2.1,x.2.2.2.2.2.2.1,())) (fun v=>bif v.2.2.2.2.2.2.2.2.2.1 then if 0<=x.1/\x.1<(v.2.2.2.2.2.2.2.2.2.2.2.1.length:Int)then v.2.2.2.2.2.2.2.2.2.2.2.1[0+x.1.toNat]?.bind fun v=>none else none else(Bd (x.1,x.2.1,x.2.2.1,v.2.2.2.2.2.2.2.2.2.2.1,v.2.2.2.2.2.2.2.2.2.2.2.1,v.2.2.2.2.2.2.2.2.2.2.2.2.1,v.2.2.2.2.2.2.2.2.2.2.2.2.2.1,())).bind fun v=>some (5,v.1,v.2.1,v.2.2.2.1,v.2.2.1,v.2.2.2.2.2.2.1,v.2.2.2.2.2.2.2.1,())) ((Ev (x.2.1,x.2.2.1,v.1,v.2.1,v.2.2.1,v.2.2.2.1,v.2.2.2.2.1,v.2.2.2.2.2.1,v.2.2.2.2.2.2.1,0+x.1.toNat,0+x.1.toNat,x.2.2.2.1,x.2.2.2.2.1,x.2.2.2.2.2.1,x.2.2.2.2.2.2.1,())).bind fun v=>bif v.2.2.2.2.2.2.2.1 then if 0<=x.1/\x.1<(v.2.2.2.2.2.2.2.2.2.1.length:Int)then v.2.2.2.2.2.2.2.2.2.1[0+x.1.toNat]?.bind fun d=>(Bd (x.1,x.2.1,IntKind.i64.wrap (x.2.2.1+1),v.2.2.2.2.2.2.2.2.2.2.2.2.1,v.2.2.2.2.2.2.2.2.2.1.set (0+x.1.toNat) (v.1,v.2.1,v.2.2.1,v.2.2.2.1,v.2.2.2.2.1,v.2.2.2.2.2.1,v.2.2.2.2.2.2.1,v.2.2.2.2.2.2.2.2.2.2.2.2.2.1,v.2.2.2.2.2.2.2.2.2.2.2.2.2.2.1,()),v.2.2.2.2.2.2.2.2.2.2.1,v.2.2.2.2.2.2.2.2.2.2.2.1,())).bind fun v=>some (c.1,v.1,v.2.1,v.2.2.2.1,v.2.2.1,v.2.2.2.2.2.2.1,v.2.2.2.2.2.2.2.1,())else none else(Bd (x.1,x.2.1,x.2.2.1,v.2.2.2.2.2.2.2.2.1,v.2.2.2.2.2.2.2.2.2.1,v.2.2.2.2.2.2.2.2.2.2.1,v.2.2.2.2.2.2.2.2.2.2.2.1,())).bind fun v=>some (5,v.1,v.2.1,v.2.2.2.1,v.2.2.1,v.2.2.2.2.2.2.1,v.2.2.2.2.2.2.2.1,()))else(Bd (x.1,x.2.1,x.2.2.1,x.2.2.2.1,x.2.2.2.2.1,x.2.2.2.2.2.1,x.2.2.2.2.2.2.1,())).bind fun v=>some (c.1,v.1,v.2.1,v.2.2.2.1,v.2.2.1,v.2.2.2.2.2.2.1,v.2.2.2.2.2.2.2.1,())else bif c.1==0 then Rp (Fn (x.2.1,x.2.2.1,v.1,v.2.1,v.2.2.1,v.2.2.2.1,v.2.2.2.2.1,v.2.2.2.2.2.1,v.2.2.2.2.2.2.1,0+x.1.toNat,0+x.1.toNat,x.2.2.2.1,x.2.2.2.2.1,x.2.2.2.2.2.1,x.2.2.2.2.2.2.1,())) (fun v=>bif v.2.2.2.2.2.2.2.2.2.1 then if 0<=x.1/\x.1<(v.2.2.2.2.2.2.2.2.2.2.2.1.length:Int)then v.2.2.2.2.2.2.2.2.2.2.2.1[0+x.1.toNat]?.bind fun v=>none else none else(Bd (x.1,x.2.1,x.2.2.1,v.2.2.2.2.2.2.2.2.2.2.1,v.2.2.2.2.2.2.2.2.2.2.2.1,v.2.2.2.2.2.2.2.2.2.2.2.2.1,v.2.2.2.2.2.2.2.2.2.2.2.2.2.1,())).bind fun v=>some (5,v.1,v.2.1,v.2.2.2.1,v.2.2.1,v.2.2.2.2.2.2.1,v.2.2.2.2.2.2.2.1,())) ((Ev (x.2.1,x.2.2.1,v.1,v.2.1,v.2.2.1,v.2.2.2.1,v.2.2.2.2.1,v.2.2.2.2.2.1,v.2.2.2.2.2.2.1,0+x.1.toNat,0+x.1.toNat,x.2.2.2.1,x.2.2.2.2.1,x.2.2.2.2.2.1,x.2.2.2.2.2.2.1,())).bind fun v=>bif v.2.2.2.2.2.2.2.1 then if 0<=x.1/\x.1<(v.2.2.2.2.2.2.2.2.2.1.length:Int)then v.2.2.2.2.2.2.2.2.2.1[0+x.1.toNat]?.bind fun d=>(Bd (x.1,x.2.1,IntKind.i64.wrap (x.2.2.1+1),v.2.2.2.2.2.2.2.2.2.2.2.2.1,v.2.2.2.2.2.2.2.2.2.1.set (0+x.1.toNat) (v.1,v.2.1,v.2.2.1,v.2.2.2.1,v.2.2.2.2.1,v.2.2.2.2.2.1,v.2.2.2.2.2.2.1,v.2.2.2.2.2.2.2.2.2.2.2.2.2.1,v.2.2.2.2.2.2.2.2.2.2.2.2.2.2.1,()),v.2.2.2.2.2.2.2.2.2.2.1,v.2.2.2.2.2.2.2.2.2.2.2.1,())).bind fun v=>some (c.1,v.1,v.2.1,v.2.2.2.1,v.2.2.1,v.2.2.2.2.2.2.1,v.2.2.2.2.2.2.2.1,())else none else(Bd (x.1,x.2.1,x.2.2.1,v.2.2.2.2.2.2.2.2.1,v.2.2.2.2.2.2.2.2.2.1,v.2.2.2.2.2.2.2.2.2.2.1,v.2.2.2.2.2.2.2.2.2.2.2.1,())).bind fun v=>some (5,v.1,v.2.1,v.2.2.2.1,v.2.2.1,v.2.2.2.2.2.2.1,v.2.2.2.2.2.2.2.1,()))else(Bd (x.1,x.2.1,x.2.2.1,x.2.2.2.1,x.2.2.2.2.1,x.2.2.2.2.2.1,x.2.2.2.2.2.2.1,())).bind fun v=>some (c.1,v.1,v.2.1,v.2.2.2.1,v.2.2.1,v.2.2.2.2.2.2.1,v.2.2.2.2.2.2.2.1,())else none
def XZ:Ent:=⟨58,⟨(.ptr 0 0 0 (.slot .i .nil)),(.cells 6 (.slot .bool (.own 1 (.own 2 (.own 3 (.own 4 (.slot .i .nil)))))) (.tree false 0 (.slice Af) (.tree false 0 Ad (.lst false A0 (.lst false A0 .nil)))))⟩,⟨(.agg (.slot .i (.const (AV.nils) .nil)) .nil),(.cells 6 (.slot .bool (.own 5 (.own 2 (.own 6 (.own 7 (.slot .i .nil)))))) (.gone (.tree false 1 Ad (.gone (.gone (.tree false 1 (.slice Af) (.lst false A0 (.lst false A0 .nil))))))))⟩,FN⟩
theorem tD:Ai Go.Proofs.Tryz.prog XZ:=okA (C:=AGp) (hcB (all_cons tK (all_cons tE (all_cons Z6 (all_cons TH all_nil))))) Go.Proofs.Tryz.func58
abbrev Adc:=Int×Int×Int×Int×Int×Int×Bool×Int×Int×Bool×Int×List (List A2)×List A3×List A1×List A1×Int×A6
abbrev Ad9:=Int×Unit
abbrev Ada:=Int×Unit ⊕ Int×Unit
def CZ (i:Adc)(v:Ad9)(R:Type)(K:Ad9 ⊕ Ada->Option R):Option R:=bif decide (v.1<(i.2.2.2.2.2.2.2.2.2.2.2.2.1.length:Int))then if 0<=v.1/\v.1<(i.2.2.2.2.2.2.2.2.2.2.2.2.1.length:Int)then i.2.2.2.2.2.2.2.2.2.2.2.2.1[0+v.1.toNat]?.bind fun a=>bif decide (a.1<i.2.1)then K (.inl (IntKind.i64.wrap (v.1+1),()))else K (.inr (.inl (v.1,())))else none else K (.inr (.inr (v.1,())))
theorem KF:Bg CZ:=fun i v R K=>Ae (Aq (Ac fun _=>Ae (Aa) (Aa))) (Aa)
def A3r:Tmpl:=⟨(jk 3 (.ptr 0 0 0 (.ptr 1 0 0 (.ptr 2 0 0 (.ptr 3 0 0 (jk 2 (.ptr 8 0 0 (.junk (.slot .i (jk 137 .nil)))))))))),(.cells 6 (si 6 .nil) (.cells 6 (.slot .bool (.const (AV.nils) (.const (AV.nils) (.const (AV.nils) (.const (AV.nils) (.slot .i .nil)))))) (.cells 2 (.slot .i (.const (AV.nils) .nil)) (.cells 6 (.slot .bool (.own 4 (.own 5 (.own 6 (.own 7 (.slot .i .nil)))))) (.tree false 0 (.slice Af) (.tree false 0 Ad (.lst false A0 (.lst false A0 (.cells 9 (si 7 (.const (AV.nils) (.const (AV.nils) .nil))) .nil)))))))))⟩
def Ad8:Exs Adc Ada:=xs (.exit 0) (fun i p=>⟨jn 4 (AV.ptr 1 none 0 0::AV.ptr 2 none 0 0::AV.ptr 3 none 0 0::jn 2 (AV.ptr 8 none 0 0::jn 1 (.n (p.1)::jn 137 ([])))),[some (Cont.cells 6 [[AV.pv .i i.1,AV.pv .i i.2.1,AV.pv (Ty.int IntKind.i64) i.2.2.1,AV.pv .i i.2.2.2.1,AV.pv .i i.2.2.2.2.1,AV.pv .i i.2.2.2.2.2.1]]),some (Cont.cells 6 [[AV.pv .bool i.2.2.2.2.2.2.1,AV.nils,AV.nils,AV.nils,AV.nils,AV.pv .i i.2.2.2.2.2.2.2.1]]),some (Cont.cells 2 [[AV.pv .i i.2.2.2.2.2.2.2.2.1,AV.nils]]),some (Cont.cells 6 [[AV.pv .bool i.2.2.2.2.2.2.2.2.2.1,AV.own 4 none none,AV.own 5 none none,AV.own 6 none none,AV.own 7 none none,AV.pv .i i.2.2.2.2.2.2.2.2.2.2.1]]),some (Cont.tree false 0 (.slice Af) i.2.2.2.2.2.2.2.2.2.2.2.1 none),some (Cont.tree false 0 Ad i.2.2.2.2.2.2.2.2.2.2.2.2.1 none),some (Cont.lst false A0 i.2.2.2.2.2.2.2.2.2.2.2.2.2.1),some (Cont.lst false A0 i.2.2.2.2.2.2.2.2.2.2.2.2.2.2.1),some (Cont.cells 9 [[AV.pv .i i.2.2.2.2.2.2.2.2.2.2.2.2.2.2.2.1,AV.pv .i i.2.2.2.2.2.2.2.2.2.2.2.2.2.2.2.2.1,AV.pv .i i.2.2.2.2.2.2.2.2.2.2.2.2.2.2.2.2.2.1,AV.pv .i i.2.2.2.2.2.2.2.2.2.2.2.2.2.2.2.2.2.2.1,AV.pv .i i.2.2.2.2.2.2.2.2.2.2.2.2.2.2.2.2.2.2.2.1,AV.pv .i i.2.2.2.2.2.2.2.2.2.2.2.2.2.2.2.2.2.2.2.2.1,AV.pv .i i.2.2.2.2.2.2.2.2.2.2.2.2.2.2.2.2.2.2.2.2.2.1,AV.nils,AV.nils]])]⟩)<|x1 (.exit 0) fun i p=>⟨jn 4 (AV.ptr 1 none 0 0::AV.ptr 2 none 0 0::AV.ptr 3 none 0 0::jn 2 (AV.ptr 8 none 0 0::jn 1 (.n (p.1)::jn 137 ([])))),[some (Cont.cells 6 [[AV.pv .i i.1,AV.pv .i i.2.1,AV.pv (Ty.int IntKind.i64) i.2.2.1,AV.pv .i i.2.2.2.1,AV.pv .i i.2.2.2.2.1,AV.pv .i i.2.2.2.2.2.1]]),some (Cont.cells 6 [[AV.pv .bool i.2.2.2.2.2.2.1,AV.nils,AV.nils,AV.nils,AV.nils,AV.pv .i i.2.2.2.2.2.2.2.1]]),some (Cont.cells 2 [[AV.pv .i i.2.2.2.2.2.2.2.2.1,AV.nils]]),some (Cont.cells 6 [[AV.pv .bool i.2.2.2.2.2.2.2.2.2.1,AV.own 4 none none,AV.own 5 none none,AV.own 6 none none,AV.own 7 none none,AV.pv .i i.2.2.2.2.2.2.2.2.2.2.1]]),some (Cont.tree false 0 (.slice Af) i.2.2.2.2.2.2.2.2.2.2.2.1 none),some (Cont.tree false 0 Ad i.2.2.2.2.2.2.2.2.2.2.2.2.1 none),some (Cont.lst false A0 i.2.2.2.2.2.2.2.2.2.2.2.2.2.1),some (Cont.lst false A0 i.2.2.2.2.2.2.2.2.2.2.2.2.2.2.1),some (Cont.cells 9 [[AV.pv .i i.2.2.2.2.2.2.2.2.2.2.2.2.2.2.2.1,AV.pv .i i.2.2.2.2.2.2.2.2.2.2.2.2.2.2.2.2.1,AV.pv .i i.2.2.2.2.2.2.2.2.2.2.2.2.2.2.2.2.2.1,AV.pv .i i.2.2.2.2.2.2.2.2.2.2.2.2.2.2.2.2.2.2.1,AV.pv .i i.2.2.2.2.2.2.2.2.2.2.2.2.2.2.2.2.2.2.2.1,AV.pv .i i.2.2.2.2.2.2.2.2.2.2.2.2.2.2.2.2.2.2.2.2.1,AV.pv .i i.2.2.2.2.2.2.2.2.2.2.2.2.2.2.2.2.2.2.2.2.2.1,AV.nils,AV.nils]])]⟩
def Adb:=((.v (.i (.i (.i (.i (.i (.i (.i (.i (.i (.i (.i (.i (.i (.i (.i (.i (.i (.i (.i (.i (.i (.i .n))))))))))))))))))))))):Pk A3r.ty _ _)
def Add:Cfg:={ti:=Aw,ents:=[VU,Y2,gY,XZ,R7,cr,hZ,hX,XC,Y6,Y5],ann:=[(11,Ao A3r 0 (spP Adb) CZ Ad8.E)],lent:=0,hid:=[((5,1),[2]),((8,1),[2]),((16,1),[2]),((32,1),[2])],gho:=[(13,[5])]}
def FP (x:A5×A6×Unit):Option (Bool×Int×Int×List (List A2)×List A3×List A1×List A1×List Int×Unit):=(HU ((x.1.1,(x.1.2.1.1,()),x.1.2.2.1,x.1.2.2.2.1,x.1.2.2.2.2.1,x.1.2.2.2.2.2.1,()),())).bind fun v=>(CJ ((x.1.1,(x.1.2.1.1,()),x.1.2.2.1,x.1.2.2.2.1,x.1.2.2.2.2.1,x.1.2.2.2.2.2.1,()),x.2.1.2.1,())).bind fun a=>(EF ((x.1.1,(x.1.2.1.1,()),x.1.2.2.1,x.1.2.2.2.1,x.1.2.2.2.2.1,x.1.2.2.2.2.2.1,()),())).bind fun b=>bif !b.1 then some (v.1,v.2.1,6,v.2.2.1,v.2.2.2.1,v.2.2.2.2.1,v.2.2.2.2.2.1,[],())else(Ea ((x.2.1.1,x.2.1.2.1,x.2.1.2.2.1,x.2.1.2.2.2.1,x.2.1.2.2.2.2.1,x.2.1.2.2.2.2.2.1,()),())).bind fun c=>bif !c.1 then some (v.1,v.2.1,6,v.2.2.1,v.2.2.2.1,v.2.2.2.2.1,v.2.2.2.2.2.1,[],())else bif !(x.2.1.1==1)==decide (a.1<0)then some (v.1,v.2.1,6,v.2.2.1,v.2.2.2.1,v.2.2.2.2.1,v.2.2.2.2.2.1,[],())else bif x.2.1.1==1 then bif (x.1.2.2.1.length:Int)==6 then some (v.1,v.2.1,6,v.2.2.1,v.2.2.2.1,v.2.2.2.2.1,v.2.2.2.2.2.1,[],())else(Ew (x.2.1.2.1,x.2.1.2.2.1,x.1.2.2.2.2.2.1,())).bind fun d=>(AC (fun e=>CZ (x.2.1.1,x.2.1.2.1,x.2.1.2.2.1,x.2.1.2.2.2.1,x.2.1.2.2.2.2.1,x.2.1.2.2.2.2.2.1,false,0,0,v.1,v.2.1,v.2.2.1,v.2.2.2.1,v.2.2.2.2.1,v.2.2.2.2.2.1,d.1,d.2.1,d.2.2.1,d.2.2.2.1,d.2.2.2.2.1,d.2.2.2.2.2.1,d.2.2.2.2.2.2.1,()) e _ some) (0,())).bind fun p=>Az p (fun p=>if(0:Int)<=0/\0<=p.1/\p.1<=(v.2.2.2.1.length:Int)then if(Cv v.2.2.2.1 (some (0,p.1.toNat-Int.toNat 0))).length<=338311270084 then if(Cv v.2.2.2.1 (some (0,p.1.toNat-Int.toNat 0))++[(d.1,d.2.1,d.2.2.1,d.2.2.2.1,d.2.2.2.2.1,d.2.2.2.2.2.1,d.2.2.2.2.2.2.1,[],[],())]).length<=338311270084 then if 0<=p.1/\p.1<=(v.2.2.2.1.length:Int)/\(v.2.2.2.1.length:Int)<=(v.2.2.2.1.length:Int)then if(Cv v.2.2.2.1 (some (0,p.1.toNat-Int.toNat 0))++[(d.1,d.2.1,d.2.2.1,d.2.2.2.1,d.2.2.2.2.1,d.2.2.2.2.2.1,d.2.2.2.2.2.2.1,[],[],())]++Cv v.2.2.2.1 (some (0+p.1.toNat,(v.2.2.2.1.length:Int).toNat-p.1.toNat))).length<=338311270084 then some (v.1,v.2.1,0,v.2.2.1,Cv v.2.2.2.1 (some (0,p.1.toNat-Int.toNat 0))++[(d.1,d.2.1,d.2.2.1,d.2.2.2.1,d.2.2.2.2.1,d.2.2.2.2.2.1,d.2.2.2.2.2.2.1,[],[],())]++Cv v.2.2.2.1 (some (0+p.1.toNat,(v.2.2.2.1.length:Int).toNat-p.1.toNat)),v.2.2.2.2.1,v.2.2.2.2.2.1,[],())else none else none else none else none else none) fun p=>if(0:Int)<=0/\0<=p.1/\p.1<=(v.2.2.2.1.length:Int)then if(Cv v.2.2.2.1 (some (0,p.1.toNat-Int.toNat 0))).length<=338311270084 then if(Cv v.2.2.2.1 (some (0,p.1.toNat-Int.toNat 0))++[(d.1,d.2.1,d.2.2.1,d.2.2.2.1,d.2.2.2.2.1,d.2.2.2.2.2.1,d.2.2.2.2.2.2.1,[],[],())]).length<=338311270084 then if 0<=p.1/\p.1<=(v.2.2.2.1.length:Int)/\(v.2.2.2.1.length:Int)<=(v.2.2.2.1.length:Int)then if(Cv v.2.2.2.1 (some (0,p.1.toNat-Int.toNat 0))++[(d.1,d.2.1,d.2.2.1,d.2.2.2.1,d.2.2.2.2.1,d.2.2.2.2.2.1,d.2.2.2.2.2.2.1,[],[],())]++Cv v.2.2.2.1 (some (0+p.1.toNat,(v.2.2.2.1.length:Int).toNat-p.1.toNat))).length<=338311270084 then some (v.1,v.2.1,0,v.2.2.1,Cv v.2.2.2.1 (some (0,p.1.toNat-Int.toNat 0))++[(d.1,d.2.1,d.2.2.1,d.2.2.2.1,d.2.2.2.2.1,d.2.2.2.2.2.1,d.2.2.2.2.2.2.1,[],[],())]++Cv v.2.2.2.1 (some (0+p.1.toNat,(v.2.2.2.1.length:Int).toNat-p.1.toNat)),v.2.2.2.2.1,v.2.2.2.2.2.1,[],())else none else none else none else none else none else(lAt x.1.2.2.1 a.1).bind fun d=>bif d.2.2.1 != 1 then some (v.1,v.2.1,6,v.2.2.1,v.2.2.2.1,v.2.2.2.2.1,v.2.2.2.2.2.1,[],())else(HY (v.2.2.2.2.2.1,x.2.1.2.1,())).bind fun e=>bif x.2.1.1==2 then(Fv (a.1,x.2.1.2.2.2.1,v.1,v.2.1,v.2.2.1,v.2.2.2.1,v.2.2.2.2.1,e.1,())).bind fun v=>bif v.2.1==0 then some (v.2.2.1,v.2.2.2.1,v.2.1,v.2.2.2.2.1,v.2.2.2.2.2.1,v.2.2.2.2.2.2.1,v.2.2.2.2.2.2.2.1,[v.1],())else some (v.2.2.1,v.2.2.2.1,v.2.1,v.2.2.2.2.1,v.2.2.2.2.2.1,v.2.2.2.2.2.2.1,v.2.2.2.2.2.2.2.1,[],())else bif x.2.1.1==4 then(Iq (a.1,x.2.1.2.2.2.1,x.2.1.2.2.2.2.1,v.1,v.2.1,v.2.2.1,v.2.2.2.1,v.2.2.2.2.1,e.1,())).bind fun v=>some (v.2.1,v.2.2.1,v.1,v.2.2.2.1,v.2.2.2.2.1,v.2.2.2.2.2.1,v.2.2.2.2.2.2.1,v.2.2.2.2.2.2.2.1,())else bif x.2.1.1==3 then(Gi (a.1,x.2.1.1,x.2.1.2.1,x.2.1.2.2.1,x.2.1.2.2.2.1,x.2.1.2.2.2.2.1,x.2.1.2.2.2.2.2.1,v.1,v.2.1,v.2.2.1,v.2.2.2.1,v.2.2.2.2.1,e.1,())).bind fun v=>some (v.2.1,v.2.2.1,v.1,v.2.2.2.1,v.2.2.2.2.1,v.2.2.2.2.2.1,v.2.2.2.2.2.2.1,[],())else bif x.2.1.1==5 then(FN (a.1,v.1,v.2.1,v.2.2.1,v.2.2.2.1,v.2.2.2.2.1,e.1,())).bind fun v=>some (v.2.1,v.2.2.1,v.1,v.2.2.2.2.1,v.2.2.2.1,v.2.2.2.2.2.1,v.2.2.2.2.2.2.1,[],())else(Bd (a.1,v.1,v.2.1,v.2.2.1,v.2.2.2.1,v.2.2.2.2.1,e.1,())).bind fun v=>some (v.1,v.2.1,0,v.2.2.1,v.2.2.2.1,v.2.2.2.2.2.2.1,v.2.2.2.2.2.2.2.1,[],())
def Zi:Ent:=⟨10,⟨(.slot D9 (.slot YOp .nil)),.nil⟩,⟨(.agg (.slot .bool (.own 0 (.own 1 (.own 2 (.own 3 (.slot .i .nil)))))) (.agg (.slot .i (.own 4 .nil)) .nil)),(.tree false 1 (.slice Af) (.lst false Ad (.lst false A0 (.lst false A0 (.lst false .i .nil)))))⟩,FP⟩
theorem Ap6:CfgOK Go.Proofs.Tryz.prog Add:=hcB (all_cons qt (all_cons uo (all_cons uc (all_cons tD (all_cons Z6 (all_cons rE (all_cons qw (all_cons rD (all_cons rC (all_cons vl (all_cons vj all_nil)))))))))))
theorem Ap4:B9 Go.Proofs.Tryz.prog Add (lpc Go.Proofs.Tryz.f10 0):=lkA Ap6 A3r Adb CZ Ad8 [4,5,6,9,11] KF
theorem tC:Ai Go.Proofs.Tryz.prog Zi:=okB Ap6 Go.Proofs.Tryz.func10 Ap4
def L4 (x:List A2×Unit):Option (List A2×Unit):=bif x.1.length==0 then Sz (some ([],())) (if x.1.length<=879609302220 then some (x.1,())else none)else if x.1.length<=879609302220 then some (x.1,())else none
def XY:Ent:=⟨186,⟨(.slot (.slice Af) .nil),.nil⟩,⟨(.own 0 .nil),(.lst false Af .nil)⟩,L4⟩
theorem tB:Ai Go.Proofs.Tryz.prog XY:=okA (hcA 0 all_nil) Go.Proofs.Tryz.func186
abbrev Ap1:=List (List A2)×Int×Unit
abbrev Aoy:=Int×List (List A2)×Unit
abbrev Aoz:=List (List A2)×Unit
def KX (i:Ap1)(v:Aoy)(R:Type)(K:Aoy ⊕ Aoz->Option R):Option R:=bif decide (v.1<i.2.1)then(lAt i.1 v.1).bind fun a=>(L4 (a,())).bind fun b=>if(v.2.1++[b.1]).length<=1466015503701 then K (.inl (IntKind.i64.wrap (v.1+1),v.2.1++[b.1],()))else none else K (.inr (v.2.1,()))
theorem Zf:Bg KX:=fun i v R K=>Ae (Ac fun _=>Ac fun _=>Aq (Aa)) (Aa)
def Abf:Tmpl:=⟨(jk 2 (.ptr 0 0 0 (.ptr 1 0 0 (jk 4 (.slot (.slice (.slice Af)) (si 2 (jk 12 .nil))))))),(.cells 1 (.const (AV.nils) .nil) (.cells 1 (.own 2 .nil) (.tree false 0 (.slice Af) .nil)))⟩
def Aox:Exs Ap1 Aoz:=x1 (.exit 0) fun i p=>⟨jn 2 (AV.ptr 0 none 0 0::AV.ptr 1 none 0 0::jn 19 ([])),[some (Cont.cells 1 [[AV.nils]]),some (Cont.cells 1 [[AV.own 2 none none]]),some (Cont.tree false 0 (.slice Af) p.1 none)]⟩
def Ap0:=((.i (.i (.v (.v .n)))):Pk Abf.ty _ _)
def AAc:Cfg:={ti:=Aw,ents:=[XY],ann:=[(3,Ao Abf 0 (spP Ap0) KX Aox.E)],lent:=0}
def P0 (x:A4×Unit):Option A4:=(AC (fun v=>KX (x.1.1,(x.1.1.length:Int),()) v _ some) (0,[],())).bind fun p=>some (p.1,())
def XX:Ent:=⟨123,⟨(.slot Bp .nil),.nil⟩,⟨(.agg (.own 0 .nil) .nil),(.tree false 0 (.slice Af) .nil)⟩,P0⟩
theorem Ap2:CfgOK Go.Proofs.Tryz.prog AAc:=hcB (all_cons tB all_nil)
theorem Ay0:B9 Go.Proofs.Tryz.prog AAc (lpc Go.Proofs.Tryz.f123 0):=lkA Ap2 Abf Ap0 KX Aox [2,3] Zf
theorem tz:Ai Go.Proofs.Tryz.prog XX:=okB Ap2 Go.Proofs.Tryz.func123 Ay0
def Cg (x:List A1×Unit):Option (List A1×Unit):=bif x.1.length==0 then Sz (some ([],())) (if x.1.length<=2199023255552 then some (x.1,())else none)else if x.1.length<=2199023255552 then some (x.1,())else none
def gU:Ent:=⟨124,⟨(.slot (.slice A0) .nil),.nil⟩,⟨(.own 0 .nil),(.lst false A0 .nil)⟩,Cg⟩
theorem iW:Ai Go.Proofs.Tryz.prog gU:=okA (hcA 0 all_nil) Go.Proofs.Tryz.func124
def BP (x:List A1×Unit):Option (List A1×Unit):=bif x.1.length==0 then Sz (some ([],())) (if x.1.length<=2199023255552 then some (x.1,())else none)else if x.1.length<=2199023255552 then some (x.1,())else none
def VS:Ent:=⟨125,⟨(.slot (.slice A0) .nil),.nil⟩,⟨(.own 0 .nil),(.lst false A0 .nil)⟩,BP⟩
theorem Z5:Ai Go.Proofs.Tryz.prog VS:=okA (hcA 0 all_nil) Go.Proofs.Tryz.func125
def Ch (x:List A1×Unit):Option (List A1×Unit):=bif x.1.length==0 then Sz (some ([],())) (if x.1.length<=2199023255552 then some (x.1,())else none)else if x.1.length<=2199023255552 then some (x.1,())else none
def XW:Ent:=⟨187,⟨(.slot (.slice A0) .nil),.nil⟩,⟨(.own 0 .nil),(.lst false A0 .nil)⟩,Ch⟩
theorem qo:Ai Go.Proofs.Tryz.prog XW:=okA (hcA 0 all_nil) Go.Proofs.Tryz.func187
def CK (x:List A1×Unit):Option (List A1×Unit):=bif x.1.length==0 then Sz (some ([],())) (if x.1.length<=2199023255552 then some (x.1,())else none)else if x.1.length<=2199023255552 then some (x.1,())else none
def XV:Ent:=⟨188,⟨(.slot (.slice A0) .nil),.nil⟩,⟨(.own 0 .nil),(.lst false A0 .nil)⟩,CK⟩
theorem Z4:Ai Go.Proofs.Tryz.prog XV:=okA (hcA 0 all_nil) Go.Proofs.Tryz.func188
def LN (x:A3×Unit):Option A3:=(Ch (x.1.2.2.2.2.2.2.2.1,())).bind fun v=>(CK (x.1.2.2.2.2.2.2.2.2.1,())).bind fun a=>some (x.1.1,x.1.2.1,x.1.2.2.1,x.1.2.2.2.1,x.1.2.2.2.2.1,x.1.2.2.2.2.2.1,x.1.2.2.2.2.2.2.1,v.1,a.1,())
def TM:Ent:=⟨126,⟨(.slot Ad .nil),.nil⟩,⟨(.agg (si 7 (.own 0 (.own 1 .nil))) .nil),(.lst false A0 (.lst false A0 .nil))⟩,LN⟩
theorem iU:Ai Go.Proofs.Tryz.prog TM:=okA (hcA 0 (all_cons qo (all_cons Z4 all_nil))) Go.Proofs.Tryz.func126
abbrev Aow:=List A3×Int×Bool×Int×Bool×Int×List (List A2)×A9
abbrev Aot:=Int×List A3×Unit
abbrev Aou:=List A3×Unit
def Kg (i:Aow)(v:Aot)(R:Type)(K:Aot ⊕ Aou->Option R):Option R:=bif decide (v.1<i.2.1)then(lAt i.1 v.1).bind fun a=>(LN ((a.1,a.2.1,a.2.2.1,a.2.2.2.1,a.2.2.2.2.1,a.2.2.2.2.2.1,a.2.2.2.2.2.2.1,a.2.2.2.2.2.2.2.1,a.2.2.2.2.2.2.2.2.1,()),())).bind fun b=>if(v.2.1++[(b.1,b.2.1,b.2.2.1,b.2.2.2.1,b.2.2.2.2.1,b.2.2.2.2.2.1,b.2.2.2.2.2.2.1,b.2.2.2.2.2.2.2.1,b.2.2.2.2.2.2.2.2.1,())]).length<=338311270084 then K (.inl (IntKind.i64.wrap (v.1+1),v.2.1++[(b.1,b.2.1,b.2.2.1,b.2.2.2.1,b.2.2.2.2.1,b.2.2.2.2.2.1,b.2.2.2.2.2.2.1,b.2.2.2.2.2.2.2.1,b.2.2.2.2.2.2.2.2.1,())],()))else none else K (.inr (v.2.1,()))
theorem XG:Bg Kg:=fun i v R K=>Ae (Ac fun _=>Ac fun _=>Aq (Aa)) (Aa)
def Abe:Tmpl:=⟨(jk 2 (.ptr 0 0 0 (.ptr 1 0 0 (jk 17 (.slot (.slice Ad) (si 2 (jk 12 .nil))))))),(.cells 6 (.slot .bool (.const (AV.nils) (.const (AV.nils) (.const (AV.nils) (.const (AV.nils) (.slot .i .nil)))))) (.cells 6 (.slot .bool (.own 2 (.own 5 (.own 3 (.own 4 (.slot .i .nil)))))) (.tree false 0 (.slice Af) (.lst false A0 (.lst false A0 (.tree false 0 Ad .nil))))))⟩
def Aos:Exs Aow Aou:=x1 (.exit 0) fun i p=>⟨jn 2 (AV.ptr 0 none 0 0::AV.ptr 1 none 0 0::jn 32 ([])),[some (Cont.cells 6 [[AV.pv .bool i.2.2.1,AV.nils,AV.nils,AV.nils,AV.nils,AV.pv .i i.2.2.2.1]]),some (Cont.cells 6 [[AV.pv .bool i.2.2.2.2.1,AV.own 2 none none,AV.own 5 none none,AV.own 3 none none,AV.own 4 none none,AV.pv .i i.2.2.2.2.2.1]]),some (Cont.tree false 0 (.slice Af) i.2.2.2.2.2.2.1 none),some (Cont.lst false A0 i.2.2.2.2.2.2.2.1),some (Cont.lst false A0 i.2.2.2.2.2.2.2.2.1),some (Cont.tree false 0 Ad p.1 none)]⟩
def Aov:=((.i (.i (.v (.i (.i (.i (.i (.i (.i (.i (.v .n))))))))))):Pk Abe.ty _ _)
def qO:Cfg:={ti:=Aw,ents:=[XX,gU,VS,TM],ann:=[(3,Ao Abe 0 (spP Aov) Kg Aos.E)],lent:=0}
def OJ (x:A5×Unit):Option (Bool×Int×A7):=(P0 ((x.1.2.1.1,()),())).bind fun v=>(Cg (x.1.2.2.2.1,())).bind fun a=>(BP (x.1.2.2.2.2.1,())).bind fun b=>(AC (fun c=>Kg (x.1.2.2.1,(x.1.2.2.1.length:Int),false,0,x.1.1,x.1.2.2.2.2.2.1,v.1,a.1,b.1,()) c _ some) (0,[],())).bind fun p=>some (x.1.1,x.1.2.2.2.2.2.1,v.1,p.1,a.1,b.1,())
def XU:Ent:=⟨64,⟨(.slot D9 .nil),.nil⟩,⟨(.agg (.slot .bool (.own 0 (.own 1 (.own 2 (.own 3 (.slot .i .nil)))))) .nil),(.tree false 0 (.slice Af) (.tree false 0 Ad (.lst false A0 (.lst false A0 .nil))))⟩,OJ⟩
theorem dp:CfgOK Go.Proofs.Tryz.prog qO:=hcB (all_cons tz (all_cons iW (all_cons Z5 (all_cons iU all_nil))))
theorem Axz:B9 Go.Proofs.Tryz.prog qO (lpc Go.Proofs.Tryz.f64 0):=lkA dp Abe Aov Kg Aos [2,3] XG
theorem tk:Ai Go.Proofs.Tryz.prog XU:=okB dp Go.Proofs.Tryz.func64 Axz
def BL (x:B3):Option (Bool×Unit):=bif decide (x.2.1<=x.1)then some (decide (x.1<=x.2.2.1),())else some (false,())
def XA:Ent:=⟨130,⟨(si 3 .nil),.nil⟩,⟨(.slot .bool .nil),.nil⟩,BL⟩
theorem Sy:Ai Go.Proofs.Tryz.prog XA:=okA (hcA 0 all_nil) Go.Proofs.Tryz.func130
def Gc (x:Int×Unit):Option (Bool×Unit):=(BL (x.1,-1,99,())).bind fun v=>some (v.1,())
def XT:Ent:=⟨140,⟨(.slot .i .nil),.nil⟩,⟨(.slot .bool .nil),.nil⟩,Gc⟩
theorem iQ:Ai Go.Proofs.Tryz.prog XT:=okA (hcA 0 (all_cons Sy all_nil)) Go.Proofs.Tryz.func140
def BC (x:Int×Unit):Option (Bool×Unit):=(BL (x.1,1,9,())).bind fun v=>some (v.1,())
def XS:Ent:=⟨141,⟨(.slot .i .nil),.nil⟩,⟨(.slot .bool .nil),.nil⟩,BC⟩
theorem VD:Ai Go.Proofs.Tryz.prog XS:=okA (hcA 0 (all_cons Sy all_nil)) Go.Proofs.Tryz.func141
def O4 (x:A2×Unit):Option (Bool×Unit):=(Gc (x.1.2.1,())).bind fun v=>bif !v.1 then some (false,())else(BL (x.1.2.2.1,0,999,())).bind fun v=>bif !v.1 then some (false,())else(BL (x.1.2.2.2.1,x.1.2.2.1,999,())).bind fun v=>bif !v.1 then some (false,())else(BL (x.1.2.2.2.2.1,1,1000,())).bind fun v=>bif !v.1 then some (false,())else bif x.1.2.2.1==0 then bif x.1.1==0 then some (x.1.2.1==-1,())else some (false,())else(BC (x.1.1,())).bind fun v=>some (v.1,())
def XR:Ent:=⟨230,⟨(.slot Af .nil),.nil⟩,⟨(.slot .bool .nil),.nil⟩,O4⟩
theorem sV:Ai Go.Proofs.Tryz.prog XR:=okA (hcA 0 (all_cons iQ (all_cons Sy (all_cons VD all_nil)))) Go.Proofs.Tryz.func230
abbrev dm:=List A2×List A2×Int×Unit
abbrev dj:=Int×Unit
abbrev dk:=A2 ⊕ A2 ⊕ A2 ⊕ Unit
def KY (i:dm)(v:dj)(R:Type)(K:dj ⊕ dk->Option R):Option R:=bif decide (v.1<i.2.2.1)then(lAt i.2.1 v.1).bind fun a=>(O4 ((a.1,a.2.1,a.2.2.1,a.2.2.2.1,a.2.2.2.2.1,()),())).bind fun b=>bif !b.1 then K (.inr (.inl (a.1,a.2.1,a.2.2.1,a.2.2.2.1,a.2.2.2.2.1,())))else bif decide (v.1>0)then(lAt i.1 (IntKind.i64.wrap (v.1-1))).bind fun c=>bif decide (c.2.2.1>=a.2.2.1)then K (.inr (.inr (.inl (a.1,a.2.1,a.2.2.1,a.2.2.2.1,a.2.2.2.2.1,()))))else(lAt i.1 (IntKind.i64.wrap (v.1-1))).bind fun d=>bif decide (d.2.2.2.2.1>a.2.2.1)then K (.inr (.inr (.inr (.inl (a.1,a.2.1,a.2.2.1,a.2.2.2.1,a.2.2.2.2.1,())))))else K (.inl (IntKind.i64.wrap (v.1+1),()))else K (.inl (IntKind.i64.wrap (v.1+1),()))else K (.inr (.inr (.inr (.inr ()))))
theorem Zg:Bg KY:=fun i v R K=>Ae (Ac fun _=>Ac fun _=>Ae (Aa) (Ae (Ac fun _=>Ae (Aa) (Ac fun _=>Ae (Aa) (Aa))) (Aa))) (Aa)
def Wv:Tmpl:=⟨(.slot (.slice Af) (jk 4 (.slot (.slice Af) (si 2 (jk 47 .nil))))),.nil⟩
def di:Exs dm dk:=xs .ret (fun i p=>⟨AV.pv (.slice Af) i.1::jn 1 (.b (false)::jn 52 ([])),[some (Cont.cells 5 [[AV.pv .i p.1,AV.pv .i p.2.1,AV.pv .i p.2.2.1,AV.pv .i p.2.2.2.1,AV.pv .i p.2.2.2.2.1]])]⟩)<|xs .ret (fun i p=>⟨AV.pv (.slice Af) i.1::jn 1 (.b (false)::jn 52 ([])),[some (Cont.cells 5 [[AV.pv .i p.1,AV.pv .i p.2.1,AV.pv .i p.2.2.1,AV.pv .i p.2.2.2.1,AV.pv .i p.2.2.2.2.1]])]⟩)<|xs .ret (fun i p=>⟨AV.pv (.slice Af) i.1::jn 1 (.b (false)::jn 52 ([])),[some (Cont.cells 5 [[AV.pv .i p.1,AV.pv .i p.2.1,AV.pv .i p.2.2.1,AV.pv .i p.2.2.2.1,AV.pv .i p.2.2.2.2.1]])]⟩)<|x1 (.exit 0) fun i p=>⟨AV.pv (.slice Af) i.1::jn 54 ([]),[]⟩
def dl:=((.i (.i (.i (.v .n)))):Pk Wv.ty _ _)
def qN:Cfg:={ti:=Aw,ents:=[XR],ann:=[(2,Ao Wv 0 (spP dl) KY di.E)],lent:=0}
def Ni (x:List A2×Unit):Option (Bool×Unit):=(AC (fun v=>KY (x.1,x.1,(x.1.length:Int),()) v _ some) (0,())).bind fun p=>Az p (fun p=>some (false,())) fun p=>Az p (fun p=>some (false,())) fun p=>Az p (fun p=>some (false,())) fun p=>bif decide ((x.1.length:Int)>0)then(lAt x.1 (IntKind.i64.wrap ((x.1.length:Int)-1))).bind fun v=>some (v.2.2.2.2.1==1000,())else some (false,())
def kp:Ent:=⟨191,⟨(.slot (.slice Af) .nil),.nil⟩,⟨(.slot .bool .nil),.nil⟩,Ni⟩
theorem dn:CfgOK Go.Proofs.Tryz.prog qN:=hcB (all_cons sV all_nil)
theorem ko:B9 Go.Proofs.Tryz.prog qN (lpc Go.Proofs.Tryz.f191 0):=lkA dn Wv dl KY di [0,2] Zg
theorem sU:Ai Go.Proofs.Tryz.prog kp:=okB dn Go.Proofs.Tryz.func191 ko
def O5 (x:List A2×Unit):Option (Bool×Unit):=(Ni (x.1,())).bind fun v=>bif !v.1 then some (true,())else some (decide ((x.1.length:Int)>50),())
def XQ:Ent:=⟨190,⟨(.slot (.slice Af) .nil),.nil⟩,⟨(.slot .bool .nil),.nil⟩,O5⟩
theorem sS:Ai Go.Proofs.Tryz.prog XQ:=okA (hcA 0 (all_cons sU all_nil)) Go.Proofs.Tryz.func190
abbrev Aoq:=List (List A2)×Unit×Int×Unit
abbrev Aon:=Int×Unit
abbrev Aoo:=Int×Unit ⊕ Unit
def DS (i:Aoq)(v:Aon)(R:Type)(K:Aon ⊕ Aoo->Option R):Option R:=bif decide (v.1<i.2.2.1)then(lAt i.1 v.1).bind fun a=>(O5 (a,())).bind fun b=>bif b.1 then K (.inr (.inl (v.1,())))else K (.inl (IntKind.i64.wrap (v.1+1),()))else K (.inr (.inr ()))
theorem P6:Bg DS:=fun i v R K=>Ae (Ac fun _=>Ac fun _=>Ae (Aa) (Aa)) (Aa)
def Abd:Tmpl:=⟨(.slot (.slice (.slice Af)) (.slot (.fn 190 .unit) (jk 5 (si 2 (jk 10 .nil))))),.nil⟩
def Aom:Exs Aoq Aoo:=xs .ret (fun i p=>⟨jn 4 (.n (p.1)::jn 14 ([])),[]⟩)<|x1 (.exit 0) fun i p=>⟨jn 19 ([]),[]⟩
def Aop:=((.i (.i (.i (.v .n)))):Pk Abd.ty _ _)
def AAb:Cfg:={ti:=Aw,ents:=[XQ],ann:=[(2,Ao Abd 0 (spP Aop) DS Aom.E)],lent:=0}
def JA (x:List (List A2)×Unit×Unit):Option (Int×Unit):=(AC (fun v=>DS (x.1,x.2.1,(x.1.length:Int),()) v _ some) (0,())).bind fun p=>Az p (fun p=>some (p.1,())) fun p=>some (-1,())
def km:Ent:=⟨229,⟨(.slot (.slice (.slice Af)) (.slot (.fn 190 .unit) .nil)),.nil⟩,⟨(.slot .i .nil),.nil⟩,JA⟩
theorem Aor:CfgOK Go.Proofs.Tryz.prog AAb:=hcB (all_cons sS all_nil)
theorem Axy:B9 Go.Proofs.Tryz.prog AAb (lpc Go.Proofs.Tryz.f229 0):=lkA Aor Abd Aop DS Aom [4] P6
theorem iO:Ai Go.Proofs.Tryz.prog km:=okB Aor Go.Proofs.Tryz.func229 Axy
def J6 (x:List (List A2)×Unit×Unit):Option (Bool×Unit):=(JA (x.1,x.2.1,())).bind fun v=>some (decide (v.1>=0),())
def VR:Ent:=⟨189,⟨(.slot (.slice (.slice Af)) (.slot (.fn 190 .unit) .nil)),.nil⟩,⟨(.slot .bool .nil),.nil⟩,J6⟩
theorem iM:Ai Go.Proofs.Tryz.prog VR:=okA (hcA 0 (all_cons iO all_nil)) Go.Proofs.Tryz.func189
def P3 (x:A4×Unit):Option (Bool×Unit):=bif (x.1.1.length:Int)==6 then(J6 (x.1.1,(),())).bind fun v=>some (!v.1,())else some (false,())
def aB:Ent:=⟨127,⟨(.slot Bp .nil),.nil⟩,⟨(.slot .bool .nil),.nil⟩,P3⟩
theorem sP:Ai Go.Proofs.Tryz.prog aB:=okA (hcA 0 (all_cons iM all_nil)) Go.Proofs.Tryz.func127
def Dl (x:Int×Unit):Option (Bool×Unit):=(BL (x.1,0,5,())).bind fun v=>some (v.1,())
def UC:Ent:=⟨139,⟨(.slot .i .nil),.nil⟩,⟨(.slot .bool .nil),.nil⟩,Dl⟩
theorem Wd:Ai Go.Proofs.Tryz.prog UC:=okA (hcA 0 (all_cons Sy all_nil)) Go.Proofs.Tryz.func139
abbrev Ao2:=List A1×List A1×Int×Unit
abbrev Anz:=Int×Unit
abbrev Ao0:=Int×Int×Unit ⊕ Int×Int×Unit ⊕ Int×Int×Unit ⊕ Unit
def Eh (i:Ao2)(v:Anz)(R:Type)(K:Anz ⊕ Ao0->Option R):Option R:=bif decide (v.1<i.2.2.1)then(lAt i.2.1 v.1).bind fun a=>(Dl (a.1,())).bind fun b=>bif !b.1 then K (.inr (.inl (a.1,a.2.1,())))else(BC (a.2.1,())).bind fun c=>bif !c.1 then K (.inr (.inr (.inl (a.1,a.2.1,()))))else bif decide (v.1>0)then(lAt i.1 (IntKind.i64.wrap (v.1-1))).bind fun d=>bif decide (d.1>=a.1)then K (.inr (.inr (.inr (.inl (a.1,a.2.1,())))))else K (.inl (IntKind.i64.wrap (v.1+1),()))else K (.inl (IntKind.i64.wrap (v.1+1),()))else K (.inr (.inr (.inr (.inr ()))))
theorem Mx:Bg Eh:=fun i v R K=>Ae (Ac fun _=>Ac fun _=>Ae (Aa) (Ac fun _=>Ae (Aa) (Ae (Ac fun _=>Ae (Aa) (Aa)) (Aa)))) (Aa)
def A6s:Tmpl:=⟨(.slot (.slice A0) (jk 4 (.slot (.slice A0) (si 2 (jk 30 .nil))))),.nil⟩
def Any:Exs Ao2 Ao0:=xs .ret (fun i p=>⟨jn 2 (.b (false)::jn 35 ([])),[some (Cont.cells 2 [[AV.pv .i p.1,AV.pv .i p.2.1]])]⟩)<|xs .ret (fun i p=>⟨jn 2 (.b (false)::jn 35 ([])),[some (Cont.cells 2 [[AV.pv .i p.1,AV.pv .i p.2.1]])]⟩)<|xs .ret (fun i p=>⟨jn 2 (.b (false)::jn 35 ([])),[some (Cont.cells 2 [[AV.pv .i p.1,AV.pv .i p.2.1]])]⟩)<|x1 (.exit 0) fun i p=>⟨jn 38 ([]),[]⟩
def Ao1:=((.i (.i (.i (.v .n)))):Pk A6s.ty _ _)
def Axg:Cfg:={ti:=Aw,ents:=[UC,XS],ann:=[(2,Ao A6s 0 (spP Ao1) Eh Any.E)],lent:=0}
def Eu (x:List A1×Unit):Option (Bool×Unit):=(AC (fun v=>Eh (x.1,x.1,(x.1.length:Int),()) v _ some) (0,())).bind fun p=>Az p (fun p=>some (false,())) fun p=>Az p (fun p=>some (false,())) fun p=>Az p (fun p=>some (false,())) fun p=>some (true,())
def WQ:Ent:=⟨128,⟨(.slot (.slice A0) .nil),.nil⟩,⟨(.slot .bool .nil),.nil⟩,Eu⟩
theorem Ao3:CfgOK Go.Proofs.Tryz.prog Axg:=hcB (all_cons Wd (all_cons VD all_nil))
theorem Axf:B9 Go.Proofs.Tryz.prog Axg (lpc Go.Proofs.Tryz.f128 0):=lkA Ao3 A6s Ao1 Eh Any [2] Mx
theorem ib:Ai Go.Proofs.Tryz.prog WQ:=okB Ao3 Go.Proofs.Tryz.func128 Axf
abbrev Anw:=List A1×List A1×Int×Unit
abbrev Ant:=Int×Unit
abbrev Anu:=Int×Int×Unit ⊕ Int×Int×Unit ⊕ Int×Int×Unit ⊕ Int×Int×Unit ⊕ Unit
def Eg (i:Anw)(v:Ant)(R:Type)(K:Ant ⊕ Anu->Option R):Option R:=bif decide (v.1<i.2.2.1)then(lAt i.2.1 v.1).bind fun a=>(BC (a.1,())).bind fun b=>bif !b.1 then K (.inr (.inl (a.1,a.2.1,())))else(BC (a.2.1,())).bind fun c=>bif !c.1 then K (.inr (.inr (.inl (a.1,a.2.1,()))))else bif a.1==a.2.1 then K (.inr (.inr (.inr (.inl (a.1,a.2.1,())))))else bif decide (v.1>0)then(lAt i.1 (IntKind.i64.wrap (v.1-1))).bind fun d=>bif decide (d.1>=a.1)then K (.inr (.inr (.inr (.inr (.inl (a.1,a.2.1,()))))))else K (.inl (IntKind.i64.wrap (v.1+1),()))else K (.inl (IntKind.i64.wrap (v.1+1),()))else K (.inr (.inr (.inr (.inr (.inr ())))))
theorem Mw:Bg Eg:=fun i v R K=>Ae (Ac fun _=>Ac fun _=>Ae (Aa) (Ac fun _=>Ae (Aa) (Ae (Aa) (Ae (Ac fun _=>Ae (Aa) (Aa)) (Aa))))) (Aa)
def A6r:Tmpl:=⟨(.slot (.slice A0) (jk 4 (.slot (.slice A0) (si 2 (jk 37 .nil))))),.nil⟩
def Ans:Exs Anw Anu:=xs .ret (fun i p=>⟨jn 2 (.b (false)::jn 42 ([])),[some (Cont.cells 2 [[AV.pv .i p.1,AV.pv .i p.2.1]])]⟩)<|xs .ret (fun i p=>⟨jn 2 (.b (false)::jn 42 ([])),[some (Cont.cells 2 [[AV.pv .i p.1,AV.pv .i p.2.1]])]⟩)<|xs .ret (fun i p=>⟨jn 2 (.b (false)::jn 42 ([])),[some (Cont.cells 2 [[AV.pv .i p.1,AV.pv .i p.2.1]])]⟩)<|xs .ret (fun i p=>⟨jn 2 (.b (false)::jn 42 ([])),[some (Cont.cells 2 [[AV.pv .i p.1,AV.pv .i p.2.1]])]⟩)<|x1 (.exit 0) fun i p=>⟨jn 45 ([]),[]⟩
def Anv:=((.i (.i (.i (.v .n)))):Pk A6r.ty _ _)
def Axe:Cfg:={ti:=Aw,ents:=[XS],ann:=[(2,Ao A6r 0 (spP Anv) Eg Ans.E)],lent:=0}
def Dn (x:List A1×Unit):Option (Bool×Unit):=(AC (fun v=>Eg (x.1,x.1,(x.1.length:Int),()) v _ some) (0,())).bind fun p=>Az p (fun p=>some (false,())) fun p=>Az p (fun p=>some (false,())) fun p=>Az p (fun p=>some (false,())) fun p=>Az p (fun p=>some (false,())) fun p=>some (true,())
def Rl:Ent:=⟨129,⟨(.slot (.slice A0) .nil),.nil⟩,⟨(.slot .bool .nil),.nil⟩,Dn⟩
theorem Anx:CfgOK Go.Proofs.Tryz.prog Axe:=hcB (all_cons VD all_nil)
theorem Axd:B9 Go.Proofs.Tryz.prog Axe (lpc Go.Proofs.Tryz.f129 0):=lkA Anx A6r Anv Eg Ans [2] Mw
theorem Wc:Ai Go.Proofs.Tryz.prog Rl:=okB Anx Go.Proofs.Tryz.func129 Axd
abbrev Anq:=List (List A2)×Int×Int×List A2×Int×Unit
abbrev Ank:=Int×Int×Unit
abbrev Anm:=Int×Unit
def JC (i:Anq)(v:Ank)(R:Type)(K:Ank ⊕ Anm->Option R):Option R:=bif decide (v.2.1<i.2.2.2.2.1)then(lAt i.2.2.2.1 v.2.1).bind fun a=>K (.inl (mx v.1 a.2.2.2.1,IntKind.i64.wrap (v.2.1+1),()))else K (.inr (v.1,()))
theorem Wi:Bg JC:=fun i v R K=>Ae (Ac fun _=>Aa) (Aa)
def A6p:Tmpl:=⟨(jk 3 (.slot .i (jk 5 (.slot (.slice (.slice Af)) (si 2 (jk 3 (.slot (.slice Af) (si 2 (jk 10 .nil))))))))),.nil⟩
def Ani:Exs Anq Anm:=x1 (.exit 2) fun i p=>⟨jn 3 (.n (p.1)::jn 5 (AV.pv (.slice (.slice Af)) i.1::.n (i.2.1)::.n (i.2.2.1)::jn 16 ([]))),[]⟩
def Ano:=((.v (.i (.i (.i (.i (.i (.v .n))))))):Pk A6p.ty _ _)
abbrev Anr:=List (List A2)×Int×Unit
abbrev Anl:=Int×Int×Unit
abbrev Ann:=Int×Unit
def JD (i:Anr)(v:Anl)(R:Type)(K:Anl ⊕ Ann->Option R):Option R:=bif decide (v.2.1<i.2.1)then(lAt i.1 v.2.1).bind fun a=>(AC (fun b=>JC (i.1,i.2.1,v.2.1,a,(a.length:Int),()) b _ some) (v.1,0,())).bind fun p=>K (.inl (p.1,IntKind.i64.wrap (v.2.1+1),()))else K (.inr (v.1,()))
theorem Wj:Bg JD:=fun i v R K=>Ae (Ac fun _=>Ac fun _=>Aa) (Aa)
def A6q:Tmpl:=⟨(jk 3 (.slot .i (jk 5 (.slot (.slice (.slice Af)) (si 2 (jk 16 .nil)))))),.nil⟩
def Anj:Exs Anr Ann:=x1 (.exit 0) fun i p=>⟨jn 3 (.n (p.1)::jn 24 ([])),[]⟩
def Anp:=((.v (.i (.i (.v .n)))):Pk A6q.ty _ _)
def bP:Cfg:={ti:=Aw,ents:=[],ann:=[(6,Ao A6p 0 (spP Ano) JC Ani.E),(3,Ao A6q 0 (spP Anp) JD Anj.E)],lent:=0}
def Np (x:A4×Unit):Option (Int×Unit):=(AC (fun v=>JD (x.1.1,(x.1.1.length:Int),()) v _ some) (0,0,())).bind fun p=>some (p.1,())
def WP:Ent:=⟨131,⟨(.slot Bp .nil),.nil⟩,⟨(.slot .i .nil),.nil⟩,Np⟩
theorem Wb:CfgOK Go.Proofs.Tryz.prog bP:=hcB all_nil
theorem Aai:B9 Go.Proofs.Tryz.prog bP (lpc Go.Proofs.Tryz.f131 1):=lkA Wb A6p Ano JC Ani [3,9,10,11] Wi
theorem Axc:B9 Go.Proofs.Tryz.prog bP (lpc Go.Proofs.Tryz.f131 0):=lkB Wb A6q Anp JD Anj [3] Wj Aai
theorem pd:Ai Go.Proofs.Tryz.prog WP:=okC Wb Go.Proofs.Tryz.func131 Axc Aai
def ER (x:Int×Unit):Option (Bool×Unit):=(BL (x.1,1,4,())).bind fun v=>some (v.1,())
def fj:Ent:=⟨138,⟨(.slot .i .nil),.nil⟩,⟨(.slot .bool .nil),.nil⟩,ER⟩
theorem ia:Ai Go.Proofs.Tryz.prog fj:=okA (hcA 0 (all_cons Sy all_nil)) Go.Proofs.Tryz.func138
def JT (x:Int×Unit):Option (Bool×Unit):=(BL (x.1,1,999,())).bind fun v=>some (v.1,())
def WO:Ent:=⟨231,⟨(.slot .i .nil),.nil⟩,⟨(.slot .bool .nil),.nil⟩,JT⟩
theorem p0:Ai Go.Proofs.Tryz.prog WO:=okA (hcA 0 (all_cons Sy all_nil)) Go.Proofs.Tryz.func231
def Hr (x:Int×Unit):Option (Bool×Unit):=some (x.1 != x.1,())
def WN:Ent:=⟨237,⟨(.slot .i .nil),.nil⟩,⟨(.slot .bool .nil),.nil⟩,Hr⟩
theorem bM:Ai Go.Proofs.Tryz.prog WN:=okA (hcA 0 all_nil) Go.Proofs.Tryz.func237
def BO (x:Int×Int×Unit):Option (Int×Unit):=(Hr (x.1,())).bind fun v=>(Hr (x.2.1,())).bind fun a=>bif v.1 then bif a.1 then some (0,())else some (-1,())else bif a.1 then some (1,())else bif decide (x.1<x.2.1)then some (-1,())else bif decide (x.1>x.2.1)then some (1,())else some (0,())
def Pa:Ent:=⟨198,⟨(si 2 .nil),.nil⟩,⟨(.slot .i .nil),.nil⟩,BO⟩
theorem PL:Ai Go.Proofs.Tryz.prog Pa:=okA (hcA 0 (all_cons bM all_nil)) Go.Proofs.Tryz.func198
abbrev Yu:=Int×List Int×Int×Unit
abbrev Yr:=Int×Unit
abbrev Ys:=Int×Unit ⊕ Unit
def CO (i:Yu)(v:Yr)(R:Type)(K:Yr ⊕ Ys->Option R):Option R:=bif decide (v.1<i.2.2.1)then(lAt i.2.1 v.1).bind fun a=>bif a != i.1 then K (.inr (.inl (a,())))else K (.inl (IntKind.i64.wrap (v.1+1),()))else K (.inr (.inr ()))
theorem OQ:Bg CO:=fun i v R K=>Ae (Ac fun _=>Ae (Aa) (Aa)) (Aa)
def SL:Tmpl:=⟨(jk 3 (.slot .i (jk 2 (.slot (.slice .i) (si 2 (jk 9 .nil)))))),.nil⟩
def Yq:Exs Yu Ys:=xs .ret (fun i p=>⟨jn 2 (.n (p.1)::.n (i.1)::jn 14 ([])),[]⟩)<|x1 (.exit 0) fun i p=>⟨jn 3 (.n (i.1)::jn 14 ([])),[]⟩
def Yt:=((.i (.i (.i (.v .n)))):Pk SL.ty _ _)
def fi:Cfg:={ti:=Aw,ents:=[],ann:=[(3,Ao SL 0 (spP Yt) CO Yq.E)],lent:=0}
def Jy (x:List Int×Unit):Option (Int×Unit):=(AC (fun v=>CO (0,x.1,(x.1.length:Int),()) v _ some) (0,())).bind fun p=>Az p (fun p=>some (p.1,())) fun p=>some (0,())
def WM:Ent:=⟨284,⟨(.slot (.slice .i) .nil),.nil⟩,⟨(.slot .i .nil),.nil⟩,Jy⟩
theorem Yv:CfgOK Go.Proofs.Tryz.prog fi:=hcB all_nil
theorem fh:B9 Go.Proofs.Tryz.prog fi (lpc Go.Proofs.Tryz.f284 0):=lkA Yv SL Yt CO Yq [2,3] OQ
theorem oZ:Ai Go.Proofs.Tryz.prog WM:=okB Yv Go.Proofs.Tryz.func284 fh
def BI (x:A1×A1×Unit):Option (Int×Unit):=(BO (x.1.1,x.2.1.1,())).bind fun v=>(BO (x.1.2.1,x.2.1.2.1,())).bind fun a=>(Jy ([v.1,a.1],())).bind fun v=>some (v.1,())
def SK:Ent:=⟨265,⟨(.slot A0 (.slot A0 .nil)),.nil⟩,⟨(.slot .i .nil),.nil⟩,BI⟩
theorem i9:Ai Go.Proofs.Tryz.prog SK:=okA (hcA 0 (all_cons PL (all_cons oZ all_nil))) Go.Proofs.Tryz.func265
abbrev Ang:=List A1×List A1×Int×Unit
abbrev Anb:=Int×Unit
abbrev Ane:=Int×Int×Unit ⊕ Int×Int×Unit ⊕ Int×Int×Unit ⊕ Unit
def Ef (i:Ang)(v:Anb)(R:Type)(K:Anb ⊕ Ane->Option R):Option R:=bif decide (v.1<i.2.2.1)then(lAt i.2.1 v.1).bind fun a=>(Dl (a.1,())).bind fun b=>bif !b.1 then K (.inr (.inl (a.1,a.2.1,())))else(BL (a.2.1,0,999,())).bind fun c=>bif !c.1 then K (.inr (.inr (.inl (a.1,a.2.1,()))))else bif decide (v.1>0)then(lAt i.1 (IntKind.i64.wrap (v.1-1))).bind fun d=>(BI ((d.1,d.2.1,()),(a.1,a.2.1,()),())).bind fun e=>bif decide (e.1>=0)then K (.inr (.inr (.inr (.inl (a.1,a.2.1,())))))else K (.inl (IntKind.i64.wrap (v.1+1),()))else K (.inl (IntKind.i64.wrap (v.1+1),()))else K (.inr (.inr (.inr (.inr ()))))
theorem Mv:Bg Ef:=fun i v R K=>Ae (Ac fun _=>Ac fun _=>Ae (Aa) (Ac fun _=>Ae (Aa) (Ae (Ac fun _=>Ac fun _=>Ae (Aa) (Aa)) (Aa)))) (Aa)
def A6m:Tmpl:=⟨(.slot (.slice A0) (jk 4 (.slot (.slice A0) (si 2 (jk 32 .nil))))),.nil⟩
def Ana:Exs Ang Ane:=xs .ret (fun i p=>⟨AV.pv (.slice A0) i.1::jn 1 (.b (false)::jn 37 ([])),[some (Cont.cells 2 [[AV.pv .i p.1,AV.pv .i p.2.1]])]⟩)<|xs .ret (fun i p=>⟨AV.pv (.slice A0) i.1::jn 1 (.b (false)::jn 37 ([])),[some (Cont.cells 2 [[AV.pv .i p.1,AV.pv .i p.2.1]])]⟩)<|xs .ret (fun i p=>⟨AV.pv (.slice A0) i.1::jn 1 (.b (false)::jn 37 ([])),[some (Cont.cells 2 [[AV.pv .i p.1,AV.pv .i p.2.1]])]⟩)<|x1 (.exit 0) fun i p=>⟨AV.pv (.slice A0) i.1::jn 39 ([]),[]⟩
def Anf:=((.i (.i (.i (.v .n)))):Pk A6m.ty _ _)
def A6n:Cfg:={ti:=Aw,ents:=[UC,XA,SK],ann:=[(2,Ao A6m 0 (spP Anf) Ef Ana.E)],lent:=0}
def D6 (x:List A1×Unit):Option (Bool×Unit):=(AC (fun v=>Ef (x.1,x.1,(x.1.length:Int),()) v _ some) (0,())).bind fun p=>Az p (fun p=>some (false,())) fun p=>Az p (fun p=>some (false,())) fun p=>Az p (fun p=>some (false,())) fun p=>some (decide ((x.1.length:Int)<=60),())
def WL:Ent:=⟨232,⟨(.slot (.slice A0) .nil),.nil⟩,⟨(.slot .bool .nil),.nil⟩,D6⟩
theorem Anh:CfgOK Go.Proofs.Tryz.prog A6n:=hcB (all_cons Wd (all_cons Sy (all_cons i9 all_nil)))
theorem Axb:B9 Go.Proofs.Tryz.prog A6n (lpc Go.Proofs.Tryz.f232 0):=lkA Anh A6m Anf Ef Ana [0,2] Mv
theorem oY:Ai Go.Proofs.Tryz.prog WL:=okB Anh Go.Proofs.Tryz.func232 Axb
end
end Go.Ab
