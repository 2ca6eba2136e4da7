import Derived.Test.YtchkllapojehpaaGreatHp
set_option linter.all false
set_option maxRecDepth 100000
namespace Go.Ab
noncomputable section
def HJ (x:List A2×Int×Unit):Option (Int×Unit):=bif decide (IntKind.i64.wrap (x.2.1-(x.1.length:Int))<0)then some (-1,())else some (IntKind.i64.wrap (x.2.1-(x.1.length:Int)),())
def uC:Ent:=⟨166,⟨(.slot (.slice Ae) (.slot .i .nil)),.nil⟩,⟨(.slot .i .nil),.nil⟩,HJ⟩
theorem A6x:Ah Go.Proofs.Tryz.prog uC:=okA (hcA 0 all_nil) Go.Proofs.Tryz.func166
abbrev A2g:=List (List A2)×Unit
abbrev A2d:=Int×Int×Unit
abbrev A2e:=Int×Unit ⊕ Int×Unit
def Gn (i:A2g)(v:A2d)(R:Type)(K:A2d ⊕ A2e->Option R):Option R:=bif decide (v.2.1<(i.1.length:Int))then(lAt i.1 v.2.1).bind fun a=>(HJ (a,v.1,())).bind fun b=>bif decide (b.1<0)then K (.inr (.inl (b.1,())))else K (.inl (b.1,IntKind.i64.wrap (v.2.1+1),()))else K (.inr (.inr (v.1,())))
theorem LM:Bi Gn:=fun i v R K=>Af (Ac fun _=>Ac fun _=>Af (Aa) (Aa)) (Aa)
def rP:Tmpl:=⟨(.slot (.slice (.slice Ae)) (.slot .i (jk 3 (.slot .i (jk 21 .nil))))),.nil⟩
def A2c:Exs A2g A2e:=xs .ret (fun i p=>⟨jn 1 (.n (p.1)::jn 2 (.n (-1)::jn 22 ([]))),[]⟩)<|x1 (.exit 0) fun i p=>⟨jn 1 (.n (p.1)::jn 25 ([])),[]⟩
def A2f:=((.i (.v (.v .n))):Pk rP.ty _ _)
def A6w:Cfg:={ti:=Au,ents:=[uC],ann:=[(5,Ao rP 0 (spP A2f) Gn A2c.E)],lent:=0}
def IL (x:List (List A2)×Int×Unit):Option (Int×Unit):=bif decide (IntKind.i64.wrap (x.2.1-(x.1.length:Int))<0)then some (-1,())else(AE (fun v=>Gn (x.1,()) v _ some) (IntKind.i64.wrap (x.2.1-(x.1.length:Int)),0,())).bind fun p=>Az p (fun p=>some (-1,())) fun p=>some (p.1,())
def A4o:Ent:=⟨92,⟨(.slot (.slice (.slice Ae)) (.slot .i .nil)),.nil⟩,⟨(.slot .i .nil),.nil⟩,IL⟩
theorem A2h:CfgOK Go.Proofs.Tryz.prog A6w:=hcB (all_cons A6x all_nil)
theorem A4n:B7 Go.Proofs.Tryz.prog A6w (lpc Go.Proofs.Tryz.f92 0):=lkA A2h rP A2f Gn A2c [1,4] LM
theorem A6v:Ah Go.Proofs.Tryz.prog A4o:=okB A2h Go.Proofs.Tryz.func92 A4n
def KM (x:A4×Int×Unit):Option (Int×Unit):=(IL (x.1.1,x.2.1,())).bind fun v=>bif decide (v.1<0)then some (-1,())else some (v.1,())
def A4c:Ent:=⟨45,⟨(.slot Bo (.slot .i .nil)),.nil⟩,⟨(.slot .i .nil),.nil⟩,KM⟩
theorem A6u:Ah Go.Proofs.Tryz.prog A4c:=okA (hcA 0 (all_cons A6v all_nil)) Go.Proofs.Tryz.func45
def IM (x:List A1×Int×Unit):Option (Int×Unit):=bif decide (IntKind.i64.wrap (x.2.1-(x.1.length:Int))<0)then some (-1,())else some (IntKind.i64.wrap (x.2.1-(x.1.length:Int)),())
def A4a:Ent:=⟨167,⟨(.slot (.slice A0) (.slot .i .nil)),.nil⟩,⟨(.slot .i .nil),.nil⟩,IM⟩
theorem A6t:Ah Go.Proofs.Tryz.prog A4a:=okA (hcA 0 all_nil) Go.Proofs.Tryz.func167
def Ke (x:List A1×Int×Unit):Option (Int×Unit):=bif decide (IntKind.i64.wrap (x.2.1-(x.1.length:Int))<0)then some (-1,())else some (IntKind.i64.wrap (x.2.1-(x.1.length:Int)),())
def A43:Ent:=⟨168,⟨(.slot (.slice A0) (.slot .i .nil)),.nil⟩,⟨(.slot .i .nil),.nil⟩,Ke⟩
theorem A6s:Ah Go.Proofs.Tryz.prog A43:=okA (hcA 0 all_nil) Go.Proofs.Tryz.func168
def G0 (x:A3×Int×Unit):Option (Int×Unit):=(IM (x.1.2.2.2.2.2.2.2.1,x.2.1,())).bind fun v=>bif decide (v.1<0)then some (-1,())else(Ke (x.1.2.2.2.2.2.2.2.2.1,v.1,())).bind fun v=>bif decide (v.1<0)then some (-1,())else some (v.1,())
def nJ:Ent:=⟨93,⟨(.slot Ad (.slot .i .nil)),.nil⟩,⟨(.slot .i .nil),.nil⟩,G0⟩
theorem A6q:Ah Go.Proofs.Tryz.prog nJ:=okA (hcA 0 (all_cons A6t (all_cons A6s all_nil))) Go.Proofs.Tryz.func93
abbrev A1n:=List A3×Unit
abbrev A1k:=Int×Int×Unit
abbrev A1l:=Int×Unit ⊕ Int×Unit
def EF (i:A1n)(v:A1k)(R:Type)(K:A1k ⊕ A1l->Option R):Option R:=bif decide (v.2.1<(i.1.length:Int))then(lAt i.1 v.2.1).bind fun a=>(G0 ((a.1,a.2.1,a.2.2.1,a.2.2.2.1,a.2.2.2.2.1,a.2.2.2.2.2.1,a.2.2.2.2.2.2.1,a.2.2.2.2.2.2.2.1,a.2.2.2.2.2.2.2.2.1,()),v.1,())).bind fun b=>bif decide (b.1<0)then K (.inr (.inl (b.1,())))else K (.inl (b.1,IntKind.i64.wrap (v.2.1+1),()))else K (.inr (.inr (v.1,())))
theorem KL:Bi EF:=fun i v R K=>Af (Ac fun _=>Ac fun _=>Af (Aa) (Aa)) (Aa)
def mO:Tmpl:=⟨(.slot (.slice Ad) (.slot .i (jk 3 (.slot .i (jk 21 .nil))))),.nil⟩
def A1j:Exs A1n A1l:=xs .ret (fun i p=>⟨jn 1 (.n (p.1)::jn 2 (.n (-1)::jn 22 ([]))),[]⟩)<|x1 (.exit 0) fun i p=>⟨jn 1 (.n (p.1)::jn 25 ([])),[]⟩
def A1m:=((.i (.v (.v .n))):Pk mO.ty _ _)
def A6p:Cfg:={ti:=Au,ents:=[nJ],ann:=[(5,Ao mO 0 (spP A1m) EF A1j.E)],lent:=0}
def Fl (x:List A3×Int×Unit):Option (Int×Unit):=bif decide (IntKind.i64.wrap (x.2.1-(x.1.length:Int))<0)then some (-1,())else(AE (fun v=>EF (x.1,()) v _ some) (IntKind.i64.wrap (x.2.1-(x.1.length:Int)),0,())).bind fun p=>Az p (fun p=>some (-1,())) fun p=>some (p.1,())
def A3n:Ent:=⟨46,⟨(.slot (.slice Ad) (.slot .i .nil)),.nil⟩,⟨(.slot .i .nil),.nil⟩,Fl⟩
theorem A1o:CfgOK Go.Proofs.Tryz.prog A6p:=hcB (all_cons A6q all_nil)
theorem A3m:B7 Go.Proofs.Tryz.prog A6p (lpc Go.Proofs.Tryz.f46 0):=lkA A1o mO A1m EF A1j [1,4] KL
theorem A6o:Ah Go.Proofs.Tryz.prog A3n:=okB A1o Go.Proofs.Tryz.func46 A3m
def Jf (x:List A1×Int×Unit):Option (Int×Unit):=bif decide (IntKind.i64.wrap (x.2.1-(x.1.length:Int))<0)then some (-1,())else some (IntKind.i64.wrap (x.2.1-(x.1.length:Int)),())
def A3f:Ent:=⟨47,⟨(.slot (.slice A0) (.slot .i .nil)),.nil⟩,⟨(.slot .i .nil),.nil⟩,Jf⟩
theorem A6l:Ah Go.Proofs.Tryz.prog A3f:=okA (hcA 0 all_nil) Go.Proofs.Tryz.func47
def Je (x:List A1×Int×Unit):Option (Int×Unit):=bif decide (IntKind.i64.wrap (x.2.1-(x.1.length:Int))<0)then some (-1,())else some (IntKind.i64.wrap (x.2.1-(x.1.length:Int)),())
def A38:Ent:=⟨48,⟨(.slot (.slice A0) (.slot .i .nil)),.nil⟩,⟨(.slot .i .nil),.nil⟩,Je⟩
theorem A6i:Ah Go.Proofs.Tryz.prog A38:=okA (hcA 0 all_nil) Go.Proofs.Tryz.func48
def Kf (x:A5×Int×Unit):Option (Int×Unit):=(KM ((x.1.2.1.1,()),x.2.1,())).bind fun v=>bif decide (v.1<0)then some (-1,())else(Fl (x.1.2.2.1,v.1,())).bind fun v=>bif decide (v.1<0)then some (-1,())else(Jf (x.1.2.2.2.1,v.1,())).bind fun v=>bif decide (v.1<0)then some (-1,())else(Je (x.1.2.2.2.2.1,v.1,())).bind fun v=>bif decide (v.1<0)then some (-1,())else some (v.1,())
def A30:Ent:=⟨9,⟨(.slot C1 (.slot .i .nil)),.nil⟩,⟨(.slot .i .nil),.nil⟩,Kf⟩
theorem A6h:Ah Go.Proofs.Tryz.prog A30:=okA (hcA 0 (all_cons A6u (all_cons A6o (all_cons A6l (all_cons A6i all_nil))))) Go.Proofs.Tryz.func9
def JF (x:A2×Unit):Option A2:=some (x.1.1,x.1.2.1,x.1.2.2.1,x.1.2.2.2.1,x.1.2.2.2.2.1,())
def iL:Ent:=⟨226,⟨(.slot Ae .nil),.nil⟩,⟨(.agg (si 5 .nil) .nil),.nil⟩,JF⟩
theorem A59:Ah Go.Proofs.Tryz.prog iL:=okA (hcA 0 all_nil) Go.Proofs.Tryz.func226
abbrev tX:=List A2×Unit
abbrev tU:=Int×List A2×Unit
abbrev tV:=List A2×Unit
def DU (i:tX)(v:tU)(R:Type)(K:tU ⊕ tV->Option R):Option R:=bif decide (v.1<(i.1.length:Int))then(lAt i.1 v.1).bind fun a=>(JF ((a.1,a.2.1,a.2.2.1,a.2.2.2.1,a.2.2.2.2.1,()),())).bind fun b=>if 0<=v.1/\v.1<(v.2.1.length:Int)then v.2.1[0+v.1.toNat]?.bind fun c=>K (.inl (IntKind.i64.wrap (v.1+1),v.2.1.set (0+v.1.toNat) (b.1,b.2.1,b.2.2.1,b.2.2.2.1,b.2.2.2.2.1,()),()))else none else K (.inr (v.2.1,()))
theorem Mg:Bi DU:=fun i v R K=>Af (Ac fun _=>Ac fun _=>Ay (Ac fun _=>Aa)) (Aa)
def Yn:Tmpl:=⟨(.slot (.slice Ae) (jk 2 (.own 0 (.slot .i (jk 18 .nil))))),(.lst false Ae .nil)⟩
def tT:Exs tX tV:=x1 (.exit 0) fun i p=>⟨jn 3 (AV.own 0 none none::jn 19 ([])),[some (Cont.lst false Ae p.1)]⟩
def tW:=((.i (.v (.v .n))):Pk Yn.ty _ _)
def A2m:Cfg:={ti:=Au,ents:=[iL],ann:=[(3,Ao Yn 0 (spP tW) DU tT.E)],lent:=0}
def HH (x:List A2×Unit):Option (List A2×Unit):=if 0<=(x.1.length:Int)/\(x.1.length:Int)<=(x.1.length:Int)/\(x.1.length:Int)<=(↑879609302220:Int)then(AE (fun v=>DU (x.1,()) v _ some) (0,List.replicate ((x.1.length:Int).toNat) (0,0,0,0,0,()),())).bind fun p=>some (p.1,())else none
def ib:Ent:=⟨183,⟨(.slot (.slice Ae) .nil),.nil⟩,⟨(.own 0 .nil),(.lst false Ae .nil)⟩,HH⟩
theorem tY:CfgOK Go.Proofs.Tryz.prog A2m:=hcB (all_cons A59 all_nil)
theorem zy:B7 Go.Proofs.Tryz.prog A2m (lpc Go.Proofs.Tryz.f183 0):=lkA tY Yn tW DU tT [3] Mg
theorem A58:Ah Go.Proofs.Tryz.prog ib:=okB tY Go.Proofs.Tryz.func183 zy
abbrev tH:=List (List A2)×Unit
abbrev tE:=Int×List (List A2)×Unit
abbrev tF:=List (List A2)×Unit
def Dx (i:tH)(v:tE)(R:Type)(K:tE ⊕ tF->Option R):Option R:=bif decide (v.1<(i.1.length:Int))then(lAt i.1 v.1).bind fun a=>(HH (a,())).bind fun b=>if 0<=v.1/\v.1<(v.2.1.length:Int)then v.2.1[0+v.1.toNat]?.bind fun c=>K (.inl (IntKind.i64.wrap (v.1+1),v.2.1.set (0+v.1.toNat) b.1,()))else none else K (.inr (v.2.1,()))
theorem LK:Bi Dx:=fun i v R K=>Af (Ac fun _=>Ac fun _=>Ay (Ac fun _=>Aa)) (Aa)
def Ym:Tmpl:=⟨(.slot (.slice (.slice Ae)) (jk 2 (.own 0 (.slot .i (jk 18 .nil))))),(.tree false 1 (.slice Ae) .nil)⟩
def tD:Exs tH tF:=x1 (.exit 0) fun i p=>⟨jn 3 (AV.own 0 none none::jn 19 ([])),[some (Cont.tree false 1 (.slice Ae) p.1 none)]⟩
def tG:=((.i (.v (.v .n))):Pk Ym.ty _ _)
def A2l:Cfg:={ti:=Au,ents:=[ib],ann:=[(3,Ao Ym 0 (spP tG) Dx tD.E)],lent:=0}
def GV (x:List (List A2)×Unit):Option A4:=if 0<=(x.1.length:Int)/\(x.1.length:Int)<=(x.1.length:Int)/\(x.1.length:Int)<=(↑1466015503701:Int)then(AE (fun v=>Dx (x.1,()) v _ some) (0,List.replicate ((x.1.length:Int).toNat) [],())).bind fun p=>some (p.1,())else none
def zn:Ent:=⟨119,⟨(.slot (.slice (.slice Ae)) .nil),.nil⟩,⟨(.own 0 .nil),(.tree false 1 (.slice Ae) .nil)⟩,GV⟩
theorem tI:CfgOK Go.Proofs.Tryz.prog A2l:=hcB (all_cons A58 all_nil)
theorem zm:B7 Go.Proofs.Tryz.prog A2l (lpc Go.Proofs.Tryz.f119 0):=lkA tI Ym tG Dx tD [3] LK
theorem A57:Ah Go.Proofs.Tryz.prog zn:=okB tI Go.Proofs.Tryz.func119 zm
def Jb (x:A4×Unit):Option A4:=(GV (x.1.1,())).bind fun v=>some (v.1,())
def zc:Ent:=⟨60,⟨(.slot Bo .nil),.nil⟩,⟨(.agg (.own 0 .nil) .nil),(.tree false 1 (.slice Ae) .nil)⟩,Jb⟩
theorem A54:Ah Go.Proofs.Tryz.prog zc:=okA (hcA 0 (all_cons A57 all_nil)) Go.Proofs.Tryz.func60
def Jc (x:A1×Unit):Option A1:=some (x.1.1,x.1.2.1,())
def fY:Ent:=⟨227,⟨(.slot A0 .nil),.nil⟩,⟨(.agg (si 2 .nil) .nil),.nil⟩,Jc⟩
theorem A53:Ah Go.Proofs.Tryz.prog fY:=okA (hcA 0 all_nil) Go.Proofs.Tryz.func227
abbrev sU:=List A1×Unit
abbrev sQ:=Int×List A1×Unit
abbrev sR:=List A1×Unit
def Dy (i:sU)(v:sQ)(R:Type)(K:sQ ⊕ sR->Option R):Option R:=bif decide (v.1<(i.1.length:Int))then(lAt i.1 v.1).bind fun a=>(Jc ((a.1,a.2.1,()),())).bind fun b=>if 0<=v.1/\v.1<(v.2.1.length:Int)then v.2.1[0+v.1.toNat]?.bind fun c=>K (.inl (IntKind.i64.wrap (v.1+1),v.2.1.set (0+v.1.toNat) (b.1,b.2.1,()),()))else none else K (.inr (v.2.1,()))
theorem LL:Bi Dy:=fun i v R K=>Af (Ac fun _=>Ac fun _=>Ay (Ac fun _=>Aa)) (Aa)
def Yl:Tmpl:=⟨(.slot (.slice A0) (jk 2 (.own 0 (.slot .i (jk 18 .nil))))),(.lst false A0 .nil)⟩
def sP:Exs sU sR:=x1 (.exit 0) fun i p=>⟨jn 3 (AV.own 0 none none::jn 19 ([])),[some (Cont.lst false A0 p.1)]⟩
def sS:=((.i (.v (.v .n))):Pk Yl.ty _ _)
def A2k:Cfg:={ti:=Au,ents:=[fY],ann:=[(3,Ao Yl 0 (spP sS) Dy sP.E)],lent:=0}
def GW (x:List A1×Unit):Option (List A1×Unit):=if 0<=(x.1.length:Int)/\(x.1.length:Int)<=(x.1.length:Int)/\(x.1.length:Int)<=(↑2199023255552:Int)then(AE (fun v=>Dy (x.1,()) v _ some) (0,List.replicate ((x.1.length:Int).toNat) (0,0,()),())).bind fun p=>some (p.1,())else none
def yP:Ent:=⟨184,⟨(.slot (.slice A0) .nil),.nil⟩,⟨(.own 0 .nil),(.lst false A0 .nil)⟩,GW⟩
theorem sV:CfgOK Go.Proofs.Tryz.prog A2k:=hcB (all_cons A53 all_nil)
theorem yO:B7 Go.Proofs.Tryz.prog A2k (lpc Go.Proofs.Tryz.f184 0):=lkA sV Yl sS Dy sP [3] LL
theorem A4z:Ah Go.Proofs.Tryz.prog yP:=okB sV Go.Proofs.Tryz.func184 yO
def KJ (x:A1×Unit):Option A1:=some (x.1.1,x.1.2.1,())
def fa:Ent:=⟨228,⟨(.slot A0 .nil),.nil⟩,⟨(.agg (si 2 .nil) .nil),.nil⟩,KJ⟩
theorem A4w:Ah Go.Proofs.Tryz.prog fa:=okA (hcA 0 all_nil) Go.Proofs.Tryz.func228
abbrev sr:=List A1×Unit
abbrev sn:=Int×List A1×Unit
abbrev so:=List A1×Unit
def EV (i:sr)(v:sn)(R:Type)(K:sn ⊕ so->Option R):Option R:=bif decide (v.1<(i.1.length:Int))then(lAt i.1 v.1).bind fun a=>(KJ ((a.1,a.2.1,()),())).bind fun b=>if 0<=v.1/\v.1<(v.2.1.length:Int)then v.2.1[0+v.1.toNat]?.bind fun c=>K (.inl (IntKind.i64.wrap (v.1+1),v.2.1.set (0+v.1.toNat) (b.1,b.2.1,()),()))else none else K (.inr (v.2.1,()))
theorem N9:Bi EV:=fun i v R K=>Af (Ac fun _=>Ac fun _=>Ay (Ac fun _=>Aa)) (Aa)
def Yk:Tmpl:=⟨(.slot (.slice A0) (jk 2 (.own 0 (.slot .i (jk 18 .nil))))),(.lst false A0 .nil)⟩
def sm:Exs sr so:=x1 (.exit 0) fun i p=>⟨jn 3 (AV.own 0 none none::jn 19 ([])),[some (Cont.lst false A0 p.1)]⟩
def sq:=((.i (.v (.v .n))):Pk Yk.ty _ _)
def A2j:Cfg:={ti:=Au,ents:=[fa],ann:=[(3,Ao Yk 0 (spP sq) EV sm.E)],lent:=0}
def IB (x:List A1×Unit):Option (List A1×Unit):=if 0<=(x.1.length:Int)/\(x.1.length:Int)<=(x.1.length:Int)/\(x.1.length:Int)<=(↑2199023255552:Int)then(AE (fun v=>EV (x.1,()) v _ some) (0,List.replicate ((x.1.length:Int).toNat) (0,0,()),())).bind fun p=>some (p.1,())else none
def yv:Ent:=⟨185,⟨(.slot (.slice A0) .nil),.nil⟩,⟨(.own 0 .nil),(.lst false A0 .nil)⟩,IB⟩
theorem ss:CfgOK Go.Proofs.Tryz.prog A2j:=hcB (all_cons A4w all_nil)
theorem yu:B7 Go.Proofs.Tryz.prog A2j (lpc Go.Proofs.Tryz.f185 0):=lkA ss Yk sq EV sm [3] N9
theorem A4v:Ah Go.Proofs.Tryz.prog yv:=okB ss Go.Proofs.Tryz.func185 yu
def FZ (x:A3×Unit):Option A3:=(GW (x.1.2.2.2.2.2.2.2.1,())).bind fun v=>(IB (x.1.2.2.2.2.2.2.2.2.1,())).bind fun a=>some (x.1.1,x.1.2.1,x.1.2.2.1,x.1.2.2.2.1,x.1.2.2.2.2.1,x.1.2.2.2.2.2.1,x.1.2.2.2.2.2.2.1,v.1,a.1,())
def eb:Ent:=⟨120,⟨(.slot Ad .nil),.nil⟩,⟨(.agg (si 7 (.own 0 (.own 1 .nil))) .nil),(.lst false A0 (.lst false A0 .nil))⟩,FZ⟩
theorem A4q:Ah Go.Proofs.Tryz.prog eb:=okA (hcA 0 (all_cons A4z (all_cons A4v all_nil))) Go.Proofs.Tryz.func120
abbrev rU:=List A3×Unit
abbrev rR:=Int×List A3×Unit
abbrev rS:=List A3×Unit
def CB (i:rU)(v:rR)(R:Type)(K:rR ⊕ rS->Option R):Option R:=bif decide (v.1<(i.1.length:Int))then(lAt i.1 v.1).bind fun a=>(FZ ((a.1,a.2.1,a.2.2.1,a.2.2.2.1,a.2.2.2.2.1,a.2.2.2.2.2.1,a.2.2.2.2.2.2.1,a.2.2.2.2.2.2.2.1,a.2.2.2.2.2.2.2.2.1,()),())).bind fun b=>if 0<=v.1/\v.1<(v.2.1.length:Int)then v.2.1[0+v.1.toNat]?.bind fun c=>K (.inl (IntKind.i64.wrap (v.1+1),v.2.1.set (0+v.1.toNat) (b.1,b.2.1,b.2.2.1,b.2.2.2.1,b.2.2.2.2.1,b.2.2.2.2.2.1,b.2.2.2.2.2.2.1,b.2.2.2.2.2.2.2.1,b.2.2.2.2.2.2.2.2.1,()),()))else none else K (.inr (v.2.1,()))
theorem KK:Bi CB:=fun i v R K=>Af (Ac fun _=>Ac fun _=>Ay (Ac fun _=>Aa)) (Aa)
def Yi:Tmpl:=⟨(.slot (.slice Ad) (jk 2 (.own 0 (.slot .i (jk 18 .nil))))),(.tree false 1 Ad .nil)⟩
def rQ:Exs rU rS:=x1 (.exit 0) fun i p=>⟨jn 3 (AV.own 0 none none::jn 19 ([])),[some (Cont.tree false 1 Ad p.1 none)]⟩
def rT:=((.i (.v (.v .n))):Pk Yi.ty _ _)
def A2i:Cfg:={ti:=Au,ents:=[eb],ann:=[(3,Ao Yi 0 (spP rT) CB rQ.E)],lent:=0}
def Fk (x:List A3×Unit):Option (List A3×Unit):=if 0<=(x.1.length:Int)/\(x.1.length:Int)<=(x.1.length:Int)/\(x.1.length:Int)<=(↑338311270084:Int)then(AE (fun v=>CB (x.1,()) v _ some) (0,List.replicate ((x.1.length:Int).toNat) (0,0,0,0,0,0,0,[],[],()),())).bind fun p=>some (p.1,())else none
def y9:Ent:=⟨61,⟨(.slot (.slice Ad) .nil),.nil⟩,⟨(.own 0 .nil),(.tree false 1 Ad .nil)⟩,Fk⟩
theorem rV:CfgOK Go.Proofs.Tryz.prog A2i:=hcB (all_cons A4q all_nil)
theorem y8:B7 Go.Proofs.Tryz.prog A2i (lpc Go.Proofs.Tryz.f61 0):=lkA rV Yi rT CB rQ [3] KK
theorem A4p:Ah Go.Proofs.Tryz.prog y9:=okB rV Go.Proofs.Tryz.func61 y8
def Lk (x:A1×Unit):Option A1:=some (x.1.1,x.1.2.1,())
def d6:Ent:=⟨121,⟨(.slot A0 .nil),.nil⟩,⟨(.agg (si 2 .nil) .nil),.nil⟩,Lk⟩
theorem A4j:Ah Go.Proofs.Tryz.prog d6:=okA (hcA 0 all_nil) Go.Proofs.Tryz.func121
abbrev rc:=List A1×Unit
abbrev r9:=Int×List A1×Unit
abbrev ra:=List A1×Unit
def FI (i:rc)(v:r9)(R:Type)(K:r9 ⊕ ra->Option R):Option R:=bif decide (v.1<(i.1.length:Int))then(lAt i.1 v.1).bind fun a=>(Lk ((a.1,a.2.1,()),())).bind fun b=>if 0<=v.1/\v.1<(v.2.1.length:Int)then v.2.1[0+v.1.toNat]?.bind fun c=>K (.inl (IntKind.i64.wrap (v.1+1),v.2.1.set (0+v.1.toNat) (b.1,b.2.1,()),()))else none else K (.inr (v.2.1,()))
theorem NV:Bi FI:=fun i v R K=>Af (Ac fun _=>Ac fun _=>Ay (Ac fun _=>Aa)) (Aa)
def Yg:Tmpl:=⟨(.slot (.slice A0) (jk 2 (.own 0 (.slot .i (jk 18 .nil))))),(.lst false A0 .nil)⟩
def r8:Exs rc ra:=x1 (.exit 0) fun i p=>⟨jn 3 (AV.own 0 none none::jn 19 ([])),[some (Cont.lst false A0 p.1)]⟩
def rb:=((.i (.v (.v .n))):Pk Yg.ty _ _)
def A2b:Cfg:={ti:=Au,ents:=[d6],ann:=[(3,Ao Yg 0 (spP rb) FI r8.E)],lent:=0}
def Jd (x:List A1×Unit):Option (List A1×Unit):=if 0<=(x.1.length:Int)/\(x.1.length:Int)<=(x.1.length:Int)/\(x.1.length:Int)<=(↑2199023255552:Int)then(AE (fun v=>FI (x.1,()) v _ some) (0,List.replicate ((x.1.length:Int).toNat) (0,0,()),())).bind fun p=>some (p.1,())else none
def xK:Ent:=⟨62,⟨(.slot (.slice A0) .nil),.nil⟩,⟨(.own 0 .nil),(.lst false A0 .nil)⟩,Jd⟩
theorem re:CfgOK Go.Proofs.Tryz.prog A2b:=hcB (all_cons A4j all_nil)
theorem xJ:B7 Go.Proofs.Tryz.prog A2b (lpc Go.Proofs.Tryz.f62 0):=lkA re Yg rb FI r8 [3] NV
theorem A4i:Ah Go.Proofs.Tryz.prog xK:=okB re Go.Proofs.Tryz.func62 xJ
def Lj (x:A1×Unit):Option A1:=some (x.1.1,x.1.2.1,())
def bE:Ent:=⟨122,⟨(.slot A0 .nil),.nil⟩,⟨(.agg (si 2 .nil) .nil),.nil⟩,Lj⟩
theorem A4h:Ah Go.Proofs.Tryz.prog bE:=okA (hcA 0 all_nil) Go.Proofs.Tryz.func122
abbrev qj:=List A1×Unit
abbrev qg:=Int×List A1×Unit
abbrev qh:=List A1×Unit
def FH (i:qj)(v:qg)(R:Type)(K:qg ⊕ qh->Option R):Option R:=bif decide (v.1<(i.1.length:Int))then(lAt i.1 v.1).bind fun a=>(Lj ((a.1,a.2.1,()),())).bind fun b=>if 0<=v.1/\v.1<(v.2.1.length:Int)then v.2.1[0+v.1.toNat]?.bind fun c=>K (.inl (IntKind.i64.wrap (v.1+1),v.2.1.set (0+v.1.toNat) (b.1,b.2.1,()),()))else none else K (.inr (v.2.1,()))
theorem NU:Bi FH:=fun i v R K=>Af (Ac fun _=>Ac fun _=>Ay (Ac fun _=>Aa)) (Aa)
def Yf:Tmpl:=⟨(.slot (.slice A0) (jk 2 (.own 0 (.slot .i (jk 18 .nil))))),(.lst false A0 .nil)⟩
def qf:Exs qj qh:=x1 (.exit 0) fun i p=>⟨jn 3 (AV.own 0 none none::jn 19 ([])),[some (Cont.lst false A0 p.1)]⟩
def qi:=((.i (.v (.v .n))):Pk Yf.ty _ _)
def A2a:Cfg:={ti:=Au,ents:=[bE],ann:=[(3,Ao Yf 0 (spP qi) FH qf.E)],lent:=0}
def Ja (x:List A1×Unit):Option (List A1×Unit):=if 0<=(x.1.length:Int)/\(x.1.length:Int)<=(x.1.length:Int)/\(x.1.length:Int)<=(↑2199023255552:Int)then(AE (fun v=>FH (x.1,()) v _ some) (0,List.replicate ((x.1.length:Int).toNat) (0,0,()),())).bind fun p=>some (p.1,())else none
def xm:Ent:=⟨63,⟨(.slot (.slice A0) .nil),.nil⟩,⟨(.own 0 .nil),(.lst false A0 .nil)⟩,Ja⟩
theorem qk:CfgOK Go.Proofs.Tryz.prog A2a:=hcB (all_cons A4h all_nil)
theorem xl:B7 Go.Proofs.Tryz.prog A2a (lpc Go.Proofs.Tryz.f63 0):=lkA qk Yf qi FH qf [3] NU
theorem A4g:Ah Go.Proofs.Tryz.prog xm:=okB qk Go.Proofs.Tryz.func63 xl
def Ep (x:A5×Unit):Option (Bool×Int×A7):=(Jb ((x.1.2.1.1,()),())).bind fun v=>(Fk (x.1.2.2.1,())).bind fun a=>(Jd (x.1.2.2.2.1,())).bind fun b=>(Ja (x.1.2.2.2.2.1,())).bind fun c=>some (x.1.1,x.1.2.2.2.2.2.1,v.1,a.1,b.1,c.1,())
def xg:Ent:=⟨11,⟨(.slot C1 .nil),.nil⟩,⟨(.agg (.slot .bool (.own 0 (.own 1 (.own 2 (.own 3 (.slot .i .nil)))))) .nil),(.tree false 1 (.slice Ae) (.tree false 1 Ad (.lst false A0 (.lst false A0 .nil))))⟩,Ep⟩
theorem A4f:Ah Go.Proofs.Tryz.prog xg:=okA (hcA 0 (all_cons A54 (all_cons A4p (all_cons A4i (all_cons A4g all_nil))))) Go.Proofs.Tryz.func11
def JZ (x:A6×Unit):Option A6:=some (x.1.1,x.1.2.1,x.1.2.2.1,x.1.2.2.2.1,x.1.2.2.2.2.1,x.1.2.2.2.2.2.1,())
def xf:Ent:=⟨12,⟨(.slot YOp .nil),.nil⟩,⟨(.agg (si 6 .nil) .nil),.nil⟩,JZ⟩
theorem A4e:Ah Go.Proofs.Tryz.prog xf:=okA (hcA 0 all_nil) Go.Proofs.Tryz.func12
def L7 (x:List A2×Unit):Option (List A2×Unit):=if x.1.length<=879609302220 then some (x.1,())else none
def ax:Ent:=⟨169,⟨(.slot (.slice Ae) .nil),.nil⟩,⟨(.own 0 .nil),(.lst false Ae .nil)⟩,L7⟩
theorem A4d:Ah Go.Proofs.Tryz.prog ax:=okA (hcA 0 all_nil) Go.Proofs.Tryz.func169
abbrev q8:=List (List A2)×Unit
abbrev pY:=Int×List (List A2)×Unit
abbrev pZ:=List (List A2)×Unit
def Gx (i:q8)(v:pY)(R:Type)(K:pY ⊕ pZ->Option R):Option R:=bif decide (v.1<(i.1.length:Int))then(lAt i.1 v.1).bind fun a=>(L7 (a,())).bind fun b=>if(v.2.1++[b.1]).length<=1466015503701 then K (.inl (IntKind.i64.wrap (v.1+1),v.2.1++[b.1],()))else none else K (.inr (v.2.1,()))
theorem Oa:Bi Gx:=fun i v R K=>Af (Ac fun _=>Ac fun _=>Ay (Aa)) (Aa)
def Ye:Tmpl:=⟨(.junk (.ptr 0 0 0 (.ptr 1 0 0 (.ptr 2 0 0 (.slot .i (jk 20 .nil)))))),(.cells 1 (.slot (.slice (.slice Ae)) .nil) (.cells 1 (.const (AV.nils) .nil) (.cells 1 (.own 3 .nil) (.tree false 0 (.slice Ae) .nil))))⟩
def pX:Exs q8 pZ:=x1 (.exit 0) fun i p=>⟨jn 2 (AV.ptr 1 none 0 0::AV.ptr 2 none 0 0::jn 21 ([])),[some (Cont.cells 1 [[AV.pv (.slice (.slice Ae)) i.1]]),some (Cont.cells 1 [[AV.nils]]),some (Cont.cells 1 [[AV.own 3 none none]]),some (Cont.tree false 0 (.slice Ae) p.1 none)]⟩
def q6:=((.v (.i (.v .n))):Pk Ye.ty _ _)
def A29:Cfg:={ti:=Au,ents:=[ax],ann:=[(3,Ao Ye 0 (spP q6) Gx pX.E)],lent:=0}
def Iu (x:A4×Unit):Option A4:=(AE (fun v=>Gx (x.1.1,()) v _ some) (0,[],())).bind fun p=>some (p.1,())
def SF:Ent:=⟨94,⟨(.slot Bo .nil),.nil⟩,⟨(.agg (.own 0 .nil) .nil),(.tree false 0 (.slice Ae) .nil)⟩,Iu⟩
theorem q9:CfgOK Go.Proofs.Tryz.prog A29:=hcB (all_cons A4d all_nil)
theorem xe:B7 Go.Proofs.Tryz.prog A29 (lpc Go.Proofs.Tryz.f94 0):=lkA q9 Ye q6 Gx pX [2,3] Oa
theorem q7:Ah Go.Proofs.Tryz.prog SF:=okB q9 Go.Proofs.Tryz.func94 xe
def GA (x:List A1×Unit):Option (List A1×Unit):=if x.1.length<=2199023255552 then some (x.1,())else none
def SE:Ent:=⟨95,⟨(.slot (.slice A0) .nil),.nil⟩,⟨(.own 0 .nil),(.lst false A0 .nil)⟩,GA⟩
theorem pW:Ah Go.Proofs.Tryz.prog SE:=okA (hcA 0 all_nil) Go.Proofs.Tryz.func95
def EN (x:A3×Unit):Option A3:=if x.1.2.2.2.2.2.2.2.1.length<=2199023255552 then if x.1.2.2.2.2.2.2.2.2.1.length<=2199023255552 then some (x.1.1,x.1.2.1,x.1.2.2.1,x.1.2.2.2.1,x.1.2.2.2.2.1,x.1.2.2.2.2.2.1,x.1.2.2.2.2.2.2.1,x.1.2.2.2.2.2.2.2.1,x.1.2.2.2.2.2.2.2.2.1,())else none else none
def SD:Ent:=⟨96,⟨(.slot Ad .nil),.nil⟩,⟨(.agg (si 7 (.own 0 (.own 1 .nil))) .nil),(.lst false A0 (.lst false A0 .nil))⟩,EN⟩
theorem SC:Ah Go.Proofs.Tryz.prog SD:=okA (hcA 0 all_nil) Go.Proofs.Tryz.func96
abbrev pU:=Bool×List (List A2)×List A3×List A1×List A1×Int×Bool×Int×Bool×Int×List (List A2)×A9
abbrev pR:=Int×List A3×Unit
abbrev pS:=List A3×Unit
def FE (i:pU)(v:pR)(R:Type)(K:pR ⊕ pS->Option R):Option R:=bif decide (v.1<(i.2.2.1.length:Int))then(lAt i.2.2.1 v.1).bind fun a=>(EN ((a.1,a.2.1,a.2.2.1,a.2.2.2.1,a.2.2.2.2.1,a.2.2.2.2.2.1,a.2.2.2.2.2.2.1,a.2.2.2.2.2.2.2.1,a.2.2.2.2.2.2.2.2.1,()),())).bind fun b=>if(v.2.1++[(b.1,b.2.1,b.2.2.1,b.2.2.2.1,b.2.2.2.2.1,b.2.2.2.2.2.1,b.2.2.2.2.2.2.1,b.2.2.2.2.2.2.2.1,b.2.2.2.2.2.2.2.2.1,())]).length<=338311270084 then K (.inl (IntKind.i64.wrap (v.1+1),v.2.1++[(b.1,b.2.1,b.2.2.1,b.2.2.2.1,b.2.2.2.2.1,b.2.2.2.2.2.1,b.2.2.2.2.2.2.1,b.2.2.2.2.2.2.2.1,b.2.2.2.2.2.2.2.2.1,())],()))else none else K (.inr (v.2.1,()))
theorem NQ:Bi FE:=fun i v R K=>Af (Ac fun _=>Ac fun _=>Ay (Aa)) (Aa)
def Yd:Tmpl:=⟨(.junk (.ptr 0 0 0 (.ptr 1 0 0 (.ptr 2 0 0 (.slot .i (jk 36 .nil)))))),(.cells 6 (.slot .bool (.slot (.slice (.slice Ae)) (.slot (.slice Ad) (.slot (.slice A0) (.slot (.slice A0) (.slot .i .nil)))))) (.cells 6 (.slot .bool (.const (AV.nils) (.const (AV.nils) (.const (AV.nils) (.const (AV.nils) (.slot .i .nil)))))) (.cells 6 (.slot .bool (.own 3 (.own 6 (.own 4 (.own 5 (.slot .i .nil)))))) (.tree false 0 (.slice Ae) (.lst false A0 (.lst false A0 (.tree false 0 Ad .nil)))))))⟩
def pQ:Exs pU pS:=x1 (.exit 0) fun i p=>⟨jn 2 (AV.ptr 1 none 0 0::AV.ptr 2 none 0 0::jn 37 ([])),[some (Cont.cells 6 [[AV.pv .bool i.1,AV.pv (.slice (.slice Ae)) i.2.1,AV.pv (.slice Ad) i.2.2.1,AV.pv (.slice A0) i.2.2.2.1,AV.pv (.slice A0) i.2.2.2.2.1,AV.pv (Ty.int IntKind.i64) i.2.2.2.2.2.1]]),some (Cont.cells 6 [[AV.pv .bool i.2.2.2.2.2.2.1,AV.nils,AV.nils,AV.nils,AV.nils,AV.pv .i i.2.2.2.2.2.2.2.1]]),some (Cont.cells 6 [[AV.pv .bool i.2.2.2.2.2.2.2.2.1,AV.own 3 none none,AV.own 6 none none,AV.own 4 none none,AV.own 5 none none,AV.pv .i i.2.2.2.2.2.2.2.2.2.1]]),some (Cont.tree false 0 (.slice Ae) i.2.2.2.2.2.2.2.2.2.2.1 none),some (Cont.lst false A0 i.2.2.2.2.2.2.2.2.2.2.2.1),some (Cont.lst false A0 i.2.2.2.2.2.2.2.2.2.2.2.2.1),some (Cont.tree false 0 Ad p.1 none)]⟩
def pT:=((.v (.i (.i (.i (.i (.i (.i (.i (.i (.i (.i (.i (.i (.i (.v .n))))))))))))))):Pk Yd.ty _ _)
def A28:Cfg:={ti:=Au,ents:=[SF,SE,SD],ann:=[(3,Ao Yd 0 (spP pT) FE pQ.E)],lent:=0}
def J3 (x:A5×Unit):Option (Bool×Int×A7):=(Iu ((x.1.2.1.1,()),())).bind fun v=>(GA (x.1.2.2.2.1,())).bind fun a=>if x.1.2.2.2.2.1.length<=2199023255552 then(AE (fun b=>FE (x.1.1,x.1.2.1.1,x.1.2.2.1,x.1.2.2.2.1,x.1.2.2.2.2.1,x.1.2.2.2.2.2.1,false,0,x.1.1,x.1.2.2.2.2.2.1,v.1,a.1,x.1.2.2.2.2.1,()) b _ some) (0,[],())).bind fun p=>some (x.1.1,x.1.2.2.2.2.2.1,v.1,p.1,a.1,x.1.2.2.2.2.1,())else none
def aw:Ent:=⟨49,⟨(.slot C1 .nil),.nil⟩,⟨(.agg (.slot .bool (.own 0 (.own 1 (.own 2 (.own 3 (.slot .i .nil)))))) .nil),(.tree false 0 (.slice Ae) (.tree false 0 Ad (.lst false A0 (.lst false A0 .nil))))⟩,J3⟩
theorem pV:CfgOK Go.Proofs.Tryz.prog A28:=hcB (all_cons q7 (all_cons pW (all_cons SC all_nil)))
theorem xd:B7 Go.Proofs.Tryz.prog A28 (lpc Go.Proofs.Tryz.f49 0):=lkA pV Yd pT FE pQ [2,3] NQ
theorem A4b:Ah Go.Proofs.Tryz.prog aw:=okB pV Go.Proofs.Tryz.func49 xd
abbrev pO:=Int×Bool×List (List A2)×List A3×List A1×List A1×Int×Unit
abbrev pK:=Int×Unit
abbrev pL:=Int×Unit ⊕ Unit
def Cs (i:pO)(v:pK)(R:Type)(K:pK ⊕ pL->Option R):Option R:=bif decide (v.1<(i.2.2.2.1.length:Int))then(lAt i.2.2.2.1 v.1).bind fun a=>bif a.1==i.1 then K (.inr (.inl (v.1,())))else K (.inl (IntKind.i64.wrap (v.1+1),()))else K (.inr (.inr ()))
theorem Kl:Bi Cs:=fun i v R K=>Af (Ac fun _=>Af (Aa) (Aa)) (Aa)
def Yc:Tmpl:=⟨(.junk (.slot .i (.ptr 0 0 0 (jk 2 (.slot .i (jk 16 .nil)))))),(.cells 6 (.slot .bool (.slot (.slice (.slice Ae)) (.slot (.slice Ad) (.slot (.slice A0) (.slot (.slice A0) (.slot .i .nil)))))) .nil)⟩
def pJ:Exs pO pL:=xs .ret (fun i p=>⟨jn 4 (.n (p.1)::jn 17 ([])),[some (Cont.cells 6 [[AV.pv .bool i.2.1,AV.pv (.slice (.slice Ae)) i.2.2.1,AV.pv (.slice Ad) i.2.2.2.1,AV.pv (.slice A0) i.2.2.2.2.1,AV.pv (.slice A0) i.2.2.2.2.2.1,AV.pv .i i.2.2.2.2.2.2.1]])]⟩)<|x1 (.exit 0) fun i p=>⟨jn 22 ([]),[some (Cont.cells 6 [[AV.pv .bool i.2.1,AV.pv (.slice (.slice Ae)) i.2.2.1,AV.pv (.slice Ad) i.2.2.2.1,AV.pv (.slice A0) i.2.2.2.2.1,AV.pv (.slice A0) i.2.2.2.2.2.1,AV.pv .i i.2.2.2.2.2.2.1]])]⟩
def pM:=((.i (.v (.i (.i (.i (.i (.i (.i .n)))))))):Pk Yc.ty _ _)
def A27:Cfg:={ti:=Au,ents:=[],ann:=[(2,Ao Yc 0 (spP pM) Cs pJ.E)],lent:=0}
def Dm (x:A5×Int×Unit):Option (Int×Unit):=(AE (fun v=>Cs (x.2.1,x.1.1,x.1.2.1.1,x.1.2.2.1,x.1.2.2.2.1,x.1.2.2.2.2.1,x.1.2.2.2.2.2.1,()) v _ some) (0,())).bind fun p=>Az p (fun p=>some (p.1,())) fun p=>some (-1,())
def au:Ent:=⟨50,⟨(.slot C1 (.slot .i .nil)),.nil⟩,⟨(.slot .i .nil),.nil⟩,Dm⟩
theorem pP:CfgOK Go.Proofs.Tryz.prog A27:=hcB all_nil
theorem xc:B7 Go.Proofs.Tryz.prog A27 (lpc Go.Proofs.Tryz.f50 0):=lkA pP Yc pM Cs pJ [4] Kl
theorem pN:Ah Go.Proofs.Tryz.prog au:=okB pP Go.Proofs.Tryz.func50 xc
def Al (x:B3):Option (Bool×Unit):=bif decide (x.1>=x.2.1)then some (decide (x.1<=x.2.2.1),())else some (false,())
def M8:Ent:=⟨100,⟨(si 3 .nil),.nil⟩,⟨(.slot .bool .nil),.nil⟩,Al⟩
theorem JB:Ah Go.Proofs.Tryz.prog M8:=okA (hcA 0 all_nil) Go.Proofs.Tryz.func100
def DK (x:A2×Unit):Option (Bool×Unit):=(Al (x.1.2.1,-1,99,())).bind fun v=>bif !v.1 then some (false,())else(Al (x.1.2.2.1,0,999,())).bind fun v=>bif !v.1 then some (false,())else(Al (x.1.2.2.2.1,x.1.2.2.1,999,())).bind fun v=>bif !v.1 then some (false,())else(Al (x.1.2.2.2.2.1,1,1000,())).bind fun v=>bif !v.1 then some (false,())else bif x.1.2.2.1==0 then bif x.1.1==0 then some (x.1.2.1==-1,())else some (false,())else(Al (x.1.1,1,9,())).bind fun v=>some (v.1,())
def ar:Ent:=⟨176,⟨(.slot Ae .nil),.nil⟩,⟨(.slot .bool .nil),.nil⟩,DK⟩
theorem pI:Ah Go.Proofs.Tryz.prog ar:=okA (hcA 0 (all_cons JB all_nil)) Go.Proofs.Tryz.func176
abbrev pG:=List A2×Unit
abbrev pD:=Int×Unit
abbrev pE:=Unit ⊕ Unit ⊕ Unit ⊕ Unit
def D4 (i:pG)(v:pD)(R:Type)(K:pD ⊕ pE->Option R):Option R:=bif decide (v.1<(i.1.length:Int))then(lAt i.1 v.1).bind fun a=>(DK ((a.1,a.2.1,a.2.2.1,a.2.2.2.1,a.2.2.2.2.1,()),())).bind fun b=>bif !b.1 then K (.inr (.inl ()))else bif decide (IntKind.i64.wrap (v.1+1)<(i.1.length:Int))then(lAt i.1 v.1).bind fun c=>(lAt i.1 (IntKind.i64.wrap (v.1+1))).bind fun d=>bif decide (c.2.2.1>=d.2.2.1)then K (.inr (.inr (.inl ())))else(lAt i.1 v.1).bind fun e=>(lAt i.1 (IntKind.i64.wrap (v.1+1))).bind fun f=>bif decide (e.2.2.2.2.1>f.2.2.1)then K (.inr (.inr (.inr (.inl ()))))else K (.inl (IntKind.i64.wrap (v.1+1),()))else K (.inl (IntKind.i64.wrap (v.1+1),()))else K (.inr (.inr (.inr (.inr ()))))
theorem Lb:Bi D4:=fun i v R K=>Af (Ac fun _=>Ac fun _=>Af (Aa) (Af (Ac fun _=>Ac fun _=>Af (Aa) (Ac fun _=>Ac fun _=>Af (Aa) (Aa))) (Aa))) (Aa)
def Ya:Tmpl:=⟨(.slot (.slice Ae) (jk 2 (.slot .i (jk 58 .nil)))),.nil⟩
def pC:Exs pG pE:=xs .ret (fun i p=>⟨AV.pv (.slice Ae) i.1::jn 1 (.b (false)::jn 59 ([])),[]⟩)<|xs .ret (fun i p=>⟨AV.pv (.slice Ae) i.1::jn 1 (.b (false)::jn 59 ([])),[]⟩)<|xs .ret (fun i p=>⟨AV.pv (.slice Ae) i.1::jn 1 (.b (false)::jn 59 ([])),[]⟩)<|x1 (.exit 0) fun i p=>⟨AV.pv (.slice Ae) i.1::jn 61 ([]),[]⟩
def pF:=((.i (.v .n)):Pk Ya.ty _ _)
def A26:Cfg:={ti:=Au,ents:=[ar],ann:=[(2,Ao Ya 0 (spP pF) D4 pC.E)],lent:=0}
def CI (x:List A2×Unit):Option (Bool×Unit):=(AE (fun v=>D4 (x.1,()) v _ some) (0,())).bind fun p=>Az p (fun p=>some (false,())) fun p=>Az p (fun p=>some (false,())) fun p=>Az p (fun p=>some (false,())) fun p=>bif decide ((x.1.length:Int)>0)then(lAt x.1 (IntKind.i64.wrap ((x.1.length:Int)-1))).bind fun v=>some (v.2.2.2.2.1==1000,())else some (false,())
def SB:Ent:=⟨170,⟨(.slot (.slice Ae) .nil),.nil⟩,⟨(.slot .bool .nil),.nil⟩,CI⟩
theorem pH:CfgOK Go.Proofs.Tryz.prog A26:=hcB (all_cons pI all_nil)
theorem xb:B7 Go.Proofs.Tryz.prog A26 (lpc Go.Proofs.Tryz.f170 0):=lkA pH Ya pF D4 pC [0,2] Lb
theorem Yb:Ah Go.Proofs.Tryz.prog SB:=okB pH Go.Proofs.Tryz.func170 xb
abbrev pA:=List (List A2)×Unit
abbrev px:=Int×Unit
abbrev py:=Unit ⊕ Unit ⊕ Unit ⊕ Unit ⊕ Unit
def D3 (i:pA)(v:px)(R:Type)(K:px ⊕ py->Option R):Option R:=bif decide (v.1<(i.1.length:Int))then(lAt i.1 v.1).bind fun a=>(CI (a,())).bind fun b=>bif !b.1 then K (.inr (.inl ()))else(lAt i.1 v.1).bind fun c=>(lAt c 0).bind fun d=>bif decide (d.2.2.1>0)then(lAt i.1 v.1).bind fun e=>bif decide ((e.length:Int)>50)then K (.inr (.inr (.inl ())))else(lAt i.1 v.1).bind fun f=>bif decide ((f.length:Int)>50)then K (.inr (.inr (.inr (.inl ()))))else K (.inl (IntKind.i64.wrap (v.1+1),()))else(lAt i.1 v.1).bind fun e=>bif decide ((e.length:Int)>50)then K (.inr (.inr (.inr (.inr (.inl ())))))else K (.inl (IntKind.i64.wrap (v.1+1),()))else K (.inr (.inr (.inr (.inr (.inr ())))))
theorem La:Bi D3:=fun i v R K=>Af (Ac fun _=>Ac fun _=>Af (Aa) (Ac fun _=>Ac fun _=>Af (Ac fun _=>Af (Aa) (Ac fun _=>Af (Aa) (Aa))) (Ac fun _=>Af (Aa) (Aa)))) (Aa)
def Y9:Tmpl:=⟨(.junk (.ptr 0 0 0 (.junk (.slot .i (jk 47 .nil))))),(.cells 1 (.slot (.slice (.slice Ae)) .nil) .nil)⟩
def pw:Exs pA py:=xs .ret (fun i p=>⟨jn 1 (AV.ptr 0 none 0 0::.b (false)::jn 48 ([])),[some (Cont.cells 1 [[AV.pv (.slice (.slice Ae)) i.1]])]⟩)<|xs .ret (fun i p=>⟨jn 1 (AV.ptr 0 none 0 0::.b (false)::jn 48 ([])),[some (Cont.cells 1 [[AV.pv (.slice (.slice Ae)) i.1]])]⟩)<|xs .ret (fun i p=>⟨jn 1 (AV.ptr 0 none 0 0::.b (false)::jn 48 ([])),[some (Cont.cells 1 [[AV.pv (.slice (.slice Ae)) i.1]])]⟩)<|xs .ret (fun i p=>⟨jn 1 (AV.ptr 0 none 0 0::.b (false)::jn 48 ([])),[some (Cont.cells 1 [[AV.pv (.slice (.slice Ae)) i.1]])]⟩)<|x1 (.exit 0) fun i p=>⟨jn 1 (AV.ptr 0 none 0 0::jn 49 ([])),[some (Cont.cells 1 [[AV.pv (.slice (.slice Ae)) i.1]])]⟩
def pz:=((.v (.i .n)):Pk Y9.ty _ _)
def A25:Cfg:={ti:=Au,ents:=[SB],ann:=[(2,Ao Y9 0 (spP pz) D3 pw.E)],lent:=0}
def Bs (x:A4×Unit):Option (Bool×Unit):=(AE (fun v=>D3 (x.1.1,()) v _ some) (0,())).bind fun p=>Az p (fun p=>some (false,())) fun p=>Az p (fun p=>some (false,())) fun p=>Az p (fun p=>some (false,())) fun p=>Az p (fun p=>some (false,())) fun p=>some ((x.1.1.length:Int)==6,())
def OP:Ent:=⟨97,⟨(.slot Bo .nil),.nil⟩,⟨(.slot .bool .nil),.nil⟩,Bs⟩
theorem pB:CfgOK Go.Proofs.Tryz.prog A25:=hcB (all_cons Yb all_nil)
theorem xa:B7 Go.Proofs.Tryz.prog A25 (lpc Go.Proofs.Tryz.f97 0):=lkA pB Y9 pz D3 pw [1,2] La
theorem Ok:Ah Go.Proofs.Tryz.prog OP:=okB pB Go.Proofs.Tryz.func97 xa
abbrev pt:=List A1×Unit
abbrev pp:=Int×Unit
abbrev pq:=Unit ⊕ Unit ⊕ Unit ⊕ Unit
def ET (i:pt)(v:pp)(R:Type)(K:pp ⊕ pq->Option R):Option R:=bif decide (v.1<(i.1.length:Int))then(lAt i.1 v.1).bind fun a=>(Al (a.1,0,5,())).bind fun b=>bif !b.1 then K (.inr (.inl ()))else(lAt i.1 v.1).bind fun c=>(Al (c.2.1,1,9,())).bind fun d=>bif !d.1 then K (.inr (.inr (.inl ())))else bif decide (v.1>0)then(lAt i.1 (IntKind.i64.wrap (v.1-1))).bind fun e=>(lAt i.1 v.1).bind fun f=>bif decide (e.1>=f.1)then K (.inr (.inr (.inr (.inl ()))))else K (.inl (IntKind.i64.wrap (v.1+1),()))else K (.inl (IntKind.i64.wrap (v.1+1),()))else K (.inr (.inr (.inr (.inr ()))))
theorem MW:Bi ET:=fun i v R K=>Af (Ac fun _=>Ac fun _=>Af (Aa) (Ac fun _=>Ac fun _=>Af (Aa) (Af (Ac fun _=>Ac fun _=>Af (Aa) (Aa)) (Aa)))) (Aa)
def Y7:Tmpl:=⟨(.slot (.slice A0) (jk 2 (.slot .i (jk 40 .nil)))),.nil⟩
def po:Exs pt pq:=xs .ret (fun i p=>⟨jn 2 (.b (false)::jn 41 ([])),[]⟩)<|xs .ret (fun i p=>⟨jn 2 (.b (false)::jn 41 ([])),[]⟩)<|xs .ret (fun i p=>⟨jn 2 (.b (false)::jn 41 ([])),[]⟩)<|x1 (.exit 0) fun i p=>⟨jn 44 ([]),[]⟩
def pr:=((.i (.v .n)):Pk Y7.ty _ _)
def A24:Cfg:={ti:=Au,ents:=[M8],ann:=[(2,Ao Y7 0 (spP pr) ET po.E)],lent:=0}
def En (x:List A1×Unit):Option (Bool×Unit):=(AE (fun v=>ET (x.1,()) v _ some) (0,())).bind fun p=>Az p (fun p=>some (false,())) fun p=>Az p (fun p=>some (false,())) fun p=>Az p (fun p=>some (false,())) fun p=>some (true,())
def SA:Ent:=⟨98,⟨(.slot (.slice A0) .nil),.nil⟩,⟨(.slot .bool .nil),.nil⟩,En⟩
theorem pu:CfgOK Go.Proofs.Tryz.prog A24:=hcB (all_cons JB all_nil)
theorem x9:B7 Go.Proofs.Tryz.prog A24 (lpc Go.Proofs.Tryz.f98 0):=lkA pu Y7 pr ET po [2] MW
theorem Y8:Ah Go.Proofs.Tryz.prog SA:=okB pu Go.Proofs.Tryz.func98 x9
abbrev pm:=List A1×Unit
abbrev pj:=Int×Unit
abbrev pk:=Unit ⊕ Unit ⊕ Unit ⊕ Unit ⊕ Unit
def ES (i:pm)(v:pj)(R:Type)(K:pj ⊕ pk->Option R):Option R:=bif decide (v.1<(i.1.length:Int))then(lAt i.1 v.1).bind fun a=>(Al (a.1,1,9,())).bind fun b=>bif !b.1 then K (.inr (.inl ()))else(lAt i.1 v.1).bind fun c=>(Al (c.2.1,1,9,())).bind fun d=>bif !d.1 then K (.inr (.inr (.inl ())))else(lAt i.1 v.1).bind fun e=>(lAt i.1 v.1).bind fun f=>bif e.1==f.2.1 then K (.inr (.inr (.inr (.inl ()))))else bif decide (v.1>0)then(lAt i.1 (IntKind.i64.wrap (v.1-1))).bind fun g=>(lAt i.1 v.1).bind fun h=>bif decide (g.1>=h.1)then K (.inr (.inr (.inr (.inr (.inl ())))))else K (.inl (IntKind.i64.wrap (v.1+1),()))else K (.inl (IntKind.i64.wrap (v.1+1),()))else K (.inr (.inr (.inr (.inr (.inr ())))))
theorem MV:Bi ES:=fun i v R K=>Af (Ac fun _=>Ac fun _=>Af (Aa) (Ac fun _=>Ac fun _=>Af (Aa) (Ac fun _=>Ac fun _=>Af (Aa) (Af (Ac fun _=>Ac fun _=>Af (Aa) (Aa)) (Aa))))) (Aa)
def Y5:Tmpl:=⟨(.slot (.slice A0) (jk 2 (.slot .i (jk 53 .nil)))),.nil⟩
def pi:Exs pm pk:=xs .ret (fun i p=>⟨jn 2 (.b (false)::jn 54 ([])),[]⟩)<|xs .ret (fun i p=>⟨jn 2 (.b (false)::jn 54 ([])),[]⟩)<|xs .ret (fun i p=>⟨jn 2 (.b (false)::jn 54 ([])),[]⟩)<|xs .ret (fun i p=>⟨jn 2 (.b (false)::jn 54 ([])),[]⟩)<|x1 (.exit 0) fun i p=>⟨jn 57 ([]),[]⟩
def pl:=((.i (.v .n)):Pk Y5.ty _ _)
def A23:Cfg:={ti:=Au,ents:=[M8],ann:=[(2,Ao Y5 0 (spP pl) ES pi.E)],lent:=0}
def Em (x:List A1×Unit):Option (Bool×Unit):=(AE (fun v=>ES (x.1,()) v _ some) (0,())).bind fun p=>Az p (fun p=>some (false,())) fun p=>Az p (fun p=>some (false,())) fun p=>Az p (fun p=>some (false,())) fun p=>Az p (fun p=>some (false,())) fun p=>some (true,())
def Qi:Ent:=⟨99,⟨(.slot (.slice A0) .nil),.nil⟩,⟨(.slot .bool .nil),.nil⟩,Em⟩
theorem pn:CfgOK Go.Proofs.Tryz.prog A23:=hcB (all_cons JB all_nil)
theorem x8:B7 Go.Proofs.Tryz.prog A23 (lpc Go.Proofs.Tryz.f99 0):=lkA pn Y5 pl ES pi [2] MV
theorem Y6:Ah Go.Proofs.Tryz.prog Qi:=okB pn Go.Proofs.Tryz.func99 x8
abbrev pf:=Int×List (List A2)×Unit
abbrev p8:=Int×Int×Unit
abbrev pa:=Int×Unit
def E9 (i:pf)(v:p8)(R:Type)(K:p8 ⊕ pa->Option R):Option R:=(lAt i.2.1 i.1).bind fun a=>bif decide (v.2.1<(a.length:Int))then(lAt i.2.1 i.1).bind fun b=>(lAt b v.2.1).bind fun c=>(lAt i.2.1 i.1).bind fun d=>(lAt d v.2.1).bind fun e=>K (.inl (mx (mx v.1 c.2.2.1) e.2.2.2.1,IntKind.i64.wrap (v.2.1+1),()))else K (.inr (v.1,()))
theorem MF:Bi E9:=fun i v R K=>Ac fun _=>Af (Ac fun _=>Ac fun _=>Ac fun _=>Ac fun _=>Aa) (Aa)
def Y2:Tmpl:=⟨(.junk (.ptr 0 0 0 (.junk (si 3 (jk 42 .nil))))),(.cells 1 (.slot (.slice (.slice Ae)) .nil) .nil)⟩
def p6:Exs pf pa:=x1 (.exit 2) fun i p=>⟨jn 1 (AV.ptr 0 none 0 0::jn 1 (.n (p.1)::.n (i.1)::jn 43 ([]))),[some (Cont.cells 1 [[AV.pv (.slice (.slice Ae)) i.2.1]])]⟩
def pc:=((.v (.i (.v (.i .n)))):Pk Y2.ty _ _)
abbrev pg:=List (List A2)×Unit
abbrev p9:=Int×Int×Unit
abbrev pb:=Int×Unit ⊕ Int×Unit
def Ea (i:pg)(v:p9)(R:Type)(K:p9 ⊕ pb->Option R):Option R:=bif decide (v.2.1<(i.1.length:Int))then(Bs ((i.1,()),())).bind fun a=>bif a.1 then(AE (fun b=>E9 (v.2.1,i.1,()) b _ some) (v.1,0,())).bind fun p=>K (.inl (p.1,IntKind.i64.wrap (v.2.1+1),()))else K (.inr (.inl (v.1,())))else K (.inr (.inr (v.1,())))
theorem MG:Bi Ea:=fun i v R K=>Af (Ac fun _=>Af (Ac fun _=>Aa) (Aa)) (Aa)
def Y3:Tmpl:=⟨(.junk (.ptr 0 0 0 (.junk (si 2 (jk 43 .nil))))),(.cells 1 (.slot (.slice (.slice Ae)) .nil) .nil)⟩
def p7:Exs pg pb:=xs (.exit 0) (fun i p=>⟨jn 3 (.n (p.1)::jn 44 ([])),[some (Cont.cells 1 [[AV.pv (.slice (.slice Ae)) i.1]])]⟩)<|x1 (.exit 0) fun i p=>⟨jn 3 (.n (p.1)::jn 44 ([])),[some (Cont.cells 1 [[AV.pv (.slice (.slice Ae)) i.1]])]⟩
def pd:=((.v (.v (.i .n))):Pk Y3.ty _ _)
def ph:Cfg:={ti:=Au,ents:=[OP],ann:=[(6,Ao Y2 0 (spP pc) E9 p6.E),(3,Ao Y3 0 (spP pd) Ea p7.E)],lent:=0}
def GB (x:A4×Unit):Option (Int×Unit):=(AE (fun v=>Ea (x.1.1,()) v _ some) (0,0,())).bind fun p=>Az p (fun p=>some (p.1,())) fun p=>some (p.1,())
def aq:Ent:=⟨101,⟨(.slot Bo .nil),.nil⟩,⟨(.slot .i .nil),.nil⟩,GB⟩
theorem Y4:CfgOK Go.Proofs.Tryz.prog ph:=hcB (all_cons Ok all_nil)
theorem ap:B7 Go.Proofs.Tryz.prog ph (lpc Go.Proofs.Tryz.f101 1):=lkA Y4 Y2 pc E9 p6 [1,3,4] MF
theorem x7:B7 Go.Proofs.Tryz.prog ph (lpc Go.Proofs.Tryz.f101 0):=lkB Y4 Y3 pd Ea p7 [3] MG ap
theorem pe:Ah Go.Proofs.Tryz.prog aq:=okC Y4 Go.Proofs.Tryz.func101 x7 ap
def Ho (x:A1×A1×Unit):Option (Bool×Unit):=bif decide (x.1.1<x.2.1.1)then some (true,())else bif x.1.1==x.2.1.1 then some (decide (x.1.2.1<x.2.1.2.1),())else some (false,())
def Sz:Ent:=⟨171,⟨(.slot A0 (.slot A0 .nil)),.nil⟩,⟨(.slot .bool .nil),.nil⟩,Ho⟩
theorem p5:Ah Go.Proofs.Tryz.prog Sz:=okA (hcA 0 all_nil) Go.Proofs.Tryz.func171
abbrev p3:=A3
abbrev oV:=Int×Unit
abbrev oX:=Int×Int×Unit ⊕ Int×Int×Unit ⊕ Int×Int×Unit ⊕ Unit
def BZ (i:p3)(v:oV)(R:Type)(K:oV ⊕ oX->Option R):Option R:=bif decide (v.1<(i.2.2.2.2.2.2.2.1.length:Int))then(lAt i.2.2.2.2.2.2.2.1 v.1).bind fun a=>(Al (a.1,0,5,())).bind fun b=>bif !b.1 then K (.inr (.inl (a.1,a.2.1,())))else(Al (a.2.1,0,999,())).bind fun c=>bif !c.1 then K (.inr (.inr (.inl (a.1,a.2.1,()))))else bif decide (v.1>0)then(lAt i.2.2.2.2.2.2.2.1 (IntKind.i64.wrap (v.1-1))).bind fun d=>(Ho ((d.1,d.2.1,()),(a.1,a.2.1,()),())).bind fun e=>bif !e.1 then K (.inr (.inr (.inr (.inl (a.1,a.2.1,())))))else K (.inl (IntKind.i64.wrap (v.1+1),()))else K (.inl (IntKind.i64.wrap (v.1+1),()))else K (.inr (.inr (.inr (.inr ()))))
theorem JA:Bi BZ:=fun i v R K=>Af (Ac fun _=>Ac fun _=>Af (Aa) (Ac fun _=>Af (Aa) (Af (Ac fun _=>Ac fun _=>Af (Aa) (Aa)) (Aa)))) (Aa)
def Y0:Tmpl:=⟨(.junk (.ptr 0 0 0 (.junk (.slot .i (jk 127 .nil))))),(.cells 9 (si 7 (.slot (.slice A0) (.slot (.slice A0) .nil))) .nil)⟩
def oT:Exs p3 oX:=xs .ret (fun i p=>⟨jn 1 (AV.ptr 0 none 0 0::.b (false)::jn 128 ([])),[some (Cont.cells 9 [[AV.pv .i i.1,AV.pv .i i.2.1,AV.pv .i i.2.2.1,AV.pv .i i.2.2.2.1,AV.pv (Ty.int IntKind.i64) i.2.2.2.2.1,AV.pv .i i.2.2.2.2.2.1,AV.pv .i i.2.2.2.2.2.2.1,AV.pv (.slice A0) i.2.2.2.2.2.2.2.1,AV.pv (.slice A0) i.2.2.2.2.2.2.2.2.1]]),some (Cont.cells 2 [[AV.pv .i p.1,AV.pv .i p.2.1]])]⟩)<|xs .ret (fun i p=>⟨jn 1 (AV.ptr 0 none 0 0::.b (false)::jn 128 ([])),[some (Cont.cells 9 [[AV.pv .i i.1,AV.pv .i i.2.1,AV.pv .i i.2.2.1,AV.pv .i i.2.2.2.1,AV.pv (Ty.int IntKind.i64) i.2.2.2.2.1,AV.pv .i i.2.2.2.2.2.1,AV.pv .i i.2.2.2.2.2.2.1,AV.pv (.slice A0) i.2.2.2.2.2.2.2.1,AV.pv (.slice A0) i.2.2.2.2.2.2.2.2.1]]),some (Cont.cells 2 [[AV.pv .i p.1,AV.pv .i p.2.1]])]⟩)<|xs .ret (fun i p=>⟨jn 1 (AV.ptr 0 none 0 0::.b (false)::jn 128 ([])),[some (Cont.cells 9 [[AV.pv .i i.1,AV.pv .i i.2.1,AV.pv .i i.2.2.1,AV.pv .i i.2.2.2.1,AV.pv (Ty.int IntKind.i64) i.2.2.2.2.1,AV.pv .i i.2.2.2.2.2.1,AV.pv .i i.2.2.2.2.2.2.1,AV.pv (.slice A0) i.2.2.2.2.2.2.2.1,AV.pv (.slice A0) i.2.2.2.2.2.2.2.2.1]]),some (Cont.cells 2 [[AV.pv .i p.1,AV.pv .i p.2.1]])]⟩)<|x1 (.exit 0) fun i p=>⟨jn 1 (AV.ptr 0 none 0 0::jn 129 ([])),[some (Cont.cells 9 [[AV.pv .i i.1,AV.pv .i i.2.1,AV.pv .i i.2.2.1,AV.pv .i i.2.2.2.1,AV.pv .i i.2.2.2.2.1,AV.pv .i i.2.2.2.2.2.1,AV.pv .i i.2.2.2.2.2.2.1,AV.pv (.slice A0) i.2.2.2.2.2.2.2.1,AV.pv (.slice A0) i.2.2.2.2.2.2.2.2.1]])]⟩
def oZ:=((.v (.i (.i (.i (.i (.i (.i (.i (.i (.i .n)))))))))):Pk Y0.ty _ _)
abbrev p0:=A3
abbrev oU:=Int×Unit
abbrev oW:=Int×Int×Unit ⊕ Int×Int×Unit ⊕ Int×Int×Unit ⊕ Unit
def BX (i:p0)(v:oU)(R:Type)(K:oU ⊕ oW->Option R):Option R:=bif decide (v.1<(i.2.2.2.2.2.2.2.2.1.length:Int))then(lAt i.2.2.2.2.2.2.2.2.1 v.1).bind fun a=>(Al (a.1,0,5,())).bind fun b=>bif !b.1 then K (.inr (.inl (a.1,a.2.1,())))else(Al (a.2.1,-1,99,())).bind fun c=>bif !c.1 then K (.inr (.inr (.inl (a.1,a.2.1,()))))else bif decide (v.1>0)then(lAt i.2.2.2.2.2.2.2.2.1 (IntKind.i64.wrap (v.1-1))).bind fun d=>bif decide (d.1>=a.1)then K (.inr (.inr (.inr (.inl (a.1,a.2.1,())))))else K (.inl (IntKind.i64.wrap (v.1+1),()))else K (.inl (IntKind.i64.wrap (v.1+1),()))else K (.inr (.inr (.inr (.inr ()))))
theorem Jz:Bi BX:=fun i v R K=>Af (Ac fun _=>Ac fun _=>Af (Aa) (Ac fun _=>Af (Aa) (Af (Ac fun _=>Af (Aa) (Aa)) (Aa)))) (Aa)
def XZ:Tmpl:=⟨(.junk (.ptr 0 0 0 (jk 3 (.slot .i (jk 125 .nil))))),(.cells 9 (si 7 (.slot (.slice A0) (.slot (.slice A0) .nil))) .nil)⟩
def oS:Exs p0 oW:=xs .ret (fun i p=>⟨jn 1 (AV.ptr 0 none 0 0::.b (false)::jn 128 ([])),[some (Cont.cells 9 [[AV.pv .i i.1,AV.pv .i i.2.1,AV.pv .i i.2.2.1,AV.pv .i i.2.2.2.1,AV.pv (Ty.int IntKind.i64) i.2.2.2.2.1,AV.pv .i i.2.2.2.2.2.1,AV.pv .i i.2.2.2.2.2.2.1,AV.pv (.slice A0) i.2.2.2.2.2.2.2.1,AV.pv (.slice A0) i.2.2.2.2.2.2.2.2.1]]),some (Cont.cells 2 [[AV.pv .i p.1,AV.pv .i p.2.1]])]⟩)<|xs .ret (fun i p=>⟨jn 1 (AV.ptr 0 none 0 0::.b (false)::jn 128 ([])),[some (Cont.cells 9 [[AV.pv .i i.1,AV.pv .i i.2.1,AV.pv .i i.2.2.1,AV.pv .i i.2.2.2.1,AV.pv (Ty.int IntKind.i64) i.2.2.2.2.1,AV.pv .i i.2.2.2.2.2.1,AV.pv .i i.2.2.2.2.2.2.1,AV.pv (.slice A0) i.2.2.2.2.2.2.2.1,AV.pv (.slice A0) i.2.2.2.2.2.2.2.2.1]]),some (Cont.cells 2 [[AV.pv .i p.1,AV.pv .i p.2.1]])]⟩)<|xs .ret (fun i p=>⟨jn 1 (AV.ptr 0 none 0 0::.b (false)::jn 128 ([])),[some (Cont.cells 9 [[AV.pv .i i.1,AV.pv .i i.2.1,AV.pv .i i.2.2.1,AV.pv .i i.2.2.2.1,AV.pv (Ty.int IntKind.i64) i.2.2.2.2.1,AV.pv .i i.2.2.2.2.2.1,AV.pv .i i.2.2.2.2.2.2.1,AV.pv (.slice A0) i.2.2.2.2.2.2.2.1,AV.pv (.slice A0) i.2.2.2.2.2.2.2.2.1]]),some (Cont.cells 2 [[AV.pv .i p.1,AV.pv .i p.2.1]])]⟩)<|x1 (.exit 2) fun i p=>⟨jn 1 (AV.ptr 0 none 0 0::jn 129 ([])),[some (Cont.cells 9 [[AV.pv .i i.1,AV.pv .i i.2.1,AV.pv .i i.2.2.1,AV.pv .i i.2.2.2.1,AV.pv .i i.2.2.2.2.1,AV.pv .i i.2.2.2.2.2.1,AV.pv .i i.2.2.2.2.2.2.1,AV.pv (.slice A0) i.2.2.2.2.2.2.2.1,AV.pv (.slice A0) i.2.2.2.2.2.2.2.2.1]])]⟩
def oY:=((.v (.i (.i (.i (.i (.i (.i (.i (.i (.i .n)))))))))):Pk XZ.ty _ _)
def p4:Cfg:={ti:=Au,ents:=[M8,Sz],ann:=[(2,Ao Y0 0 (spP oZ) BZ oT.E),(8,Ao XZ 0 (spP oY) BX oS.E)],lent:=0}
def AO (x:A3×Unit):Option (Bool×Unit):=(AE (fun v=>BZ (x.1.1,x.1.2.1,x.1.2.2.1,x.1.2.2.2.1,x.1.2.2.2.2.1,x.1.2.2.2.2.2.1,x.1.2.2.2.2.2.2.1,x.1.2.2.2.2.2.2.2.1,x.1.2.2.2.2.2.2.2.2.1,()) v _ some) (0,())).bind fun p=>Az p (fun p=>some (false,())) fun p=>Az p (fun p=>some (false,())) fun p=>Az p (fun p=>some (false,())) fun p=>(AE (fun v=>BX (x.1.1,x.1.2.1,x.1.2.2.1,x.1.2.2.2.1,x.1.2.2.2.2.1,x.1.2.2.2.2.2.1,x.1.2.2.2.2.2.2.1,x.1.2.2.2.2.2.2.2.1,x.1.2.2.2.2.2.2.2.2.1,()) v _ some) (0,())).bind fun p=>Az p (fun p=>some (false,())) fun p=>Az p (fun p=>some (false,())) fun p=>Az p (fun p=>some (false,())) fun p=>(Al (x.1.1,1,9,())).bind fun v=>bif !v.1 then some (false,())else(Al (x.1.2.1,1,4,())).bind fun v=>bif !v.1 then some (false,())else(Al (x.1.2.2.2.1,0,999,())).bind fun v=>bif !v.1 then some (false,())else(Al (x.1.2.2.1,1,3,())).bind fun v=>bif v.1 then(Al (x.1.2.2.2.2.1,0,999,())).bind fun v=>bif v.1 then(Al (x.1.2.2.2.2.2.1,1,1000,())).bind fun v=>bif v.1 then bif (x.1.2.2.1==2)==decide (x.1.2.2.2.2.2.2.1>0)then(Al (x.1.2.2.2.2.2.2.1,0,999,())).bind fun v=>bif v.1 then some (decide ((x.1.2.2.2.2.2.2.2.1.length:Int)<=60),())else some (false,())else some (false,())else some (false,())else some (false,())else some (false,())
def Qh:Ent:=⟨102,⟨(.slot Ad .nil),.nil⟩,⟨(.slot .bool .nil),.nil⟩,AO⟩
theorem Y1:CfgOK Go.Proofs.Tryz.prog p4:=hcB (all_cons JB (all_cons p5 all_nil))
theorem x5:B7 Go.Proofs.Tryz.prog p4 (lpc Go.Proofs.Tryz.f102 1):=lkA Y1 XZ oY BX oS [1,2] Jz
theorem x6:B7 Go.Proofs.Tryz.prog p4 (lpc Go.Proofs.Tryz.f102 0):=lkA Y1 Y0 oZ BZ oT [1,2] JA
theorem Oj:Ah Go.Proofs.Tryz.prog Qh:=okC Y1 Go.Proofs.Tryz.func102 x6 x5
abbrev oP:=List A2×Int×Unit
abbrev oL:=Int×Unit
abbrev oM:=Int×Unit ⊕ Unit
def Dw (i:oP)(v:oL)(R:Type)(K:oL ⊕ oM->Option R):Option R:=bif decide (v.1<(i.1.length:Int))then(lAt i.1 v.1).bind fun a=>bif a.2.2.1==i.2.1 then K (.inr (.inl (v.1,())))else K (.inl (IntKind.i64.wrap (v.1+1),()))else K (.inr (.inr ()))
theorem Lw:Bi Dw:=fun i v R K=>Af (Ac fun _=>Af (Aa) (Aa)) (Aa)
def XX:Tmpl:=⟨(.slot (.slice Ae) (.slot .i (jk 3 (.slot .i (jk 14 .nil))))),.nil⟩
def oK:Exs oP oM:=xs .ret (fun i p=>⟨jn 4 (.n (p.1)::jn 15 ([])),[]⟩)<|x1 (.exit 0) fun i p=>⟨jn 20 ([]),[]⟩
def oO:=((.i (.i (.v .n))):Pk XX.ty _ _)
def A22:Cfg:={ti:=Au,ents:=[],ann:=[(2,Ao XX 0 (spP oO) Dw oK.E)],lent:=0}
def DS (x:List A2×Int×Unit):Option (Int×Unit):=(AE (fun v=>Dw (x.1,x.2.1,()) v _ some) (0,())).bind fun p=>Az p (fun p=>some (p.1,())) fun p=>some (-1,())
def Qg:Ent:=⟨172,⟨(.slot (.slice Ae) (.slot .i .nil)),.nil⟩,⟨(.slot .i .nil),.nil⟩,DS⟩
theorem oQ:CfgOK Go.Proofs.Tryz.prog A22:=hcB all_nil
theorem x4:B7 Go.Proofs.Tryz.prog A22 (lpc Go.Proofs.Tryz.f172 0):=lkA oQ XX oO Dw oK [4] Lw
theorem XY:Ah Go.Proofs.Tryz.prog Qg:=okB oQ Go.Proofs.Tryz.func172 x4
abbrev oI:=List (List A2)×A3
abbrev oF:=Int×Unit
abbrev oG:=Unit ⊕ Unit
def DR (i:oI)(v:oF)(R:Type)(K:oF ⊕ oG->Option R):Option R:=bif decide (v.1<(i.2.2.2.2.2.2.2.2.1.length:Int))then(lAt i.2.2.2.2.2.2.2.2.1 v.1).bind fun a=>(lAt i.1 a.1).bind fun b=>(lAt i.2.2.2.2.2.2.2.2.1 v.1).bind fun c=>(DS (b,c.2.1,())).bind fun d=>bif decide (d.1<0)then K (.inr (.inl ()))else K (.inl (IntKind.i64.wrap (v.1+1),()))else K (.inr (.inr ()))
theorem M4:Bi DR:=fun i v R K=>Af (Ac fun _=>Ac fun _=>Ac fun _=>Ac fun _=>Af (Aa) (Aa)) (Aa)
def XV:Tmpl:=⟨(jk 2 (.ptr 0 0 0 (.ptr 1 0 0 (.junk (.slot .i (jk 33 .nil)))))),(.cells 1 (.slot (.slice (.slice Ae)) .nil) (.cells 9 (si 7 (.slot (.slice A0) (.slot (.slice A0) .nil))) .nil))⟩
def oE:Exs oI oG:=xs .ret (fun i p=>⟨jn 4 (.b (false)::jn 34 ([])),[some (Cont.cells 1 [[AV.pv (.slice (.slice Ae)) i.1]]),some (Cont.cells 9 [[AV.pv .i i.2.1,AV.pv .i i.2.2.1,AV.pv .i i.2.2.2.1,AV.pv .i i.2.2.2.2.1,AV.pv .i i.2.2.2.2.2.1,AV.pv .i i.2.2.2.2.2.2.1,AV.pv .i i.2.2.2.2.2.2.2.1,AV.pv (.slice A0) i.2.2.2.2.2.2.2.2.1,AV.pv (.slice A0) i.2.2.2.2.2.2.2.2.2.1]])]⟩)<|x1 (.exit 0) fun i p=>⟨jn 39 ([]),[some (Cont.cells 1 [[AV.pv (.slice (.slice Ae)) i.1]]),some (Cont.cells 9 [[AV.pv .i i.2.1,AV.pv .i i.2.2.1,AV.pv .i i.2.2.2.1,AV.pv .i i.2.2.2.2.1,AV.pv .i i.2.2.2.2.2.1,AV.pv .i i.2.2.2.2.2.2.1,AV.pv .i i.2.2.2.2.2.2.2.1,AV.pv (.slice A0) i.2.2.2.2.2.2.2.2.1,AV.pv (.slice A0) i.2.2.2.2.2.2.2.2.2.1]])]⟩
def oH:=((.v (.i (.i (.i (.i (.i (.i (.i (.i (.i (.i .n))))))))))):Pk XV.ty _ _)
def A21:Cfg:={ti:=Au,ents:=[OP,Qh,Qg],ann:=[(4,Ao XV 0 (spP oH) DR oE.E)],lent:=0}
def Dk (x:A4×A3×Unit):Option (Bool×Unit):=(Bs ((x.1.1,()),())).bind fun v=>bif !v.1 then some (false,())else(AO ((x.2.1.1,x.2.1.2.1,x.2.1.2.2.1,x.2.1.2.2.2.1,x.2.1.2.2.2.2.1,x.2.1.2.2.2.2.2.1,x.2.1.2.2.2.2.2.2.1,x.2.1.2.2.2.2.2.2.2.1,x.2.1.2.2.2.2.2.2.2.2.1,()),())).bind fun v=>bif !v.1 then some (false,())else(AE (fun v=>DR (x.1.1,x.2.1.1,x.2.1.2.1,x.2.1.2.2.1,x.2.1.2.2.2.1,x.2.1.2.2.2.2.1,x.2.1.2.2.2.2.2.1,x.2.1.2.2.2.2.2.2.1,x.2.1.2.2.2.2.2.2.2.1,x.2.1.2.2.2.2.2.2.2.2.1,()) v _ some) (0,())).bind fun p=>Az p (fun p=>some (false,())) fun p=>some (true,())
def Sy:Ent:=⟨103,⟨(.slot Bo (.slot Ad .nil)),.nil⟩,⟨(.slot .bool .nil),.nil⟩,Dk⟩
theorem oJ:CfgOK Go.Proofs.Tryz.prog A21:=hcB (all_cons Ok (all_cons Oj (all_cons XY all_nil)))
theorem x3:B7 Go.Proofs.Tryz.prog A21 (lpc Go.Proofs.Tryz.f103 0):=lkA oJ XV oH DR oE [4] M4
theorem XW:Ah Go.Proofs.Tryz.prog Sy:=okB oJ Go.Proofs.Tryz.func103 x3
def EP (x:A5×Int×Unit):Option (Bool×Unit):=(Dm ((x.1.1,(x.1.2.1.1,()),x.1.2.2.1,x.1.2.2.2.1,x.1.2.2.2.2.1,x.1.2.2.2.2.2.1,()),x.2.1,())).bind fun v=>bif decide (v.1>=0)then(lAt x.1.2.2.1 v.1).bind fun v=>some (v.2.2.1==1,())else some (false,())
def an:Ent:=⟨104,⟨(.slot C1 (.slot .i .nil)),.nil⟩,⟨(.slot .bool .nil),.nil⟩,EP⟩
theorem A49:Ah Go.Proofs.Tryz.prog an:=okA (hcA 0 (all_cons pN all_nil)) Go.Proofs.Tryz.func104
abbrev oD:=Bool×List (List A2)×List A3×List A1×List A1×Int×Unit
abbrev oA:=Int×Unit
abbrev oB:=A3 ⊕ A3 ⊕ A3 ⊕ A3 ⊕ A3 ⊕ A3 ⊕ A3 ⊕ A3 ⊕ Unit
def Cl (i:oD)(v:oA)(R:Type)(K:oA ⊕ oB->Option R):Option R:=bif decide (v.1<(i.2.2.1.length:Int))then(lAt i.2.2.1 v.1).bind fun a=>(AO ((a.1,a.2.1,a.2.2.1,a.2.2.2.1,a.2.2.2.2.1,a.2.2.2.2.2.1,a.2.2.2.2.2.2.1,a.2.2.2.2.2.2.2.1,a.2.2.2.2.2.2.2.2.1,()),())).bind fun b=>bif !b.1 then K (.inr (.inl (a.1,a.2.1,a.2.2.1,a.2.2.2.1,a.2.2.2.2.1,a.2.2.2.2.2.1,a.2.2.2.2.2.2.1,a.2.2.2.2.2.2.2.1,a.2.2.2.2.2.2.2.2.1,())))else bif decide (v.1>0)then(lAt i.2.2.1 (IntKind.i64.wrap (v.1-1))).bind fun c=>bif decide (c.1>=a.1)then K (.inr (.inr (.inl (a.1,a.2.1,a.2.2.1,a.2.2.2.1,a.2.2.2.2.1,a.2.2.2.2.2.1,a.2.2.2.2.2.2.1,a.2.2.2.2.2.2.2.1,a.2.2.2.2.2.2.2.2.1,()))))else bif decide (a.2.2.2.1>i.2.2.2.2.2.1)then K (.inr (.inr (.inr (.inl (a.1,a.2.1,a.2.2.1,a.2.2.2.1,a.2.2.2.2.1,a.2.2.2.2.2.1,a.2.2.2.2.2.2.1,a.2.2.2.2.2.2.2.1,a.2.2.2.2.2.2.2.2.1,())))))else bif decide (a.2.2.2.2.2.2.1>i.2.2.2.2.2.1)then K (.inr (.inr (.inr (.inr (.inl (a.1,a.2.1,a.2.2.1,a.2.2.2.1,a.2.2.2.2.1,a.2.2.2.2.2.1,a.2.2.2.2.2.2.1,a.2.2.2.2.2.2.2.1,a.2.2.2.2.2.2.2.2.1,()))))))else bif a.2.2.1==1 then(Dk ((i.2.1,()),(a.1,a.2.1,a.2.2.1,a.2.2.2.1,a.2.2.2.2.1,a.2.2.2.2.2.1,a.2.2.2.2.2.2.1,a.2.2.2.2.2.2.2.1,a.2.2.2.2.2.2.2.2.1,()),())).bind fun d=>bif !d.1 then K (.inr (.inr (.inr (.inr (.inr (.inl (a.1,a.2.1,a.2.2.1,a.2.2.2.1,a.2.2.2.2.1,a.2.2.2.2.2.1,a.2.2.2.2.2.2.1,a.2.2.2.2.2.2.2.1,a.2.2.2.2.2.2.2.2.1,())))))))else K (.inl (IntKind.i64.wrap (v.1+1),()))else K (.inl (IntKind.i64.wrap (v.1+1),()))else bif decide (a.2.2.2.1>i.2.2.2.2.2.1)then K (.inr (.inr (.inr (.inr (.inr (.inr (.inl (a.1,a.2.1,a.2.2.1,a.2.2.2.1,a.2.2.2.2.1,a.2.2.2.2.2.1,a.2.2.2.2.2.2.1,a.2.2.2.2.2.2.2.1,a.2.2.2.2.2.2.2.2.1,()))))))))else bif decide (a.2.2.2.2.2.2.1>i.2.2.2.2.2.1)then K (.inr (.inr (.inr (.inr (.inr (.inr (.inr (.inl (a.1,a.2.1,a.2.2.1,a.2.2.2.1,a.2.2.2.2.1,a.2.2.2.2.2.1,a.2.2.2.2.2.2.1,a.2.2.2.2.2.2.2.1,a.2.2.2.2.2.2.2.2.1,())))))))))else bif a.2.2.1==1 then(Dk ((i.2.1,()),(a.1,a.2.1,a.2.2.1,a.2.2.2.1,a.2.2.2.2.1,a.2.2.2.2.2.1,a.2.2.2.2.2.2.1,a.2.2.2.2.2.2.2.1,a.2.2.2.2.2.2.2.2.1,()),())).bind fun c=>bif !c.1 then K (.inr (.inr (.inr (.inr (.inr (.inr (.inr (.inr (.inl (a.1,a.2.1,a.2.2.1,a.2.2.2.1,a.2.2.2.2.1,a.2.2.2.2.2.1,a.2.2.2.2.2.2.1,a.2.2.2.2.2.2.2.1,a.2.2.2.2.2.2.2.2.1,()))))))))))else K (.inl (IntKind.i64.wrap (v.1+1),()))else K (.inl (IntKind.i64.wrap (v.1+1),()))else K (.inr (.inr (.inr (.inr (.inr (.inr (.inr (.inr (.inr ())))))))))
theorem KW:Bi Cl:=fun i v R K=>Af (Ac fun _=>Ac fun _=>Af (Aa) (Af (Ac fun _=>Af (Aa) (Af (Aa) (Af (Aa) (Af (Ac fun _=>Af (Aa) (Aa)) (Aa))))) (Af (Aa) (Af (Aa) (Af (Ac fun _=>Af (Aa) (Aa)) (Aa)))))) (Aa)
def XU:Tmpl:=⟨(.junk (.ptr 0 0 0 (.junk (.slot .i (jk 134 .nil))))),(.cells 6 (.slot .bool (.slot (.slice (.slice Ae)) (.slot (.slice Ad) (.slot (.slice A0) (.slot (.slice A0) (.slot .i .nil)))))) .nil)⟩
def oz:Exs oD oB:=xs .ret (fun i p=>⟨jn 1 (AV.ptr 0 none 0 0::.b (false)::jn 135 ([])),[some (Cont.cells 6 [[AV.pv .bool i.1,AV.pv (.slice (.slice Ae)) i.2.1,AV.pv (.slice Ad) i.2.2.1,AV.pv (.slice A0) i.2.2.2.1,AV.pv (.slice A0) i.2.2.2.2.1,AV.pv (Ty.int IntKind.i64) i.2.2.2.2.2.1]]),some (Cont.cells 9 [[AV.pv .i p.1,AV.pv .i p.2.1,AV.pv .i p.2.2.1,AV.pv .i p.2.2.2.1,AV.pv .i p.2.2.2.2.1,AV.pv .i p.2.2.2.2.2.1,AV.pv .i p.2.2.2.2.2.2.1,AV.pv (.slice A0) p.2.2.2.2.2.2.2.1,AV.pv (.slice A0) p.2.2.2.2.2.2.2.2.1]])]⟩)<|xs .ret (fun i p=>⟨jn 1 (AV.ptr 0 none 0 0::.b (false)::jn 135 ([])),[some (Cont.cells 6 [[AV.pv .bool i.1,AV.pv (.slice (.slice Ae)) i.2.1,AV.pv (.slice Ad) i.2.2.1,AV.pv (.slice A0) i.2.2.2.1,AV.pv (.slice A0) i.2.2.2.2.1,AV.pv (Ty.int IntKind.i64) i.2.2.2.2.2.1]]),some (Cont.cells 9 [[AV.pv .i p.1,AV.pv .i p.2.1,AV.pv .i p.2.2.1,AV.pv .i p.2.2.2.1,AV.pv .i p.2.2.2.2.1,AV.pv .i p.2.2.2.2.2.1,AV.pv .i p.2.2.2.2.2.2.1,AV.pv (.slice A0) p.2.2.2.2.2.2.2.1,AV.pv (.slice A0) p.2.2.2.2.2.2.2.2.1]])]⟩)<|xs .ret (fun i p=>⟨jn 1 (AV.ptr 0 none 0 0::.b (false)::jn 135 ([])),[some (Cont.cells 6 [[AV.pv .bool i.1,AV.pv (.slice (.slice Ae)) i.2.1,AV.pv (.slice Ad) i.2.2.1,AV.pv (.slice A0) i.2.2.2.1,AV.pv (.slice A0) i.2.2.2.2.1,AV.pv (Ty.int IntKind.i64) i.2.2.2.2.2.1]]),some (Cont.cells 9 [[AV.pv .i p.1,AV.pv .i p.2.1,AV.pv .i p.2.2.1,AV.pv .i p.2.2.2.1,AV.pv .i p.2.2.2.2.1,AV.pv .i p.2.2.2.2.2.1,AV.pv .i p.2.2.2.2.2.2.1,AV.pv (.slice A0) p.2.2.2.2.2.2.2.1,AV.pv (.slice A0) p.2.2.2.2.2.2.2.2.1]])]⟩)<|xs .ret (fun i p=>⟨jn 1 (AV.ptr 0 none 0 0::.b (false)::jn 135 ([])),[some (Cont.cells 6 [[AV.pv .bool i.1,AV.pv (.slice (.slice Ae)) i.2.1,AV.pv (.slice Ad) i.2.2.1,AV.pv (.slice A0) i.2.2.2.1,AV.pv (.slice A0) i.2.2.2.2.1,AV.pv (Ty.int IntKind.i64) i.2.2.2.2.2.1]]),some (Cont.cells 9 [[AV.pv .i p.1,AV.pv .i p.2.1,AV.pv .i p.2.2.1,AV.pv .i p.2.2.2.1,AV.pv .i p.2.2.2.2.1,AV.pv .i p.2.2.2.2.2.1,AV.pv .i p.2.2.2.2.2.2.1,AV.pv (.slice A0) p.2.2.2.2.2.2.2.1,AV.pv (.slice A0) p.2.2.2.2.2.2.2.2.1]])]⟩)<|xs .ret (fun i p=>⟨jn 1 (AV.ptr 0 none 0 0::.b (false)::jn 135 ([])),[some (Cont.cells 6 [[AV.pv .bool i.1,AV.pv (.slice (.slice Ae)) i.2.1,AV.pv (.slice Ad) i.2.2.1,AV.pv (.slice A0) i.2.2.2.1,AV.pv (.slice A0) i.2.2.2.2.1,AV.pv (Ty.int IntKind.i64) i.2.2.2.2.2.1]]),some (Cont.cells 9 [[AV.pv .i p.1,AV.pv .i p.2.1,AV.pv .i p.2.2.1,AV.pv .i p.2.2.2.1,AV.pv .i p.2.2.2.2.1,AV.pv .i p.2.2.2.2.2.1,AV.pv .i p.2.2.2.2.2.2.1,AV.pv (.slice A0) p.2.2.2.2.2.2.2.1,AV.pv (.slice A0) p.2.2.2.2.2.2.2.2.1]])]⟩)<|xs .ret (fun i p=>⟨jn 1 (AV.ptr 0 none 0 0::.b (false)::jn 135 ([])),[some (Cont.cells 6 [[AV.pv .bool i.1,AV.pv (.slice (.slice Ae)) i.2.1,AV.pv (.slice Ad) i.2.2.1,AV.pv (.slice A0) i.2.2.2.1,AV.pv (.slice A0) i.2.2.2.2.1,AV.pv (Ty.int IntKind.i64) i.2.2.2.2.2.1]]),some (Cont.cells 9 [[AV.pv .i p.1,AV.pv .i p.2.1,AV.pv .i p.2.2.1,AV.pv .i p.2.2.2.1,AV.pv .i p.2.2.2.2.1,AV.pv .i p.2.2.2.2.2.1,AV.pv .i p.2.2.2.2.2.2.1,AV.pv (.slice A0) p.2.2.2.2.2.2.2.1,AV.pv (.slice A0) p.2.2.2.2.2.2.2.2.1]])]⟩)<|xs .ret (fun i p=>⟨jn 1 (AV.ptr 0 none 0 0::.b (false)::jn 135 ([])),[some (Cont.cells 6 [[AV.pv .bool i.1,AV.pv (.slice (.slice Ae)) i.2.1,AV.pv (.slice Ad) i.2.2.1,AV.pv (.slice A0) i.2.2.2.1,AV.pv (.slice A0) i.2.2.2.2.1,AV.pv (Ty.int IntKind.i64) i.2.2.2.2.2.1]]),some (Cont.cells 9 [[AV.pv .i p.1,AV.pv .i p.2.1,AV.pv .i p.2.2.1,AV.pv .i p.2.2.2.1,AV.pv .i p.2.2.2.2.1,AV.pv .i p.2.2.2.2.2.1,AV.pv .i p.2.2.2.2.2.2.1,AV.pv (.slice A0) p.2.2.2.2.2.2.2.1,AV.pv (.slice A0) p.2.2.2.2.2.2.2.2.1]])]⟩)<|xs .ret (fun i p=>⟨jn 1 (AV.ptr 0 none 0 0::.b (false)::jn 135 ([])),[some (Cont.cells 6 [[AV.pv .bool i.1,AV.pv (.slice (.slice Ae)) i.2.1,AV.pv (.slice Ad) i.2.2.1,AV.pv (.slice A0) i.2.2.2.1,AV.pv (.slice A0) i.2.2.2.2.1,AV.pv (Ty.int IntKind.i64) i.2.2.2.2.2.1]]),some (Cont.cells 9 [[AV.pv .i p.1,AV.pv .i p.2.1,AV.pv .i p.2.2.1,AV.pv .i p.2.2.2.1,AV.pv .i p.2.2.2.2.1,AV.pv .i p.2.2.2.2.2.1,AV.pv .i p.2.2.2.2.2.2.1,AV.pv (.slice A0) p.2.2.2.2.2.2.2.1,AV.pv (.slice A0) p.2.2.2.2.2.2.2.2.1]])]⟩)<|x1 (.exit 0) fun i p=>⟨jn 1 (AV.ptr 0 none 0 0::jn 136 ([])),[some (Cont.cells 6 [[AV.pv .bool i.1,AV.pv (.slice (.slice Ae)) i.2.1,AV.pv (.slice Ad) i.2.2.1,AV.pv (.slice A0) i.2.2.2.1,AV.pv (.slice A0) i.2.2.2.2.1,AV.pv .i i.2.2.2.2.2.1]])]⟩
def oC:=((.v (.i (.i (.i (.i (.i (.i .n))))))):Pk XU.ty _ _)
abbrev ak:=Bool×List (List A2)×List A3×List A1×List A1×Int×Unit
abbrev ae:=Int×Unit
abbrev ag:=Unit ⊕ Unit
def C7 (i:ak)(v:ae)(R:Type)(K:ae ⊕ ag->Option R):Option R:=bif decide (v.1<(i.2.2.2.1.length:Int))then(lAt i.2.2.2.1 v.1).bind fun a=>(EP ((i.1,(i.2.1,()),i.2.2.1,i.2.2.2.1,i.2.2.2.2.1,i.2.2.2.2.2.1,()),a.2.1,())).bind fun b=>bif !b.1 then K (.inr (.inl ()))else K (.inl (IntKind.i64.wrap (v.1+1),()))else K (.inr (.inr ()))
theorem KD:Bi C7:=fun i v R K=>Af (Ac fun _=>Ac fun _=>Af (Aa) (Aa)) (Aa)
def Sw:Tmpl:=⟨(.junk (.ptr 0 0 0 (jk 3 (.slot .i (jk 132 .nil))))),(.cells 6 (.slot .bool (.slot (.slice (.slice Ae)) (.slot (.slice Ad) (.slot (.slice A0) (.slot (.slice A0) (.slot .i .nil)))))) .nil)⟩
def aa:Exs ak ag:=xs .ret (fun i p=>⟨jn 1 (AV.ptr 0 none 0 0::.b (false)::jn 135 ([])),[some (Cont.cells 6 [[AV.pv .bool i.1,AV.pv (.slice (.slice Ae)) i.2.1,AV.pv (.slice Ad) i.2.2.1,AV.pv (.slice A0) i.2.2.2.1,AV.pv (.slice A0) i.2.2.2.2.1,AV.pv (Ty.int IntKind.i64) i.2.2.2.2.2.1]])]⟩)<|x1 (.exit 2) fun i p=>⟨jn 1 (AV.ptr 0 none 0 0::jn 136 ([])),[some (Cont.cells 6 [[AV.pv .bool i.1,AV.pv (.slice (.slice Ae)) i.2.1,AV.pv (.slice Ad) i.2.2.1,AV.pv (.slice A0) i.2.2.2.1,AV.pv (.slice A0) i.2.2.2.2.1,AV.pv .i i.2.2.2.2.2.1]])]⟩
def ai:=((.v (.i (.i (.i (.i (.i (.i .n))))))):Pk Sw.ty _ _)
abbrev aj:=Bool×List (List A2)×List A3×List A1×List A1×Int×Unit
abbrev ac:=Int×Unit
abbrev af:=Unit ⊕ Unit ⊕ Unit
def C6 (i:aj)(v:ac)(R:Type)(K:ac ⊕ af->Option R):Option R:=bif decide (v.1<(i.2.2.2.2.1.length:Int))then(lAt i.2.2.2.2.1 v.1).bind fun a=>(EP ((i.1,(i.2.1,()),i.2.2.1,i.2.2.2.1,i.2.2.2.2.1,i.2.2.2.2.2.1,()),a.1,())).bind fun b=>bif !b.1 then K (.inr (.inl ()))else(lAt i.2.2.2.2.1 v.1).bind fun c=>(EP ((i.1,(i.2.1,()),i.2.2.1,i.2.2.2.1,i.2.2.2.2.1,i.2.2.2.2.2.1,()),c.2.1,())).bind fun d=>bif !d.1 then K (.inr (.inr (.inl ())))else K (.inl (IntKind.i64.wrap (v.1+1),()))else K (.inr (.inr (.inr ())))
theorem KC:Bi C6:=fun i v R K=>Af (Ac fun _=>Ac fun _=>Af (Aa) (Ac fun _=>Ac fun _=>Af (Aa) (Aa))) (Aa)
def Sv:Tmpl:=⟨(.junk (.ptr 0 0 0 (jk 4 (.slot .i (jk 131 .nil))))),(.cells 6 (.slot .bool (.slot (.slice (.slice Ae)) (.slot (.slice Ad) (.slot (.slice A0) (.slot (.slice A0) (.slot .i .nil)))))) .nil)⟩
def ZZ:Exs aj af:=xs .ret (fun i p=>⟨jn 2 (.b (false)::jn 135 ([])),[some (Cont.cells 6 [[AV.pv .bool i.1,AV.pv (.slice (.slice Ae)) i.2.1,AV.pv (.slice Ad) i.2.2.1,AV.pv (.slice A0) i.2.2.2.1,AV.pv (.slice A0) i.2.2.2.2.1,AV.pv .i i.2.2.2.2.2.1]])]⟩)<|xs .ret (fun i p=>⟨jn 2 (.b (false)::jn 135 ([])),[some (Cont.cells 6 [[AV.pv .bool i.1,AV.pv (.slice (.slice Ae)) i.2.1,AV.pv (.slice Ad) i.2.2.1,AV.pv (.slice A0) i.2.2.2.1,AV.pv (.slice A0) i.2.2.2.2.1,AV.pv .i i.2.2.2.2.2.1]])]⟩)<|x1 (.exit 4) fun i p=>⟨jn 138 ([]),[some (Cont.cells 6 [[AV.pv .bool i.1,AV.pv (.slice (.slice Ae)) i.2.1,AV.pv (.slice Ad) i.2.2.1,AV.pv (.slice A0) i.2.2.2.1,AV.pv (.slice A0) i.2.2.2.2.1,AV.pv .i i.2.2.2.2.2.1]])]⟩
def ah:=((.v (.i (.i (.i (.i (.i (.i .n))))))):Pk Sv.ty _ _)
def am:Cfg:={ti:=Au,ents:=[OP,SA,Qi,aq,M8,Qh,Sy,an],ann:=[(4,Ao XU 0 (spP oC) Cl oz.E),(10,Ao Sw 0 (spP ai) C7 aa.E),(15,Ao Sv 0 (spP ah) C6 ZZ.E)],lent:=0}
def FR (x:A5×Unit):Option (Bool×Unit):=(Bs ((x.1.2.1.1,()),())).bind fun v=>bif !v.1 then some (false,())else(En (x.1.2.2.2.1,())).bind fun v=>bif !v.1 then some (false,())else(Em (x.1.2.2.2.2.1,())).bind fun v=>bif !v.1 then some (false,())else(GB ((x.1.2.1.1,()),())).bind fun v=>(Al (x.1.2.2.2.2.2.1,v.1,999,())).bind fun v=>bif !v.1 then some (false,())else bif decide ((x.1.2.2.1.length:Int)>6)then some (false,())else(AE (fun v=>Cl (x.1.1,x.1.2.1.1,x.1.2.2.1,x.1.2.2.2.1,x.1.2.2.2.2.1,x.1.2.2.2.2.2.1,()) v _ some) (0,())).bind fun p=>Az p (fun p=>some (false,())) fun p=>Az p (fun p=>some (false,())) fun p=>Az p (fun p=>some (false,())) fun p=>Az p (fun p=>some (false,())) fun p=>Az p (fun p=>some (false,())) fun p=>Az p (fun p=>some (false,())) fun p=>Az p (fun p=>some (false,())) fun p=>Az p (fun p=>some (false,())) fun p=>(AE (fun v=>C7 (x.1.1,x.1.2.1.1,x.1.2.2.1,x.1.2.2.2.1,x.1.2.2.2.2.1,x.1.2.2.2.2.2.1,()) v _ some) (0,())).bind fun p=>Az p (fun p=>some (false,())) fun p=>(AE (fun v=>C6 (x.1.1,x.1.2.1.1,x.1.2.2.1,x.1.2.2.2.1,x.1.2.2.2.2.1,x.1.2.2.2.2.2.1,()) v _ some) (0,())).bind fun p=>Az p (fun p=>some (false,())) fun p=>Az p (fun p=>some (false,())) fun p=>some (true,())
def al:Ent:=⟨51,⟨(.slot C1 .nil),.nil⟩,⟨(.slot .bool .nil),.nil⟩,FR⟩
theorem Sx:CfgOK Go.Proofs.Tryz.prog am:=hcB (all_cons Ok (all_cons Y8 (all_cons Y6 (all_cons pe (all_cons JB (all_cons Oj (all_cons XW (all_cons A49 all_nil))))))))
theorem ox:B7 Go.Proofs.Tryz.prog am (lpc Go.Proofs.Tryz.f51 2):=lkA Sx Sv ah C6 ZZ [2] KC
theorem oy:B7 Go.Proofs.Tryz.prog am (lpc Go.Proofs.Tryz.f51 1):=lkA Sx Sw ai C7 aa [1,2] KD
theorem wZ:B7 Go.Proofs.Tryz.prog am (lpc Go.Proofs.Tryz.f51 0):=lkA Sx XU oC Cl oz [1,2] KW
theorem A48:Ah Go.Proofs.Tryz.prog al:=js Sx Go.Proofs.Tryz.func51 3 (by kernel_rfl) (fun k hk=>match k,hk with|0,_=>wZ|1,_=>oy|2,_=>ox) (by kernel_rfl) (by kernel_rfl) (fun x=>by kernel_rfl)
def Ic (x:A6×Unit):Option (Bool×Unit):=bif x.1.1==1 then bif !(x.1.1==x.1.1&&(x.1.2.1==x.1.2.1&&(x.1.2.2.1==x.1.2.2.1&&(0==x.1.2.2.2.1&&(0==x.1.2.2.2.2.1&&(0==x.1.2.2.2.2.2.1&&true))))))then some (false,())else(Al (x.1.2.1,1,9,())).bind fun v=>bif !v.1 then some (false,())else(Al (x.1.2.2.2.1,0,5,())).bind fun v=>bif !v.1 then some (false,())else(Al (x.1.2.2.2.2.2.1,-1,99,())).bind fun v=>bif !v.1 then some (false,())else bif x.1.1 != 1 then bif x.1.1 != 4 then some (true,())else(Al (x.1.2.2.2.2.1,x.1.2.2.2.1,5,())).bind fun v=>some (v.1,())else(Al (x.1.2.2.1,1,4,())).bind fun v=>bif v.1 then bif x.1.1 != 4 then some (true,())else(Al (x.1.2.2.2.2.1,x.1.2.2.2.1,5,())).bind fun v=>some (v.1,())else some (false,())else bif x.1.1==2 then bif !(x.1.1==x.1.1&&(x.1.2.1==x.1.2.1&&(0==x.1.2.2.1&&(x.1.2.2.2.1==x.1.2.2.2.1&&(0==x.1.2.2.2.2.1&&(0==x.1.2.2.2.2.2.1&&true))))))then some (false,())else(Al (x.1.2.1,1,9,())).bind fun v=>bif !v.1 then some (false,())else(Al (x.1.2.2.2.1,0,5,())).bind fun v=>bif !v.1 then some (false,())else(Al (x.1.2.2.2.2.2.1,-1,99,())).bind fun v=>bif !v.1 then some (false,())else bif x.1.1 != 1 then bif x.1.1 != 4 then some (true,())else(Al (x.1.2.2.2.2.1,x.1.2.2.2.1,5,())).bind fun v=>some (v.1,())else(Al (x.1.2.2.1,1,4,())).bind fun v=>bif v.1 then bif x.1.1 != 4 then some (true,())else(Al (x.1.2.2.2.2.1,x.1.2.2.2.1,5,())).bind fun v=>some (v.1,())else some (false,())else bif x.1.1==3 then bif !(x.1.1==x.1.1&&(x.1.2.1==x.1.2.1&&(0==x.1.2.2.1&&(x.1.2.2.2.1==x.1.2.2.2.1&&(0==x.1.2.2.2.2.1&&(x.1.2.2.2.2.2.1==x.1.2.2.2.2.2.1&&true))))))then some (false,())else(Al (x.1.2.1,1,9,())).bind fun v=>bif !v.1 then some (false,())else(Al (x.1.2.2.2.1,0,5,())).bind fun v=>bif !v.1 then some (false,())else(Al (x.1.2.2.2.2.2.1,-1,99,())).bind fun v=>bif !v.1 then some (false,())else bif x.1.1 != 1 then bif x.1.1 != 4 then some (true,())else(Al (x.1.2.2.2.2.1,x.1.2.2.2.1,5,())).bind fun v=>some (v.1,())else(Al (x.1.2.2.1,1,4,())).bind fun v=>bif v.1 then bif x.1.1 != 4 then some (true,())else(Al (x.1.2.2.2.2.1,x.1.2.2.2.1,5,())).bind fun v=>some (v.1,())else some (false,())else bif x.1.1==4 then bif !(x.1.1==x.1.1&&(x.1.2.1==x.1.2.1&&(0==x.1.2.2.1&&(x.1.2.2.2.1==x.1.2.2.2.1&&(x.1.2.2.2.2.1==x.1.2.2.2.2.1&&(0==x.1.2.2.2.2.2.1&&true))))))then some (false,())else(Al (x.1.2.1,1,9,())).bind fun v=>bif !v.1 then some (false,())else(Al (x.1.2.2.2.1,0,5,())).bind fun v=>bif !v.1 then some (false,())else(Al (x.1.2.2.2.2.2.1,-1,99,())).bind fun v=>bif !v.1 then some (false,())else bif x.1.1 != 1 then bif x.1.1 != 4 then some (true,())else(Al (x.1.2.2.2.2.1,x.1.2.2.2.1,5,())).bind fun v=>some (v.1,())else(Al (x.1.2.2.1,1,4,())).bind fun v=>bif v.1 then bif x.1.1 != 4 then some (true,())else(Al (x.1.2.2.2.2.1,x.1.2.2.2.1,5,())).bind fun v=>some (v.1,())else some (false,())else bif x.1.1==5 then bif x.1.1==5 then bif !(x.1.1==x.1.1&&(x.1.2.1==x.1.2.1&&(0==x.1.2.2.1&&(0==x.1.2.2.2.1&&(0==x.1.2.2.2.2.1&&(0==x.1.2.2.2.2.2.1&&true))))))then some (false,())else(Al (x.1.2.1,1,9,())).bind fun v=>bif !v.1 then some (false,())else(Al (x.1.2.2.2.1,0,5,())).bind fun v=>bif !v.1 then some (false,())else(Al (x.1.2.2.2.2.2.1,-1,99,())).bind fun v=>bif !v.1 then some (false,())else bif x.1.1 != 1 then bif x.1.1 != 4 then some (true,())else(Al (x.1.2.2.2.2.1,x.1.2.2.2.1,5,())).bind fun v=>some (v.1,())else(Al (x.1.2.2.1,1,4,())).bind fun v=>bif v.1 then bif x.1.1 != 4 then some (true,())else(Al (x.1.2.2.2.2.1,x.1.2.2.2.1,5,())).bind fun v=>some (v.1,())else some (false,())else some (false,())else bif x.1.1==6 then bif !(x.1.1==x.1.1&&(x.1.2.1==x.1.2.1&&(0==x.1.2.2.1&&(0==x.1.2.2.2.1&&(0==x.1.2.2.2.2.1&&(0==x.1.2.2.2.2.2.1&&true))))))then some (false,())else(Al (x.1.2.1,1,9,())).bind fun v=>bif !v.1 then some (false,())else(Al (x.1.2.2.2.1,0,5,())).bind fun v=>bif !v.1 then some (false,())else(Al (x.1.2.2.2.2.2.1,-1,99,())).bind fun v=>bif !v.1 then some (false,())else bif x.1.1 != 1 then bif x.1.1 != 4 then some (true,())else(Al (x.1.2.2.2.2.1,x.1.2.2.2.1,5,())).bind fun v=>some (v.1,())else(Al (x.1.2.2.1,1,4,())).bind fun v=>bif v.1 then bif x.1.1 != 4 then some (true,())else(Al (x.1.2.2.2.2.1,x.1.2.2.2.1,5,())).bind fun v=>some (v.1,())else some (false,())else some (false,())
def ZY:Ent:=⟨52,⟨(.slot YOp .nil),.nil⟩,⟨(.slot .bool .nil),.nil⟩,Ic⟩
theorem A47:Ah Go.Proofs.Tryz.prog ZY:=okA (hcA 0 (all_cons JB all_nil)) Go.Proofs.Tryz.func52
def Fi (x:B3):Option (Int×Int×Int×Int×Int×Int×Int×Bool×Unit):=(AO ((x.1,x.2.1,1,x.2.2.1,0,1000,0,[],[],()),())).bind fun v=>bif !v.1 then some (0,0,0,0,0,0,0,false,())else some (x.1,x.2.1,1,x.2.2.1,0,1000,0,true,())
def ZX:Ent:=⟨53,⟨(si 3 .nil),.nil⟩,⟨(.agg (si 7 (.const (AV.nils) (.const (AV.nils) .nil))) (.slot .bool .nil)),.nil⟩,Fi⟩
theorem A46:Ah Go.Proofs.Tryz.prog ZX:=okA (hcA 0 (all_cons Oj all_nil)) Go.Proofs.Tryz.func53
abbrev ov:=List A1×Int×Unit
abbrev oq:=Int×List A1×Unit
abbrev ot:=List A1×Unit
def FD (i:ov)(v:oq)(R:Type)(K:oq ⊕ ot->Option R):Option R:=bif decide (v.1<(i.1.length:Int))then(lAt i.1 v.1).bind fun a=>bif a.1 != i.2.1 then(lAt i.1 v.1).bind fun b=>if(v.2.1++[(b.1,b.2.1,())]).length<=2199023255552 then K (.inl (IntKind.i64.wrap (v.1+1),v.2.1++[(b.1,b.2.1,())],()))else none else K (.inl (IntKind.i64.wrap (v.1+1),v.2.1,()))else K (.inr (v.2.1,()))
theorem NP:Bi FD:=fun i v R K=>Af (Ac fun _=>Af (Ac fun _=>Ay (Aa)) (Aa)) (Aa)
def XT:Tmpl:=⟨(.slot (.slice A0) (.slot .i (jk 3 (.own 0 (.slot .i (jk 22 .nil)))))),(.lst false A0 .nil)⟩
def oo:Exs ov ot:=x1 (.exit 0) fun i p=>⟨jn 5 (AV.own 0 none none::jn 23 ([])),[some (Cont.lst false A0 p.1)]⟩
def ou:=((.i (.i (.v (.v .n)))):Pk XT.ty _ _)
def A20:Cfg:={ti:=Au,ents:=[],ann:=[(3,Ao XT 0 (spP ou) FD oo.E)],lent:=0}
def J2 (x:List A1×Int×Unit):Option (List A1×Unit):=(AE (fun v=>FD (x.1,x.2.1,()) v _ some) (0,[],())).bind fun p=>some (p.1,())
def ZW:Ent:=⟨54,⟨(.slot (.slice A0) (.slot .i .nil)),.nil⟩,⟨(.own 0 .nil),(.lst false A0 .nil)⟩,J2⟩
theorem ow:CfgOK Go.Proofs.Tryz.prog A20:=hcB all_nil
theorem wY:B7 Go.Proofs.Tryz.prog A20 (lpc Go.Proofs.Tryz.f54 0):=lkA ow XT ou FD oo [5] NP
theorem A45:Ah Go.Proofs.Tryz.prog ZW:=okB ow Go.Proofs.Tryz.func54 wY
abbrev ol:=Int×A3
abbrev oh:=Int×Unit
abbrev oi:=Int×Unit ⊕ Unit
def Eb (i:ol)(v:oh)(R:Type)(K:oh ⊕ oi->Option R):Option R:=bif decide (v.1<(i.2.2.2.2.2.2.2.2.2.1.length:Int))then(lAt i.2.2.2.2.2.2.2.2.2.1 v.1).bind fun a=>bif a.1==i.1 then K (.inr (.inl (v.1,())))else K (.inl (IntKind.i64.wrap (v.1+1),()))else K (.inr (.inr ()))
theorem MH:Bi Eb:=fun i v R K=>Af (Ac fun _=>Af (Aa) (Aa)) (Aa)
def XS:Tmpl:=⟨(.junk (.slot .i (.ptr 0 0 0 (jk 2 (.slot .i (jk 16 .nil)))))),(.cells 9 (si 7 (.slot (.slice A0) (.slot (.slice A0) .nil))) .nil)⟩
def og:Exs ol oi:=xs .ret (fun i p=>⟨jn 4 (.n (p.1)::jn 17 ([])),[some (Cont.cells 9 [[AV.pv .i i.2.1,AV.pv .i i.2.2.1,AV.pv .i i.2.2.2.1,AV.pv .i i.2.2.2.2.1,AV.pv .i i.2.2.2.2.2.1,AV.pv .i i.2.2.2.2.2.2.1,AV.pv .i i.2.2.2.2.2.2.2.1,AV.pv (.slice A0) i.2.2.2.2.2.2.2.2.1,AV.pv (.slice A0) i.2.2.2.2.2.2.2.2.2.1]])]⟩)<|x1 (.exit 0) fun i p=>⟨jn 22 ([]),[some (Cont.cells 9 [[AV.pv .i i.2.1,AV.pv .i i.2.2.1,AV.pv .i i.2.2.2.1,AV.pv .i i.2.2.2.2.1,AV.pv .i i.2.2.2.2.2.1,AV.pv (Ty.int IntKind.i64) i.2.2.2.2.2.2.1,AV.pv .i i.2.2.2.2.2.2.2.1,AV.pv (.slice A0) i.2.2.2.2.2.2.2.2.1,AV.pv (.slice A0) i.2.2.2.2.2.2.2.2.2.1]])]⟩
def oj:=((.i (.v (.i (.i (.i (.i (.i (.i (.i (.i (.i .n))))))))))):Pk XS.ty _ _)
def A1z:Cfg:={ti:=Au,ents:=[],ann:=[(2,Ao XS 0 (spP oj) Eb og.E)],lent:=0}
def Id (x:A3×Int×Unit):Option (Int×Unit):=(AE (fun v=>Eb (x.2.1,x.1.1,x.1.2.1,x.1.2.2.1,x.1.2.2.2.1,x.1.2.2.2.2.1,x.1.2.2.2.2.2.1,x.1.2.2.2.2.2.2.1,x.1.2.2.2.2.2.2.2.1,x.1.2.2.2.2.2.2.2.2.1,()) v _ some) (0,())).bind fun p=>Az p (fun p=>some (p.1,())) fun p=>some (-1,())
def ZV:Ent:=⟨105,⟨(.slot Ad (.slot .i .nil)),.nil⟩,⟨(.slot .i .nil),.nil⟩,Id⟩
theorem om:CfgOK Go.Proofs.Tryz.prog A1z:=hcB all_nil
theorem wX:B7 Go.Proofs.Tryz.prog A1z (lpc Go.Proofs.Tryz.f105 0):=lkA om XS oj Eb og [4] MH
theorem A44:Ah Go.Proofs.Tryz.prog ZV:=okB om Go.Proofs.Tryz.func105 wX
def Gz (x:A4×A3×Int×Unit):Option (Bool×Unit):=(Bs ((x.1.1,()),())).bind fun v=>bif v.1 then(AO ((x.2.1.1,x.2.1.2.1,x.2.1.2.2.1,x.2.1.2.2.2.1,x.2.1.2.2.2.2.1,x.2.1.2.2.2.2.2.1,x.2.1.2.2.2.2.2.2.1,x.2.1.2.2.2.2.2.2.2.1,x.2.1.2.2.2.2.2.2.2.2.1,()),())).bind fun v=>bif v.1 then bif x.2.1.2.2.1==1 then(Al (x.2.2.1,0,5,())).bind fun v=>some (v.1,())else some (false,())else some (false,())else some (false,())
def ZU:Ent:=⟨173,⟨(.slot Bo (.slot Ad (.slot .i .nil))),.nil⟩,⟨(.slot .bool .nil),.nil⟩,Gz⟩
theorem XR:Ah Go.Proofs.Tryz.prog ZU:=okA (hcA 0 (all_cons Ok (all_cons Oj (all_cons JB all_nil)))) Go.Proofs.Tryz.func173
def BD (x:List A2×Unit):Option A2:=(CI (x.1,())).bind fun v=>bif !v.1 then some (0,0,0,0,0,())else(lAt x.1 (IntKind.i64.wrap ((x.1.length:Int)-1))).bind fun v=>some (v.1,v.2.1,v.2.2.1,v.2.2.2.1,v.2.2.2.2.1,())
def Su:Ent:=⟨174,⟨(.slot (.slice Ae) .nil),.nil⟩,⟨(.agg (si 5 .nil) .nil),.nil⟩,BD⟩
theorem Qx:Ah Go.Proofs.Tryz.prog Su:=okA (hcA 0 (all_cons Yb all_nil)) Go.Proofs.Tryz.func174
abbrev od:=List A2×Int×Unit
abbrev oa:=Int×Int×Unit
abbrev ob:=Int×Unit ⊕ Int×Unit
def E8 (i:od)(v:oa)(R:Type)(K:oa ⊕ ob->Option R):Option R:=bif decide (v.2.1<(i.1.length:Int))then(CI (i.1,())).bind fun a=>bif a.1 then(lAt i.1 v.2.1).bind fun b=>bif decide (b.2.2.1<=i.2.1)then K (.inl (v.2.1,IntKind.i64.wrap (v.2.1+1),()))else K (.inl (v.1,IntKind.i64.wrap (v.2.1+1),()))else K (.inr (.inl (v.1,())))else K (.inr (.inr (v.1,())))
theorem MD:Bi E8:=fun i v R K=>Af (Ac fun _=>Af (Ac fun _=>Af (Aa) (Aa)) (Aa)) (Aa)
def XQ:Tmpl:=⟨(.slot (.slice Ae) (.slot .i (jk 3 (si 2 (jk 19 .nil))))),.nil⟩
def o9:Exs od ob:=xs (.exit 0) (fun i p=>⟨jn 5 (.n (p.1)::jn 20 ([])),[]⟩)<|x1 (.exit 0) fun i p=>⟨jn 5 (.n (p.1)::jn 20 ([])),[]⟩
def oc:=((.i (.i (.v (.v .n)))):Pk XQ.ty _ _)
def A1y:Cfg:={ti:=Au,ents:=[SB],ann:=[(3,Ao XQ 0 (spP oc) E8 o9.E)],lent:=0}
def Ia (x:List A2×Int×Unit):Option (Int×Unit):=(AE (fun v=>E8 (x.1,x.2.1,()) v _ some) (-1,0,())).bind fun p=>Az p (fun p=>some (p.1,())) fun p=>some (p.1,())
def wW:Ent:=⟨222,⟨(.slot (.slice Ae) (.slot .i .nil)),.nil⟩,⟨(.slot .i .nil),.nil⟩,Ia⟩
theorem oe:CfgOK Go.Proofs.Tryz.prog A1y:=hcB (all_cons Yb all_nil)
theorem wV:B7 Go.Proofs.Tryz.prog A1y (lpc Go.Proofs.Tryz.f222 0):=lkA oe XQ oc E8 o9 [5] MD
theorem A42:Ah Go.Proofs.Tryz.prog wW:=okB oe Go.Proofs.Tryz.func222 wV
def L9 (x:A4×Int×Int×Unit):Option (Int×Int×Int×Int×Int×Bool×Unit):=(Bs ((x.1.1,()),())).bind fun v=>bif !v.1 then some (0,0,0,0,0,false,())else(Al (x.2.1,0,5,())).bind fun v=>bif !v.1 then some (0,0,0,0,0,false,())else(lAt x.1.1 x.2.1).bind fun v=>(Ia (v,x.2.2.1,())).bind fun v=>bif decide (v.1<0)then some (0,0,0,0,0,false,())else(lAt x.1.1 x.2.1).bind fun a=>(lAt a v.1).bind fun v=>some (v.1,v.2.1,v.2.2.1,v.2.2.2.1,v.2.2.2.2.1,true,())
def wU:Ent:=⟨175,⟨(.slot Bo (si 2 .nil)),.nil⟩,⟨(.agg (si 5 .nil) (.slot .bool .nil)),.nil⟩,L9⟩
theorem A41:Ah Go.Proofs.Tryz.prog wU:=okA (hcA 0 (all_cons Ok (all_cons JB (all_cons A42 all_nil)))) Go.Proofs.Tryz.func175
def FT (x:A4×A3×Int×Unit):Option A6:=(Gz ((x.1.1,()),(x.2.1.1,x.2.1.2.1,x.2.1.2.2.1,x.2.1.2.2.2.1,x.2.1.2.2.2.2.1,x.2.1.2.2.2.2.2.1,x.2.1.2.2.2.2.2.2.1,x.2.1.2.2.2.2.2.2.2.1,x.2.1.2.2.2.2.2.2.2.2.1,()),x.2.2.1,())).bind fun v=>bif !v.1 then some (0,0,0,0,0,6,())else(lAt x.1.1 x.2.2.1).bind fun v=>(BD (v,())).bind fun v=>bif x.2.1.2.1==2 then(L9 ((x.1.1,()),x.2.2.1,x.2.1.2.2.2.1,())).bind fun v=>bif !v.2.2.2.2.2.1 then some (0,0,0,0,0,3,())else some (v.1,v.2.1,v.2.2.1,v.2.2.2.1,v.2.2.2.2.1,0,())else bif x.2.1.2.1==4 then bif decide (v.2.2.1>x.2.1.2.2.2.1)then some (0,0,0,0,0,3,())else some (v.1,v.2.1,v.2.2.1,v.2.2.2.1,v.2.2.2.2.1,0,())else some (v.1,v.2.1,v.2.2.1,v.2.2.2.1,v.2.2.2.2.1,0,())
def ZT:Ent:=⟨106,⟨(.slot Bo (.slot Ad (.slot .i .nil))),.nil⟩,⟨(.agg (si 5 .nil) (.slot .i .nil)),.nil⟩,FT⟩
theorem A40:Ah Go.Proofs.Tryz.prog ZT:=okA (hcA 0 (all_cons XR (all_cons Qx (all_cons A41 all_nil)))) Go.Proofs.Tryz.func106
abbrev o7:=List A1×Int×Unit
abbrev nY:=Int×List A1×Unit
abbrev nZ:=List A1×Unit
def D2 (i:o7)(v:nY)(R:Type)(K:nY ⊕ nZ->Option R):Option R:=bif decide (v.1<(i.1.length:Int))then(lAt i.1 v.1).bind fun a=>bif a.2.1 != i.2.1 then(lAt i.1 v.1).bind fun b=>if(v.2.1++[(b.1,b.2.1,())]).length<=2199023255552 then K (.inl (IntKind.i64.wrap (v.1+1),v.2.1++[(b.1,b.2.1,())],()))else none else K (.inl (IntKind.i64.wrap (v.1+1),v.2.1,()))else K (.inr (v.2.1,()))
theorem L8:Bi D2:=fun i v R K=>Af (Ac fun _=>Af (Ac fun _=>Ay (Aa)) (Aa)) (Aa)
def XP:Tmpl:=⟨(.slot (.slice A0) (.slot .i (jk 3 (.own 0 (.slot .i (jk 22 .nil)))))),(.lst false A0 .nil)⟩
def nX:Exs o7 nZ:=x1 (.exit 0) fun i p=>⟨jn 5 (AV.own 0 none none::jn 23 ([])),[some (Cont.lst false A0 p.1)]⟩
def o0:=((.i (.i (.v (.v .n)))):Pk XP.ty _ _)
def A1x:Cfg:={ti:=Au,ents:=[],ann:=[(3,Ao XP 0 (spP o0) D2 nX.E)],lent:=0}
def Et (x:List A1×Int×Unit):Option (List A1×Unit):=(AE (fun v=>D2 (x.1,x.2.1,()) v _ some) (0,[],())).bind fun p=>some (p.1,())
def wT:Ent:=⟨117,⟨(.slot (.slice A0) (.slot .i .nil)),.nil⟩,⟨(.own 0 .nil),(.lst false A0 .nil)⟩,Et⟩
theorem o8:CfgOK Go.Proofs.Tryz.prog A1x:=hcB all_nil
theorem wS:B7 Go.Proofs.Tryz.prog A1x (lpc Go.Proofs.Tryz.f117 0):=lkA o8 XP o0 D2 nX [5] L8
theorem A3z:Ah Go.Proofs.Tryz.prog wT:=okB o8 Go.Proofs.Tryz.func117 wS
abbrev nV:=List A1×Int×Unit
abbrev nS:=Int×List A1×Unit
abbrev nT:=List A1×Unit
def DT (i:nV)(v:nS)(R:Type)(K:nS ⊕ nT->Option R):Option R:=bif decide (v.1<(i.1.length:Int))then(lAt i.1 v.1).bind fun a=>bif a.1 != i.2.1 then(lAt i.1 v.1).bind fun b=>bif b.2.1 != i.2.1 then(lAt i.1 v.1).bind fun c=>if(v.2.1++[(c.1,c.2.1,())]).length<=2199023255552 then K (.inl (IntKind.i64.wrap (v.1+1),v.2.1++[(c.1,c.2.1,())],()))else none else K (.inl (IntKind.i64.wrap (v.1+1),v.2.1,()))else K (.inl (IntKind.i64.wrap (v.1+1),v.2.1,()))else K (.inr (v.2.1,()))
theorem M6:Bi DT:=fun i v R K=>Af (Ac fun _=>Af (Ac fun _=>Af (Ac fun _=>Ay (Aa)) (Aa)) (Aa)) (Aa)
def XO:Tmpl:=⟨(.slot (.slice A0) (.slot .i (jk 3 (.own 0 (.slot .i (jk 31 .nil)))))),(.lst false A0 .nil)⟩
def nR:Exs nV nT:=x1 (.exit 0) fun i p=>⟨jn 5 (AV.own 0 none none::jn 32 ([])),[some (Cont.lst false A0 p.1)]⟩
def nU:=((.i (.i (.v (.v .n)))):Pk XO.ty _ _)
def A1w:Cfg:={ti:=Au,ents:=[],ann:=[(3,Ao XO 0 (spP nU) DT nR.E)],lent:=0}
def FS (x:List A1×Int×Unit):Option (List A1×Unit):=(AE (fun v=>DT (x.1,x.2.1,()) v _ some) (0,[],())).bind fun p=>some (p.1,())
def wR:Ent:=⟨118,⟨(.slot (.slice A0) (.slot .i .nil)),.nil⟩,⟨(.own 0 .nil),(.lst false A0 .nil)⟩,FS⟩
theorem nW:CfgOK Go.Proofs.Tryz.prog A1w:=hcB all_nil
theorem wQ:B7 Go.Proofs.Tryz.prog A1w (lpc Go.Proofs.Tryz.f118 0):=lkA nW XO nU DT nR [5] M6
theorem A3y:Ah Go.Proofs.Tryz.prog wR:=okB nW Go.Proofs.Tryz.func118 wQ
def Bg (x:Int×Bool×Int×A7):Option (Bool×Int×List (List A2)×List A3×List A1×List A1×A9):=if 0<=x.1/\x.1<(x.2.2.2.2.1.length:Int)then x.2.2.2.2.1[0+x.1.toNat]?.bind fun v=>if 0<=x.1/\x.1<(x.2.2.2.2.1.length:Int)then x.2.2.2.2.1[0+x.1.toNat]?.bind fun a=>bif a.2.2.1==1 then if 0<=x.1/\x.1<(x.2.2.2.2.1.length:Int)then x.2.2.2.2.1[0+x.1.toNat]?.bind fun b=>(Et (x.2.2.2.2.2.1,v.1,())).bind fun c=>(FS (x.2.2.2.2.2.2.1,v.1,())).bind fun v=>some (x.2.1,x.2.2.1,x.2.2.2.1,x.2.2.2.2.1.set (0+x.1.toNat) (b.1,b.2.1,3,b.2.2.2.1,b.2.2.2.2.1,b.2.2.2.2.2.1,b.2.2.2.2.2.2.1,b.2.2.2.2.2.2.2.1,b.2.2.2.2.2.2.2.2.1,()),x.2.2.2.2.2.1,x.2.2.2.2.2.2.1,c.1,v.1,())else none else(Et (x.2.2.2.2.2.1,v.1,())).bind fun b=>(FS (x.2.2.2.2.2.2.1,v.1,())).bind fun v=>some (x.2.1,x.2.2.1,x.2.2.2.1,x.2.2.2.2.1,x.2.2.2.2.2.1,x.2.2.2.2.2.2.1,b.1,v.1,())else none else none
def OO:Ent:=⟨59,⟨(.ptr 0 0 0 (.slot .i .nil)),(.cells 6 (.slot .bool (.own 1 (.own 2 (.own 3 (.own 4 (.slot .i .nil)))))) (.tree false 0 (.slice Ae) (.tree false 0 Ad (.lst false A0 (.lst false A0 .nil)))))⟩,⟨.nil,(.cells 6 (.slot .bool (.own 1 (.own 2 (.own 5 (.own 6 (.slot .i .nil)))))) (.tree false 0 (.slice Ae) (.tree false 1 Ad (.lst false A0 (.lst false A0 (.lst false A0 (.lst false A0 .nil)))))))⟩,Bg⟩
theorem Ss:Ah Go.Proofs.Tryz.prog OO:=okA (hcA 5 (all_cons A3z (all_cons A3y all_nil))) Go.Proofs.Tryz.func59
abbrev nP:=List A1×Int×Int×Unit
abbrev nM:=Int×Unit
abbrev nN:=Int×Unit ⊕ Int×Unit
def E7 (i:nP)(v:nM)(R:Type)(K:nM ⊕ nN->Option R):Option R:=bif decide (v.1<(i.1.length:Int))then(lAt i.1 v.1).bind fun a=>(Ho ((a.1,a.2.1,()),(i.2.1,i.2.2.1,()),())).bind fun b=>bif b.1 then K (.inl (IntKind.i64.wrap (v.1+1),()))else K (.inr (.inl (v.1,())))else K (.inr (.inr (v.1,())))
theorem Mz:Bi E7:=fun i v R K=>Af (Ac fun _=>Ac fun _=>Af (Aa) (Aa)) (Aa)
def XN:Tmpl:=⟨(.slot (.slice A0) (jk 2 (.ptr 0 0 0 (.junk (.slot .i (jk 41 .nil)))))),(.cells 2 (si 2 .nil) .nil)⟩
def nL:Exs nP nN:=xs (.exit 0) (fun i p=>⟨AV.pv (.slice A0) i.1::jn 2 (AV.ptr 0 none 0 0::jn 1 (.n (p.1)::jn 41 ([]))),[some (Cont.cells 2 [[AV.pv .i i.2.1,AV.pv .i i.2.2.1]])]⟩)<|x1 (.exit 0) fun i p=>⟨AV.pv (.slice A0) i.1::jn 2 (AV.ptr 0 none 0 0::jn 1 (.n (p.1)::jn 41 ([]))),[some (Cont.cells 2 [[AV.pv .i i.2.1,AV.pv .i i.2.2.1]])]⟩
def nO:=((.i (.v (.i (.i .n)))):Pk XN.ty _ _)
def A1v:Cfg:={ti:=Au,ents:=[Sz],ann:=[(2,Ao XN 0 (spP nO) E7 nL.E)],lent:=0}
def I8 (x:List A1×A1×Unit):Option (List A1×Unit):=(AE (fun v=>E7 (x.1,x.2.1.1,x.2.1.2.1,()) v _ some) (0,())).bind fun p=>Az p (fun p=>bif decide (p.1<(x.1.length:Int))then(lAt x.1 p.1).bind fun v=>bif v.1==x.2.1.1&&(v.2.1==x.2.1.2.1&&true)then if x.1.length<=2199023255552 then some (x.1,())else none else(IZ x.1 0 p.1).bind fun v=>if v.length<=2199023255552 then if(v++[(x.2.1.1,x.2.1.2.1,())]).length<=2199023255552 then(IZ x.1 p.1 (x.1.length:Int)).bind fun a=>if(v++[(x.2.1.1,x.2.1.2.1,())]++a).length<=2199023255552 then some (v++[(x.2.1.1,x.2.1.2.1,())]++a,())else none else none else none else(IZ x.1 0 p.1).bind fun v=>if v.length<=2199023255552 then if(v++[(x.2.1.1,x.2.1.2.1,())]).length<=2199023255552 then(IZ x.1 p.1 (x.1.length:Int)).bind fun a=>if(v++[(x.2.1.1,x.2.1.2.1,())]++a).length<=2199023255552 then some (v++[(x.2.1.1,x.2.1.2.1,())]++a,())else none else none else none) fun p=>bif decide (p.1<(x.1.length:Int))then(lAt x.1 p.1).bind fun v=>bif v.1==x.2.1.1&&(v.2.1==x.2.1.2.1&&true)then if x.1.length<=2199023255552 then some (x.1,())else none else(IZ x.1 0 p.1).bind fun v=>if v.length<=2199023255552 then if(v++[(x.2.1.1,x.2.1.2.1,())]).length<=2199023255552 then(IZ x.1 p.1 (x.1.length:Int)).bind fun a=>if(v++[(x.2.1.1,x.2.1.2.1,())]++a).length<=2199023255552 then some (v++[(x.2.1.1,x.2.1.2.1,())]++a,())else none else none else none else(IZ x.1 0 p.1).bind fun v=>if v.length<=2199023255552 then if(v++[(x.2.1.1,x.2.1.2.1,())]).length<=2199023255552 then(IZ x.1 p.1 (x.1.length:Int)).bind fun a=>if(v++[(x.2.1.1,x.2.1.2.1,())]++a).length<=2199023255552 then some (v++[(x.2.1.1,x.2.1.2.1,())]++a,())else none else none else none
def wP:Ent:=⟨177,⟨(.slot (.slice A0) (.slot A0 .nil)),.nil⟩,⟨(.own 0 .nil),(.lst false A0 .nil)⟩,I8⟩
theorem nQ:CfgOK Go.Proofs.Tryz.prog A1v:=hcB (all_cons p5 all_nil)
theorem wO:B7 Go.Proofs.Tryz.prog A1v (lpc Go.Proofs.Tryz.f177 0):=lkA nQ XN nO E7 nL [0,3,5] Mz
theorem A3x:Ah Go.Proofs.Tryz.prog wP:=okB nQ Go.Proofs.Tryz.func177 wO
def Ib (x:A3×Int×A2×Unit):Option (Int×Int×Int×Int×Int×Int×Int×Bool×A9):=(EN ((x.1.1,x.1.2.1,x.1.2.2.1,x.1.2.2.2.1,x.1.2.2.2.2.1,x.1.2.2.2.2.2.1,x.1.2.2.2.2.2.2.1,x.1.2.2.2.2.2.2.2.1,x.1.2.2.2.2.2.2.2.2.1,()),())).bind fun v=>(AO ((x.1.1,x.1.2.1,x.1.2.2.1,x.1.2.2.2.1,x.1.2.2.2.2.1,x.1.2.2.2.2.2.1,x.1.2.2.2.2.2.2.1,x.1.2.2.2.2.2.2.2.1,x.1.2.2.2.2.2.2.2.2.1,()),())).bind fun a=>bif !a.1 then some (v.1,v.2.1,v.2.2.1,v.2.2.2.1,v.2.2.2.2.1,v.2.2.2.2.2.1,v.2.2.2.2.2.2.1,false,v.2.2.2.2.2.2.2.1,v.2.2.2.2.2.2.2.2.1,())else bif x.1.2.2.1 != 1 then some (v.1,v.2.1,v.2.2.1,v.2.2.2.1,v.2.2.2.2.1,v.2.2.2.2.2.1,v.2.2.2.2.2.2.1,false,v.2.2.2.2.2.2.2.1,v.2.2.2.2.2.2.2.2.1,())else(Al (x.2.1,0,5,())).bind fun b=>bif !b.1 then some (v.1,v.2.1,v.2.2.1,v.2.2.2.1,v.2.2.2.2.1,v.2.2.2.2.2.1,v.2.2.2.2.2.2.1,false,v.2.2.2.2.2.2.2.1,v.2.2.2.2.2.2.2.2.1,())else(DK ((x.2.2.1.1,x.2.2.1.2.1,x.2.2.1.2.2.1,x.2.2.1.2.2.2.1,x.2.2.1.2.2.2.2.1,()),())).bind fun c=>bif !c.1 then some (v.1,v.2.1,v.2.2.1,v.2.2.2.1,v.2.2.2.2.1,v.2.2.2.2.2.1,v.2.2.2.2.2.2.1,false,v.2.2.2.2.2.2.2.1,v.2.2.2.2.2.2.2.2.1,())else bif (x.1.2.2.2.2.2.2.2.1.length:Int)==60 then some (v.1,v.2.1,v.2.2.1,v.2.2.2.1,v.2.2.2.2.1,v.2.2.2.2.2.1,v.2.2.2.2.2.2.1,false,v.2.2.2.2.2.2.2.1,v.2.2.2.2.2.2.2.2.1,())else(I8 (x.1.2.2.2.2.2.2.2.1,(x.2.1,x.2.2.1.2.2.1,()),())).bind fun d=>some (v.1,v.2.1,v.2.2.1,v.2.2.2.1,mx x.1.2.2.2.2.1 x.2.2.1.2.2.1,mn x.1.2.2.2.2.2.1 x.2.2.1.2.2.2.2.1,v.2.2.2.2.2.2.1,true,d.1,v.2.2.2.2.2.2.2.2.1,())
def ZS:Ent:=⟨107,⟨(.slot Ad (.slot .i (.slot Ae .nil))),.nil⟩,⟨(.agg (si 7 (.own 0 (.own 1 .nil))) (.slot .bool .nil)),(.lst false A0 (.lst false A0 .nil))⟩,Ib⟩
theorem A3w:Ah Go.Proofs.Tryz.prog ZS:=okA (hcA 0 (all_cons SC (all_cons Oj (all_cons JB (all_cons pI (all_cons A3x all_nil)))))) Go.Proofs.Tryz.func107
def A6r:Cfg:={ti:=Au,ents:=[OO,ZV,ZT,ZS],ann:=[],lent:=5,pre:=[(some (0,3)),(some (0,4))]}
def Gy (x:Int×Int×Bool×Int×A7):Option (Int×Int×Bool×Int×A7):=if 0<=x.1/\x.1<(x.2.2.2.2.2.1.length:Int)then x.2.2.2.2.2.1[0+x.1.toNat]?.bind fun v=>x.2.2.2.2.2.1[0+x.1.toNat]?.bind fun a=>x.2.2.2.2.2.1[0+x.1.toNat]?.bind fun b=>(Id ((v.1,v.2.1,v.2.2.1,v.2.2.2.1,v.2.2.2.2.1,v.2.2.2.2.2.1,v.2.2.2.2.2.2.1,a.2.2.2.2.2.2.2.1,b.2.2.2.2.2.2.2.2.1,()),x.2.1,())).bind fun c=>bif decide (c.1>=0)then x.2.2.2.2.2.1[0+x.1.toNat]?.bind fun v=>if 0<=c.1/\c.1<(v.2.2.2.2.2.2.2.2.1.length:Int)then x.2.2.2.2.2.1[0+x.1.toNat]?.bind fun v=>v.2.2.2.2.2.2.2.2.1[0+c.1.toNat]?.bind fun v=>some (v.2.1,0,x.2.2.1,x.2.2.2.1,x.2.2.2.2.1,x.2.2.2.2.2.1,x.2.2.2.2.2.2.1,x.2.2.2.2.2.2.2.1,())else none else x.2.2.2.2.2.1[0+x.1.toNat]?.bind fun d=>x.2.2.2.2.2.1[0+x.1.toNat]?.bind fun e=>(FT ((x.2.2.2.2.1,()),(v.1,v.2.1,v.2.2.1,v.2.2.2.1,v.2.2.2.2.1,v.2.2.2.2.2.1,v.2.2.2.2.2.2.1,d.2.2.2.2.2.2.2.1,e.2.2.2.2.2.2.2.2.1,()),x.2.1,())).bind fun f=>bif f.2.2.2.2.2.1 != 0 then(Bg (x.1,x.2.2.1,x.2.2.2.1,x.2.2.2.2.1,x.2.2.2.2.2.1,x.2.2.2.2.2.2.1,x.2.2.2.2.2.2.2.1,())).bind fun v=>some (0,f.2.2.2.2.2.1,v.1,v.2.1,v.2.2.1,v.2.2.2.1,v.2.2.2.2.2.2.1,v.2.2.2.2.2.2.2.1,())else x.2.2.2.2.2.1[0+x.1.toNat]?.bind fun g=>x.2.2.2.2.2.1[0+x.1.toNat]?.bind fun h=>(Ib ((v.1,v.2.1,v.2.2.1,v.2.2.2.1,v.2.2.2.2.1,v.2.2.2.2.2.1,v.2.2.2.2.2.2.1,g.2.2.2.2.2.2.2.1,h.2.2.2.2.2.2.2.2.1,()),x.2.1,(f.1,f.2.1,f.2.2.1,f.2.2.2.1,f.2.2.2.2.1,()),())).bind fun v=>bif !v.2.2.2.2.2.2.2.1 then some (0,6,x.2.2.1,x.2.2.2.1,x.2.2.2.2.1,x.2.2.2.2.2.1,x.2.2.2.2.2.2.1,x.2.2.2.2.2.2.2.1,())else if 0<=x.1/\x.1<(x.2.2.2.2.2.1.length:Int)then x.2.2.2.2.2.1[0+x.1.toNat]?.bind fun j=>some (f.2.1,0,x.2.2.1,x.2.2.2.1,x.2.2.2.2.1,x.2.2.2.2.2.1.set (0+x.1.toNat) (v.1,v.2.1,v.2.2.1,v.2.2.2.1,v.2.2.2.2.1,v.2.2.2.2.2.1,v.2.2.2.2.2.2.1,v.2.2.2.2.2.2.2.2.1,v.2.2.2.2.2.2.2.2.2.1,()),x.2.2.2.2.2.2.1,x.2.2.2.2.2.2.2.1,())else none else none
def Sr:Ent:=⟨55,⟨(.ptr 0 0 0 (si 2 .nil)),(.cells 6 (.slot .bool (.own 1 (.own 2 (.own 3 (.own 4 (.slot .i .nil)))))) (.tree false 0 (.slice Ae) (.tree false 0 Ad (.lst false A0 (.lst false A0 .nil)))))⟩,⟨(si 2 .nil),(.cells 6 (.slot .bool (.own 1 (.own 2 (.own 5 (.own 6 (.slot .i .nil)))))) (.tree false 0 (.slice Ae) (.tree false 1 Ad (.gone (.gone (.lst false A0 (.lst false A0 .nil)))))))⟩,Gy⟩
theorem nK:Ah Go.Proofs.Tryz.prog Sr:=okA (C:=A6r) (hcB (all_cons Ss (all_cons A44 (all_cons A40 (all_cons A3w all_nil))))) Go.Proofs.Tryz.func55
abbrev nH:=B3
abbrev nE:=Int×Bool×Int×List (List A2)×List A3×List A1×List A1×List Int×Unit
abbrev nF:=Bool×Int×List (List A2)×List A3×Int×List Int×A9 ⊕ Bool×Int×List (List A2)×List A3×List A1×List A1×List Int×Unit
def Dj (i:nH)(v:nE)(R:Type)(K:nE ⊕ nF->Option R):Option R:=bif decide (v.1<=i.2.1)then(Gy (i.1,v.1,v.2.1,v.2.2.1,v.2.2.2.1,v.2.2.2.2.1,v.2.2.2.2.2.1,v.2.2.2.2.2.2.1,())).bind fun a=>bif a.2.1 != 0 then K (.inr (.inl (a.2.2.1,a.2.2.2.1,a.2.2.2.2.1,a.2.2.2.2.2.1,a.2.1,v.2.2.2.2.2.2.2.1,a.2.2.2.2.2.2.1,a.2.2.2.2.2.2.2.1,())))else if(v.2.2.2.2.2.2.2.1++[a.1]).length<=4398046511104 then K (.inl (IntKind.i64.wrap (v.1+1),a.2.2.1,a.2.2.2.1,a.2.2.2.2.1,a.2.2.2.2.2.1,a.2.2.2.2.2.2.1,a.2.2.2.2.2.2.2.1,v.2.2.2.2.2.2.2.1++[a.1],()))else none else K (.inr (.inr (v.2.1,v.2.2.1,v.2.2.2.1,v.2.2.2.2.1,v.2.2.2.2.2.1,v.2.2.2.2.2.2.1,v.2.2.2.2.2.2.2.1,())))
theorem MA:Bi Dj:=fun i v R K=>Af (Ac fun _=>Af (Aa) (Ay (Aa))) (Aa)
def XM:Tmpl:=⟨(.ptr 0 0 0 (.slot .i (.junk (.slot .i (jk 4 (.ptr 7 0 0 (.own 8 (.slot .i (jk 26 .nil))))))))),(.cells 6 (.slot .bool (.own 1 (.own 2 (.own 5 (.own 6 (.slot .i .nil)))))) (.tree false 0 (.slice Ae) (.tree false 1 Ad (.gone (.gone (.lst false A0 (.lst false A0 (.cells 2 (.slot .i (.const (AV.nils) .nil)) (.lst false .i .nil)))))))))⟩
def nD:Exs nH nF:=xs .ret (fun i p=>⟨jn 8 (AV.ptr 7 none 0 0::AV.own 8 none none::jn 27 ([])),[some (Cont.cells 6 [[AV.pv .bool p.1,AV.own 1 none none,AV.own 2 none none,AV.own 14 none none,AV.own 15 none none,AV.pv .i p.2.1]]),some (Cont.tree false 0 (.slice Ae) p.2.2.1 none),some (Cont.tree false 2 Ad p.2.2.2.1 none),some Cont.dead,some Cont.dead,some Cont.dead,some Cont.dead,some (Cont.cells 2 [[AV.pv .i p.2.2.2.2.1,AV.nils]]),some (Cont.lst false .i p.2.2.2.2.2.1),none,none,none,none,none,some (Cont.lst false A0 p.2.2.2.2.2.2.1),some (Cont.lst false A0 p.2.2.2.2.2.2.2.1)]⟩)<|x1 (.exit 0) fun i p=>⟨jn 8 (AV.ptr 7 none 0 0::AV.own 8 none none::jn 27 ([])),[some (Cont.cells 6 [[AV.pv .bool p.1,AV.own 1 none none,AV.own 2 none none,AV.own 5 none none,AV.own 6 none none,AV.pv .i p.2.1]]),some (Cont.tree false 0 (.slice Ae) p.2.2.1 none),some (Cont.tree false 1 Ad p.2.2.2.1 none),some Cont.dead,some Cont.dead,some (Cont.lst false A0 p.2.2.2.2.1),some (Cont.lst false A0 p.2.2.2.2.2.1),some (Cont.cells 2 [[AV.pv .i i.2.2.1,AV.nils]]),some (Cont.lst false .i p.2.2.2.2.2.2.1)]⟩
def nG:=((.i (.i (.v (.v (.v (.v (.v (.v (.v (.i (.v .n))))))))))):Pk XM.ty _ _)
def A1u:Cfg:={ti:=Au,ents:=[Sr],ann:=[(3,Ao XM 5 (spP nG) Dj nD.E)],lent:=5,pre:=[(some (0,3)),(some (0,4))]}
def Jx (x:Int×Int×Int×Bool×Int×A7):Option (Int×Bool×Int×List (List A2)×List A3×List A1×List A1×List Int×Unit):=(AE (fun v=>Dj (x.1,x.2.2.1,0,()) v _ some) (x.2.1,x.2.2.2.1,x.2.2.2.2.1,x.2.2.2.2.2.1,x.2.2.2.2.2.2.1,x.2.2.2.2.2.2.2.1,x.2.2.2.2.2.2.2.2.1,[],())).bind fun p=>Az p (fun p=>some (p.2.2.2.2.1,p.1,p.2.1,p.2.2.1,p.2.2.2.1,p.2.2.2.2.2.2.1,p.2.2.2.2.2.2.2.1,[],())) fun p=>some (0,p.1,p.2.1,p.2.2.1,p.2.2.2.1,p.2.2.2.2.1,p.2.2.2.2.2.1,p.2.2.2.2.2.2.1,())
def ZR:Ent:=⟨56,⟨(.ptr 0 0 0 (si 3 .nil)),(.cells 6 (.slot .bool (.own 1 (.own 2 (.own 3 (.own 4 (.slot .i .nil)))))) (.tree false 0 (.slice Ae) (.tree false 0 Ad (.lst false A0 (.lst false A0 .nil)))))⟩,⟨(.agg (.slot .i (.own 7 .nil)) .nil),(.cells 6 (.slot .bool (.own 1 (.own 2 (.own 5 (.own 6 (.slot .i .nil)))))) (.tree false 0 (.slice Ae) (.tree false 1 Ad (.gone (.gone (.lst false A0 (.lst false A0 (.lst false .i .nil))))))))⟩,Jx⟩
theorem nI:CfgOK Go.Proofs.Tryz.prog A1u:=hcB (all_cons nK all_nil)
theorem wN:B7 Go.Proofs.Tryz.prog A1u (lpc Go.Proofs.Tryz.f56 0):=lkA nI XM nG Dj nD [8,9] MA
theorem A3v:Ah Go.Proofs.Tryz.prog ZR:=okB nI Go.Proofs.Tryz.func56 wN
abbrev nB:=List A1×Int×Unit
abbrev ny:=Int×Unit
abbrev nz:=Int×Unit ⊕ Unit
def Dl (i:nB)(v:ny)(R:Type)(K:ny ⊕ nz->Option R):Option R:=bif decide (v.1<(i.1.length:Int))then(lAt i.1 v.1).bind fun a=>bif a.1==i.2.1 then(lAt i.1 v.1).bind fun v=>K (.inr (.inl (v.2.1,())))else K (.inl (IntKind.i64.wrap (v.1+1),()))else K (.inr (.inr ()))
theorem ME:Bi Dl:=fun i v R K=>Af (Ac fun _=>Af (Ac fun _=>Aa) (Aa)) (Aa)
def XK:Tmpl:=⟨(.slot (.slice A0) (.slot .i (jk 3 (.slot .i (jk 18 .nil))))),.nil⟩
def nx:Exs nB nz:=xs .ret (fun i p=>⟨jn 4 (.n (p.1)::jn 19 ([])),[]⟩)<|x1 (.exit 0) fun i p=>⟨jn 24 ([]),[]⟩
def nA:=((.i (.i (.v .n))):Pk XK.ty _ _)
def A1t:Cfg:={ti:=Au,ents:=[],ann:=[(2,Ao XK 0 (spP nA) Dl nx.E)],lent:=0}
def ER (x:List A1×Int×Unit):Option (Int×Unit):=(AE (fun v=>Dl (x.1,x.2.1,()) v _ some) (0,())).bind fun p=>Az p (fun p=>some (p.1,())) fun p=>some (0,())
def Sq:Ent:=⟨109,⟨(.slot (.slice A0) (.slot .i .nil)),.nil⟩,⟨(.slot .i .nil),.nil⟩,ER⟩
theorem nC:CfgOK Go.Proofs.Tryz.prog A1t:=hcB all_nil
theorem wM:B7 Go.Proofs.Tryz.prog A1t (lpc Go.Proofs.Tryz.f109 0):=lkA nC XK nA Dl nx [4] ME
theorem XL:Ah Go.Proofs.Tryz.prog Sq:=okB nC Go.Proofs.Tryz.func109 wM
def I9 (x:A4×List A1×A3×Int×Unit):Option (Int×Unit):=(Gz ((x.1.1,()),(x.2.2.1.1,x.2.2.1.2.1,x.2.2.1.2.2.1,x.2.2.1.2.2.2.1,x.2.2.1.2.2.2.2.1,x.2.2.1.2.2.2.2.2.1,x.2.2.1.2.2.2.2.2.2.1,x.2.2.1.2.2.2.2.2.2.2.1,x.2.2.1.2.2.2.2.2.2.2.2.1,()),x.2.2.2.1,())).bind fun v=>bif !v.1 then some (6,())else(En (x.2.1,())).bind fun v=>bif !v.1 then some (6,())else(ER (x.2.1,x.2.2.2.1,())).bind fun v=>bif v.1 != 0 then(lAt x.1.1 x.2.2.2.1).bind fun a=>(BD (a,())).bind fun b=>bif x.2.2.1.2.1==1 then bif v.1 != x.2.2.1.1 then some (1,())else bif x.2.2.1.2.1==2 then bif v.1 != x.2.2.1.1 then some (2,())else bif decide (b.2.2.1>x.2.2.1.2.2.2.1)then some (2,())else bif x.2.2.1.2.1==4 then bif decide (b.2.2.1>x.2.2.1.2.2.2.1)then some (3,())else bif decide (b.2.2.2.1>x.2.2.1.2.2.2.1)then some (3,())else some (0,())else some (0,())else bif x.2.2.1.2.1==4 then bif decide (b.2.2.1>x.2.2.1.2.2.2.1)then some (3,())else bif decide (b.2.2.2.1>x.2.2.1.2.2.2.1)then some (3,())else some (0,())else some (0,())else bif x.2.2.1.2.1==2 then bif v.1 != x.2.2.1.1 then some (2,())else bif decide (b.2.2.1>x.2.2.1.2.2.2.1)then some (2,())else bif x.2.2.1.2.1==4 then bif decide (b.2.2.1>x.2.2.1.2.2.2.1)then some (3,())else bif decide (b.2.2.2.1>x.2.2.1.2.2.2.1)then some (3,())else some (0,())else some (0,())else bif x.2.2.1.2.1==4 then bif decide (b.2.2.1>x.2.2.1.2.2.2.1)then some (3,())else bif decide (b.2.2.2.1>x.2.2.1.2.2.2.1)then some (3,())else some (0,())else some (0,())else(lAt x.1.1 x.2.2.2.1).bind fun v=>(BD (v,())).bind fun v=>bif x.2.2.1.2.1==1 then bif x.2.2.1.2.1==2 then bif decide (v.2.2.1>x.2.2.1.2.2.2.1)then some (2,())else bif x.2.2.1.2.1==4 then bif decide (v.2.2.1>x.2.2.1.2.2.2.1)then some (3,())else bif decide (v.2.2.2.1>x.2.2.1.2.2.2.1)then some (3,())else some (0,())else some (0,())else bif x.2.2.1.2.1==4 then bif decide (v.2.2.1>x.2.2.1.2.2.2.1)then some (3,())else bif decide (v.2.2.2.1>x.2.2.1.2.2.2.1)then some (3,())else some (0,())else some (0,())else bif x.2.2.1.2.1==2 then bif decide (v.2.2.1>x.2.2.1.2.2.2.1)then some (2,())else bif x.2.2.1.2.1==4 then bif decide (v.2.2.1>x.2.2.1.2.2.2.1)then some (3,())else bif decide (v.2.2.2.1>x.2.2.1.2.2.2.1)then some (3,())else some (0,())else some (0,())else bif x.2.2.1.2.1==4 then bif decide (v.2.2.1>x.2.2.1.2.2.2.1)then some (3,())else bif decide (v.2.2.2.1>x.2.2.1.2.2.2.1)then some (3,())else some (0,())else some (0,())
def ZQ:Ent:=⟨108,⟨(.slot Bo (.slot (.slice A0) (.slot Ad (.slot .i .nil)))),.nil⟩,⟨(.slot .i .nil),.nil⟩,I9⟩
theorem A3u:Ah Go.Proofs.Tryz.prog ZQ:=okA (hcA 0 (all_cons XR (all_cons Y8 (all_cons XL (all_cons Qx all_nil))))) Go.Proofs.Tryz.func108
abbrev nv:=List A1×Int×Int×Unit
abbrev nq:=Int×Unit
abbrev nr:=Int×Unit ⊕ Int×Unit
def FF (i:nv)(v:nq)(R:Type)(K:nq ⊕ nr->Option R):Option R:=bif decide (v.1<(i.1.length:Int))then(lAt i.1 v.1).bind fun a=>bif decide (a.1<i.2.1)then K (.inl (IntKind.i64.wrap (v.1+1),()))else K (.inr (.inl (v.1,())))else K (.inr (.inr (v.1,())))
theorem NR:Bi FF:=fun i v R K=>Af (Ac fun _=>Af (Aa) (Aa)) (Aa)
def XJ:Tmpl:=⟨(.slot (.slice A0) (si 2 (jk 5 (.slot .i (jk 67 .nil))))),.nil⟩
def np:Exs nv nr:=xs (.exit 0) (fun i p=>⟨AV.pv (.slice A0) i.1::.n (i.2.1)::.n (i.2.2.1)::jn 5 (.n (p.1)::jn 67 ([])),[]⟩)<|x1 (.exit 0) fun i p=>⟨AV.pv (.slice A0) i.1::.n (i.2.1)::.n (i.2.2.1)::jn 5 (.n (p.1)::jn 67 ([])),[]⟩
def ns:=((.i (.i (.i (.v .n)))):Pk XJ.ty _ _)
def A1s:Cfg:={ti:=Au,ents:=[Qi,M8],ann:=[(4,Ao XJ 0 (spP ns) FF np.E)],lent:=0}
def HV (x:List A1×Int×Int×Unit):Option (Bool×List A1×Unit):=(Em (x.1,())).bind fun v=>bif !v.1 then if x.1.length<=2199023255552 then some (false,x.1,())else none else(Al (x.2.1,1,9,())).bind fun v=>bif !v.1 then if x.1.length<=2199023255552 then some (false,x.1,())else none else(Al (x.2.2.1,1,9,())).bind fun v=>bif !v.1 then if x.1.length<=2199023255552 then some (false,x.1,())else none else bif x.2.1==x.2.2.1 then if x.1.length<=2199023255552 then some (false,x.1,())else none else(AE (fun v=>FF (x.1,x.2.1,x.2.2.1,()) v _ some) (0,())).bind fun p=>Az p (fun p=>(IZ x.1 0 p.1).bind fun v=>if v.length<=2199023255552 then if(v++[(x.2.1,x.2.2.1,())]).length<=2199023255552 then bif decide (p.1<(x.1.length:Int))then(lAt x.1 p.1).bind fun a=>bif a.1==x.2.1 then(IZ x.1 (IntKind.i64.wrap (p.1+1)) (x.1.length:Int)).bind fun b=>if(v++[(x.2.1,x.2.2.1,())]++b).length<=2199023255552 then some (true,v++[(x.2.1,x.2.2.1,())]++b,())else none else(IZ x.1 p.1 (x.1.length:Int)).bind fun b=>if(v++[(x.2.1,x.2.2.1,())]++b).length<=2199023255552 then some (true,v++[(x.2.1,x.2.2.1,())]++b,())else none else(IZ x.1 p.1 (x.1.length:Int)).bind fun a=>if(v++[(x.2.1,x.2.2.1,())]++a).length<=2199023255552 then some (true,v++[(x.2.1,x.2.2.1,())]++a,())else none else none else none) fun p=>(IZ x.1 0 p.1).bind fun v=>if v.length<=2199023255552 then if(v++[(x.2.1,x.2.2.1,())]).length<=2199023255552 then bif decide (p.1<(x.1.length:Int))then(lAt x.1 p.1).bind fun a=>bif a.1==x.2.1 then(IZ x.1 (IntKind.i64.wrap (p.1+1)) (x.1.length:Int)).bind fun b=>if(v++[(x.2.1,x.2.2.1,())]++b).length<=2199023255552 then some (true,v++[(x.2.1,x.2.2.1,())]++b,())else none else(IZ x.1 p.1 (x.1.length:Int)).bind fun b=>if(v++[(x.2.1,x.2.2.1,())]++b).length<=2199023255552 then some (true,v++[(x.2.1,x.2.2.1,())]++b,())else none else(IZ x.1 p.1 (x.1.length:Int)).bind fun a=>if(v++[(x.2.1,x.2.2.1,())]++a).length<=2199023255552 then some (true,v++[(x.2.1,x.2.2.1,())]++a,())else none else none else none
def ZP:Ent:=⟨111,⟨(.slot (.slice A0) (si 2 .nil)),.nil⟩,⟨(.own 0 (.slot .bool .nil)),(.lst false A0 .nil)⟩,HV⟩
theorem nw:CfgOK Go.Proofs.Tryz.prog A1s:=hcB (all_cons Y6 (all_cons JB all_nil))
theorem wL:B7 Go.Proofs.Tryz.prog A1s (lpc Go.Proofs.Tryz.f111 0):=lkA nw XJ ns FF np [0,1,2,8] NR
theorem nt:Ah Go.Proofs.Tryz.prog ZP:=okB nw Go.Proofs.Tryz.func111 wL
abbrev nl:=List A1×Int×Unit
abbrev ni:=Int×Unit
abbrev nj:=Int×Unit ⊕ Unit
def F8 (i:nl)(v:ni)(R:Type)(K:ni ⊕ nj->Option R):Option R:=bif decide (v.1<(i.1.length:Int))then(lAt i.1 v.1).bind fun a=>bif a.1==i.2.1 then(lAt i.1 v.1).bind fun v=>K (.inr (.inl (v.2.1,())))else K (.inl (IntKind.i64.wrap (v.1+1),()))else K (.inr (.inr ()))
theorem Ob:Bi F8:=fun i v R K=>Af (Ac fun _=>Af (Ac fun _=>Aa) (Aa)) (Aa)
def XI:Tmpl:=⟨(.slot (.slice A0) (.slot .i (jk 3 (.slot .i (jk 18 .nil))))),.nil⟩
def nh:Exs nl nj:=xs .ret (fun i p=>⟨jn 4 (.n (p.1)::jn 19 ([])),[]⟩)<|x1 (.exit 0) fun i p=>⟨jn 24 ([]),[]⟩
def nk:=((.i (.i (.v .n))):Pk XI.ty _ _)
def A1r:Cfg:={ti:=Au,ents:=[],ann:=[(2,Ao XI 0 (spP nk) F8 nh.E)],lent:=0}
def JN (x:List A1×Int×Unit):Option (Int×Unit):=(AE (fun v=>F8 (x.1,x.2.1,()) v _ some) (0,())).bind fun p=>Az p (fun p=>some (p.1,())) fun p=>some (0,())
def ZO:Ent:=⟨223,⟨(.slot (.slice A0) (.slot .i .nil)),.nil⟩,⟨(.slot .i .nil),.nil⟩,JN⟩
theorem nn:CfgOK Go.Proofs.Tryz.prog A1r:=hcB all_nil
theorem wK:B7 Go.Proofs.Tryz.prog A1r (lpc Go.Proofs.Tryz.f223 0):=lkA nn XI nk F8 nh [4] Ob
theorem A3t:Ah Go.Proofs.Tryz.prog ZO:=okB nn Go.Proofs.Tryz.func223 wK
abbrev ne:=List A1×Int×List Int×Unit
abbrev n6:=Int×Unit
abbrev n8:=List Int×List Int×Unit ⊕ Unit
def CL (i:ne)(v:n6)(R:Type)(K:n6 ⊕ n8->Option R):Option R:=bif decide (v.1<(i.2.2.1.length:Int))then if 0<=v.1/\v.1<(i.2.2.1.length:Int)then i.2.2.1[0+v.1.toNat]?.bind fun a=>bif a==i.2.1 then if(i.2.2.1++[i.2.1]).length<=4398046511104 then K (.inr (.inl ([i.2.1],i.2.2.1++[i.2.1],())))else none else K (.inl (IntKind.i64.wrap (v.1+1),()))else none else K (.inr (.inr ()))
theorem MB:Bi CL:=fun i v R K=>Af (Ay (Ac fun _=>Af (Ay (Aa)) (Aa))) (Aa)
def XF:Tmpl:=⟨(.slot (.slice A0) (jk 4 (.own 0 (si 2 (jk 36 .nil))))),(.lst false .i .nil)⟩
def n4:Exs ne n8:=xs .ret (fun i p=>⟨AV.pv (.slice A0) i.1::jn 3 (AV.own 2 none none::AV.own 0 none none::.n (i.2.1)::jn 37 ([])),[some Cont.dead,some (Cont.lst false .i p.1),some (Cont.lst false .i p.2.1)]⟩)<|x1 (.exit 2) fun i p=>⟨AV.pv (.slice A0) i.1::jn 4 (AV.own 0 none none::.n (i.2.1)::jn 37 ([])),[some (Cont.lst false .i i.2.2.1)]⟩
def na:=((.i (.i (.v (.i .n)))):Pk XF.ty _ _)
abbrev nf:=List A1×Unit
abbrev n7:=Int×List Int×Unit
abbrev n9:=List Int×List Int×Unit ⊕ List Int×Unit ⊕ List Int×Unit ⊕ List Int×Unit
def CM (i:nf)(v:n7)(R:Type)(K:n7 ⊕ n9->Option R):Option R:=bif decide (v.1>0)then(Em (i.1,())).bind fun a=>bif a.1 then bif decide (v.1<=9)then(AE (fun b=>CL (i.1,v.1,v.2.1,()) b _ some) (0,())).bind fun p=>Az p (fun p=>K (.inr (.inl (p.1,p.2.1,())))) fun p=>if(v.2.1++[v.1]).length<=4398046511104 then(JN (i.1,v.1,())).bind fun b=>K (.inl (b.1,v.2.1++[v.1],()))else none else K (.inr (.inr (.inl (v.2.1,()))))else K (.inr (.inr (.inr (.inl (v.2.1,())))))else K (.inr (.inr (.inr (.inr (v.2.1,())))))
theorem MC:Bi CM:=fun i v R K=>Af (Ac fun _=>Af (Af (Ac fun _=>zU (fun _=>Aa) (fun _=>Ay (Ac fun _=>Aa))) (Aa)) (Aa)) (Aa)
def XG:Tmpl:=⟨(.slot (.slice A0) (jk 4 (.own 0 (.slot .i (jk 37 .nil))))),(.lst false .i .nil)⟩
def n5:Exs nf n9:=xs .ret (fun i p=>⟨jn 4 (AV.own 2 none none::AV.own 0 none none::jn 38 ([])),[some Cont.dead,some (Cont.lst false .i p.1),some (Cont.lst false .i p.2.1)]⟩)<|xs (.exit 0) (fun i p=>⟨jn 5 (AV.own 0 none none::jn 38 ([])),[some (Cont.lst false .i p.1)]⟩)<|xs (.exit 0) (fun i p=>⟨jn 5 (AV.own 0 none none::jn 38 ([])),[some (Cont.lst false .i p.1)]⟩)<|x1 (.exit 0) fun i p=>⟨jn 5 (AV.own 0 none none::jn 38 ([])),[some (Cont.lst false .i p.1)]⟩
def nc:=((.i (.v (.v .n))):Pk XG.ty _ _)
def ng:Cfg:={ti:=Au,ents:=[Qi,ZO],ann:=[(6,Ao XF 0 (spP na) CL n4.E),(3,Ao XG 0 (spP nc) CM n5.E)],lent:=0}
def Jy (x:List A1×Int×Unit):Option (List Int×Unit):=(AE (fun v=>CM (x.1,()) v _ some) (x.2.1,[],())).bind fun p=>Az p (fun p=>some (p.2.1,())) fun p=>Az p (fun p=>some (p.1,())) fun p=>Az p (fun p=>some (p.1,())) fun p=>some (p.1,())
def wJ:Ent:=⟨178,⟨(.slot (.slice A0) (.slot .i .nil)),.nil⟩,⟨(.own 0 .nil),(.lst false .i .nil)⟩,Jy⟩
theorem XH:CfgOK Go.Proofs.Tryz.prog ng:=hcB (all_cons Y6 (all_cons A3t all_nil))
theorem ZN:B7 Go.Proofs.Tryz.prog ng (lpc Go.Proofs.Tryz.f178 1):=lkA XH XF na CL n4 [0,4,5,6] MB
theorem wI:B7 Go.Proofs.Tryz.prog ng (lpc Go.Proofs.Tryz.f178 0):=lkB XH XG nc CM n5 [4,5] MC ZN
theorem A3s:Ah Go.Proofs.Tryz.prog wJ:=okC XH Go.Proofs.Tryz.func178 wI ZN
def FN (x:List A1×Int×Int×Unit):Option (Bool×Unit):=(HV (x.1,x.2.1,x.2.2.1,())).bind fun v=>bif !v.1 then some (false,())else(Jy (v.2.1,x.2.1,())).bind fun v=>bif decide ((v.1.length:Int)>1)then if 0<=IntKind.i64.wrap ((v.1.length:Int)-1)/\IntKind.i64.wrap ((v.1.length:Int)-1)<(v.1.length:Int)then v.1[0+(IntKind.i64.wrap ((v.1.length:Int)-1)).toNat]?.bind fun v=>some (v==x.2.1,())else none else some (false,())
def ZM:Ent:=⟨110,⟨(.slot (.slice A0) (si 2 .nil)),.nil⟩,⟨(.slot .bool .nil),.nil⟩,FN⟩
theorem A3r:Ah Go.Proofs.Tryz.prog ZM:=okA (hcA 0 (all_cons nt (all_cons A3s all_nil))) Go.Proofs.Tryz.func110
def HD (x:Int×Unit):Option (Bool×Unit):=bif x.1==1 then some (true,())else some (x.1==2,())
def ZL:Ent:=⟨112,⟨(.slot .i .nil),.nil⟩,⟨(.slot .bool .nil),.nil⟩,HD⟩
theorem A3q:Ah Go.Proofs.Tryz.prog ZL:=okA (hcA 0 all_nil) Go.Proofs.Tryz.func112
abbrev mZ:=Int×Int×List A1×Unit
abbrev mW:=Int×Unit
abbrev mX:=Int×Unit ⊕ Int×Unit
def CJ (i:mZ)(v:mW)(R:Type)(K:mW ⊕ mX->Option R):Option R:=bif decide (v.1<(i.2.2.1.length:Int))then if 0<=v.1/\v.1<(i.2.2.1.length:Int)then i.2.2.1[0+v.1.toNat]?.bind fun a=>bif decide (a.1<i.1)then K (.inl (IntKind.i64.wrap (v.1+1),()))else K (.inr (.inl (v.1,())))else none else K (.inr (.inr (v.1,())))
theorem Lx:Bi CJ:=fun i v R K=>Af (Ay (Ac fun _=>Af (Aa) (Aa))) (Aa)
def XE:Tmpl:=⟨(.junk (si 2 (jk 5 (.own 0 (.junk (.slot .i (jk 61 .nil))))))),(.lst false A0 .nil)⟩
def mV:Exs mZ mX:=xs (.exit 0) (fun i p=>⟨jn 1 (.n (i.1)::.n (i.2.1)::jn 5 (AV.own 0 none none::jn 1 (.n (p.1)::jn 61 ([])))),[some (Cont.lst false A0 i.2.2.1)]⟩)<|x1 (.exit 0) fun i p=>⟨jn 1 (.n (i.1)::.n (i.2.1)::jn 5 (AV.own 0 none none::jn 1 (.n (p.1)::jn 61 ([])))),[some (Cont.lst false A0 i.2.2.1)]⟩
def mY:=((.i (.i (.v (.i .n)))):Pk XE.ty _ _)
def A1q:Cfg:={ti:=Au,ents:=[SE,Sq,SA,M8],ann:=[(8,Ao XE 0 (spP mY) CJ mV.E)],lent:=0}
def GQ (x:List A1×Int×Int×Unit):Option (Bool×List A1×Unit):=(GA (x.1,())).bind fun v=>(ER (x.1,x.2.1,())).bind fun a=>(En (x.1,())).bind fun b=>bif !b.1 then some (false,v.1,())else(Al (x.2.1,0,5,())).bind fun c=>bif !c.1 then some (false,v.1,())else(Al (x.2.2.1,1,9,())).bind fun d=>bif !d.1 then some (false,v.1,())else bif a.1 != 0 then bif a.1 != x.2.2.1 then some (false,v.1,())else bif a.1==x.2.2.1 then some (true,v.1,())else(AE (fun e=>CJ (x.2.1,x.2.2.1,v.1,()) e _ some) (0,())).bind fun p=>Az p (fun p=>if(0:Int)<=0/\0<=p.1/\p.1<=(v.1.length:Int)then if(CX v.1 (some (0,p.1.toNat-Int.toNat 0))).length<=2199023255552 then if(CX v.1 (some (0,p.1.toNat-Int.toNat 0))++[(x.2.1,x.2.2.1,())]).length<=2199023255552 then if 0<=p.1/\p.1<=(v.1.length:Int)/\(v.1.length:Int)<=(v.1.length:Int)then if(CX v.1 (some (0,p.1.toNat-Int.toNat 0))++[(x.2.1,x.2.2.1,())]++CX v.1 (some (0+p.1.toNat,(v.1.length:Int).toNat-p.1.toNat))).length<=2199023255552 then some (true,CX v.1 (some (0,p.1.toNat-Int.toNat 0))++[(x.2.1,x.2.2.1,())]++CX v.1 (some (0+p.1.toNat,(v.1.length:Int).toNat-p.1.toNat)),())else none else none else none else none else none) fun p=>if(0:Int)<=0/\0<=p.1/\p.1<=(v.1.length:Int)then if(CX v.1 (some (0,p.1.toNat-Int.toNat 0))).length<=2199023255552 then if(CX v.1 (some (0,p.1.toNat-Int.toNat 0))++[(x.2.1,x.2.2.1,())]).length<=2199023255552 then if 0<=p.1/\p.1<=(v.1.length:Int)/\(v.1.length:Int)<=(v.1.length:Int)then if(CX v.1 (some (0,p.1.toNat-Int.toNat 0))++[(x.2.1,x.2.2.1,())]++CX v.1 (some (0+p.1.toNat,(v.1.length:Int).toNat-p.1.toNat))).length<=2199023255552 then some (true,CX v.1 (some (0,p.1.toNat-Int.toNat 0))++[(x.2.1,x.2.2.1,())]++CX v.1 (some (0+p.1.toNat,(v.1.length:Int).toNat-p.1.toNat)),())else none else none else none else none else none else bif a.1==x.2.2.1 then some (true,v.1,())else(AE (fun e=>CJ (x.2.1,x.2.2.1,v.1,()) e _ some) (0,())).bind fun p=>Az p (fun p=>if(0:Int)<=0/\0<=p.1/\p.1<=(v.1.length:Int)then if(CX v.1 (some (0,p.1.toNat-Int.toNat 0))).length<=2199023255552 then if(CX v.1 (some (0,p.1.toNat-Int.toNat 0))++[(x.2.1,x.2.2.1,())]).length<=2199023255552 then if 0<=p.1/\p.1<=(v.1.length:Int)/\(v.1.length:Int)<=(v.1.length:Int)then if(CX v.1 (some (0,p.1.toNat-Int.toNat 0))++[(x.2.1,x.2.2.1,())]++CX v.1 (some (0+p.1.toNat,(v.1.length:Int).toNat-p.1.toNat))).length<=2199023255552 then some (true,CX v.1 (some (0,p.1.toNat-Int.toNat 0))++[(x.2.1,x.2.2.1,())]++CX v.1 (some (0+p.1.toNat,(v.1.length:Int).toNat-p.1.toNat)),())else none else none else none else none else none) fun p=>if(0:Int)<=0/\0<=p.1/\p.1<=(v.1.length:Int)then if(CX v.1 (some (0,p.1.toNat-Int.toNat 0))).length<=2199023255552 then if(CX v.1 (some (0,p.1.toNat-Int.toNat 0))++[(x.2.1,x.2.2.1,())]).length<=2199023255552 then if 0<=p.1/\p.1<=(v.1.length:Int)/\(v.1.length:Int)<=(v.1.length:Int)then if(CX v.1 (some (0,p.1.toNat-Int.toNat 0))++[(x.2.1,x.2.2.1,())]++CX v.1 (some (0+p.1.toNat,(v.1.length:Int).toNat-p.1.toNat))).length<=2199023255552 then some (true,CX v.1 (some (0,p.1.toNat-Int.toNat 0))++[(x.2.1,x.2.2.1,())]++CX v.1 (some (0+p.1.toNat,(v.1.length:Int).toNat-p.1.toNat)),())else none else none else none else none else none
def ZK:Ent:=⟨113,⟨(.slot (.slice A0) (si 2 .nil)),.nil⟩,⟨(.own 0 (.slot .bool .nil)),(.lst false A0 .nil)⟩,GQ⟩
theorem n3:CfgOK Go.Proofs.Tryz.prog A1q:=hcB (all_cons pW (all_cons XL (all_cons Y8 (all_cons JB all_nil))))
theorem wH:B7 Go.Proofs.Tryz.prog A1q (lpc Go.Proofs.Tryz.f113 0):=lkA n3 XE mY CJ mV [1,2,8,10] Lx
theorem A3p:Ah Go.Proofs.Tryz.prog ZK:=okB n3 Go.Proofs.Tryz.func113 wH
abbrev mT:=List A1×Int×Int×Unit
abbrev mQ:=Int×Unit
abbrev mR:=Int×Unit ⊕ Int×Unit
def DP (i:mT)(v:mQ)(R:Type)(K:mQ ⊕ mR->Option R):Option R:=bif decide (v.1<(i.1.length:Int))then(lAt i.1 v.1).bind fun a=>bif decide (a.1<i.2.1)then K (.inl (IntKind.i64.wrap (v.1+1),()))else K (.inr (.inl (v.1,())))else K (.inr (.inr (v.1,())))
theorem M1:Bi DP:=fun i v R K=>Af (Ac fun _=>Af (Aa) (Aa)) (Aa)
def XD:Tmpl:=⟨(.slot (.slice A0) (jk 2 (.ptr 0 0 0 (.junk (.slot .i (jk 46 .nil)))))),(.cells 2 (si 2 .nil) .nil)⟩
def mP:Exs mT mR:=xs (.exit 0) (fun i p=>⟨AV.pv (.slice A0) i.1::jn 2 (AV.ptr 0 none 0 0::jn 1 (.n (p.1)::jn 46 ([]))),[some (Cont.cells 2 [[AV.pv .i i.2.1,AV.pv .i i.2.2.1]])]⟩)<|x1 (.exit 0) fun i p=>⟨AV.pv (.slice A0) i.1::jn 2 (AV.ptr 0 none 0 0::jn 1 (.n (p.1)::jn 46 ([]))),[some (Cont.cells 2 [[AV.pv .i i.2.1,AV.pv .i i.2.2.1]])]⟩
def mS:=((.i (.v (.i (.i .n)))):Pk XD.ty _ _)
def A1p:Cfg:={ti:=Au,ents:=[],ann:=[(2,Ao XD 0 (spP mS) DP mP.E)],lent:=0}
def HA (x:List A1×A1×Unit):Option (List A1×Unit):=(AE (fun v=>DP (x.1,x.2.1.1,x.2.1.2.1,()) v _ some) (0,())).bind fun p=>Az p (fun p=>(IZ x.1 0 p.1).bind fun v=>if v.length<=2199023255552 then if(v++[(x.2.1.1,x.2.1.2.1,())]).length<=2199023255552 then bif decide (p.1<(x.1.length:Int))then(lAt x.1 p.1).bind fun a=>bif a.1==x.2.1.1 then(IZ x.1 (IntKind.i64.wrap (p.1+1)) (x.1.length:Int)).bind fun b=>if(v++[(x.2.1.1,x.2.1.2.1,())]++b).length<=2199023255552 then some (v++[(x.2.1.1,x.2.1.2.1,())]++b,())else none else(IZ x.1 p.1 (x.1.length:Int)).bind fun b=>if(v++[(x.2.1.1,x.2.1.2.1,())]++b).length<=2199023255552 then some (v++[(x.2.1.1,x.2.1.2.1,())]++b,())else none else(IZ x.1 p.1 (x.1.length:Int)).bind fun a=>if(v++[(x.2.1.1,x.2.1.2.1,())]++a).length<=2199023255552 then some (v++[(x.2.1.1,x.2.1.2.1,())]++a,())else none else none else none) fun p=>(IZ x.1 0 p.1).bind fun v=>if v.length<=2199023255552 then if(v++[(x.2.1.1,x.2.1.2.1,())]).length<=2199023255552 then bif decide (p.1<(x.1.length:Int))then(lAt x.1 p.1).bind fun a=>bif a.1==x.2.1.1 then(IZ x.1 (IntKind.i64.wrap (p.1+1)) (x.1.length:Int)).bind fun b=>if(v++[(x.2.1.1,x.2.1.2.1,())]++b).length<=2199023255552 then some (v++[(x.2.1.1,x.2.1.2.1,())]++b,())else none else(IZ x.1 p.1 (x.1.length:Int)).bind fun b=>if(v++[(x.2.1.1,x.2.1.2.1,())]++b).length<=2199023255552 then some (v++[(x.2.1.1,x.2.1.2.1,())]++b,())else none else(IZ x.1 p.1 (x.1.length:Int)).bind fun a=>if(v++[(x.2.1.1,x.2.1.2.1,())]++a).length<=2199023255552 then some (v++[(x.2.1.1,x.2.1.2.1,())]++a,())else none else none else none
def wG:Ent:=⟨179,⟨(.slot (.slice A0) (.slot A0 .nil)),.nil⟩,⟨(.own 0 .nil),(.lst false A0 .nil)⟩,HA⟩
theorem mU:CfgOK Go.Proofs.Tryz.prog A1p:=hcB all_nil
theorem wF:B7 Go.Proofs.Tryz.prog A1p (lpc Go.Proofs.Tryz.f179 0):=lkA mU XD mS DP mP [0,3,5] M1
theorem A3o:Ah Go.Proofs.Tryz.prog wG:=okB mU Go.Proofs.Tryz.func179 wF
def FP (x:A4×A3×Int×Int×Unit):Option (Int×Int×Int×Int×Int×Int×Int×Bool×A9):=(EN ((x.2.1.1,x.2.1.2.1,x.2.1.2.2.1,x.2.1.2.2.2.1,x.2.1.2.2.2.2.1,x.2.1.2.2.2.2.2.1,x.2.1.2.2.2.2.2.2.1,x.2.1.2.2.2.2.2.2.2.1,x.2.1.2.2.2.2.2.2.2.2.1,()),())).bind fun v=>(Bs ((x.1.1,()),())).bind fun a=>bif !a.1 then some (v.1,v.2.1,v.2.2.1,v.2.2.2.1,v.2.2.2.2.1,v.2.2.2.2.2.1,v.2.2.2.2.2.2.1,false,v.2.2.2.2.2.2.2.1,v.2.2.2.2.2.2.2.2.1,())else(AO ((x.2.1.1,x.2.1.2.1,x.2.1.2.2.1,x.2.1.2.2.2.1,x.2.1.2.2.2.2.1,x.2.1.2.2.2.2.2.1,x.2.1.2.2.2.2.2.2.1,x.2.1.2.2.2.2.2.2.2.1,x.2.1.2.2.2.2.2.2.2.2.1,()),())).bind fun b=>bif !b.1 then some (v.1,v.2.1,v.2.2.1,v.2.2.2.1,v.2.2.2.2.1,v.2.2.2.2.2.1,v.2.2.2.2.2.2.1,false,v.2.2.2.2.2.2.2.1,v.2.2.2.2.2.2.2.2.1,())else bif x.2.1.2.2.1 != 1 then some (v.1,v.2.1,v.2.2.1,v.2.2.2.1,v.2.2.2.2.1,v.2.2.2.2.2.1,v.2.2.2.2.2.2.1,false,v.2.2.2.2.2.2.2.1,v.2.2.2.2.2.2.2.2.1,())else(Al (x.2.2.1,0,5,())).bind fun c=>bif !c.1 then some (v.1,v.2.1,v.2.2.1,v.2.2.2.1,v.2.2.2.2.1,v.2.2.2.2.2.1,v.2.2.2.2.2.2.1,false,v.2.2.2.2.2.2.2.1,v.2.2.2.2.2.2.2.2.1,())else(Al (x.2.2.2.1,-1,99,())).bind fun d=>bif !d.1 then some (v.1,v.2.1,v.2.2.1,v.2.2.2.1,v.2.2.2.2.1,v.2.2.2.2.2.1,v.2.2.2.2.2.2.1,false,v.2.2.2.2.2.2.2.1,v.2.2.2.2.2.2.2.2.1,())else(HA (x.2.1.2.2.2.2.2.2.2.2.1,(x.2.2.1,x.2.2.2.1,()),())).bind fun e=>(lAt x.1.1 x.2.2.1).bind fun f=>(BD (f,())).bind fun g=>some (v.1,v.2.1,v.2.2.1,v.2.2.2.1,mx x.2.1.2.2.2.2.1 g.2.2.2.1,v.2.2.2.2.2.1,v.2.2.2.2.2.2.1,true,v.2.2.2.2.2.2.2.1,e.1,())
def ZJ:Ent:=⟨114,⟨(.slot Bo (.slot Ad (si 2 .nil))),.nil⟩,⟨(.agg (si 7 (.own 0 (.own 1 .nil))) (.slot .bool .nil)),(.lst false A0 (.lst false A0 .nil))⟩,FP⟩
theorem A3l:Ah Go.Proofs.Tryz.prog ZJ:=okA (hcA 0 (all_cons SC (all_cons Ok (all_cons Oj (all_cons JB (all_cons A3o (all_cons Qx all_nil))))))) Go.Proofs.Tryz.func114
def A6n:Cfg:={ti:=Au,ents:=[OO,ZQ,Sq,ZM,ZP,ZL,ZK,ZJ],ann:=[],lent:=5,hid:=[((8,11),[0]),((14,12),[0])],pre:=[(some (0,3)),(some (0,4))]}
def HB (x:Int×Int×Int×Int×Int×Int×Int×Bool×Int×A7):Option (Int×Bool×Int×A7):=if 0<=x.1/\x.1<(x.2.2.2.2.2.2.2.2.2.2.1.length:Int)then x.2.2.2.2.2.2.2.2.2.2.1[0+x.1.toNat]?.bind fun v=>x.2.2.2.2.2.2.2.2.2.2.1[0+x.1.toNat]?.bind fun a=>x.2.2.2.2.2.2.2.2.2.2.1[0+x.1.toNat]?.bind fun b=>(I9 ((x.2.2.2.2.2.2.2.2.2.1,()),x.2.2.2.2.2.2.2.2.2.2.2.1,(v.1,v.2.1,v.2.2.1,v.2.2.2.1,v.2.2.2.2.1,v.2.2.2.2.2.1,v.2.2.2.2.2.2.1,a.2.2.2.2.2.2.2.1,b.2.2.2.2.2.2.2.2.1,()),x.2.2.2.2.1,())).bind fun c=>bif c.1==1 then(ER (x.2.2.2.2.2.2.2.2.2.2.2.1,x.2.2.2.2.1,())).bind fun d=>(FN (x.2.2.2.2.2.2.2.2.2.2.2.2.1,v.1,d.1,())).bind fun e=>bif e.1 then(Bg (x.1,x.2.2.2.2.2.2.2.1,x.2.2.2.2.2.2.2.2.1,x.2.2.2.2.2.2.2.2.2.1,x.2.2.2.2.2.2.2.2.2.2.1,x.2.2.2.2.2.2.2.2.2.2.2.1,x.2.2.2.2.2.2.2.2.2.2.2.2.1,())).bind fun v=>some (4,v.1,v.2.1,v.2.2.1,v.2.2.2.1,v.2.2.2.2.2.2.1,v.2.2.2.2.2.2.2.1,())else(HV (x.2.2.2.2.2.2.2.2.2.2.2.2.1,v.1,d.1,())).bind fun v=>some (c.1,x.2.2.2.2.2.2.2.1,x.2.2.2.2.2.2.2.2.1,x.2.2.2.2.2.2.2.2.2.1,x.2.2.2.2.2.2.2.2.2.2.1,x.2.2.2.2.2.2.2.2.2.2.2.1,v.2.1,())else bif c.1 != 0 then(Bg (x.1,x.2.2.2.2.2.2.2.1,x.2.2.2.2.2.2.2.2.1,x.2.2.2.2.2.2.2.2.2.1,x.2.2.2.2.2.2.2.2.2.2.1,x.2.2.2.2.2.2.2.2.2.2.2.1,x.2.2.2.2.2.2.2.2.2.2.2.2.1,())).bind fun v=>some (c.1,v.1,v.2.1,v.2.2.1,v.2.2.2.1,v.2.2.2.2.2.2.1,v.2.2.2.2.2.2.2.1,())else(HD (v.2.1,())).bind fun d=>bif d.1 then(GQ (x.2.2.2.2.2.2.2.2.2.2.2.1,x.2.2.2.2.1,v.1,())).bind fun e=>x.2.2.2.2.2.2.2.2.2.2.1[0+x.1.toNat]?.bind fun f=>x.2.2.2.2.2.2.2.2.2.2.1[0+x.1.toNat]?.bind fun g=>(FP ((x.2.2.2.2.2.2.2.2.2.1,()),(v.1,v.2.1,v.2.2.1,v.2.2.2.1,v.2.2.2.2.1,v.2.2.2.2.2.1,v.2.2.2.2.2.2.1,f.2.2.2.2.2.2.2.1,g.2.2.2.2.2.2.2.2.1,()),x.2.2.2.2.1,x.2.2.2.2.2.2.1,())).bind fun v=>if 0<=x.1/\x.1<(x.2.2.2.2.2.2.2.2.2.2.1.length:Int)then x.2.2.2.2.2.2.2.2.2.2.1[0+x.1.toNat]?.bind fun h=>some (0,x.2.2.2.2.2.2.2.1,x.2.2.2.2.2.2.2.2.1,x.2.2.2.2.2.2.2.2.2.1,x.2.2.2.2.2.2.2.2.2.2.1.set (0+x.1.toNat) (v.1,v.2.1,v.2.2.1,v.2.2.2.1,v.2.2.2.2.1,v.2.2.2.2.2.1,v.2.2.2.2.2.2.1,v.2.2.2.2.2.2.2.2.1,v.2.2.2.2.2.2.2.2.2.1,()),e.2.1,x.2.2.2.2.2.2.2.2.2.2.2.2.1,())else none else x.2.2.2.2.2.2.2.2.2.2.1[0+x.1.toNat]?.bind fun e=>x.2.2.2.2.2.2.2.2.2.2.1[0+x.1.toNat]?.bind fun f=>(FP ((x.2.2.2.2.2.2.2.2.2.1,()),(v.1,v.2.1,v.2.2.1,v.2.2.2.1,v.2.2.2.2.1,v.2.2.2.2.2.1,v.2.2.2.2.2.2.1,e.2.2.2.2.2.2.2.1,f.2.2.2.2.2.2.2.2.1,()),x.2.2.2.2.1,x.2.2.2.2.2.2.1,())).bind fun v=>if 0<=x.1/\x.1<(x.2.2.2.2.2.2.2.2.2.2.1.length:Int)then x.2.2.2.2.2.2.2.2.2.2.1[0+x.1.toNat]?.bind fun g=>some (0,x.2.2.2.2.2.2.2.1,x.2.2.2.2.2.2.2.2.1,x.2.2.2.2.2.2.2.2.2.1,x.2.2.2.2.2.2.2.2.2.2.1.set (0+x.1.toNat) (v.1,v.2.1,v.2.2.1,v.2.2.2.1,v.2.2.2.2.1,v.2.2.2.2.2.1,v.2.2.2.2.2.2.1,v.2.2.2.2.2.2.2.2.1,v.2.2.2.2.2.2.2.2.2.1,()),x.2.2.2.2.2.2.2.2.2.2.2.1,x.2.2.2.2.2.2.2.2.2.2.2.2.1,())else none else none
def ZI:Ent:=⟨57,⟨(.ptr 0 0 0 (.slot .i (.agg (si 6 .nil) .nil))),(.cells 6 (.slot .bool (.own 1 (.own 2 (.own 3 (.own 4 (.slot .i .nil)))))) (.tree false 0 (.slice Ae) (.tree false 0 Ad (.lst false A0 (.lst false A0 .nil)))))⟩,⟨(.agg (.slot .i (.const (AV.nils) .nil)) .nil),(.cells 6 (.slot .bool (.own 1 (.own 2 (.own 5 (.own 6 (.slot .i .nil)))))) (.tree false 0 (.slice Ae) (.tree false 1 Ad (.gone (.gone (.lst false A0 (.lst false A0 .nil)))))))⟩,HB⟩
theorem A3k:Ah Go.Proofs.Tryz.prog ZI:=okA (C:=A6n) (hcB (all_cons Ss (all_cons A3u (all_cons XL (all_cons A3r (all_cons nt (all_cons A3q (all_cons A3p (all_cons A3l all_nil))))))))) Go.Proofs.Tryz.func57
abbrev mM:=List (List A2)×A3
abbrev mJ:=Int×Unit
abbrev mK:=Unit ⊕ Unit ⊕ Unit
def BG (i:mM)(v:mJ)(R:Type)(K:mJ ⊕ mK->Option R):Option R:=bif decide (v.1<(i.2.2.2.2.2.2.2.2.2.1.length:Int))then(lAt i.2.2.2.2.2.2.2.2.2.1 v.1).bind fun a=>(lAt i.1 a.1).bind fun b=>(BD (b,())).bind fun c=>bif decide (c.2.2.1<=i.2.2.2.2.1)then K (.inl (IntKind.i64.wrap (v.1+1),()))else bif i.2.2.1==2 then K (.inr (.inl ()))else bif i.2.2.1==4 then K (.inr (.inr (.inl ())))else K (.inl (IntKind.i64.wrap (v.1+1),()))else K (.inr (.inr (.inr ())))
theorem M5:Bi BG:=fun i v R K=>Af (Ac fun _=>Ac fun _=>Ac fun _=>Af (Aa) (Af (Aa) (Af (Aa) (Aa)))) (Aa)
def XC:Tmpl:=⟨(jk 2 (.ptr 0 0 0 (.ptr 1 0 0 (.junk (.slot .i (jk 32 .nil)))))),(.cells 1 (.slot (.slice (.slice Ae)) .nil) (.cells 9 (si 7 (.slot (.slice A0) (.slot (.slice A0) .nil))) .nil))⟩
def mI:Exs mM mK:=xs .ret (fun i p=>⟨jn 4 (.n (2)::jn 33 ([])),[some (Cont.cells 1 [[AV.pv (.slice (.slice Ae)) i.1]]),some (Cont.cells 9 [[AV.pv .i i.2.1,AV.pv .i i.2.2.1,AV.pv .i i.2.2.2.1,AV.pv .i i.2.2.2.2.1,AV.pv .i i.2.2.2.2.2.1,AV.pv .i i.2.2.2.2.2.2.1,AV.pv .i i.2.2.2.2.2.2.2.1,AV.pv (.slice A0) i.2.2.2.2.2.2.2.2.1,AV.pv (.slice A0) i.2.2.2.2.2.2.2.2.2.1]])]⟩)<|xs .ret (fun i p=>⟨jn 4 (.n (3)::jn 33 ([])),[some (Cont.cells 1 [[AV.pv (.slice (.slice Ae)) i.1]]),some (Cont.cells 9 [[AV.pv .i i.2.1,AV.pv .i i.2.2.1,AV.pv .i i.2.2.2.1,AV.pv .i i.2.2.2.2.1,AV.pv .i i.2.2.2.2.2.1,AV.pv .i i.2.2.2.2.2.2.1,AV.pv .i i.2.2.2.2.2.2.2.1,AV.pv (.slice A0) i.2.2.2.2.2.2.2.2.1,AV.pv (.slice A0) i.2.2.2.2.2.2.2.2.2.1]])]⟩)<|x1 (.exit 0) fun i p=>⟨jn 38 ([]),[some (Cont.cells 1 [[AV.pv (.slice (.slice Ae)) i.1]]),some (Cont.cells 9 [[AV.pv .i i.2.1,AV.pv .i i.2.2.1,AV.pv .i i.2.2.2.1,AV.pv .i i.2.2.2.2.1,AV.pv .i i.2.2.2.2.2.1,AV.pv .i i.2.2.2.2.2.2.1,AV.pv .i i.2.2.2.2.2.2.2.1,AV.pv (.slice A0) i.2.2.2.2.2.2.2.2.1,AV.pv (.slice A0) i.2.2.2.2.2.2.2.2.2.1]])]⟩
def mL:=((.v (.i (.i (.i (.i (.i (.i (.i (.i (.i (.i .n))))))))))):Pk XC.ty _ _)
def A1i:Cfg:={ti:=Au,ents:=[ZU,Su],ann:=[(4,Ao XC 0 (spP mL) BG mI.E)],lent:=0}
def HG (x:A4×A3×Unit):Option (Int×Unit):=(Gz ((x.1.1,()),(x.2.1.1,x.2.1.2.1,x.2.1.2.2.1,x.2.1.2.2.2.1,x.2.1.2.2.2.2.1,x.2.1.2.2.2.2.2.1,x.2.1.2.2.2.2.2.2.1,x.2.1.2.2.2.2.2.2.2.1,x.2.1.2.2.2.2.2.2.2.2.1,()),0,())).bind fun v=>bif !v.1 then some (6,())else(AE (fun v=>BG (x.1.1,x.2.1.1,x.2.1.2.1,x.2.1.2.2.1,x.2.1.2.2.2.1,x.2.1.2.2.2.2.1,x.2.1.2.2.2.2.2.1,x.2.1.2.2.2.2.2.2.1,x.2.1.2.2.2.2.2.2.2.1,x.2.1.2.2.2.2.2.2.2.2.1,()) v _ some) (0,())).bind fun p=>Az p (fun p=>some (2,())) fun p=>Az p (fun p=>some (3,())) fun p=>some (0,())
def ZH:Ent:=⟨115,⟨(.slot Bo (.slot Ad .nil)),.nil⟩,⟨(.slot .i .nil),.nil⟩,HG⟩
theorem mN:CfgOK Go.Proofs.Tryz.prog A1i:=hcB (all_cons XR (all_cons Qx all_nil))
theorem wE:B7 Go.Proofs.Tryz.prog A1i (lpc Go.Proofs.Tryz.f115 0):=lkA mN XC mL BG mI [4] M5
theorem A3j:Ah Go.Proofs.Tryz.prog ZH:=okB mN Go.Proofs.Tryz.func115 wE
abbrev mG:=List (List A2)×A3
abbrev mA:=Int×Int×Unit
abbrev mC:=Int×Unit
def DQ (i:mG)(v:mA)(R:Type)(K:mA ⊕ mC->Option R):Option R:=bif decide (v.2.1<(i.2.2.2.2.2.2.2.2.1.length:Int))then(lAt i.2.2.2.2.2.2.2.2.1 v.2.1).bind fun a=>K (.inl (mx v.1 a.2.1,IntKind.i64.wrap (v.2.1+1),()))else K (.inr (v.1,()))
theorem M3:Bi DQ:=fun i v R K=>Af (Ac fun _=>Aa) (Aa)
def XA:Tmpl:=⟨(jk 2 (.ptr 0 0 0 (.ptr 1 0 0 (.junk (si 2 (jk 46 .nil)))))),(.cells 1 (.slot (.slice (.slice Ae)) .nil) (.cells 9 (si 7 (.slot (.slice A0) (.slot (.slice A0) .nil))) .nil))⟩
def my:Exs mG mC:=x1 (.exit 0) fun i p=>⟨jn 2 (AV.ptr 0 none 0 0::AV.ptr 1 none 0 0::jn 1 (.n (p.1)::jn 47 ([]))),[some (Cont.cells 1 [[AV.pv (.slice (.slice Ae)) i.1]]),some (Cont.cells 9 [[AV.pv .i i.2.1,AV.pv .i i.2.2.1,AV.pv .i i.2.2.2.1,AV.pv .i i.2.2.2.2.1,AV.pv .i i.2.2.2.2.2.1,AV.pv .i i.2.2.2.2.2.2.1,AV.pv .i i.2.2.2.2.2.2.2.1,AV.pv (.slice A0) i.2.2.2.2.2.2.2.2.1,AV.pv (.slice A0) i.2.2.2.2.2.2.2.2.2.1]])]⟩
def mE:=((.v (.v (.i (.i (.i (.i (.i (.i (.i (.i (.i (.i .n)))))))))))):Pk XA.ty _ _)
abbrev mF:=List (List A2)×A3
abbrev mz:=Int×Int×Unit
abbrev mB:=Int×Unit
def CZ (i:mF)(v:mz)(R:Type)(K:mz ⊕ mB->Option R):Option R:=bif decide (v.2.1<(i.2.2.2.2.2.2.2.2.2.1.length:Int))then(lAt i.2.2.2.2.2.2.2.2.2.1 v.2.1).bind fun a=>(lAt i.1 a.1).bind fun b=>(BD (b,())).bind fun c=>K (.inl (mx v.1 c.2.2.2.1,IntKind.i64.wrap (v.2.1+1),()))else K (.inr (v.1,()))
theorem M2:Bi CZ:=fun i v R K=>Af (Ac fun _=>Ac fun _=>Ac fun _=>Aa) (Aa)
def Xz:Tmpl:=⟨(jk 2 (.ptr 0 0 0 (.ptr 1 0 0 (.junk (.slot .i (.junk (.slot .i (jk 45 .nil)))))))),(.cells 1 (.slot (.slice (.slice Ae)) .nil) (.cells 9 (si 7 (.slot (.slice A0) (.slot (.slice A0) .nil))) .nil))⟩
def mw:Exs mF mB:=x1 (.exit 2) fun i p=>⟨jn 5 (.n (p.1)::jn 47 ([])),[some (Cont.cells 1 [[AV.pv (.slice (.slice Ae)) i.1]]),some (Cont.cells 9 [[AV.pv .i i.2.1,AV.pv .i i.2.2.1,AV.pv .i i.2.2.2.1,AV.pv .i i.2.2.2.2.1,AV.pv .i i.2.2.2.2.2.1,AV.pv .i i.2.2.2.2.2.2.1,AV.pv .i i.2.2.2.2.2.2.2.1,AV.pv (.slice A0) i.2.2.2.2.2.2.2.2.1,AV.pv (.slice A0) i.2.2.2.2.2.2.2.2.2.1]])]⟩
def mD:=((.v (.v (.i (.i (.i (.i (.i (.i (.i (.i (.i (.i .n)))))))))))):Pk Xz.ty _ _)
def mH:Cfg:={ti:=Au,ents:=[OP,Qh,Su],ann:=[(5,Ao XA 0 (spP mE) DQ my.E),(9,Ao Xz 0 (spP mD) CZ mw.E)],lent:=0}
def HF (x:A4×A3×Unit):Option (Int×Unit):=(Bs ((x.1.1,()),())).bind fun v=>bif !v.1 then some (0,())else(AO ((x.2.1.1,x.2.1.2.1,x.2.1.2.2.1,x.2.1.2.2.2.1,x.2.1.2.2.2.2.1,x.2.1.2.2.2.2.2.1,x.2.1.2.2.2.2.2.2.1,x.2.1.2.2.2.2.2.2.2.1,x.2.1.2.2.2.2.2.2.2.2.1,()),())).bind fun v=>bif !v.1 then some (0,())else(AE (fun v=>DQ (x.1.1,x.2.1.1,x.2.1.2.1,x.2.1.2.2.1,x.2.1.2.2.2.1,x.2.1.2.2.2.2.1,x.2.1.2.2.2.2.2.1,x.2.1.2.2.2.2.2.2.1,x.2.1.2.2.2.2.2.2.2.1,x.2.1.2.2.2.2.2.2.2.2.1,()) v _ some) (0,0,())).bind fun p=>(AE (fun v=>CZ (x.1.1,x.2.1.1,x.2.1.2.1,x.2.1.2.2.1,x.2.1.2.2.2.1,x.2.1.2.2.2.2.1,x.2.1.2.2.2.2.2.1,x.2.1.2.2.2.2.2.2.1,x.2.1.2.2.2.2.2.2.2.1,x.2.1.2.2.2.2.2.2.2.2.1,()) v _ some) (p.1,0,())).bind fun p=>some (p.1,())
def wD:Ent:=⟨224,⟨(.slot Bo (.slot Ad .nil)),.nil⟩,⟨(.slot .i .nil),.nil⟩,HF⟩
theorem XB:CfgOK Go.Proofs.Tryz.prog mH:=hcB (all_cons Ok (all_cons Oj (all_cons Qx all_nil)))
theorem wB:B7 Go.Proofs.Tryz.prog mH (lpc Go.Proofs.Tryz.f224 1):=lkA XB Xz mD CZ mw [5] M2
theorem wC:B7 Go.Proofs.Tryz.prog mH (lpc Go.Proofs.Tryz.f224 0):=lkA XB XA mE DQ my [2,3,5] M3
theorem A3i:Ah Go.Proofs.Tryz.prog wD:=okC XB Go.Proofs.Tryz.func224 wC wB
abbrev mu:=List (List A2)×A3
abbrev mq:=Int×Int×Unit
abbrev mr:=Int×Unit
def Dv (i:mu)(v:mq)(R:Type)(K:mq ⊕ mr->Option R):Option R:=bif decide (v.2.1<(i.2.2.2.2.2.2.2.2.1.length:Int))then(lAt i.2.2.2.2.2.2.2.2.1 v.2.1).bind fun a=>(lAt i.1 a.1).bind fun b=>(lAt i.2.2.2.2.2.2.2.2.1 v.2.1).bind fun c=>(DS (b,c.2.1,())).bind fun d=>(lAt b d.1).bind fun e=>K (.inl (mn v.1 e.2.2.2.2.1,IntKind.i64.wrap (v.2.1+1),()))else K (.inr (v.1,()))
theorem Lv:Bi Dv:=fun i v R K=>Af (Ac fun _=>Ac fun _=>Ac fun _=>Ac fun _=>Ac fun _=>Aa) (Aa)
def Xy:Tmpl:=⟨(jk 2 (.ptr 0 0 0 (.ptr 1 0 0 (.junk (si 2 (jk 37 .nil)))))),(.cells 1 (.slot (.slice (.slice Ae)) .nil) (.cells 9 (si 7 (.slot (.slice A0) (.slot (.slice A0) .nil))) .nil))⟩
def mp:Exs mu mr:=x1 (.exit 0) fun i p=>⟨jn 5 (.n (p.1)::jn 38 ([])),[some (Cont.cells 1 [[AV.pv (.slice (.slice Ae)) i.1]]),some (Cont.cells 9 [[AV.pv .i i.2.1,AV.pv .i i.2.2.1,AV.pv .i i.2.2.2.1,AV.pv .i i.2.2.2.2.1,AV.pv .i i.2.2.2.2.2.1,AV.pv .i i.2.2.2.2.2.2.1,AV.pv .i i.2.2.2.2.2.2.2.1,AV.pv (.slice A0) i.2.2.2.2.2.2.2.2.1,AV.pv (.slice A0) i.2.2.2.2.2.2.2.2.2.1]])]⟩
def mt:=((.v (.v (.i (.i (.i (.i (.i (.i (.i (.i (.i (.i .n)))))))))))):Pk Xy.ty _ _)
def A1h:Cfg:={ti:=Au,ents:=[Sy,Qg],ann:=[(5,Ao Xy 0 (spP mt) Dv mp.E)],lent:=0}
def GP (x:A4×A3×Unit):Option (Int×Unit):=(Dk ((x.1.1,()),(x.2.1.1,x.2.1.2.1,x.2.1.2.2.1,x.2.1.2.2.2.1,x.2.1.2.2.2.2.1,x.2.1.2.2.2.2.2.1,x.2.1.2.2.2.2.2.2.1,x.2.1.2.2.2.2.2.2.2.1,x.2.1.2.2.2.2.2.2.2.2.1,()),())).bind fun v=>bif !v.1 then some (0,())else(AE (fun v=>Dv (x.1.1,x.2.1.1,x.2.1.2.1,x.2.1.2.2.1,x.2.1.2.2.2.1,x.2.1.2.2.2.2.1,x.2.1.2.2.2.2.2.1,x.2.1.2.2.2.2.2.2.1,x.2.1.2.2.2.2.2.2.2.1,x.2.1.2.2.2.2.2.2.2.2.1,()) v _ some) (1000,0,())).bind fun p=>some (p.1,())
def wA:Ent:=⟨225,⟨(.slot Bo (.slot Ad .nil)),.nil⟩,⟨(.slot .i .nil),.nil⟩,GP⟩
theorem mv:CfgOK Go.Proofs.Tryz.prog A1h:=hcB (all_cons XW (all_cons XY all_nil))
theorem wz:B7 Go.Proofs.Tryz.prog A1h (lpc Go.Proofs.Tryz.f225 0):=lkA mv Xy mt Dv mp [5] Lv
theorem A3h:Ah Go.Proofs.Tryz.prog wA:=okB mv Go.Proofs.Tryz.func225 wz
def F9 (x:A4×A3×Int×Unit):Option (Int×Int×Bool×Unit):=(Dk ((x.1.1,()),(x.2.1.1,x.2.1.2.1,x.2.1.2.2.1,x.2.1.2.2.2.1,x.2.1.2.2.2.2.1,x.2.1.2.2.2.2.2.1,x.2.1.2.2.2.2.2.2.1,x.2.1.2.2.2.2.2.2.2.1,x.2.1.2.2.2.2.2.2.2.2.1,()),())).bind fun v=>bif !v.1 then some (0,0,false,())else bif x.2.1.2.2.1 != 1 then some (0,0,false,())else(GB ((x.1.1,()),())).bind fun v=>(Al (x.2.2.1,IntKind.i64.wrap (v.1+1),999,())).bind fun v=>bif !v.1 then some (0,0,false,())else(HF ((x.1.1,()),(x.2.1.1,x.2.1.2.1,x.2.1.2.2.1,x.2.1.2.2.2.1,x.2.1.2.2.2.2.1,x.2.1.2.2.2.2.2.1,x.2.1.2.2.2.2.2.2.1,x.2.1.2.2.2.2.2.2.2.1,x.2.1.2.2.2.2.2.2.2.2.1,()),())).bind fun v=>(GP ((x.1.1,()),(x.2.1.1,x.2.1.2.1,x.2.1.2.2.1,x.2.1.2.2.2.1,x.2.1.2.2.2.2.1,x.2.1.2.2.2.2.2.1,x.2.1.2.2.2.2.2.2.1,x.2.1.2.2.2.2.2.2.2.1,x.2.1.2.2.2.2.2.2.2.2.1,()),())).bind fun a=>some (mx x.2.1.2.2.2.2.1 v.1,mn (mn x.2.1.2.2.2.2.2.1 a.1) x.2.2.1,true,())
def Sp:Ent:=⟨180,⟨(.slot Bo (.slot Ad (.slot .i .nil))),.nil⟩,⟨(si 2 (.slot .bool .nil)),.nil⟩,F9⟩
theorem mo:Ah Go.Proofs.Tryz.prog Sp:=okA (hcA 0 (all_cons XW (all_cons pe (all_cons JB (all_cons A3i (all_cons A3h all_nil)))))) Go.Proofs.Tryz.func180
abbrev ml:=List (List A2)×A3
abbrev mg:=Int×Unit
abbrev mh:=Unit ⊕ Unit
def F7 (i:ml)(v:mg)(R:Type)(K:mg ⊕ mh->Option R):Option R:=bif decide (v.1<(i.2.2.2.2.2.2.2.2.2.1.length:Int))then(lAt i.2.2.2.2.2.2.2.2.2.1 v.1).bind fun a=>(lAt i.1 a.1).bind fun b=>bif decide ((b.length:Int)>=50)then K (.inr (.inl ()))else K (.inl (IntKind.i64.wrap (v.1+1),()))else K (.inr (.inr ()))
theorem O9:Bi F7:=fun i v R K=>Af (Ac fun _=>Ac fun _=>Af (Aa) (Aa)) (Aa)
def Xx:Tmpl:=⟨(jk 2 (.ptr 0 0 0 (.ptr 1 0 0 (.junk (.slot .i (jk 19 .nil)))))),(.cells 1 (.slot (.slice (.slice Ae)) .nil) (.cells 9 (si 7 (.slot (.slice A0) (.slot (.slice A0) .nil))) .nil))⟩
def mf:Exs ml mh:=xs .ret (fun i p=>⟨jn 4 (.b (false)::jn 20 ([])),[some (Cont.cells 1 [[AV.pv (.slice (.slice Ae)) i.1]]),some (Cont.cells 9 [[AV.pv .i i.2.1,AV.pv .i i.2.2.1,AV.pv .i i.2.2.2.1,AV.pv .i i.2.2.2.2.1,AV.pv .i i.2.2.2.2.2.1,AV.pv .i i.2.2.2.2.2.2.1,AV.pv .i i.2.2.2.2.2.2.2.1,AV.pv (.slice A0) i.2.2.2.2.2.2.2.2.1,AV.pv (.slice A0) i.2.2.2.2.2.2.2.2.2.1]])]⟩)<|x1 (.exit 0) fun i p=>⟨jn 25 ([]),[some (Cont.cells 1 [[AV.pv (.slice (.slice Ae)) i.1]]),some (Cont.cells 9 [[AV.pv .i i.2.1,AV.pv .i i.2.2.1,AV.pv .i i.2.2.2.1,AV.pv .i i.2.2.2.2.1,AV.pv .i i.2.2.2.2.2.1,AV.pv .i i.2.2.2.2.2.2.1,AV.pv .i i.2.2.2.2.2.2.2.1,AV.pv (.slice A0) i.2.2.2.2.2.2.2.2.1,AV.pv (.slice A0) i.2.2.2.2.2.2.2.2.2.1]])]⟩
def mi:=((.v (.i (.i (.i (.i (.i (.i (.i (.i (.i (.i .n))))))))))):Pk Xx.ty _ _)
def A1g:Cfg:={ti:=Au,ents:=[],ann:=[(2,Ao Xx 0 (spP mi) F7 mf.E)],lent:=0}
def Ge (x:A4×A3×Unit):Option (Bool×Unit):=(AE (fun v=>F7 (x.1.1,x.2.1.1,x.2.1.2.1,x.2.1.2.2.1,x.2.1.2.2.2.1,x.2.1.2.2.2.2.1,x.2.1.2.2.2.2.2.1,x.2.1.2.2.2.2.2.2.1,x.2.1.2.2.2.2.2.2.2.1,x.2.1.2.2.2.2.2.2.2.2.1,()) v _ some) (0,())).bind fun p=>Az p (fun p=>some (false,())) fun p=>some (true,())
def So:Ent:=⟨181,⟨(.slot Bo (.slot Ad .nil)),.nil⟩,⟨(.slot .bool .nil),.nil⟩,Ge⟩
theorem mm:CfgOK Go.Proofs.Tryz.prog A1g:=hcB all_nil
theorem wy:B7 Go.Proofs.Tryz.prog A1g (lpc Go.Proofs.Tryz.f181 0):=lkA mm Xx mi F7 mf [4] O9
theorem mj:Ah Go.Proofs.Tryz.prog So:=okB mm Go.Proofs.Tryz.func181 wy
abbrev md:=Int×Int×Int×Int×Int×Int×Int×Int×Int×List A1×List A1×Int×Int×Int×Int×Int×Int×Int×A3
abbrev m9:=Int×List (List A2)×Unit
abbrev ma:=List (List A2)×Unit
def Di (i:md)(v:m9)(R:Type)(K:m9 ⊕ ma->Option R):Option R:=bif decide (v.1<(i.2.2.2.2.2.2.2.2.2.1.length:Int))then(lAt i.2.2.2.2.2.2.2.2.2.1 v.1).bind fun a=>if 0<=a.1/\a.1<(v.2.1.length:Int)then v.2.1[0+a.1.toNat]?.bind fun b=>(lAt i.2.2.2.2.2.2.2.2.2.1 v.1).bind fun c=>v.2.1[0+a.1.toNat]?.bind fun d=>(DS (d,c.2.1,())).bind fun e=>if 0<=a.1/\a.1<(v.2.1.length:Int)then v.2.1[0+a.1.toNat]?.bind fun f=>if 0<=a.1/\a.1<(v.2.1.length:Int)then v.2.1[0+a.1.toNat]?.bind fun g=>v.2.1[0+a.1.toNat]?.bind fun h=>if 0<=e.1/\e.1<(h.length:Int)then v.2.1[0+a.1.toNat]?.bind fun j=>j[0+e.1.toNat]?.bind fun k=>v.2.1[0+a.1.toNat]?.bind fun l=>if 0<=e.1/\e.1<(l.length:Int)then v.2.1[0+a.1.toNat]?.bind fun m=>m[0+e.1.toNat]?.bind fun n=>K (.inl (IntKind.i64.wrap (v.1+1),v.2.1.set (0+a.1.toNat) (m.set (0+e.1.toNat) (n.1,n.2.1,n.2.2.1,mx k.2.2.2.1 i.1,n.2.2.2.2.1,())),()))else none else none else none else none else none else K (.inr (v.2.1,()))
theorem My:Bi Di:=fun i v R K=>Af (Ac fun _=>Ay (Ac fun _=>Ac fun _=>Ac fun _=>Ac fun _=>Ay (Ac fun _=>Ay (Ac fun _=>Ac fun _=>Ay (Ac fun _=>Ac fun _=>Ac fun _=>Ay (Ac fun _=>Ac fun _=>Aa)))))) (Aa)
def Xv:Tmpl:=⟨(jk 2 (.slot .i (.junk (.slot .i (.junk (.ptr 0 0 0 (jk 3 (.ptr 1 0 0 (.ptr 2 0 0 (.ptr 3 0 0 (.ptr 5 0 0 (.slot .i (jk 113 .nil))))))))))))),(.cells 9 (si 7 (.slot (.slice A0) (.slot (.slice A0) .nil))) (.cells 1 (.const (AV.nils) .nil) (.cells 9 (si 7 (.const (AV.nils) (.const (AV.nils) .nil))) (.cells 1 (.own 4 .nil) (.tree false 0 (.slice Ae) (.cells 9 (si 7 (.own 6 (.own 7 .nil))) (.lst false A0 (.lst false A0 .nil))))))))⟩
def m8:Exs md ma:=x1 (.exit 0) fun i p=>⟨jn 2 (.n (i.1)::jn 1 (.n (i.2.1)::jn 1 (AV.ptr 0 none 0 0::jn 3 (AV.ptr 1 none 0 0::AV.ptr 2 none 0 0::AV.ptr 3 none 0 0::AV.ptr 5 none 0 0::jn 114 ([]))))),[some (Cont.cells 9 [[AV.pv .i i.2.2.1,AV.pv .i i.2.2.2.1,AV.pv .i i.2.2.2.2.1,AV.pv .i i.2.2.2.2.2.1,AV.pv .i i.2.2.2.2.2.2.1,AV.pv .i i.2.2.2.2.2.2.2.1,AV.pv .i i.2.2.2.2.2.2.2.2.1,AV.pv (.slice A0) i.2.2.2.2.2.2.2.2.2.1,AV.pv (.slice A0) i.2.2.2.2.2.2.2.2.2.2.1]]),some (Cont.cells 1 [[AV.nils]]),some (Cont.cells 9 [[AV.pv .i i.2.2.2.2.2.2.2.2.2.2.2.1,AV.pv .i i.2.2.2.2.2.2.2.2.2.2.2.2.1,AV.pv .i i.2.2.2.2.2.2.2.2.2.2.2.2.2.1,AV.pv .i i.2.2.2.2.2.2.2.2.2.2.2.2.2.2.1,AV.pv .i i.2.2.2.2.2.2.2.2.2.2.2.2.2.2.2.1,AV.pv .i i.2.2.2.2.2.2.2.2.2.2.2.2.2.2.2.2.1,AV.pv (Ty.int IntKind.i64) i.2.2.2.2.2.2.2.2.2.2.2.2.2.2.2.2.2.1,AV.nils,AV.nils]]),some (Cont.cells 1 [[AV.own 4 none none]]),some (Cont.tree false 0 (.slice Ae) p.1 none),some (Cont.cells 9 [[AV.pv .i i.2.2.2.2.2.2.2.2.2.2.2.2.2.2.2.2.2.2.1,AV.pv .i i.2.2.2.2.2.2.2.2.2.2.2.2.2.2.2.2.2.2.2.1,AV.pv .i i.2.2.2.2.2.2.2.2.2.2.2.2.2.2.2.2.2.2.2.2.1,AV.pv .i i.2.2.2.2.2.2.2.2.2.2.2.2.2.2.2.2.2.2.2.2.2.1,AV.pv .i i.2.2.2.2.2.2.2.2.2.2.2.2.2.2.2.2.2.2.2.2.2.2.1,AV.pv .i i.2.2.2.2.2.2.2.2.2.2.2.2.2.2.2.2.2.2.2.2.2.2.2.1,AV.pv .i i.2.2.2.2.2.2.2.2.2.2.2.2.2.2.2.2.2.2.2.2.2.2.2.2.1,AV.own 6 none none,AV.own 7 none none]]),some (Cont.lst false A0 i.2.2.2.2.2.2.2.2.2.2.2.2.2.2.2.2.2.2.2.2.2.2.2.2.2.1),some (Cont.lst false A0 i.2.2.2.2.2.2.2.2.2.2.2.2.2.2.2.2.2.2.2.2.2.2.2.2.2.2.1)]⟩
def mb:=((.i (.i (.v (.i (.i (.i (.i (.i (.i (.i (.i (.i (.i (.i (.i (.i (.i (.i (.i (.v (.i (.i (.i (.i (.i (.i (.i (.i (.i .n))))))))))))))))))))))))))))):Pk Xv.ty _ _)
abbrev ZG:=Int×Int×Int×Int×Int×Int×Int×Int×Int×List A1×List A1×Int×Int×Int×Int×Int×Int×Int×A3
abbrev ZD:=Int×List (List A2)×Unit
abbrev ZE:=List (List A2)×Unit
def CY (i:ZG)(v:ZD)(R:Type)(K:ZD ⊕ ZE->Option R):Option R:=bif decide (v.1<(i.2.2.2.2.2.2.2.2.2.2.1.length:Int))then(lAt i.2.2.2.2.2.2.2.2.2.2.1 v.1).bind fun a=>if 0<=a.1/\a.1<(v.2.1.length:Int)then v.2.1[0+a.1.toNat]?.bind fun b=>v.2.1[0+a.1.toNat]?.bind fun c=>if 0<=a.1/\a.1<(v.2.1.length:Int)then v.2.1[0+a.1.toNat]?.bind fun d=>v.2.1[0+a.1.toNat]?.bind fun e=>if 0<=IntKind.i64.wrap ((c.length:Int)-1)/\IntKind.i64.wrap ((c.length:Int)-1)<(e.length:Int)then v.2.1[0+a.1.toNat]?.bind fun f=>f[0+(IntKind.i64.wrap ((c.length:Int)-1)).toNat]?.bind fun g=>if 0<=a.1/\a.1<(↑((v.2.1.set (0+a.1.toNat) (f.set (0+(IntKind.i64.wrap ((c.length:Int)-1)).toNat) (g.1,g.2.1,g.2.2.1,g.2.2.2.1,i.2.1,()))).length):Int)then(v.2.1.set (0+a.1.toNat) (f.set (0+(IntKind.i64.wrap ((c.length:Int)-1)).toNat) (g.1,g.2.1,g.2.2.1,g.2.2.2.1,i.2.1,())))[0+a.1.toNat]?.bind fun h=>(lAt i.2.2.2.2.2.2.2.2.2.2.1 v.1).bind fun j=>(v.2.1.set (0+a.1.toNat) (f.set (0+(IntKind.i64.wrap ((c.length:Int)-1)).toNat) (g.1,g.2.1,g.2.2.1,g.2.2.2.1,i.2.1,())))[0+a.1.toNat]?.bind fun k=>if(k++[(i.2.2.1,j.2.1,i.1,i.1,1000,())]).length<=879609302220 then if 0<=a.1/\a.1<(↑((v.2.1.set (0+a.1.toNat) (f.set (0+(IntKind.i64.wrap ((c.length:Int)-1)).toNat) (g.1,g.2.1,g.2.2.1,g.2.2.2.1,i.2.1,()))).length):Int)then(v.2.1.set (0+a.1.toNat) (f.set (0+(IntKind.i64.wrap ((c.length:Int)-1)).toNat) (g.1,g.2.1,g.2.2.1,g.2.2.2.1,i.2.1,())))[0+a.1.toNat]?.bind fun l=>if 1<=1/\true=true/\0+a.1.toNat=0+a.1.toNat/\0<=0/\0<1 then K (.inl (IntKind.i64.wrap (v.1+1),(v.2.1.set (0+a.1.toNat) (f.set (0+(IntKind.i64.wrap ((c.length:Int)-1)).toNat) (g.1,g.2.1,g.2.2.1,g.2.2.2.1,i.2.1,()))).set (0+a.1.toNat) (k++[(i.2.2.1,j.2.1,i.1,i.1,1000,())]),()))else none else none else none else none else none else none else none else K (.inr (v.2.1,()))
theorem M0:Bi CY:=fun i v R K=>Af (Ac fun _=>Ay (Ac fun _=>Ac fun _=>Ay (Ac fun _=>Ac fun _=>Ay (Ac fun _=>Ac fun _=>Ay (Ac fun _=>Ac fun _=>Ac fun _=>Ay (Ay (Ac fun _=>Ay (Aa)))))))) (Aa)
def Sm:Tmpl:=⟨(jk 2 (.slot .i (.junk (.slot .i (.junk (.ptr 0 0 0 (jk 3 (.ptr 1 0 0 (.ptr 2 0 0 (.ptr 3 0 0 (.ptr 5 0 0 (jk 3 (.slot .i (jk 110 .nil)))))))))))))),(.cells 9 (si 7 (.slot (.slice A0) (.slot (.slice A0) .nil))) (.cells 1 (.const (AV.nils) .nil) (.cells 9 (si 7 (.const (AV.nils) (.const (AV.nils) .nil))) (.cells 1 (.own 4 .nil) (.tree false 1 (.slice Ae) (.cells 9 (si 7 (.own 6 (.own 7 .nil))) (.lst false A0 (.lst false A0 .nil))))))))⟩
def ZC:Exs ZG ZE:=x1 (.exit 2) fun i p=>⟨jn 10 (AV.ptr 1 none 0 0::AV.ptr 2 none 0 0::AV.ptr 3 none 0 0::AV.ptr 5 none 0 0::jn 114 ([])),[some (Cont.cells 9 [[AV.pv .i i.2.2.1,AV.pv .i i.2.2.2.1,AV.pv .i i.2.2.2.2.1,AV.pv .i i.2.2.2.2.2.1,AV.pv .i i.2.2.2.2.2.2.1,AV.pv .i i.2.2.2.2.2.2.2.1,AV.pv .i i.2.2.2.2.2.2.2.2.1,AV.pv (.slice A0) i.2.2.2.2.2.2.2.2.2.1,AV.pv (.slice A0) i.2.2.2.2.2.2.2.2.2.2.1]]),some (Cont.cells 1 [[AV.nils]]),some (Cont.cells 9 [[AV.pv (Ty.int IntKind.i64) i.2.2.2.2.2.2.2.2.2.2.2.1,AV.pv .i i.2.2.2.2.2.2.2.2.2.2.2.2.1,AV.pv .i i.2.2.2.2.2.2.2.2.2.2.2.2.2.1,AV.pv .i i.2.2.2.2.2.2.2.2.2.2.2.2.2.2.1,AV.pv .i i.2.2.2.2.2.2.2.2.2.2.2.2.2.2.2.1,AV.pv .i i.2.2.2.2.2.2.2.2.2.2.2.2.2.2.2.2.1,AV.pv .i i.2.2.2.2.2.2.2.2.2.2.2.2.2.2.2.2.2.1,AV.nils,AV.nils]]),some (Cont.cells 1 [[AV.own 4 none none]]),some (Cont.tree false 1 (.slice Ae) p.1 none),some (Cont.cells 9 [[AV.pv (Ty.int IntKind.i64) i.2.2.2.2.2.2.2.2.2.2.2.2.2.2.2.2.2.2.1,AV.pv .i i.2.2.2.2.2.2.2.2.2.2.2.2.2.2.2.2.2.2.2.1,AV.pv .i i.2.2.2.2.2.2.2.2.2.2.2.2.2.2.2.2.2.2.2.2.1,AV.pv .i i.2.2.2.2.2.2.2.2.2.2.2.2.2.2.2.2.2.2.2.2.2.1,AV.pv .i i.2.2.2.2.2.2.2.2.2.2.2.2.2.2.2.2.2.2.2.2.2.2.1,AV.pv .i i.2.2.2.2.2.2.2.2.2.2.2.2.2.2.2.2.2.2.2.2.2.2.2.1,AV.pv .i i.2.2.2.2.2.2.2.2.2.2.2.2.2.2.2.2.2.2.2.2.2.2.2.2.1,AV.own 6 none none,AV.own 7 none none]]),some (Cont.lst false A0 i.2.2.2.2.2.2.2.2.2.2.2.2.2.2.2.2.2.2.2.2.2.2.2.2.2.1),some (Cont.lst false A0 i.2.2.2.2.2.2.2.2.2.2.2.2.2.2.2.2.2.2.2.2.2.2.2.2.2.2.1)]⟩
def ZF:=((.i (.i (.v (.i (.i (.i (.i (.i (.i (.i (.i (.i (.i (.i (.i (.i (.i (.i (.i (.v (.i (.i (.i (.i (.i (.i (.i (.i (.i .n))))))))))))))))))))))))))))):Pk Sm.ty _ _)
def me:Cfg:={ti:=Au,ents:=[SF,SD,Qg],ann:=[(8,Ao Xv 0 (spP mb) Di m8.E),(14,Ao Sm 0 (spP ZF) CY ZC.E)],lent:=0,hid:=[((19,0),[4]),((19,1),[4]),((19,2),[4]),((20,1),[1])]}
def DN (x:A4×A3×B3):Option (Int×Int×Int×Int×Int×Int×Int×List (List A2)×A9):=(Iu ((x.1.1,()),())).bind fun v=>(EN ((x.2.1.1,x.2.1.2.1,x.2.1.2.2.1,x.2.1.2.2.2.1,x.2.1.2.2.2.2.1,x.2.1.2.2.2.2.2.1,x.2.1.2.2.2.2.2.2.1,x.2.1.2.2.2.2.2.2.2.1,x.2.1.2.2.2.2.2.2.2.2.1,()),())).bind fun a=>(AE (fun v=>Di (x.2.2.1,x.2.2.2.2.1,x.2.1.1,x.2.1.2.1,x.2.1.2.2.1,x.2.1.2.2.2.1,x.2.1.2.2.2.2.1,x.2.1.2.2.2.2.2.1,x.2.1.2.2.2.2.2.2.1,x.2.1.2.2.2.2.2.2.2.1,x.2.1.2.2.2.2.2.2.2.2.1,0,0,0,0,0,0,0,a.1,a.2.1,2,a.2.2.2.1,x.2.2.2.1,x.2.2.2.2.1,x.2.2.1,a.2.2.2.2.2.2.2.1,a.2.2.2.2.2.2.2.2.1,()) v _ some) (0,v.1,())).bind fun p=>(AE (fun v=>CY (x.2.2.1,x.2.2.2.2.1,x.2.1.1,x.2.1.2.1,x.2.1.2.2.1,x.2.1.2.2.2.1,x.2.1.2.2.2.2.1,x.2.1.2.2.2.2.2.1,x.2.1.2.2.2.2.2.2.1,x.2.1.2.2.2.2.2.2.2.1,x.2.1.2.2.2.2.2.2.2.2.1,0,0,0,0,0,0,0,a.1,a.2.1,2,a.2.2.2.1,x.2.2.2.1,x.2.2.2.2.1,x.2.2.1,a.2.2.2.2.2.2.2.1,a.2.2.2.2.2.2.2.2.1,()) v _ some) (0,p.1,())).bind fun p=>some (a.1,a.2.1,2,a.2.2.2.1,x.2.2.2.1,x.2.2.2.2.1,x.2.2.1,p.1,a.2.2.2.2.2.2.2.1,a.2.2.2.2.2.2.2.2.1,())
def Sn:Ent:=⟨182,⟨(.slot Bo (.slot Ad (si 3 .nil))),.nil⟩,⟨(.agg (.own 0 .nil) (.agg (si 7 (.own 1 (.own 2 .nil))) .nil)),(.tree false 1 (.slice Ae) (.lst false A0 (.lst false A0 .nil)))⟩,DN⟩
theorem Xw:CfgOK Go.Proofs.Tryz.prog me:=hcB (all_cons q7 (all_cons SC (all_cons XY all_nil)))
theorem m7:B7 Go.Proofs.Tryz.prog me (lpc Go.Proofs.Tryz.f182 1):=lkA Xw Sm ZF CY ZC [10,11,12,13] M0
theorem wx:B7 Go.Proofs.Tryz.prog me (lpc Go.Proofs.Tryz.f182 0):=lkA Xw Xv mb Di m8 [2,4,6,10,11,12,13] My
theorem mc:Ah Go.Proofs.Tryz.prog Sn:=okC Xw Go.Proofs.Tryz.func182 wx m7
def A6m:Cfg:={ti:=Au,ents:=[Sp,So,Sn],ann:=[],lent:=4,hid:=[((3,2),[6]),((5,1),[6])]}
def Gm (x:Bool×Int×Int×Int×Int×Int×Int×Int×Int×Nat×Nat×A7):Option (Int×Int×Int×Int×Int×Int×Int×Nat×Nat×Bool×A7):=x.2.2.2.2.2.2.2.2.2.2.2.2.1[x.2.2.2.2.2.2.2.2.2.1]?.bind fun v=>x.2.2.2.2.2.2.2.2.2.2.2.2.1[x.2.2.2.2.2.2.2.2.2.2.1]?.bind fun a=>(F9 ((x.2.2.2.2.2.2.2.2.2.2.2.1,()),(x.2.2.1,x.2.2.2.1,x.2.2.2.2.1,x.2.2.2.2.2.1,x.2.2.2.2.2.2.1,x.2.2.2.2.2.2.2.1,x.2.2.2.2.2.2.2.2.1,v.2.2.2.2.2.2.2.1,a.2.2.2.2.2.2.2.2.1,()),IntKind.i64.wrap (x.2.1+1),())).bind fun v=>bif !v.2.2.1 then some (x.2.2.1,x.2.2.2.1,x.2.2.2.2.1,x.2.2.2.2.2.1,x.2.2.2.2.2.2.1,x.2.2.2.2.2.2.2.1,x.2.2.2.2.2.2.2.2.1,x.2.2.2.2.2.2.2.2.2.1,x.2.2.2.2.2.2.2.2.2.2.1,false,x.2.2.2.2.2.2.2.2.2.2.2.1,x.2.2.2.2.2.2.2.2.2.2.2.2.1,x.2.2.2.2.2.2.2.2.2.2.2.2.2.1,x.2.2.2.2.2.2.2.2.2.2.2.2.2.2.1,())else bif x.1 then bif decide (v.2.1<=v.1)then some (x.2.2.1,x.2.2.2.1,x.2.2.2.2.1,x.2.2.2.2.2.1,x.2.2.2.2.2.2.1,x.2.2.2.2.2.2.2.1,x.2.2.2.2.2.2.2.2.1,x.2.2.2.2.2.2.2.2.2.1,x.2.2.2.2.2.2.2.2.2.2.1,false,x.2.2.2.2.2.2.2.2.2.2.2.1,x.2.2.2.2.2.2.2.2.2.2.2.2.1,x.2.2.2.2.2.2.2.2.2.2.2.2.2.1,x.2.2.2.2.2.2.2.2.2.2.2.2.2.2.1,())else x.2.2.2.2.2.2.2.2.2.2.2.2.1[x.2.2.2.2.2.2.2.2.2.1]?.bind fun b=>x.2.2.2.2.2.2.2.2.2.2.2.2.1[x.2.2.2.2.2.2.2.2.2.2.1]?.bind fun c=>(Ge ((x.2.2.2.2.2.2.2.2.2.2.2.1,()),(x.2.2.1,x.2.2.2.1,x.2.2.2.2.1,x.2.2.2.2.2.1,x.2.2.2.2.2.2.1,x.2.2.2.2.2.2.2.1,x.2.2.2.2.2.2.2.2.1,b.2.2.2.2.2.2.2.1,c.2.2.2.2.2.2.2.2.1,()),())).bind fun d=>bif !d.1 then some (x.2.2.1,x.2.2.2.1,x.2.2.2.2.1,x.2.2.2.2.2.1,x.2.2.2.2.2.2.1,x.2.2.2.2.2.2.2.1,x.2.2.2.2.2.2.2.2.1,x.2.2.2.2.2.2.2.2.2.1,x.2.2.2.2.2.2.2.2.2.2.1,false,x.2.2.2.2.2.2.2.2.2.2.2.1,x.2.2.2.2.2.2.2.2.2.2.2.2.1,x.2.2.2.2.2.2.2.2.2.2.2.2.2.1,x.2.2.2.2.2.2.2.2.2.2.2.2.2.2.1,())else x.2.2.2.2.2.2.2.2.2.2.2.2.1[x.2.2.2.2.2.2.2.2.2.1]?.bind fun e=>x.2.2.2.2.2.2.2.2.2.2.2.2.1[x.2.2.2.2.2.2.2.2.2.2.1]?.bind fun f=>(DN ((x.2.2.2.2.2.2.2.2.2.2.2.1,()),(x.2.2.1,x.2.2.2.1,x.2.2.2.2.1,x.2.2.2.2.2.1,x.2.2.2.2.2.2.1,x.2.2.2.2.2.2.2.1,x.2.2.2.2.2.2.2.2.1,e.2.2.2.2.2.2.2.1,f.2.2.2.2.2.2.2.2.1,()),IntKind.i64.wrap (x.2.1+1),v.1,v.2.1,())).bind fun v=>none else x.2.2.2.2.2.2.2.2.2.2.2.2.1[x.2.2.2.2.2.2.2.2.2.1]?.bind fun b=>x.2.2.2.2.2.2.2.2.2.2.2.2.1[x.2.2.2.2.2.2.2.2.2.2.1]?.bind fun c=>(Ge ((x.2.2.2.2.2.2.2.2.2.2.2.1,()),(x.2.2.1,x.2.2.2.1,x.2.2.2.2.1,x.2.2.2.2.2.1,x.2.2.2.2.2.2.1,x.2.2.2.2.2.2.2.1,x.2.2.2.2.2.2.2.2.1,b.2.2.2.2.2.2.2.1,c.2.2.2.2.2.2.2.2.1,()),())).bind fun d=>bif !d.1 then some (x.2.2.1,x.2.2.2.1,x.2.2.2.2.1,x.2.2.2.2.2.1,x.2.2.2.2.2.2.1,x.2.2.2.2.2.2.2.1,x.2.2.2.2.2.2.2.2.1,x.2.2.2.2.2.2.2.2.2.1,x.2.2.2.2.2.2.2.2.2.2.1,false,x.2.2.2.2.2.2.2.2.2.2.2.1,x.2.2.2.2.2.2.2.2.2.2.2.2.1,x.2.2.2.2.2.2.2.2.2.2.2.2.2.1,x.2.2.2.2.2.2.2.2.2.2.2.2.2.2.1,())else x.2.2.2.2.2.2.2.2.2.2.2.2.1[x.2.2.2.2.2.2.2.2.2.1]?.bind fun e=>x.2.2.2.2.2.2.2.2.2.2.2.2.1[x.2.2.2.2.2.2.2.2.2.2.1]?.bind fun f=>(DN ((x.2.2.2.2.2.2.2.2.2.2.2.1,()),(x.2.2.1,x.2.2.2.1,x.2.2.2.2.1,x.2.2.2.2.2.1,x.2.2.2.2.2.2.1,x.2.2.2.2.2.2.2.1,x.2.2.2.2.2.2.2.2.1,e.2.2.2.2.2.2.2.1,f.2.2.2.2.2.2.2.2.1,()),IntKind.i64.wrap (x.2.1+1),v.1,v.2.1,())).bind fun v=>none
def ZB:Ent:=⟨116,⟨(.agg (.slot .bool (.own 0 (.own 1 (.own 2 (.own 3 (.slot .i .nil)))))) (.agg (si 7 (.nown 1 7 (.nown 1 8 .nil))) .nil)),(.tree false 0 (.slice Ae) (.tree false 0 Ad (.lst false A0 (.lst false A0 .nil))))⟩,⟨(.agg (.own 0 .nil) (.agg (si 7 (.nown 1 7 (.nown 1 8 .nil))) (.slot .bool .nil))),(.tree false 0 (.slice Ae) (.tree false 0 Ad (.lst false A0 (.lst false A0 .nil))))⟩,Gm⟩
theorem A3g:Ah Go.Proofs.Tryz.prog ZB:=okA (C:=A6m) (hcB (all_cons mo (all_cons mj (all_cons mc all_nil)))) Go.Proofs.Tryz.func116
def A6k:Cfg:={ti:=Au,ents:=[Sp,So,Sn],ann:=[],lent:=4,hid:=[((3,2),[6]),((5,1),[6])]}
def Fh (x:Bool×Int×Int×Int×Int×Int×Int×Int×Int×Nat×Nat×A7):Option (Int×Int×Int×Int×Int×Int×Int×Bool×List (List A2)×List A3×List A1×List A1×List (List A2)×A9):=x.2.2.2.2.2.2.2.2.2.2.2.2.1[x.2.2.2.2.2.2.2.2.2.1]?.bind fun v=>x.2.2.2.2.2.2.2.2.2.2.2.2.1[x.2.2.2.2.2.2.2.2.2.2.1]?.bind fun a=>(F9 ((x.2.2.2.2.2.2.2.2.2.2.2.1,()),(x.2.2.1,x.2.2.2.1,x.2.2.2.2.1,x.2.2.2.2.2.1,x.2.2.2.2.2.2.1,x.2.2.2.2.2.2.2.1,x.2.2.2.2.2.2.2.2.1,v.2.2.2.2.2.2.2.1,a.2.2.2.2.2.2.2.2.1,()),IntKind.i64.wrap (x.2.1+1),())).bind fun v=>bif !v.2.2.1 then none else bif x.1 then bif decide (v.2.1<=v.1)then none else x.2.2.2.2.2.2.2.2.2.2.2.2.1[x.2.2.2.2.2.2.2.2.2.1]?.bind fun b=>x.2.2.2.2.2.2.2.2.2.2.2.2.1[x.2.2.2.2.2.2.2.2.2.2.1]?.bind fun c=>(Ge ((x.2.2.2.2.2.2.2.2.2.2.2.1,()),(x.2.2.1,x.2.2.2.1,x.2.2.2.2.1,x.2.2.2.2.2.1,x.2.2.2.2.2.2.1,x.2.2.2.2.2.2.2.1,x.2.2.2.2.2.2.2.2.1,b.2.2.2.2.2.2.2.1,c.2.2.2.2.2.2.2.2.1,()),())).bind fun d=>bif !d.1 then none else x.2.2.2.2.2.2.2.2.2.2.2.2.1[x.2.2.2.2.2.2.2.2.2.1]?.bind fun e=>x.2.2.2.2.2.2.2.2.2.2.2.2.1[x.2.2.2.2.2.2.2.2.2.2.1]?.bind fun f=>(DN ((x.2.2.2.2.2.2.2.2.2.2.2.1,()),(x.2.2.1,x.2.2.2.1,x.2.2.2.2.1,x.2.2.2.2.2.1,x.2.2.2.2.2.2.1,x.2.2.2.2.2.2.2.1,x.2.2.2.2.2.2.2.2.1,e.2.2.2.2.2.2.2.1,f.2.2.2.2.2.2.2.2.1,()),IntKind.i64.wrap (x.2.1+1),v.1,v.2.1,())).bind fun v=>some (v.1,v.2.1,v.2.2.1,v.2.2.2.1,v.2.2.2.2.1,v.2.2.2.2.2.1,v.2.2.2.2.2.2.1,true,x.2.2.2.2.2.2.2.2.2.2.2.1,x.2.2.2.2.2.2.2.2.2.2.2.2.1,x.2.2.2.2.2.2.2.2.2.2.2.2.2.1,x.2.2.2.2.2.2.2.2.2.2.2.2.2.2.1,v.2.2.2.2.2.2.2.1,v.2.2.2.2.2.2.2.2.1,v.2.2.2.2.2.2.2.2.2.1,())else x.2.2.2.2.2.2.2.2.2.2.2.2.1[x.2.2.2.2.2.2.2.2.2.1]?.bind fun b=>x.2.2.2.2.2.2.2.2.2.2.2.2.1[x.2.2.2.2.2.2.2.2.2.2.1]?.bind fun c=>(Ge ((x.2.2.2.2.2.2.2.2.2.2.2.1,()),(x.2.2.1,x.2.2.2.1,x.2.2.2.2.1,x.2.2.2.2.2.1,x.2.2.2.2.2.2.1,x.2.2.2.2.2.2.2.1,x.2.2.2.2.2.2.2.2.1,b.2.2.2.2.2.2.2.1,c.2.2.2.2.2.2.2.2.1,()),())).bind fun d=>bif !d.1 then none else x.2.2.2.2.2.2.2.2.2.2.2.2.1[x.2.2.2.2.2.2.2.2.2.1]?.bind fun e=>x.2.2.2.2.2.2.2.2.2.2.2.2.1[x.2.2.2.2.2.2.2.2.2.2.1]?.bind fun f=>(DN ((x.2.2.2.2.2.2.2.2.2.2.2.1,()),(x.2.2.1,x.2.2.2.1,x.2.2.2.2.1,x.2.2.2.2.2.1,x.2.2.2.2.2.2.1,x.2.2.2.2.2.2.2.1,x.2.2.2.2.2.2.2.2.1,e.2.2.2.2.2.2.2.1,f.2.2.2.2.2.2.2.2.1,()),IntKind.i64.wrap (x.2.1+1),v.1,v.2.1,())).bind fun v=>some (v.1,v.2.1,v.2.2.1,v.2.2.2.1,v.2.2.2.2.1,v.2.2.2.2.2.1,v.2.2.2.2.2.2.1,true,x.2.2.2.2.2.2.2.2.2.2.2.1,x.2.2.2.2.2.2.2.2.2.2.2.2.1,x.2.2.2.2.2.2.2.2.2.2.2.2.2.1,x.2.2.2.2.2.2.2.2.2.2.2.2.2.2.1,v.2.2.2.2.2.2.2.1,v.2.2.2.2.2.2.2.2.1,v.2.2.2.2.2.2.2.2.2.1,())
def ZA:Ent:=⟨116,⟨(.agg (.slot .bool (.own 0 (.own 1 (.own 2 (.own 3 (.slot .i .nil)))))) (.agg (si 7 (.nown 1 7 (.nown 1 8 .nil))) .nil)),(.tree false 0 (.slice Ae) (.tree false 0 Ad (.lst false A0 (.lst false A0 .nil))))⟩,⟨(.agg (.own 4 .nil) (.agg (si 7 (.own 5 (.own 6 .nil))) (.slot .bool .nil))),(.tree false 0 (.slice Ae) (.tree false 0 Ad (.lst false A0 (.lst false A0 (.tree false 1 (.slice Ae) (.lst false A0 (.lst false A0 .nil)))))))⟩,Fh⟩
theorem A3e:Ah Go.Proofs.Tryz.prog ZA:=okA (C:=A6k) (hcB (all_cons mo (all_cons mj (all_cons mc all_nil)))) Go.Proofs.Tryz.func116
def A6j:Cfg:={ti:=Au,ents:=[ZB,ZA,OO,ZH],ann:=[],lent:=5,pre:=[(some (0,1)),(some (0,3)),(some (0,4))],two:=[116]}
def GO (x:Int×Bool×Int×A7):Option (Int×Bool×Int×List A3×List (List A2)×A9):=if 0<=x.1/\x.1<(x.2.2.2.2.1.length:Int)then x.2.2.2.2.1[0+x.1.toNat]?.bind fun v=>x.2.2.2.2.1[0+x.1.toNat]?.bind fun a=>x.2.2.2.2.1[0+x.1.toNat]?.bind fun b=>(HG ((x.2.2.2.1,()),(v.1,v.2.1,v.2.2.1,v.2.2.2.1,v.2.2.2.2.1,v.2.2.2.2.2.1,v.2.2.2.2.2.2.1,a.2.2.2.2.2.2.2.1,b.2.2.2.2.2.2.2.2.1,()),())).bind fun c=>bif c.1==0 then bif x.2.2.1==999 then some (6,x.2.1,x.2.2.1,x.2.2.2.2.1,x.2.2.2.1,x.2.2.2.2.2.1,x.2.2.2.2.2.2.1,())else bif c.1==0 then Rr (Gm (x.2.1,x.2.2.1,v.1,v.2.1,v.2.2.1,v.2.2.2.1,v.2.2.2.2.1,v.2.2.2.2.2.1,v.2.2.2.2.2.2.1,0+x.1.toNat,0+x.1.toNat,x.2.2.2.1,x.2.2.2.2.1,x.2.2.2.2.2.1,x.2.2.2.2.2.2.1,())) (fun v=>bif v.2.2.2.2.2.2.2.2.2.1 then if 0<=x.1/\x.1<(v.2.2.2.2.2.2.2.2.2.2.2.1.length:Int)then v.2.2.2.2.2.2.2.2.2.2.2.1[0+x.1.toNat]?.bind fun v=>none else none else(Bg (x.1,x.2.1,x.2.2.1,v.2.2.2.2.2.2.2.2.2.2.1,v.2.2.2.2.2.2.2.2.2.2.2.1,v.2.2.2.2.2.2.2.2.2.2.2.2.1,v.2.2.2.2.2.2.2.2.2.2.2.2.2.1,())).bind fun v=>some (5,v.1,v.2.1,v.2.2.2.1,v.2.2.1,v.2.2.2.2.2.2.1,v.2.2.2.2.2.2.2.1,())) ((Fh (x.2.1,x.2.2.1,v.1,v.2.1,v.2.2.1,v.2.2.2.1,v.2.2.2.2.1,v.2.2.2.2.2.1,v.2.2.2.2.2.2.1,0+x.1.toNat,0+x.1.toNat,x.2.2.2.1,x.2.2.2.2.1,x.2.2.2.2.2.1,x.2.2.2.2.2.2.1,())).bind fun v=>bif v.2.2.2.2.2.2.2.1 then if 0<=x.1/\x.1<(v.2.2.2.2.2.2.2.2.2.1.length:Int)then v.2.2.2.2.2.2.2.2.2.1[0+x.1.toNat]?.bind fun d=>(Bg (x.1,x.2.1,IntKind.i64.wrap (x.2.2.1+1),v.2.2.2.2.2.2.2.2.2.2.2.2.1,v.2.2.2.2.2.2.2.2.2.1.set (0+x.1.toNat) (v.1,v.2.1,v.2.2.1,v.2.2.2.1,v.2.2.2.2.1,v.2.2.2.2.2.1,v.2.2.2.2.2.2.1,v.2.2.2.2.2.2.2.2.2.2.2.2.2.1,v.2.2.2.2.2.2.2.2.2.2.2.2.2.2.1,()),v.2.2.2.2.2.2.2.2.2.2.1,v.2.2.2.2.2.2.2.2.2.2.2.1,())).bind fun v=>some (c.1,v.1,v.2.1,v.2.2.2.1,v.2.2.1,v.2.2.2.2.2.2.1,v.2.2.2.2.2.2.2.1,())else none else(Bg (x.1,x.2.1,x.2.2.1,v.2.2.2.2.2.2.2.2.1,v.2.2.2.2.2.2.2.2.2.1,v.2.2.2.2.2.2.2.2.2.2.1,v.2.2.2.2.2.2.2.2.2.2.2.1,())).bind fun v=>some (5,v.1,v.2.1,v.2.2.2.1,v.2.2.1,v.2.2.2.2.2.2.1,v.2.2.2.2.2.2.2.1,()))else(Bg (x.1,x.2.1,x.2.2.1,x.2.2.2.1,x.2.2.2.2.1,x.2.2.2.2.2.1,x.2.2.2.2.2.2.1,())).bind fun v=>some (c.1,v.1,v.2.1,v.2.2.2.1,v.2.2.1,v.2.2.2.2.2.2.1,v.2.2.2.2.2.2.2.1,())else bif c.1==0 then Rr (Gm (x.2.1,x.2.2.1,v.1,v.2.1,v.2.2.1,v.2.2.2.1,v.2.2.2.2.1,v.2.2.2.2.2.1,v.2.2.2.2.2.2.1,0+x.1.toNat,0+x.1.toNat,x.2.2.2.1,x.2.2.2.2.1,x.2.2.2.2.2.1,x.2.2.2.2.2.2.1,())) (fun v=>bif v.2.2.2.2.2.2.2.2.2.1 then if 0<=x.1/\x.1<(v.2.2.2.2.2.2.2.2.2.2.2.1.length:Int)then v.2.2.2.2.2.2.2.2.2.2.2.1[0+x.1.toNat]?.bind fun v=>none else none else(Bg (x.1,x.2.1,x.2.2.1,v.2.2.2.2.2.2.2.2.2.2.1,v.2.2.2.2.2.2.2.2.2.2.2.1,v.2.2.2.2.2.2.2.2.2.2.2.2.1,v.2.2.2.2.2.2.2.2.2.2.2.2.2.1,())).bind fun v=>some (5,v.1,v.2.1,v.2.2.2.1,v.2.2.1,v.2.2.2.2.2.2.1,v.2.2.2.2.2.2.2.1,())) ((Fh (x.2.1,x.2.2.1,v.1,v.2.1,v.2.2.1,v.2.2.2.1,v.2.2.2.2.1,v.2.2.2.2.2.1,v.2.2.2.2.2.2.1,0+x.1.toNat,0+x.1.toNat,x.2.2.2.1,x.2.2.2.2.1,x.2.2.2.2.2.1,x.2.2.2.2.2.2.1,())).bind fun v=>bif v.2.2.2.2.2.2.2.1 then if 0<=x.1/\x.1<(v.2.2.2.2.2.2.2.2.2.1.length:Int)then v.2.2.2.2.2.2.2.2.2.1[0+x.1.toNat]?.bind fun d=>(Bg (x.1,x.2.1,IntKind.i64.wrap (x.2.2.1+1),v.2.2.2.2.2.2.2.2.2.2.2.2.1,v.2.2.2.2.2.2.2.2.2.1.set (0+x.1.toNat) (v.1,v.2.1,v.2.2.1,v.2.2.2.1,v.2.2.2.2.1,v.2.2.2.2.2.1,v.2.2.2.2.2.2.1,v.2.2.2.2.2.2.2.2.2.2.2.2.2.1,v.2.2.2.2.2.2.2.2.2.2.2.2.2.2.1,()),v.2.2.2.2.2.2.2.2.2.2.1,v.2.2.2.2.2.2.2.2.2.2.2.1,())).bind fun v=>some (c.1,v.1,v.2.1,v.2.2.2.1,v.2.2.1,v.2.2.2.2.2.2.1,v.2.2.2.2.2.2.2.1,())else none else(Bg (x.1,x.2.1,x.2.2.1,v.2.2.2.2.2.2.2.2.1,v.2.2.2.2.2.2.2.2.2.1,v.2.2.2.2.2.2.2.2.2.2.1,v.2.2.2.2.2.2.2.2.2.2.2.1,())).bind fun v=>some (5,v.1,v.2.1,v.2.2.2.1,v.2.2.1,v.2.2.2.2.2.2.1,v.2.2.2.2.2.2.2.1,()))else(Bg (x.1,x.2.1,x.2.2.1,x.2.2.2.1,x.2.2.2.2.1,x.2.2.2.2.2.1,x.2.2.2.2.2.2.1,())).bind fun v=>some (c.1,v.1,v.2.1,v.2.2.2.1,v.2.2.1,v.2.2.2.2.2.2.1,v.2.2.2.2.2.2.2.1,())else none
def Zz:Ent:=⟨58,⟨(.ptr 0 0 0 (.slot .i .nil)),(.cells 6 (.slot .bool (.own 1 (.own 2 (.own 3 (.own 4 (.slot .i .nil)))))) (.tree false 0 (.slice Ae) (.tree false 0 Ad (.lst false A0 (.lst false A0 .nil)))))⟩,⟨(.agg (.slot .i (.const (AV.nils) .nil)) .nil),(.cells 6 (.slot .bool (.own 5 (.own 2 (.own 6 (.own 7 (.slot .i .nil)))))) (.gone (.tree false 1 Ad (.gone (.gone (.tree false 1 (.slice Ae) (.lst false A0 (.lst false A0 .nil))))))))⟩,GO⟩
theorem A3d:Ah Go.Proofs.Tryz.prog Zz:=okA (C:=A6j) (hcB (all_cons A3g (all_cons A3e (all_cons Ss (all_cons A3j all_nil))))) Go.Proofs.Tryz.func58
abbrev Zy:=Int×Int×Int×Int×Int×Int×Bool×Int×Int×Bool×Int×List (List A2)×List A3×List A1×List A1×Int×A6
abbrev Zv:=Int×Unit
abbrev Zw:=Int×Unit ⊕ Int×Unit
def Du (i:Zy)(v:Zv)(R:Type)(K:Zv ⊕ Zw->Option R):Option R:=bif decide (v.1<(i.2.2.2.2.2.2.2.2.2.2.2.2.1.length:Int))then if 0<=v.1/\v.1<(i.2.2.2.2.2.2.2.2.2.2.2.2.1.length:Int)then i.2.2.2.2.2.2.2.2.2.2.2.2.1[0+v.1.toNat]?.bind fun a=>bif decide (a.1<i.2.1)then K (.inl (IntKind.i64.wrap (v.1+1),()))else K (.inr (.inl (v.1,())))else none else K (.inr (.inr (v.1,())))
theorem Lu:Bi Du:=fun i v R K=>Af (Ay (Ac fun _=>Af (Aa) (Aa))) (Aa)
def Sl:Tmpl:=⟨(jk 3 (.ptr 0 0 0 (.ptr 1 0 0 (.ptr 2 0 0 (.ptr 3 0 0 (jk 2 (.ptr 8 0 0 (.junk (.slot .i (jk 137 .nil)))))))))),(.cells 6 (si 6 .nil) (.cells 6 (.slot .bool (.const (AV.nils) (.const (AV.nils) (.const (AV.nils) (.const (AV.nils) (.slot .i .nil)))))) (.cells 2 (.slot .i (.const (AV.nils) .nil)) (.cells 6 (.slot .bool (.own 4 (.own 5 (.own 6 (.own 7 (.slot .i .nil)))))) (.tree false 0 (.slice Ae) (.tree false 0 Ad (.lst false A0 (.lst false A0 (.cells 9 (si 7 (.const (AV.nils) (.const (AV.nils) .nil))) .nil)))))))))⟩
def Zu:Exs Zy Zw:=xs (.exit 0) (fun i p=>⟨jn 4 (AV.ptr 1 none 0 0::AV.ptr 2 none 0 0::AV.ptr 3 none 0 0::jn 2 (AV.ptr 8 none 0 0::jn 1 (.n (p.1)::jn 137 ([])))),[some (Cont.cells 6 [[AV.pv .i i.1,AV.pv .i i.2.1,AV.pv (Ty.int IntKind.i64) i.2.2.1,AV.pv .i i.2.2.2.1,AV.pv .i i.2.2.2.2.1,AV.pv .i i.2.2.2.2.2.1]]),some (Cont.cells 6 [[AV.pv .bool i.2.2.2.2.2.2.1,AV.nils,AV.nils,AV.nils,AV.nils,AV.pv .i i.2.2.2.2.2.2.2.1]]),some (Cont.cells 2 [[AV.pv .i i.2.2.2.2.2.2.2.2.1,AV.nils]]),some (Cont.cells 6 [[AV.pv .bool i.2.2.2.2.2.2.2.2.2.1,AV.own 4 none none,AV.own 5 none none,AV.own 6 none none,AV.own 7 none none,AV.pv .i i.2.2.2.2.2.2.2.2.2.2.1]]),some (Cont.tree false 0 (.slice Ae) i.2.2.2.2.2.2.2.2.2.2.2.1 none),some (Cont.tree false 0 Ad i.2.2.2.2.2.2.2.2.2.2.2.2.1 none),some (Cont.lst false A0 i.2.2.2.2.2.2.2.2.2.2.2.2.2.1),some (Cont.lst false A0 i.2.2.2.2.2.2.2.2.2.2.2.2.2.2.1),some (Cont.cells 9 [[AV.pv .i i.2.2.2.2.2.2.2.2.2.2.2.2.2.2.2.1,AV.pv .i i.2.2.2.2.2.2.2.2.2.2.2.2.2.2.2.2.1,AV.pv .i i.2.2.2.2.2.2.2.2.2.2.2.2.2.2.2.2.2.1,AV.pv .i i.2.2.2.2.2.2.2.2.2.2.2.2.2.2.2.2.2.2.1,AV.pv .i i.2.2.2.2.2.2.2.2.2.2.2.2.2.2.2.2.2.2.2.1,AV.pv .i i.2.2.2.2.2.2.2.2.2.2.2.2.2.2.2.2.2.2.2.2.1,AV.pv .i i.2.2.2.2.2.2.2.2.2.2.2.2.2.2.2.2.2.2.2.2.2.1,AV.nils,AV.nils]])]⟩)<|x1 (.exit 0) fun i p=>⟨jn 4 (AV.ptr 1 none 0 0::AV.ptr 2 none 0 0::AV.ptr 3 none 0 0::jn 2 (AV.ptr 8 none 0 0::jn 1 (.n (p.1)::jn 137 ([])))),[some (Cont.cells 6 [[AV.pv .i i.1,AV.pv .i i.2.1,AV.pv (Ty.int IntKind.i64) i.2.2.1,AV.pv .i i.2.2.2.1,AV.pv .i i.2.2.2.2.1,AV.pv .i i.2.2.2.2.2.1]]),some (Cont.cells 6 [[AV.pv .bool i.2.2.2.2.2.2.1,AV.nils,AV.nils,AV.nils,AV.nils,AV.pv .i i.2.2.2.2.2.2.2.1]]),some (Cont.cells 2 [[AV.pv .i i.2.2.2.2.2.2.2.2.1,AV.nils]]),some (Cont.cells 6 [[AV.pv .bool i.2.2.2.2.2.2.2.2.2.1,AV.own 4 none none,AV.own 5 none none,AV.own 6 none none,AV.own 7 none none,AV.pv .i i.2.2.2.2.2.2.2.2.2.2.1]]),some (Cont.tree false 0 (.slice Ae) i.2.2.2.2.2.2.2.2.2.2.2.1 none),some (Cont.tree false 0 Ad i.2.2.2.2.2.2.2.2.2.2.2.2.1 none),some (Cont.lst false A0 i.2.2.2.2.2.2.2.2.2.2.2.2.2.1),some (Cont.lst false A0 i.2.2.2.2.2.2.2.2.2.2.2.2.2.2.1),some (Cont.cells 9 [[AV.pv .i i.2.2.2.2.2.2.2.2.2.2.2.2.2.2.2.1,AV.pv .i i.2.2.2.2.2.2.2.2.2.2.2.2.2.2.2.2.1,AV.pv .i i.2.2.2.2.2.2.2.2.2.2.2.2.2.2.2.2.2.1,AV.pv .i i.2.2.2.2.2.2.2.2.2.2.2.2.2.2.2.2.2.2.1,AV.pv .i i.2.2.2.2.2.2.2.2.2.2.2.2.2.2.2.2.2.2.2.1,AV.pv .i i.2.2.2.2.2.2.2.2.2.2.2.2.2.2.2.2.2.2.2.2.1,AV.pv .i i.2.2.2.2.2.2.2.2.2.2.2.2.2.2.2.2.2.2.2.2.2.1,AV.nils,AV.nils]])]⟩
def Zx:=((.v (.i (.i (.i (.i (.i (.i (.i (.i (.i (.i (.i (.i (.i (.i (.i (.i (.i (.i (.i (.i (.i (.i .n))))))))))))))))))))))):Pk Sl.ty _ _)
def A1f:Cfg:={ti:=Au,ents:=[Sr,ZR,ZI,Zz,OO,aw,au,al,ZY,ZX,ZW],ann:=[(11,Ao Sl 0 (spP Zx) Du Zu.E)],lent:=0,hid:=[((5,1),[2]),((8,1),[2]),((16,1),[2]),((32,1),[2])],gho:=[(13,[5])]}
def FQ (x:A5×A6×Unit):Option (Bool×Int×Int×List (List A2)×List A3×List A1×List A1×List Int×Unit):=(J3 ((x.1.1,(x.1.2.1.1,()),x.1.2.2.1,x.1.2.2.2.1,x.1.2.2.2.2.1,x.1.2.2.2.2.2.1,()),())).bind fun v=>(Dm ((x.1.1,(x.1.2.1.1,()),x.1.2.2.1,x.1.2.2.2.1,x.1.2.2.2.2.1,x.1.2.2.2.2.2.1,()),x.2.1.2.1,())).bind fun a=>(FR ((x.1.1,(x.1.2.1.1,()),x.1.2.2.1,x.1.2.2.2.1,x.1.2.2.2.2.1,x.1.2.2.2.2.2.1,()),())).bind fun b=>bif !b.1 then some (v.1,v.2.1,6,v.2.2.1,v.2.2.2.1,v.2.2.2.2.1,v.2.2.2.2.2.1,[],())else(Ic ((x.2.1.1,x.2.1.2.1,x.2.1.2.2.1,x.2.1.2.2.2.1,x.2.1.2.2.2.2.1,x.2.1.2.2.2.2.2.1,()),())).bind fun c=>bif !c.1 then some (v.1,v.2.1,6,v.2.2.1,v.2.2.2.1,v.2.2.2.2.1,v.2.2.2.2.2.1,[],())else bif !(x.2.1.1==1)==decide (a.1<0)then some (v.1,v.2.1,6,v.2.2.1,v.2.2.2.1,v.2.2.2.2.1,v.2.2.2.2.2.1,[],())else bif x.2.1.1==1 then bif (x.1.2.2.1.length:Int)==6 then some (v.1,v.2.1,6,v.2.2.1,v.2.2.2.1,v.2.2.2.2.1,v.2.2.2.2.2.1,[],())else(Fi (x.2.1.2.1,x.2.1.2.2.1,x.1.2.2.2.2.2.1,())).bind fun d=>(AE (fun e=>Du (x.2.1.1,x.2.1.2.1,x.2.1.2.2.1,x.2.1.2.2.2.1,x.2.1.2.2.2.2.1,x.2.1.2.2.2.2.2.1,false,0,0,v.1,v.2.1,v.2.2.1,v.2.2.2.1,v.2.2.2.2.1,v.2.2.2.2.2.1,d.1,d.2.1,d.2.2.1,d.2.2.2.1,d.2.2.2.2.1,d.2.2.2.2.2.1,d.2.2.2.2.2.2.1,()) e _ some) (0,())).bind fun p=>Az p (fun p=>if(0:Int)<=0/\0<=p.1/\p.1<=(v.2.2.2.1.length:Int)then if(CX v.2.2.2.1 (some (0,p.1.toNat-Int.toNat 0))).length<=338311270084 then if(CX v.2.2.2.1 (some (0,p.1.toNat-Int.toNat 0))++[(d.1,d.2.1,d.2.2.1,d.2.2.2.1,d.2.2.2.2.1,d.2.2.2.2.2.1,d.2.2.2.2.2.2.1,[],[],())]).length<=338311270084 then if 0<=p.1/\p.1<=(v.2.2.2.1.length:Int)/\(v.2.2.2.1.length:Int)<=(v.2.2.2.1.length:Int)then if(CX v.2.2.2.1 (some (0,p.1.toNat-Int.toNat 0))++[(d.1,d.2.1,d.2.2.1,d.2.2.2.1,d.2.2.2.2.1,d.2.2.2.2.2.1,d.2.2.2.2.2.2.1,[],[],())]++CX v.2.2.2.1 (some (0+p.1.toNat,(v.2.2.2.1.length:Int).toNat-p.1.toNat))).length<=338311270084 then some (v.1,v.2.1,0,v.2.2.1,CX v.2.2.2.1 (some (0,p.1.toNat-Int.toNat 0))++[(d.1,d.2.1,d.2.2.1,d.2.2.2.1,d.2.2.2.2.1,d.2.2.2.2.2.1,d.2.2.2.2.2.2.1,[],[],())]++CX v.2.2.2.1 (some (0+p.1.toNat,(v.2.2.2.1.length:Int).toNat-p.1.toNat)),v.2.2.2.2.1,v.2.2.2.2.2.1,[],())else none else none else none else none else none) fun p=>if(0:Int)<=0/\0<=p.1/\p.1<=(v.2.2.2.1.length:Int)then if(CX v.2.2.2.1 (some (0,p.1.toNat-Int.toNat 0))).length<=338311270084 then if(CX v.2.2.2.1 (some (0,p.1.toNat-Int.toNat 0))++[(d.1,d.2.1,d.2.2.1,d.2.2.2.1,d.2.2.2.2.1,d.2.2.2.2.2.1,d.2.2.2.2.2.2.1,[],[],())]).length<=338311270084 then if 0<=p.1/\p.1<=(v.2.2.2.1.length:Int)/\(v.2.2.2.1.length:Int)<=(v.2.2.2.1.length:Int)then if(CX v.2.2.2.1 (some (0,p.1.toNat-Int.toNat 0))++[(d.1,d.2.1,d.2.2.1,d.2.2.2.1,d.2.2.2.2.1,d.2.2.2.2.2.1,d.2.2.2.2.2.2.1,[],[],())]++CX v.2.2.2.1 (some (0+p.1.toNat,(v.2.2.2.1.length:Int).toNat-p.1.toNat))).length<=338311270084 then some (v.1,v.2.1,0,v.2.2.1,CX v.2.2.2.1 (some (0,p.1.toNat-Int.toNat 0))++[(d.1,d.2.1,d.2.2.1,d.2.2.2.1,d.2.2.2.2.1,d.2.2.2.2.2.1,d.2.2.2.2.2.2.1,[],[],())]++CX v.2.2.2.1 (some (0+p.1.toNat,(v.2.2.2.1.length:Int).toNat-p.1.toNat)),v.2.2.2.2.1,v.2.2.2.2.2.1,[],())else none else none else none else none else none else(lAt x.1.2.2.1 a.1).bind fun d=>bif d.2.2.1 != 1 then some (v.1,v.2.1,6,v.2.2.1,v.2.2.2.1,v.2.2.2.2.1,v.2.2.2.2.2.1,[],())else(J2 (v.2.2.2.2.2.1,x.2.1.2.1,())).bind fun e=>bif x.2.1.1==2 then(Gy (a.1,x.2.1.2.2.2.1,v.1,v.2.1,v.2.2.1,v.2.2.2.1,v.2.2.2.2.1,e.1,())).bind fun v=>bif v.2.1==0 then some (v.2.2.1,v.2.2.2.1,v.2.1,v.2.2.2.2.1,v.2.2.2.2.2.1,v.2.2.2.2.2.2.1,v.2.2.2.2.2.2.2.1,[v.1],())else some (v.2.2.1,v.2.2.2.1,v.2.1,v.2.2.2.2.1,v.2.2.2.2.2.1,v.2.2.2.2.2.2.1,v.2.2.2.2.2.2.2.1,[],())else bif x.2.1.1==4 then(Jx (a.1,x.2.1.2.2.2.1,x.2.1.2.2.2.2.1,v.1,v.2.1,v.2.2.1,v.2.2.2.1,v.2.2.2.2.1,e.1,())).bind fun v=>some (v.2.1,v.2.2.1,v.1,v.2.2.2.1,v.2.2.2.2.1,v.2.2.2.2.2.1,v.2.2.2.2.2.2.1,v.2.2.2.2.2.2.2.1,())else bif x.2.1.1==3 then(HB (a.1,x.2.1.1,x.2.1.2.1,x.2.1.2.2.1,x.2.1.2.2.2.1,x.2.1.2.2.2.2.1,x.2.1.2.2.2.2.2.1,v.1,v.2.1,v.2.2.1,v.2.2.2.1,v.2.2.2.2.1,e.1,())).bind fun v=>some (v.2.1,v.2.2.1,v.1,v.2.2.2.1,v.2.2.2.2.1,v.2.2.2.2.2.1,v.2.2.2.2.2.2.1,[],())else bif x.2.1.1==5 then(GO (a.1,v.1,v.2.1,v.2.2.1,v.2.2.2.1,v.2.2.2.2.1,e.1,())).bind fun v=>some (v.2.1,v.2.2.1,v.1,v.2.2.2.2.1,v.2.2.2.1,v.2.2.2.2.2.1,v.2.2.2.2.2.2.1,[],())else(Bg (a.1,v.1,v.2.1,v.2.2.1,v.2.2.2.1,v.2.2.2.2.1,e.1,())).bind fun v=>some (v.1,v.2.1,0,v.2.2.1,v.2.2.2.1,v.2.2.2.2.2.2.1,v.2.2.2.2.2.2.2.1,[],())
def ww:Ent:=⟨10,⟨(.slot C1 (.slot YOp .nil)),.nil⟩,⟨(.agg (.slot .bool (.own 0 (.own 1 (.own 2 (.own 3 (.slot .i .nil)))))) (.agg (.slot .i (.own 4 .nil)) .nil)),(.tree false 1 (.slice Ae) (.lst false Ad (.lst false A0 (.lst false A0 (.lst false .i .nil)))))⟩,FQ⟩
theorem m0:CfgOK Go.Proofs.Tryz.prog A1f:=hcB (all_cons nK (all_cons A3v (all_cons A3k (all_cons A3d (all_cons Ss (all_cons A4b (all_cons pN (all_cons A48 (all_cons A47 (all_cons A46 (all_cons A45 all_nil)))))))))))
theorem lZ:B7 Go.Proofs.Tryz.prog A1f (lpc Go.Proofs.Tryz.f10 0):=lkA m0 Sl Zx Du Zu [4,5,6,9,11] Lu
theorem A3c:Ah Go.Proofs.Tryz.prog ww:=okB m0 Go.Proofs.Tryz.func10 lZ
def Df (x:List A2×Unit):Option (List A2×Unit):=bif x.1.length==0 then Rx (some ([],())) (if x.1.length<=879609302220 then some (x.1,())else none)else if x.1.length<=879609302220 then some (x.1,())else none
def Zt:Ent:=⟨186,⟨(.slot (.slice Ae) .nil),.nil⟩,⟨(.own 0 .nil),(.lst false Ae .nil)⟩,Df⟩
theorem A3b:Ah Go.Proofs.Tryz.prog Zt:=okA (hcA 0 all_nil) Go.Proofs.Tryz.func186
abbrev lX:=List (List A2)×Int×Unit
abbrev lU:=Int×List (List A2)×Unit
abbrev lV:=List (List A2)×Unit
def Db (i:lX)(v:lU)(R:Type)(K:lU ⊕ lV->Option R):Option R:=bif decide (v.1<i.2.1)then(lAt i.1 v.1).bind fun a=>(Df (a,())).bind fun b=>if(v.2.1++[b.1]).length<=1466015503701 then K (.inl (IntKind.i64.wrap (v.1+1),v.2.1++[b.1],()))else none else K (.inr (v.2.1,()))
theorem Ln:Bi Db:=fun i v R K=>Af (Ac fun _=>Ac fun _=>Ay (Aa)) (Aa)
def Xu:Tmpl:=⟨(jk 2 (.ptr 0 0 0 (.ptr 1 0 0 (jk 4 (.slot (.slice (.slice Ae)) (si 2 (jk 12 .nil))))))),(.cells 1 (.const (AV.nils) .nil) (.cells 1 (.own 2 .nil) (.tree false 0 (.slice Ae) .nil)))⟩
def lT:Exs lX lV:=x1 (.exit 0) fun i p=>⟨jn 2 (AV.ptr 0 none 0 0::AV.ptr 1 none 0 0::jn 19 ([])),[some (Cont.cells 1 [[AV.nils]]),some (Cont.cells 1 [[AV.own 2 none none]]),some (Cont.tree false 0 (.slice Ae) p.1 none)]⟩
def lW:=((.i (.i (.v (.v .n)))):Pk Xu.ty _ _)
def A1e:Cfg:={ti:=Au,ents:=[Zt],ann:=[(3,Ao Xu 0 (spP lW) Db lT.E)],lent:=0}
def Gs (x:A4×Unit):Option A4:=(AE (fun v=>Db (x.1.1,(x.1.1.length:Int),()) v _ some) (0,[],())).bind fun p=>some (p.1,())
def Zs:Ent:=⟨123,⟨(.slot Bo .nil),.nil⟩,⟨(.agg (.own 0 .nil) .nil),(.tree false 0 (.slice Ae) .nil)⟩,Gs⟩
theorem lY:CfgOK Go.Proofs.Tryz.prog A1e:=hcB (all_cons A3b all_nil)
theorem wv:B7 Go.Proofs.Tryz.prog A1e (lpc Go.Proofs.Tryz.f123 0):=lkA lY Xu lW Db lT [2,3] Ln
theorem A3a:Ah Go.Proofs.Tryz.prog Zs:=okB lY Go.Proofs.Tryz.func123 wv
def Ci (x:List A1×Unit):Option (List A1×Unit):=bif x.1.length==0 then Rx (some ([],())) (if x.1.length<=2199023255552 then some (x.1,())else none)else if x.1.length<=2199023255552 then some (x.1,())else none
def Zr:Ent:=⟨124,⟨(.slot (.slice A0) .nil),.nil⟩,⟨(.own 0 .nil),(.lst false A0 .nil)⟩,Ci⟩
theorem Xt:Ah Go.Proofs.Tryz.prog Zr:=okA (hcA 0 all_nil) Go.Proofs.Tryz.func124
def BI (x:List A1×Unit):Option (List A1×Unit):=bif x.1.length==0 then Rx (some ([],())) (if x.1.length<=2199023255552 then some (x.1,())else none)else if x.1.length<=2199023255552 then some (x.1,())else none
def Sk:Ent:=⟨125,⟨(.slot (.slice A0) .nil),.nil⟩,⟨(.own 0 .nil),(.lst false A0 .nil)⟩,BI⟩
theorem Sj:Ah Go.Proofs.Tryz.prog Sk:=okA (hcA 0 all_nil) Go.Proofs.Tryz.func125
def Ce (x:List A1×Unit):Option (List A1×Unit):=bif x.1.length==0 then Rx (some ([],())) (if x.1.length<=2199023255552 then some (x.1,())else none)else if x.1.length<=2199023255552 then some (x.1,())else none
def Zq:Ent:=⟨187,⟨(.slot (.slice A0) .nil),.nil⟩,⟨(.own 0 .nil),(.lst false A0 .nil)⟩,Ce⟩
theorem lS:Ah Go.Proofs.Tryz.prog Zq:=okA (hcA 0 all_nil) Go.Proofs.Tryz.func187
def CG (x:List A1×Unit):Option (List A1×Unit):=bif x.1.length==0 then Rx (some ([],())) (if x.1.length<=2199023255552 then some (x.1,())else none)else if x.1.length<=2199023255552 then some (x.1,())else none
def Zp:Ent:=⟨188,⟨(.slot (.slice A0) .nil),.nil⟩,⟨(.own 0 .nil),(.lst false A0 .nil)⟩,CG⟩
theorem lR:Ah Go.Proofs.Tryz.prog Zp:=okA (hcA 0 all_nil) Go.Proofs.Tryz.func188
def DJ (x:A3×Unit):Option A3:=(Ce (x.1.2.2.2.2.2.2.2.1,())).bind fun v=>(CG (x.1.2.2.2.2.2.2.2.2.1,())).bind fun a=>some (x.1.1,x.1.2.1,x.1.2.2.1,x.1.2.2.2.1,x.1.2.2.2.2.1,x.1.2.2.2.2.2.1,x.1.2.2.2.2.2.2.1,v.1,a.1,())
def Zo:Ent:=⟨126,⟨(.slot Ad .nil),.nil⟩,⟨(.agg (si 7 (.own 0 (.own 1 .nil))) .nil),(.lst false A0 (.lst false A0 .nil))⟩,DJ⟩
theorem A39:Ah Go.Proofs.Tryz.prog Zo:=okA (hcA 0 (all_cons lS (all_cons lR all_nil))) Go.Proofs.Tryz.func126
abbrev lP:=List A3×Int×Bool×Int×Bool×Int×List (List A2)×A9
abbrev lM:=Int×List A3×Unit
abbrev lN:=List A3×Unit
def CT (i:lP)(v:lM)(R:Type)(K:lM ⊕ lN->Option R):Option R:=bif decide (v.1<i.2.1)then(lAt i.1 v.1).bind fun a=>(DJ ((a.1,a.2.1,a.2.2.1,a.2.2.2.1,a.2.2.2.2.1,a.2.2.2.2.2.1,a.2.2.2.2.2.2.1,a.2.2.2.2.2.2.2.1,a.2.2.2.2.2.2.2.2.1,()),())).bind fun b=>if(v.2.1++[(b.1,b.2.1,b.2.2.1,b.2.2.2.1,b.2.2.2.2.1,b.2.2.2.2.2.1,b.2.2.2.2.2.2.1,b.2.2.2.2.2.2.2.1,b.2.2.2.2.2.2.2.2.1,())]).length<=338311270084 then K (.inl (IntKind.i64.wrap (v.1+1),v.2.1++[(b.1,b.2.1,b.2.2.1,b.2.2.2.1,b.2.2.2.2.1,b.2.2.2.2.2.1,b.2.2.2.2.2.2.1,b.2.2.2.2.2.2.2.1,b.2.2.2.2.2.2.2.2.1,())],()))else none else K (.inr (v.2.1,()))
theorem L0:Bi CT:=fun i v R K=>Af (Ac fun _=>Ac fun _=>Ay (Aa)) (Aa)
def Xs:Tmpl:=⟨(jk 2 (.ptr 0 0 0 (.ptr 1 0 0 (jk 17 (.slot (.slice Ad) (si 2 (jk 12 .nil))))))),(.cells 6 (.slot .bool (.const (AV.nils) (.const (AV.nils) (.const (AV.nils) (.const (AV.nils) (.slot .i .nil)))))) (.cells 6 (.slot .bool (.own 2 (.own 5 (.own 3 (.own 4 (.slot .i .nil)))))) (.tree false 0 (.slice Ae) (.lst false A0 (.lst false A0 (.tree false 0 Ad .nil))))))⟩
def lL:Exs lP lN:=x1 (.exit 0) fun i p=>⟨jn 2 (AV.ptr 0 none 0 0::AV.ptr 1 none 0 0::jn 32 ([])),[some (Cont.cells 6 [[AV.pv .bool i.2.2.1,AV.nils,AV.nils,AV.nils,AV.nils,AV.pv .i i.2.2.2.1]]),some (Cont.cells 6 [[AV.pv .bool i.2.2.2.2.1,AV.own 2 none none,AV.own 5 none none,AV.own 3 none none,AV.own 4 none none,AV.pv .i i.2.2.2.2.2.1]]),some (Cont.tree false 0 (.slice Ae) i.2.2.2.2.2.2.1 none),some (Cont.lst false A0 i.2.2.2.2.2.2.2.1),some (Cont.lst false A0 i.2.2.2.2.2.2.2.2.1),some (Cont.tree false 0 Ad p.1 none)]⟩
def lO:=((.i (.i (.v (.i (.i (.i (.i (.i (.i (.i (.v .n))))))))))):Pk Xs.ty _ _)
def A1d:Cfg:={ti:=Au,ents:=[Zs,Zr,Sk,Zo],ann:=[(3,Ao Xs 0 (spP lO) CT lL.E)],lent:=0}
def Gb (x:A5×Unit):Option (Bool×Int×A7):=(Gs ((x.1.2.1.1,()),())).bind fun v=>(Ci (x.1.2.2.2.1,())).bind fun a=>(BI (x.1.2.2.2.2.1,())).bind fun b=>(AE (fun c=>CT (x.1.2.2.1,(x.1.2.2.1.length:Int),false,0,x.1.1,x.1.2.2.2.2.2.1,v.1,a.1,b.1,()) c _ some) (0,[],())).bind fun p=>some (x.1.1,x.1.2.2.2.2.2.1,v.1,p.1,a.1,b.1,())
def Zn:Ent:=⟨64,⟨(.slot C1 .nil),.nil⟩,⟨(.agg (.slot .bool (.own 0 (.own 1 (.own 2 (.own 3 (.slot .i .nil)))))) .nil),(.tree false 0 (.slice Ae) (.tree false 0 Ad (.lst false A0 (.lst false A0 .nil))))⟩,Gb⟩
theorem lQ:CfgOK Go.Proofs.Tryz.prog A1d:=hcB (all_cons A3a (all_cons Xt (all_cons Sj (all_cons A39 all_nil))))
theorem wu:B7 Go.Proofs.Tryz.prog A1d (lpc Go.Proofs.Tryz.f64 0):=lkA lQ Xs lO CT lL [2,3] L0
theorem A37:Ah Go.Proofs.Tryz.prog Zn:=okB lQ Go.Proofs.Tryz.func64 wu
def BC (x:B3):Option (Bool×Unit):=bif decide (x.2.1<=x.1)then some (decide (x.1<=x.2.2.1),())else some (false,())
def Zm:Ent:=⟨130,⟨(si 3 .nil),.nil⟩,⟨(.slot .bool .nil),.nil⟩,BC⟩
theorem Lc:Ah Go.Proofs.Tryz.prog Zm:=okA (hcA 0 all_nil) Go.Proofs.Tryz.func130
def GG (x:Int×Unit):Option (Bool×Unit):=(BC (x.1,-1,99,())).bind fun v=>some (v.1,())
def Zl:Ent:=⟨140,⟨(.slot .i .nil),.nil⟩,⟨(.slot .bool .nil),.nil⟩,GG⟩
theorem Xr:Ah Go.Proofs.Tryz.prog Zl:=okA (hcA 0 (all_cons Lc all_nil)) Go.Proofs.Tryz.func140
def BF (x:Int×Unit):Option (Bool×Unit):=(BC (x.1,1,9,())).bind fun v=>some (v.1,())
def Qf:Ent:=⟨141,⟨(.slot .i .nil),.nil⟩,⟨(.slot .bool .nil),.nil⟩,BF⟩
theorem MZ:Ah Go.Proofs.Tryz.prog Qf:=okA (hcA 0 (all_cons Lc all_nil)) Go.Proofs.Tryz.func141
def Fp (x:A2×Unit):Option (Bool×Unit):=(GG (x.1.2.1,())).bind fun v=>bif !v.1 then some (false,())else(BC (x.1.2.2.1,0,999,())).bind fun v=>bif !v.1 then some (false,())else(BC (x.1.2.2.2.1,x.1.2.2.1,999,())).bind fun v=>bif !v.1 then some (false,())else(BC (x.1.2.2.2.2.1,1,1000,())).bind fun v=>bif !v.1 then some (false,())else bif x.1.2.2.1==0 then bif x.1.1==0 then some (x.1.2.1==-1,())else some (false,())else(BF (x.1.1,())).bind fun v=>some (v.1,())
def Zk:Ent:=⟨230,⟨(.slot Ae .nil),.nil⟩,⟨(.slot .bool .nil),.nil⟩,Fp⟩
theorem A36:Ah Go.Proofs.Tryz.prog Zk:=okA (hcA 0 (all_cons Xr (all_cons Lc (all_cons MZ all_nil)))) Go.Proofs.Tryz.func230
abbrev lJ:=List A2×List A2×Int×Unit
abbrev lG:=Int×Unit
abbrev lH:=A2 ⊕ A2 ⊕ A2 ⊕ Unit
def Dc (i:lJ)(v:lG)(R:Type)(K:lG ⊕ lH->Option R):Option R:=bif decide (v.1<i.2.2.1)then(lAt i.2.1 v.1).bind fun a=>(Fp ((a.1,a.2.1,a.2.2.1,a.2.2.2.1,a.2.2.2.2.1,()),())).bind fun b=>bif !b.1 then K (.inr (.inl (a.1,a.2.1,a.2.2.1,a.2.2.2.1,a.2.2.2.2.1,())))else bif decide (v.1>0)then(lAt i.1 (IntKind.i64.wrap (v.1-1))).bind fun c=>bif decide (c.2.2.1>=a.2.2.1)then K (.inr (.inr (.inl (a.1,a.2.1,a.2.2.1,a.2.2.2.1,a.2.2.2.2.1,()))))else(lAt i.1 (IntKind.i64.wrap (v.1-1))).bind fun d=>bif decide (d.2.2.2.2.1>a.2.2.1)then K (.inr (.inr (.inr (.inl (a.1,a.2.1,a.2.2.1,a.2.2.2.1,a.2.2.2.2.1,())))))else K (.inl (IntKind.i64.wrap (v.1+1),()))else K (.inl (IntKind.i64.wrap (v.1+1),()))else K (.inr (.inr (.inr (.inr ()))))
theorem Lo:Bi Dc:=fun i v R K=>Af (Ac fun _=>Ac fun _=>Af (Aa) (Af (Ac fun _=>Af (Aa) (Ac fun _=>Af (Aa) (Aa))) (Aa))) (Aa)
def Xq:Tmpl:=⟨(.slot (.slice Ae) (jk 4 (.slot (.slice Ae) (si 2 (jk 47 .nil))))),.nil⟩
def lF:Exs lJ lH:=xs .ret (fun i p=>⟨AV.pv (.slice Ae) i.1::jn 1 (.b (false)::jn 52 ([])),[some (Cont.cells 5 [[AV.pv .i p.1,AV.pv .i p.2.1,AV.pv .i p.2.2.1,AV.pv .i p.2.2.2.1,AV.pv .i p.2.2.2.2.1]])]⟩)<|xs .ret (fun i p=>⟨AV.pv (.slice Ae) i.1::jn 1 (.b (false)::jn 52 ([])),[some (Cont.cells 5 [[AV.pv .i p.1,AV.pv .i p.2.1,AV.pv .i p.2.2.1,AV.pv .i p.2.2.2.1,AV.pv .i p.2.2.2.2.1]])]⟩)<|xs .ret (fun i p=>⟨AV.pv (.slice Ae) i.1::jn 1 (.b (false)::jn 52 ([])),[some (Cont.cells 5 [[AV.pv .i p.1,AV.pv .i p.2.1,AV.pv .i p.2.2.1,AV.pv .i p.2.2.2.1,AV.pv .i p.2.2.2.2.1]])]⟩)<|x1 (.exit 0) fun i p=>⟨AV.pv (.slice Ae) i.1::jn 54 ([]),[]⟩
def lI:=((.i (.i (.i (.v .n)))):Pk Xq.ty _ _)
def A1c:Cfg:={ti:=Au,ents:=[Zk],ann:=[(2,Ao Xq 0 (spP lI) Dc lF.E)],lent:=0}
def EA (x:List A2×Unit):Option (Bool×Unit):=(AE (fun v=>Dc (x.1,x.1,(x.1.length:Int),()) v _ some) (0,())).bind fun p=>Az p (fun p=>some (false,())) fun p=>Az p (fun p=>some (false,())) fun p=>Az p (fun p=>some (false,())) fun p=>bif decide ((x.1.length:Int)>0)then(lAt x.1 (IntKind.i64.wrap ((x.1.length:Int)-1))).bind fun v=>some (v.2.2.2.2.1==1000,())else some (false,())
def wq:Ent:=⟨191,⟨(.slot (.slice Ae) .nil),.nil⟩,⟨(.slot .bool .nil),.nil⟩,EA⟩
theorem lK:CfgOK Go.Proofs.Tryz.prog A1c:=hcB (all_cons A36 all_nil)
theorem wo:B7 Go.Proofs.Tryz.prog A1c (lpc Go.Proofs.Tryz.f191 0):=lkA lK Xq lI Dc lF [0,2] Lo
theorem A35:Ah Go.Proofs.Tryz.prog wq:=okB lK Go.Proofs.Tryz.func191 wo
def Fq (x:List A2×Unit):Option (Bool×Unit):=(EA (x.1,())).bind fun v=>bif !v.1 then some (true,())else some (decide ((x.1.length:Int)>50),())
def Zj:Ent:=⟨190,⟨(.slot (.slice Ae) .nil),.nil⟩,⟨(.slot .bool .nil),.nil⟩,Fq⟩
theorem A34:Ah Go.Proofs.Tryz.prog Zj:=okA (hcA 0 (all_cons A35 all_nil)) Go.Proofs.Tryz.func190
abbrev lD:=List (List A2)×Unit×Int×Unit
abbrev lA:=Int×Unit
abbrev lB:=Int×Unit ⊕ Unit
def AJ (i:lD)(v:lA)(R:Type)(K:lA ⊕ lB->Option R):Option R:=bif decide (v.1<i.2.2.1)then(lAt i.1 v.1).bind fun a=>(Fq (a,())).bind fun b=>bif b.1 then K (.inr (.inl (v.1,())))else K (.inl (IntKind.i64.wrap (v.1+1),()))else K (.inr (.inr ()))
theorem GE:Bi AJ:=fun i v R K=>Af (Ac fun _=>Ac fun _=>Af (Aa) (Aa)) (Aa)
def Xp:Tmpl:=⟨(.slot (.slice (.slice Ae)) (.slot (.fn 190 .unit) (jk 5 (si 2 (jk 10 .nil))))),.nil⟩
def lz:Exs lD lB:=xs .ret (fun i p=>⟨jn 4 (.n (p.1)::jn 14 ([])),[]⟩)<|x1 (.exit 0) fun i p=>⟨jn 19 ([]),[]⟩
def lC:=((.i (.i (.i (.v .n)))):Pk Xp.ty _ _)
def A1b:Cfg:={ti:=Au,ents:=[Zj],ann:=[(2,Ao Xp 0 (spP lC) AJ lz.E)],lent:=0}
def Cr (x:List (List A2)×Unit×Unit):Option (Int×Unit):=(AE (fun v=>AJ (x.1,x.2.1,(x.1.length:Int),()) v _ some) (0,())).bind fun p=>Az p (fun p=>some (p.1,())) fun p=>some (-1,())
def wn:Ent:=⟨229,⟨(.slot (.slice (.slice Ae)) (.slot (.fn 190 .unit) .nil)),.nil⟩,⟨(.slot .i .nil),.nil⟩,Cr⟩
theorem lE:CfgOK Go.Proofs.Tryz.prog A1b:=hcB (all_cons A34 all_nil)
theorem wm:B7 Go.Proofs.Tryz.prog A1b (lpc Go.Proofs.Tryz.f229 0):=lkA lE Xp lC AJ lz [4] GE
theorem A33:Ah Go.Proofs.Tryz.prog wn:=okB lE Go.Proofs.Tryz.func229 wm
def C9 (x:List (List A2)×Unit×Unit):Option (Bool×Unit):=(Cr (x.1,x.2.1,())).bind fun v=>some (decide (v.1>=0),())
def wl:Ent:=⟨189,⟨(.slot (.slice (.slice Ae)) (.slot (.fn 190 .unit) .nil)),.nil⟩,⟨(.slot .bool .nil),.nil⟩,C9⟩
theorem A32:Ah Go.Proofs.Tryz.prog wl:=okA (hcA 0 (all_cons A33 all_nil)) Go.Proofs.Tryz.func189
def Gv (x:A4×Unit):Option (Bool×Unit):=bif (x.1.1.length:Int)==6 then(C9 (x.1.1,(),())).bind fun v=>some (!v.1,())else some (false,())
def wk:Ent:=⟨127,⟨(.slot Bo .nil),.nil⟩,⟨(.slot .bool .nil),.nil⟩,Gv⟩
theorem A31:Ah Go.Proofs.Tryz.prog wk:=okA (hcA 0 (all_cons A32 all_nil)) Go.Proofs.Tryz.func127
def DZ (x:Int×Unit):Option (Bool×Unit):=(BC (x.1,0,5,())).bind fun v=>some (v.1,())
def OT:Ent:=⟨139,⟨(.slot .i .nil),.nil⟩,⟨(.slot .bool .nil),.nil⟩,DZ⟩
theorem OS:Ah Go.Proofs.Tryz.prog OT:=okA (hcA 0 (all_cons Lc all_nil)) Go.Proofs.Tryz.func139
abbrev jm:=List A1×List A1×Int×Unit
abbrev jg:=Int×Unit
abbrev jh:=Int×Int×Unit ⊕ Int×Int×Unit ⊕ Int×Int×Unit ⊕ Unit
def F0 (i:jm)(v:jg)(R:Type)(K:jg ⊕ jh->Option R):Option R:=bif decide (v.1<i.2.2.1)then(lAt i.2.1 v.1).bind fun a=>(DZ (a.1,())).bind fun b=>bif !b.1 then K (.inr (.inl (a.1,a.2.1,())))else(BF (a.2.1,())).bind fun c=>bif !c.1 then K (.inr (.inr (.inl (a.1,a.2.1,()))))else bif decide (v.1>0)then(lAt i.1 (IntKind.i64.wrap (v.1-1))).bind fun d=>bif decide (d.1>=a.1)then K (.inr (.inr (.inr (.inl (a.1,a.2.1,())))))else K (.inl (IntKind.i64.wrap (v.1+1),()))else K (.inl (IntKind.i64.wrap (v.1+1),()))else K (.inr (.inr (.inr (.inr ()))))
theorem Ng:Bi F0:=fun i v R K=>Af (Ac fun _=>Ac fun _=>Af (Aa) (Ac fun _=>Af (Aa) (Af (Ac fun _=>Af (Aa) (Aa)) (Aa)))) (Aa)
def TQ:Tmpl:=⟨(.slot (.slice A0) (jk 4 (.slot (.slice A0) (si 2 (jk 30 .nil))))),.nil⟩
def jf:Exs jm jh:=xs .ret (fun i p=>⟨jn 2 (.b (false)::jn 35 ([])),[some (Cont.cells 2 [[AV.pv .i p.1,AV.pv .i p.2.1]])]⟩)<|xs .ret (fun i p=>⟨jn 2 (.b (false)::jn 35 ([])),[some (Cont.cells 2 [[AV.pv .i p.1,AV.pv .i p.2.1]])]⟩)<|xs .ret (fun i p=>⟨jn 2 (.b (false)::jn 35 ([])),[some (Cont.cells 2 [[AV.pv .i p.1,AV.pv .i p.2.1]])]⟩)<|x1 (.exit 0) fun i p=>⟨jn 38 ([]),[]⟩
def ji:=((.i (.i (.i (.v .n)))):Pk TQ.ty _ _)
def uB:Cfg:={ti:=Au,ents:=[OT,Qf],ann:=[(2,Ao TQ 0 (spP ji) F0 jf.E)],lent:=0}
def Es (x:List A1×Unit):Option (Bool×Unit):=(AE (fun v=>F0 (x.1,x.1,(x.1.length:Int),()) v _ some) (0,())).bind fun p=>Az p (fun p=>some (false,())) fun p=>Az p (fun p=>some (false,())) fun p=>Az p (fun p=>some (false,())) fun p=>some (true,())
def uA:Ent:=⟨128,⟨(.slot (.slice A0) .nil),.nil⟩,⟨(.slot .bool .nil),.nil⟩,Es⟩
theorem jo:CfgOK Go.Proofs.Tryz.prog uB:=hcB (all_cons OS (all_cons MZ all_nil))
theorem uz:B7 Go.Proofs.Tryz.prog uB (lpc Go.Proofs.Tryz.f128 0):=lkA jo TQ ji F0 jf [2] Ng
theorem jl:Ah Go.Proofs.Tryz.prog uA:=okB jo Go.Proofs.Tryz.func128 uz
abbrev jd:=List A1×List A1×Int×Unit
abbrev ja:=Int×Unit
abbrev jb:=Int×Int×Unit ⊕ Int×Int×Unit ⊕ Int×Int×Unit ⊕ Int×Int×Unit ⊕ Unit
def EZ (i:jd)(v:ja)(R:Type)(K:ja ⊕ jb->Option R):Option R:=bif decide (v.1<i.2.2.1)then(lAt i.2.1 v.1).bind fun a=>(BF (a.1,())).bind fun b=>bif !b.1 then K (.inr (.inl (a.1,a.2.1,())))else(BF (a.2.1,())).bind fun c=>bif !c.1 then K (.inr (.inr (.inl (a.1,a.2.1,()))))else bif a.1==a.2.1 then K (.inr (.inr (.inr (.inl (a.1,a.2.1,())))))else bif decide (v.1>0)then(lAt i.1 (IntKind.i64.wrap (v.1-1))).bind fun d=>bif decide (d.1>=a.1)then K (.inr (.inr (.inr (.inr (.inl (a.1,a.2.1,()))))))else K (.inl (IntKind.i64.wrap (v.1+1),()))else K (.inl (IntKind.i64.wrap (v.1+1),()))else K (.inr (.inr (.inr (.inr (.inr ())))))
theorem Nf:Bi EZ:=fun i v R K=>Af (Ac fun _=>Ac fun _=>Af (Aa) (Ac fun _=>Af (Aa) (Af (Aa) (Af (Ac fun _=>Af (Aa) (Aa)) (Aa))))) (Aa)
def TN:Tmpl:=⟨(.slot (.slice A0) (jk 4 (.slot (.slice A0) (si 2 (jk 37 .nil))))),.nil⟩
def j9:Exs jd jb:=xs .ret (fun i p=>⟨jn 2 (.b (false)::jn 42 ([])),[some (Cont.cells 2 [[AV.pv .i p.1,AV.pv .i p.2.1]])]⟩)<|xs .ret (fun i p=>⟨jn 2 (.b (false)::jn 42 ([])),[some (Cont.cells 2 [[AV.pv .i p.1,AV.pv .i p.2.1]])]⟩)<|xs .ret (fun i p=>⟨jn 2 (.b (false)::jn 42 ([])),[some (Cont.cells 2 [[AV.pv .i p.1,AV.pv .i p.2.1]])]⟩)<|xs .ret (fun i p=>⟨jn 2 (.b (false)::jn 42 ([])),[some (Cont.cells 2 [[AV.pv .i p.1,AV.pv .i p.2.1]])]⟩)<|x1 (.exit 0) fun i p=>⟨jn 45 ([]),[]⟩
def jc:=((.i (.i (.i (.v .n)))):Pk TN.ty _ _)
def uy:Cfg:={ti:=Au,ents:=[Qf],ann:=[(2,Ao TN 0 (spP jc) EZ j9.E)],lent:=0}
def DH (x:List A1×Unit):Option (Bool×Unit):=(AE (fun v=>EZ (x.1,x.1,(x.1.length:Int),()) v _ some) (0,())).bind fun p=>Az p (fun p=>some (false,())) fun p=>Az p (fun p=>some (false,())) fun p=>Az p (fun p=>some (false,())) fun p=>Az p (fun p=>some (false,())) fun p=>some (true,())
def Wd:Ent:=⟨129,⟨(.slot (.slice A0) .nil),.nil⟩,⟨(.slot .bool .nil),.nil⟩,DH⟩
theorem je:CfgOK Go.Proofs.Tryz.prog uy:=hcB (all_cons MZ all_nil)
theorem ux:B7 Go.Proofs.Tryz.prog uy (lpc Go.Proofs.Tryz.f129 0):=lkA je TN jc EZ j9 [2] Nf
theorem TP:Ah Go.Proofs.Tryz.prog Wd:=okB je Go.Proofs.Tryz.func129 ux
abbrev j7:=List (List A2)×Int×Int×List A2×Int×Unit
abbrev iY:=Int×Int×Unit
abbrev j3:=Int×Unit
def Cu (i:j7)(v:iY)(R:Type)(K:iY ⊕ j3->Option R):Option R:=bif decide (v.2.1<i.2.2.2.2.1)then(lAt i.2.2.2.1 v.2.1).bind fun a=>K (.inl (mx v.1 a.2.2.2.1,IntKind.i64.wrap (v.2.1+1),()))else K (.inr (v.1,()))
theorem Ku:Bi Cu:=fun i v R K=>Af (Ac fun _=>Aa) (Aa)
def TK:Tmpl:=⟨(jk 3 (.slot .i (jk 5 (.slot (.slice (.slice Ae)) (si 2 (jk 3 (.slot (.slice Ae) (si 2 (jk 10 .nil))))))))),.nil⟩
def iW:Exs j7 j3:=x1 (.exit 2) fun i p=>⟨jn 3 (.n (p.1)::jn 5 (AV.pv (.slice (.slice Ae)) i.1::.n (i.2.1)::.n (i.2.2.1)::jn 16 ([]))),[]⟩
def j5:=((.v (.i (.i (.i (.i (.i (.v .n))))))):Pk TK.ty _ _)
abbrev j8:=List (List A2)×Int×Unit
abbrev iZ:=Int×Int×Unit
abbrev j4:=Int×Unit
def Cv (i:j8)(v:iZ)(R:Type)(K:iZ ⊕ j4->Option R):Option R:=bif decide (v.2.1<i.2.1)then(lAt i.1 v.2.1).bind fun a=>(AE (fun b=>Cu (i.1,i.2.1,v.2.1,a,(a.length:Int),()) b _ some) (v.1,0,())).bind fun p=>K (.inl (p.1,IntKind.i64.wrap (v.2.1+1),()))else K (.inr (v.1,()))
theorem Kv:Bi Cv:=fun i v R K=>Af (Ac fun _=>Ac fun _=>Aa) (Aa)
def TL:Tmpl:=⟨(jk 3 (.slot .i (jk 5 (.slot (.slice (.slice Ae)) (si 2 (jk 16 .nil)))))),.nil⟩
def iX:Exs j8 j4:=x1 (.exit 0) fun i p=>⟨jn 3 (.n (p.1)::jn 24 ([])),[]⟩
def j6:=((.v (.i (.i (.v .n)))):Pk TL.ty _ _)
def Yo:Cfg:={ti:=Au,ents:=[],ann:=[(6,Ao TK 0 (spP j5) Cu iW.E),(3,Ao TL 0 (spP j6) Cv iX.E)],lent:=0}
def EK (x:A4×Unit):Option (Int×Unit):=(AE (fun v=>Cv (x.1.1,(x.1.1.length:Int),()) v _ some) (0,0,())).bind fun p=>some (p.1,())
def uw:Ent:=⟨131,⟨(.slot Bo .nil),.nil⟩,⟨(.slot .i .nil),.nil⟩,EK⟩
theorem TM:CfgOK Go.Proofs.Tryz.prog Yo:=hcB all_nil
theorem Wc:B7 Go.Proofs.Tryz.prog Yo (lpc Go.Proofs.Tryz.f131 1):=lkA TM TK j5 Cu iW [3,9,10,11] Ku
theorem uv:B7 Go.Proofs.Tryz.prog Yo (lpc Go.Proofs.Tryz.f131 0):=lkB TM TL j6 Cv iX [3] Kv Wc
theorem zJ:Ah Go.Proofs.Tryz.prog uw:=okC TM Go.Proofs.Tryz.func131 uv Wc
def FM (x:Int×Unit):Option (Bool×Unit):=(BC (x.1,1,4,())).bind fun v=>some (v.1,())
def ur:Ent:=⟨138,⟨(.slot .i .nil),.nil⟩,⟨(.slot .bool .nil),.nil⟩,FM⟩
theorem iV:Ah Go.Proofs.Tryz.prog ur:=okA (hcA 0 (all_cons Lc all_nil)) Go.Proofs.Tryz.func138
def KS (x:Int×Unit):Option (Bool×Unit):=(BC (x.1,1,999,())).bind fun v=>some (v.1,())
def uq:Ent:=⟨231,⟨(.slot .i .nil),.nil⟩,⟨(.slot .bool .nil),.nil⟩,KS⟩
theorem zI:Ah Go.Proofs.Tryz.prog uq:=okA (hcA 0 (all_cons Lc all_nil)) Go.Proofs.Tryz.func231
def IE (x:Int×Unit):Option (Bool×Unit):=some (x.1 != x.1,())
def uo:Ent:=⟨237,⟨(.slot .i .nil),.nil⟩,⟨(.slot .bool .nil),.nil⟩,IE⟩
theorem zH:Ah Go.Proofs.Tryz.prog uo:=okA (hcA 0 all_nil) Go.Proofs.Tryz.func237
def C0 (x:Int×Int×Unit):Option (Int×Unit):=(IE (x.1,())).bind fun v=>(IE (x.2.1,())).bind fun a=>bif v.1 then bif a.1 then some (0,())else some (-1,())else bif a.1 then some (1,())else bif decide (x.1<x.2.1)then some (-1,())else bif decide (x.1>x.2.1)then some (1,())else some (0,())
def um:Ent:=⟨198,⟨(si 2 .nil),.nil⟩,⟨(.slot .i .nil),.nil⟩,C0⟩
theorem OQ:Ah Go.Proofs.Tryz.prog um:=okA (hcA 0 (all_cons zH all_nil)) Go.Proofs.Tryz.func198
abbrev iT:=Int×List Int×Int×Unit
abbrev iP:=Int×Unit
abbrev iQ:=Int×Unit ⊕ Unit
def Dh (i:iT)(v:iP)(R:Type)(K:iP ⊕ iQ->Option R):Option R:=bif decide (v.1<i.2.2.1)then(lAt i.2.1 v.1).bind fun a=>bif a != i.1 then K (.inr (.inl (a,())))else K (.inl (IntKind.i64.wrap (v.1+1),()))else K (.inr (.inr ()))
theorem Pf:Bi Dh:=fun i v R K=>Af (Ac fun _=>Af (Aa) (Aa)) (Aa)
def TJ:Tmpl:=⟨(jk 3 (.slot .i (jk 2 (.slot (.slice .i) (si 2 (jk 9 .nil)))))),.nil⟩
def iO:Exs iT iQ:=xs .ret (fun i p=>⟨jn 2 (.n (p.1)::.n (i.1)::jn 14 ([])),[]⟩)<|x1 (.exit 0) fun i p=>⟨jn 3 (.n (i.1)::jn 14 ([])),[]⟩
def iR:=((.i (.i (.i (.v .n)))):Pk TJ.ty _ _)
def ul:Cfg:={ti:=Au,ents:=[],ann:=[(3,Ao TJ 0 (spP iR) Dh iO.E)],lent:=0}
def Kx (x:List Int×Unit):Option (Int×Unit):=(AE (fun v=>Dh (0,x.1,(x.1.length:Int),()) v _ some) (0,())).bind fun p=>Az p (fun p=>some (p.1,())) fun p=>some (0,())
def uk:Ent:=⟨284,⟨(.slot (.slice .i) .nil),.nil⟩,⟨(.slot .i .nil),.nil⟩,Kx⟩
theorem iU:CfgOK Go.Proofs.Tryz.prog ul:=hcB all_nil
theorem uj:B7 Go.Proofs.Tryz.prog ul (lpc Go.Proofs.Tryz.f284 0):=lkA iU TJ iR Dh iO [2,3] Pf
theorem zG:Ah Go.Proofs.Tryz.prog uk:=okB iU Go.Proofs.Tryz.func284 uj
def BW (x:A1×A1×Unit):Option (Int×Unit):=(C0 (x.1.1,x.2.1.1,())).bind fun v=>(C0 (x.1.2.1,x.2.1.2.1,())).bind fun a=>(Kx ([v.1,a.1],())).bind fun v=>some (v.1,())
def QD:Ent:=⟨265,⟨(.slot A0 (.slot A0 .nil)),.nil⟩,⟨(.slot .i .nil),.nil⟩,BW⟩
theorem iM:Ah Go.Proofs.Tryz.prog QD:=okA (hcA 0 (all_cons OQ (all_cons zG all_nil))) Go.Proofs.Tryz.func265
abbrev iJ:=List A1×List A1×Int×Unit
abbrev iG:=Int×Unit
abbrev iH:=Int×Int×Unit ⊕ Int×Int×Unit ⊕ Int×Int×Unit ⊕ Unit
def EY (i:iJ)(v:iG)(R:Type)(K:iG ⊕ iH->Option R):Option R:=bif decide (v.1<i.2.2.1)then(lAt i.2.1 v.1).bind fun a=>(DZ (a.1,())).bind fun b=>bif !b.1 then K (.inr (.inl (a.1,a.2.1,())))else(BC (a.2.1,0,999,())).bind fun c=>bif !c.1 then K (.inr (.inr (.inl (a.1,a.2.1,()))))else bif decide (v.1>0)then(lAt i.1 (IntKind.i64.wrap (v.1-1))).bind fun d=>(BW ((d.1,d.2.1,()),(a.1,a.2.1,()),())).bind fun e=>bif decide (e.1>=0)then K (.inr (.inr (.inr (.inl (a.1,a.2.1,())))))else K (.inl (IntKind.i64.wrap (v.1+1),()))else K (.inl (IntKind.i64.wrap (v.1+1),()))else K (.inr (.inr (.inr (.inr ()))))
theorem Nd:Bi EY:=fun i v R K=>Af (Ac fun _=>Ac fun _=>Af (Aa) (Ac fun _=>Af (Aa) (Af (Ac fun _=>Ac fun _=>Af (Aa) (Aa)) (Aa)))) (Aa)
def TH:Tmpl:=⟨(.slot (.slice A0) (jk 4 (.slot (.slice A0) (si 2 (jk 32 .nil))))),.nil⟩
def iE:Exs iJ iH:=xs .ret (fun i p=>⟨AV.pv (.slice A0) i.1::jn 1 (.b (false)::jn 37 ([])),[some (Cont.cells 2 [[AV.pv .i p.1,AV.pv .i p.2.1]])]⟩)<|xs .ret (fun i p=>⟨AV.pv (.slice A0) i.1::jn 1 (.b (false)::jn 37 ([])),[some (Cont.cells 2 [[AV.pv .i p.1,AV.pv .i p.2.1]])]⟩)<|xs .ret (fun i p=>⟨AV.pv (.slice A0) i.1::jn 1 (.b (false)::jn 37 ([])),[some (Cont.cells 2 [[AV.pv .i p.1,AV.pv .i p.2.1]])]⟩)<|x1 (.exit 0) fun i p=>⟨AV.pv (.slice A0) i.1::jn 39 ([]),[]⟩
def iI:=((.i (.i (.i (.v .n)))):Pk TH.ty _ _)
def ui:Cfg:={ti:=Au,ents:=[OT,Zm,QD],ann:=[(2,Ao TH 0 (spP iI) EY iE.E)],lent:=0}
def DG (x:List A1×Unit):Option (Bool×Unit):=(AE (fun v=>EY (x.1,x.1,(x.1.length:Int),()) v _ some) (0,())).bind fun p=>Az p (fun p=>some (false,())) fun p=>Az p (fun p=>some (false,())) fun p=>Az p (fun p=>some (false,())) fun p=>some (decide ((x.1.length:Int)<=60),())
def uh:Ent:=⟨232,⟨(.slot (.slice A0) .nil),.nil⟩,⟨(.slot .bool .nil),.nil⟩,DG⟩
theorem iK:CfgOK Go.Proofs.Tryz.prog ui:=hcB (all_cons OS (all_cons Lc (all_cons iM all_nil)))
theorem ug:B7 Go.Proofs.Tryz.prog ui (lpc Go.Proofs.Tryz.f232 0):=lkA iK TH iI EY iE [0,2] Nd
theorem zF:Ah Go.Proofs.Tryz.prog uh:=okB iK Go.Proofs.Tryz.func232 ug
end
end Go.Ab
