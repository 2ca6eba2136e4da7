import Derived.Test.YtgljlakbfdnmfaaGreatSp2
set_option linter.all false
open Go.IntKind renaming i64->zXq
set_option maxRecDepth 100000
namespace Go.Ab
open Go.Proofs.Tryz
noncomputable section
def I2 (x:A1×Option A5×Unit):Option (Bool×Unit):=x.2.1.bind fun v=>(Cy ((v.1,(v.2.1.1,()),v.2.2.1,v.2.2.2.1,v.2.2.2.2.1,v.2.2.2.2.2.1,()),x.1.1,())).bind fun v=>bif !v.1 then some (true,())else x.2.1.bind fun v=>(Cy ((v.1,(v.2.1.1,()),v.2.2.1,v.2.2.2.1,v.2.2.2.2.1,v.2.2.2.2.2.1,()),x.1.2.1,())).bind fun v=>some (!v.1,())
def Y8:Ent:=⟨108,⟨(.slot A0 (.slot (.iref Dh) .nil)),.nil⟩,⟨(.slot .bool .nil),.nil⟩,I2⟩
theorem Ac9:Aj prog Y8:=okA (hcA 0 (all_cons W3 all_nil)) func108
abbrev kL:=List A1×(Option A5×Unit)×Int×Unit
abbrev kI:=Int×Unit
abbrev kJ:=Int×Unit ⊕ Unit
def AO (i:kL)(v:kI)(R:Type)(K:kI ⊕ kJ->Option R):Option R:=bif decide (v.1<i.2.2.1)then(lAt i.1 v.1).bind fun a=>(I2 ((a.1,a.2.1,()),i.2.1.1,())).bind fun b=>bif b.1 then K (.inr (.inl (v.1,())))else K (.inl (zXq.wrap (v.1+1),()))else K (.inr (.inr ()))
theorem GS:AW AO:=fun i v R K=>Ad (Ac fun _=>Ac fun _=>Ad (Aa) (Aa)) (Aa)
def Vc:Tmpl:=⟨(.slot (.slice A0) (.slot (.fn 108 (.prod (.iref Dh) .unit)) (jk 5 (si 2 (jk 10 .nil))))),.nil⟩
def kH:Exs kL kJ:=xs .ret (fun i p=>⟨jn 4 (.n (p.1)::jn 14 ([])),[]⟩)<|x1 (.exit 0) fun i p=>⟨jn 19 ([]),[]⟩
def kK:=((.i (.i (.i (.v .n)))):Pk Vc.ty _ _)
def A1k:Cfg:={ti:=Az,ents:=[Y8],ann:=[(2,Ao Vc 0 (spP kK) AO kH.E)],lent:=0}
def CK (x:List A1×(Option A5×Unit)×Unit):Option (Int×Unit):=(Au (fun v=>AO (x.1,x.2.1,(x.1.length:Int),()) v _ some) (0,())).bind fun p=>Ap p (fun p=>some (p.1,())) fun p=>some (-1,())
def A1j:Ent:=⟨141,⟨(.slot (.slice A0) (.slot (.fn 108 (.prod (.iref Dh) .unit)) .nil)),.nil⟩,⟨(.slot .i .nil),.nil⟩,CK⟩
theorem kM:CfgOK prog A1k:=hcB (all_cons Ac9 all_nil)
theorem A1i:AN prog A1k (lpc f141 0):=lkA kM Vc kK AO kH [4] GS
theorem Ac8:Aj prog A1j:=okB kM func141 A1i
def BD (x:List A1×(Option A5×Unit)×Unit):Option (Bool×Unit):=(CK (x.1,x.2.1,())).bind fun v=>some (decide (v.1>=0),())
def A1h:Ent:=⟨107,⟨(.slot (.slice A0) (.slot (.fn 108 (.prod (.iref Dh) .unit)) .nil)),.nil⟩,⟨(.slot .bool .nil),.nil⟩,BD⟩
theorem Ac7:Aj prog A1h:=okA (hcA 0 (all_cons Ac8 all_nil)) func107
def GE (x:A5×Unit):Option (Bool×Unit):=(GZ ((x.1.2.1.1,()),())).bind fun v=>bif v.1 then(Fd (x.1.2.2.2.1,())).bind fun v=>bif v.1 then(Ef (x.1.2.2.2.2.1,())).bind fun v=>bif v.1 then(Fp ((x.1.2.1.1,()),())).bind fun v=>(BJ (x.1.2.2.2.2.2.1,v.1,999,())).bind fun v=>bif v.1 then(Cl ((x.1.1,(x.1.2.1.1,()),x.1.2.2.1,x.1.2.2.2.1,x.1.2.2.2.2.1,x.1.2.2.2.2.2.1,()),())).bind fun v=>bif v.1 then(BE (x.1.2.2.2.1,(some (x.1.1,(x.1.2.1.1,()),x.1.2.2.1,x.1.2.2.2.1,x.1.2.2.2.2.1,x.1.2.2.2.2.2.1,()),()),())).bind fun v=>bif !v.1 then(BD (x.1.2.2.2.2.1,(some (x.1.1,(x.1.2.1.1,()),x.1.2.2.1,x.1.2.2.2.1,x.1.2.2.2.2.1,x.1.2.2.2.2.2.1,()),()),())).bind fun v=>some (!v.1,())else some (false,())else some (false,())else some (false,())else some (false,())else some (false,())else some (false,())
def Y7:Ent:=⟨44,⟨(.slot Dh .nil),.nil⟩,⟨(.slot .bool .nil),.nil⟩,GE⟩
theorem Ac6:Aj prog Y7:=okA (hcA 0 (all_cons Ack (all_cons nC (all_cons VK (all_cons Acj (all_cons L3 (all_cons Acd (all_cons Aca (all_cons Ac7 all_nil))))))))) func44
def Eg (x:A3×Unit):Option A3:=(CA (x.1.2.2.2.2.2.2.2.1,())).bind fun v=>(D7 (x.1.2.2.2.2.2.2.2.2.1,())).bind fun a=>some (x.1.1,x.1.2.1,x.1.2.2.1,x.1.2.2.2.1,x.1.2.2.2.2.1,x.1.2.2.2.2.2.1,x.1.2.2.2.2.2.2.1,v.1,a.1,())
def Y6:Ent:=⟨45,⟨(.slot Ae .nil),.nil⟩,⟨(.agg (si 7 (.own 0 (.own 1 .nil))) .nil),(.lst false A0 (.lst false A0 .nil))⟩,Eg⟩
theorem Ac5:Aj prog Y6:=okA (hcA 0 (all_cons oE (all_cons ng all_nil))) func45
def I4 (x:(Int×Int×A9)×(Int×Int×A9)×Unit):Option (Int×Unit):=(Bs (x.1.2.1,x.2.1.2.1,())).bind fun v=>some (v.1,())
def Y5:Ent:=⟨47,⟨(.slot Aw (.slot Aw .nil)),.nil⟩,⟨(.slot .i .nil),.nil⟩,I4⟩
theorem Ac4:Aj prog Y5:=okA (hcA 0 (all_cons PQ all_nil)) func47
abbrev kF:=B3
abbrev kx:=Int×List (Int×Int×A9)×Unit
abbrev kz:=List (Int×Int×A9)×Unit ⊕ List (Int×Int×A9)×Unit
def Aq (i:kF)(v:kx)(R:Type)(K:kx ⊕ kz->Option R):Option R:=bif decide (v.1>i.1)then if 0<=v.1/\v.1<(v.2.1.length:Int)then v.2.1[0+v.1.toNat]?.bind fun a=>if 0<=zXq.wrap (v.1-1)/\zXq.wrap (v.1-1)<(v.2.1.length:Int)then v.2.1[0+(zXq.wrap (v.1-1)).toNat]?.bind fun b=>(I4 ((a.1,a.2.1,a.2.2.1,a.2.2.2.1,()),(b.1,b.2.1,b.2.2.1,b.2.2.2.1,()),())).bind fun c=>bif decide (c.1<0)then if 0<=zXq.wrap (v.1-1)/\zXq.wrap (v.1-1)<(v.2.1.length:Int)then v.2.1[0+(zXq.wrap (v.1-1)).toNat]?.bind fun d=>if 0<=v.1/\v.1<(v.2.1.length:Int)then v.2.1[0+v.1.toNat]?.bind fun e=>if 0<=v.1/\v.1<(v.2.1.length:Int)then v.2.1[0+v.1.toNat]?.bind fun f=>if 0<=zXq.wrap (v.1-1)/\zXq.wrap (v.1-1)<(↑((v.2.1.set (0+v.1.toNat) (d.1,d.2.1,d.2.2.1,d.2.2.2.1,())).length):Int)then(v.2.1.set (0+v.1.toNat) (d.1,d.2.1,d.2.2.1,d.2.2.2.1,()))[0+(zXq.wrap (v.1-1)).toNat]?.bind fun g=>K (.inl (zXq.wrap (v.1-1),(v.2.1.set (0+v.1.toNat) (d.1,d.2.1,d.2.2.1,d.2.2.2.1,())).set (0+(zXq.wrap (v.1-1)).toNat) (e.1,e.2.1,e.2.2.1,e.2.2.2.1,()),()))else none else none else none else none else K (.inr (.inl (v.2.1,())))else none else none else K (.inr (.inr (v.2.1,())))
theorem Gt:AW Aq:=fun i v R K=>Ad (Ar (Ac fun _=>Ar (Ac fun _=>Ac fun _=>Ad (Ar (Ac fun _=>Ar (Ac fun _=>Ar (Ac fun _=>Ar (Ac fun _=>Aa))))) (Aa)))) (Aa)
def V8:Tmpl:=⟨(.own 0 (si 2 (.fn 47 .nil (jk 4 (si 2 (jk 43 .nil)))))),(.lst false Aw .nil)⟩
def ku:Exs kF kz:=xs (.exit 2) (fun i p=>⟨AV.own 0 none none::.n (i.1)::.n (i.2.1)::AV.fn 47 []::jn 4 (.n (i.2.2.1)::jn 44 ([])),[some (Cont.lst false Aw p.1)]⟩)<|x1 (.exit 2) fun i p=>⟨AV.own 0 none none::.n (i.1)::.n (i.2.1)::AV.fn 47 []::jn 4 (.n (i.2.2.1)::jn 44 ([])),[some (Cont.lst false Aw p.1)]⟩
def kB:=((.i (.i (.i (.v (.v .n))))):Pk V8.ty _ _)
abbrev kG:=Int×Int×Unit
abbrev ky:=Int×List (Int×Int×A9)×Unit
abbrev kA:=List (Int×Int×A9)×Unit
def Ay (i:kG)(v:ky)(R:Type)(K:ky ⊕ kA->Option R):Option R:=bif decide (v.1<i.2.1)then(Au (fun a=>Aq (i.1,i.2.1,v.1,()) a _ some) (v.1,v.2.1,())).bind fun p=>Ap p (fun p=>K (.inl (zXq.wrap (v.1+1),p.1,()))) fun p=>K (.inl (zXq.wrap (v.1+1),p.1,()))else K (.inr (v.2.1,()))
theorem Gu:AW Ay:=fun i v R K=>Ad (Ac fun _=>KH (fun _=>Aa) (fun _=>Aa)) (Aa)
def V9:Tmpl:=⟨(.own 0 (si 2 (.fn 47 .nil (jk 4 (.slot .i (jk 44 .nil)))))),(.lst false Aw .nil)⟩
def kw:Exs kG kA:=x1 (.exit 0) fun i p=>⟨jn 53 ([]),[some (Cont.lst false Aw p.1)]⟩
def kD:=((.i (.i (.v (.v .n)))):Pk V9.ty _ _)
def cG:Cfg:={ti:=Az,ents:=[Y5],ann:=[(4,Ao V8 1 (spP kB) Aq ku.E),(1,Ao V9 1 (spP kD) Ay kw.E)],lent:=1,hid:=[((6,2),[0]),((6,3),[0]),((6,4),[0])]}
def Bo (x:Int×Int×List (Int×Int×A9)×Unit):Option (List (Int×Int×A9)×Unit):=(Au (fun v=>Ay (x.1,x.2.1,()) v _ some) (zXq.wrap (x.1+1),x.2.2.1,())).bind fun p=>some (p.1,())
def Y4:Ent:=⟨173,⟨(.own 0 (si 2 (.fn 47 .nil .nil))),(.lst false Aw .nil)⟩,⟨.nil,(.lst false Aw .nil)⟩,Bo⟩
theorem Va:CfgOK prog cG:=hcB (all_cons Ac4 all_nil)
theorem Y3:AN prog cG (lpc f173 1):=lkA Va V8 kB Aq ku [0,1,2,3,8] Gt
theorem A1a:AN prog cG (lpc f173 0):=lkB Va V9 kD Ay kw [] Gu Y3
theorem Ac2:Aj prog Y4:=okC Va func173 A1a Y3
abbrev kt:=Int×Int×Unit
abbrev kh:=Int×Int×List (Int×Int×A9)×Unit
abbrev kl:=Int×List (Int×Int×A9)×Unit
def Bu (i:kt)(v:kh)(R:Type)(K:kh ⊕ kl->Option R):Option R:=bif decide (v.2.1<=i.1)then(Bo (v.1,v.2.1,v.2.2.1,())).bind fun a=>K (.inl (v.2.1,zXq.wrap (v.2.1+i.2.1),a.1,()))else K (.inr (v.1,v.2.2.1,()))
theorem Iy:AW Bu:=fun i v R K=>Ad (Ac fun _=>Aa) (Aa)
def V6:Tmpl:=⟨(.own 0 (.slot .i (.fn 47 .nil (jk 3 (si 3 (jk 54 .nil)))))),(.lst false Aw .nil)⟩
def ke:Exs kt kl:=x1 (.exit 0) fun i p=>⟨AV.own 0 none none::.n (i.1)::AV.fn 47 []::jn 3 (.n (i.2.1)::.n (p.1)::jn 55 ([])),[some (Cont.lst false Aw p.2.1)]⟩
def kp:=((.i (.i (.v (.v (.v .n))))):Pk V6.ty _ _)
abbrev kq:=Int×Int×Int×Int×List (Int×Int×A9)×Unit
abbrev kf:=Unit
abbrev ki:=Unit
def Ca (i:kq)(v:kf)(R:Type)(K:kf ⊕ ki->Option R):Option R:=bif decide (i.2.2.2.1<=i.1)then none else K (.inr ())
theorem Iw:AW Ca:=fun i v R K=>Ad (ZS) (Aa)
def V4:Tmpl:=⟨(.own 0 (.slot .i (.fn 47 .nil (jk 3 (si 3 (jk 54 .nil)))))),(.lst false Aw .nil)⟩
def jZ:Exs kq ki:=x1 (.exit 4) fun i p=>⟨AV.own 0 none none::.n (i.1)::AV.fn 47 []::jn 3 (.n (i.2.1)::.n (i.2.2.1)::jn 55 ([])),[some (Cont.lst false Aw i.2.2.2.2.1)]⟩
def km:=((.i (.i (.i (.i (.i .n))))):Pk V4.ty _ _)
abbrev kr:=Int×List (Int×Int×A9)×Unit
abbrev kg:=Int×Unit
abbrev kj:=Unit
def Bt (i:kr)(v:kg)(R:Type)(K:kg ⊕ kj->Option R):Option R:=bif decide (v.1<i.1)then(Au (fun a=>Ca (i.1,v.1,0,zXq.wrap (2*v.1),i.2.1,()) a _ some) ()).bind fun p=>bif decide (zXq.wrap (0+v.1)<i.1)then none else K (.inl (zXq.wrap (v.1*2),()))else K (.inr ())
theorem Ix:AW Bt:=fun i v R K=>Ad (Ac fun _=>Ad (ZS) (Aa)) (Aa)
def V5:Tmpl:=⟨(.own 0 (.slot .i (.fn 47 .nil (jk 3 (.slot .i (jk 56 .nil)))))),(.lst false Aw .nil)⟩
def ka:Exs kr kj:=x1 (.exit 2) fun i p=>⟨jn 63 ([]),[some (Cont.lst false Aw i.2.1)]⟩
def ko:=((.i (.v (.i .n))):Pk V5.ty _ _)
def V7:Cfg:={ti:=Az,ents:=[Y4],ann:=[(2,Ao V6 1 (spP kp) Bu ke.E),(9,Ao V4 1 (spP km) Ca jZ.E),(7,Ao V5 1 (spP ko) Bt ka.E)],lent:=1}
def Dl (x:Int×List (Int×Int×A9)×Unit):Option (List (Int×Int×A9)×Unit):=(Au (fun v=>Bu (x.1,20,()) v _ some) (0,20,x.2.1,())).bind fun p=>(Bo (p.1,x.1,p.2.1,())).bind fun v=>(Au (fun a=>Bt (x.1,v.1,()) a _ some) (20,())).bind fun p=>some (v.1,())
def A19:Ent:=⟨111,⟨(.own 0 (.slot .i (.fn 47 .nil .nil))),(.tree false 0 Aw .nil)⟩,⟨.nil,(.lst false Aw .nil)⟩,Dl⟩
theorem RO:CfgOK prog V7:=hcB (all_cons Ac2 all_nil)
theorem Y2:AN prog V7 (lpc f111 2):=lkA RO V4 km Ca jZ [0,1,2,6,7] Iw
theorem A17:AN prog V7 (lpc f111 1):=lkB RO V5 ko Bt ka [] Ix Y2
theorem A18:AN prog V7 (lpc f111 0):=lkA RO V6 kp Bu ke [0,1,2,6,7] Iy
theorem Ac1:Aj prog A19:=ME RO func111 3 (by kernel_rfl) (fun k hk=>match k,hk with|0,_=>A18|1,_=>A17|2,_=>Y2) (by kernel_rfl) (by kernel_rfl) (fun x=>by kernel_rfl)
def Cb (x:List (Int×Int×A9)×Unit):Option (List (Int×Int×A9)×Unit):=(Dl ((x.1.length:Int),x.1,())).bind fun v=>some (v.1,())
def Y1:Ent:=⟨46,⟨(.own 0 (.fn 47 .nil .nil)),(.tree false 0 Aw .nil)⟩,⟨.nil,(.lst false Aw .nil)⟩,Cb⟩
theorem Ac0:Aj prog Y1:=okA (hcA 1 (all_cons Ac1 all_nil)) func46
abbrev jX:=List A3×Int×Unit
abbrev jU:=Int×List (Int×Int×A9)×Unit
abbrev jV:=List (Int×Int×A9)×Unit
def E4 (i:jX)(v:jU)(R:Type)(K:jU ⊕ jV->Option R):Option R:=bif decide (v.1<i.2.1)then(lAt i.1 v.1).bind fun a=>bif a.2.2.1==2 then(Eg ((a.1,a.2.1,a.2.2.1,a.2.2.2.1,a.2.2.2.2.1,a.2.2.2.2.2.1,a.2.2.2.2.2.2.1,a.2.2.2.2.2.2.2.1,a.2.2.2.2.2.2.2.2.1,()),())).bind fun b=>if(v.2.1++[(b.1,b.2.2.2.2.2.2.1,b.2.2.2.2.2.2.2.1,b.2.2.2.2.2.2.2.2.1,())]).length<=549755813888 then K (.inl (zXq.wrap (v.1+1),v.2.1++[(b.1,b.2.2.2.2.2.2.1,b.2.2.2.2.2.2.2.1,b.2.2.2.2.2.2.2.2.1,())],()))else none else K (.inl (zXq.wrap (v.1+1),v.2.1,()))else K (.inr (v.2.1,()))
theorem O2:AW E4:=fun i v R K=>Ad (Ac fun _=>Ad (Ac fun _=>Ar (Aa)) (Aa)) (Aa)
def V3:Tmpl:=⟨(jk 3 (.own 0 (jk 8 (.slot (.slice Ae) (si 2 (jk 24 .nil)))))),(.tree false 0 Aw .nil)⟩
def jT:Exs jX jV:=x1 (.exit 0) fun i p=>⟨jn 3 (AV.own 0 none none::jn 35 ([])),[some (Cont.tree false 0 Aw p.1 none)]⟩
def jW:=((.i (.i (.v (.v .n)))):Pk V3.ty _ _)
def A16:Cfg:={ti:=Az,ents:=[Y1,Y7,Y6],ann:=[(5,Ao V3 0 (spP jW) E4 jT.E)],lent:=0}
def Jo (x:A5×Unit):Option (List (Int×Int×A9)×Unit):=(GE ((x.1.1,(x.1.2.1.1,()),x.1.2.2.1,x.1.2.2.2.1,x.1.2.2.2.2.1,x.1.2.2.2.2.2.1,()),())).bind fun v=>bif !v.1 then some ([],())else(Au (fun v=>E4 (x.1.2.2.1,(x.1.2.2.1.length:Int),()) v _ some) (0,[],())).bind fun p=>(Cb (p.1,())).bind fun v=>some (v.1,())
def A15:Ent:=⟨23,⟨(.slot Dh .nil),.nil⟩,⟨(.own 0 .nil),(.lst false Aw .nil)⟩,Jo⟩
theorem jY:CfgOK prog A16:=hcB (all_cons Ac0 (all_cons Ac6 (all_cons Ac5 all_nil)))
theorem A14:AN prog A16 (lpc f23 0):=lkA jY V3 jW E4 jT [3] O2
theorem Abz:Aj prog A15:=okB jY func23 A14
def Ke (x:(Int×Int×A9)×Unit):Option (Bool×Unit):=(BB (x.1.1,())).bind fun v=>bif v.1 then(J2 (x.1.2.1,())).bind fun v=>bif v.1 then(Dt (x.1.2.2.1,())).bind fun v=>bif v.1 then(D3 (x.1.2.2.2.1,())).bind fun v=>some (v.1,())else some (false,())else some (false,())else some (false,())
def Y0:Ent:=⟨93,⟨(.slot Aw .nil),.nil⟩,⟨(.slot .bool .nil),.nil⟩,Ke⟩
theorem Aby:Aj prog Y0:=okA (hcA 0 (all_cons M5 (all_cons tp (all_cons ql (all_cons qe all_nil))))) func93
def JP (x:(Int×Int×A9)×Option Int×Unit):Option (Bool×Unit):=x.2.1.bind fun v=>some (x.1.1==v,())
def XZ:Ent:=⟨163,⟨(.slot Aw (.slot (.iref .i) .nil)),.nil⟩,⟨(.slot .bool .nil),.nil⟩,JP⟩
theorem Abx:Aj prog XZ:=okA (hcA 0 all_nil) func163
abbrev jR:=List (Int×Int×A9)×(Option Int×Unit)×Int×Unit
abbrev jO:=Int×Unit
abbrev jP:=Int×Unit ⊕ Unit
def Bm (i:jR)(v:jO)(R:Type)(K:jO ⊕ jP->Option R):Option R:=bif decide (v.1<i.2.2.1)then(lAt i.1 v.1).bind fun a=>(JP ((a.1,a.2.1,a.2.2.1,a.2.2.2.1,()),i.2.1.1,())).bind fun b=>bif b.1 then K (.inr (.inl (v.1,())))else K (.inl (zXq.wrap (v.1+1),()))else K (.inr (.inr ()))
theorem Ii:AW Bm:=fun i v R K=>Ad (Ac fun _=>Ac fun _=>Ad (Aa) (Aa)) (Aa)
def V2:Tmpl:=⟨(.slot (.slice Aw) (.slot (.fn 163 (.prod (.iref .i) .unit)) (jk 5 (si 2 (jk 10 .nil))))),.nil⟩
def jN:Exs jR jP:=xs .ret (fun i p=>⟨jn 4 (.n (p.1)::jn 14 ([])),[]⟩)<|x1 (.exit 0) fun i p=>⟨jn 19 ([]),[]⟩
def jQ:=((.i (.i (.i (.v .n)))):Pk V2.ty _ _)
def A13:Cfg:={ti:=Az,ents:=[XZ],ann:=[(2,Ao V2 0 (spP jQ) Bm jN.E)],lent:=0}
def Cg (x:List (Int×Int×A9)×(Option Int×Unit)×Unit):Option (Int×Unit):=(Au (fun v=>Bm (x.1,x.2.1,(x.1.length:Int),()) v _ some) (0,())).bind fun p=>Ap p (fun p=>some (p.1,())) fun p=>some (-1,())
def A12:Ent:=⟨162,⟨(.slot (.slice Aw) (.slot (.fn 163 (.prod (.iref .i) .unit)) .nil)),.nil⟩,⟨(.slot .i .nil),.nil⟩,Cg⟩
theorem jS:CfgOK prog A13:=hcB (all_cons Abx all_nil)
theorem A11:AN prog A13 (lpc f162 0):=lkA jS V2 jQ Bm jN [4] Ii
theorem Abw:Aj prog A12:=okB jS func162 A11
def Jq (x:List (Int×Int×A9)×Int×Unit):Option (Int×Unit):=(Cg (x.1,(some x.2.1,()),())).bind fun v=>some (v.1,())
def XY:Ent:=⟨94,⟨(.slot (.slice Aw) (.slot .i .nil)),.nil⟩,⟨(.slot .i .nil),.nil⟩,Jq⟩
theorem Abv:Aj prog XY:=okA (hcA 0 (all_cons Abw all_nil)) func94
def G3 (x:A1×Option Int×Unit):Option (Bool×Unit):=x.2.1.bind fun v=>some (x.1.1==v,())
def XX:Ent:=⟨215,⟨(.slot A0 (.slot (.iref .i) .nil)),.nil⟩,⟨(.slot .bool .nil),.nil⟩,G3⟩
theorem Abu:Aj prog XX:=okA (hcA 0 all_nil) func215
abbrev jL:=List A1×(Option Int×Unit)×Int×Unit
abbrev jI:=Int×Unit
abbrev jJ:=Int×Unit ⊕ Unit
def B8 (i:jL)(v:jI)(R:Type)(K:jI ⊕ jJ->Option R):Option R:=bif decide (v.1<i.2.2.1)then(lAt i.1 v.1).bind fun a=>(G3 ((a.1,a.2.1,()),i.2.1.1,())).bind fun b=>bif b.1 then K (.inr (.inl (v.1,())))else K (.inl (zXq.wrap (v.1+1),()))else K (.inr (.inr ()))
theorem Hq:AW B8:=fun i v R K=>Ad (Ac fun _=>Ac fun _=>Ad (Aa) (Aa)) (Aa)
def V1:Tmpl:=⟨(.slot (.slice A0) (.slot (.fn 215 (.prod (.iref .i) .unit)) (jk 5 (si 2 (jk 10 .nil))))),.nil⟩
def jH:Exs jL jJ:=xs .ret (fun i p=>⟨jn 4 (.n (p.1)::jn 14 ([])),[]⟩)<|x1 (.exit 0) fun i p=>⟨jn 19 ([]),[]⟩
def jK:=((.i (.i (.i (.v .n)))):Pk V1.ty _ _)
def A10:Cfg:={ti:=Az,ents:=[XX],ann:=[(2,Ao V1 0 (spP jK) B8 jH.E)],lent:=0}
def BQ (x:List A1×(Option Int×Unit)×Unit):Option (Int×Unit):=(Au (fun v=>B8 (x.1,x.2.1,(x.1.length:Int),()) v _ some) (0,())).bind fun p=>Ap p (fun p=>some (p.1,())) fun p=>some (-1,())
def A0z:Ent:=⟨236,⟨(.slot (.slice A0) (.slot (.fn 215 (.prod (.iref .i) .unit)) .nil)),.nil⟩,⟨(.slot .i .nil),.nil⟩,BQ⟩
theorem jM:CfgOK prog A10:=hcB (all_cons Abu all_nil)
theorem A0y:AN prog A10 (lpc f236 0):=lkA jM V1 jK B8 jH [4] Hq
theorem Abt:Aj prog A0z:=okB jM func236 A0y
def BI (x:List A1×(Option Int×Unit)×Unit):Option (Bool×Unit):=(BQ (x.1,x.2.1,())).bind fun v=>some (decide (v.1>=0),())
def A0r:Ent:=⟨204,⟨(.slot (.slice A0) (.slot (.fn 215 (.prod (.iref .i) .unit)) .nil)),.nil⟩,⟨(.slot .bool .nil),.nil⟩,BI⟩
theorem Abr:Aj prog A0r:=okA (hcA 0 (all_cons Abt all_nil)) func204
def Fj (x:(Int×Int×A9)×Int×Unit):Option (Bool×Unit):=(BI (x.1.2.2.2.1,(some x.2.1,()),())).bind fun v=>some (v.1,())
def Sh:Ent:=⟨164,⟨(.slot Aw (.slot .i .nil)),.nil⟩,⟨(.slot .bool .nil),.nil⟩,Fj⟩
theorem jG:Aj prog Sh:=okA (hcA 0 (all_cons Abr all_nil)) func164
abbrev jE:=List (Int×Int×A9)×B3
abbrev jA:=Int×Unit
abbrev jB:=Int×Int×A9 ⊕ Unit
def Ez (i:jE)(v:jA)(R:Type)(K:jA ⊕ jB->Option R):Option R:=bif decide (v.1<i.2.1)then(lAt i.1 v.1).bind fun a=>bif a.2.1==i.2.2.2.1 then(Fj ((a.1,a.2.1,a.2.2.1,a.2.2.2.1,()),i.2.2.1,())).bind fun b=>bif b.1 then K (.inr (.inl (a.1,a.2.1,a.2.2.1,a.2.2.2.1,())))else K (.inl (zXq.wrap (v.1+1),()))else K (.inl (zXq.wrap (v.1+1),()))else K (.inr (.inr ()))
theorem Oz:AW Ez:=fun i v R K=>Ad (Ac fun _=>Ad (Ac fun _=>Ad (Aa) (Aa)) (Aa)) (Aa)
def V0:Tmpl:=⟨(jk 3 (.ptr 0 0 0 (jk 3 (.slot (.slice Aw) (si 2 (jk 17 .nil)))))),(.cells 2 (si 2 .nil) .nil)⟩
def jz:Exs jE jB:=xs .ret (fun i p=>⟨jn 4 (.n (p.1)::jn 22 ([])),[some (Cont.cells 2 [[AV.pv .i i.2.2.1,AV.pv .i i.2.2.2.1]]),some (Cont.cells 4 [[AV.pv .i p.1,AV.pv .i p.2.1,AV.pv (.slice A0) p.2.2.1,AV.pv (.slice A0) p.2.2.2.1]])]⟩)<|x1 (.exit 0) fun i p=>⟨jn 27 ([]),[some (Cont.cells 2 [[AV.pv .i i.2.2.1,AV.pv .i i.2.2.2.1]])]⟩
def jC:=((.i (.i (.v (.i (.i .n))))):Pk V0.ty _ _)
def A0q:Cfg:={ti:=Az,ents:=[Sh],ann:=[(2,Ao V0 0 (spP jC) Ez jz.E)],lent:=0}
def Ik (x:List (Int×Int×A9)×A1×Unit):Option (Int×Unit):=(Au (fun v=>Ez (x.1,(x.1.length:Int),x.2.1.1,x.2.1.2.1,()) v _ some) (0,())).bind fun p=>Ap p (fun p=>some (p.1,())) fun p=>some (0,())
def Sg:Ent:=⟨95,⟨(.slot (.slice Aw) (.slot A0 .nil)),.nil⟩,⟨(.slot .i .nil),.nil⟩,Ik⟩
theorem jF:CfgOK prog A0q:=hcB (all_cons jG all_nil)
theorem A0p:AN prog A0q (lpc f95 0):=lkA jF V0 jC Ez jz [4] Oz
theorem jD:Aj prog Sg:=okB jF func95 A0p
abbrev jy:=List (Int×Int×A9)×List (Int×Int×A9)×Int×Unit
abbrev jv:=Int×Unit
abbrev jw:=Int×Int×A9 ⊕ Int×Int×A9 ⊕ Int×Int×A9 ⊕ Int×Int×A9 ⊕ Unit
def F6 (i:jy)(v:jv)(R:Type)(K:jv ⊕ jw->Option R):Option R:=bif decide (v.1<i.2.2.1)then(lAt i.2.1 v.1).bind fun a=>(Ke ((a.1,a.2.1,a.2.2.1,a.2.2.2.1,()),())).bind fun b=>bif !b.1 then K (.inr (.inl (a.1,a.2.1,a.2.2.1,a.2.2.2.1,())))else(Jq (i.1,a.1,())).bind fun c=>bif c.1 != v.1 then K (.inr (.inr (.inl (a.1,a.2.1,a.2.2.1,a.2.2.2.1,()))))else bif decide (v.1>0)then(lAt i.1 (zXq.wrap (v.1-1))).bind fun d=>bif decide (a.2.1<d.2.1)then K (.inr (.inr (.inr (.inl (a.1,a.2.1,a.2.2.1,a.2.2.2.1,())))))else(lAt i.1 (zXq.wrap (v.1-1))).bind fun e=>bif a.2.1==e.2.1 then bif decide ((a.2.2.2.1.length:Int)>0)then K (.inr (.inr (.inr (.inr (.inl (a.1,a.2.1,a.2.2.1,a.2.2.2.1,()))))))else K (.inl (zXq.wrap (v.1+1),()))else K (.inl (zXq.wrap (v.1+1),()))else K (.inl (zXq.wrap (v.1+1),()))else K (.inr (.inr (.inr (.inr (.inr ())))))
theorem O1:AW F6:=fun i v R K=>Ad (Ac fun _=>Ac fun _=>Ad (Aa) (Ac fun _=>Ad (Aa) (Ad (Ac fun _=>Ad (Aa) (Ac fun _=>Ad (Ad (Aa) (Aa)) (Aa))) (Aa)))) (Aa)
def UY:Tmpl:=⟨(.slot (.slice Aw) (jk 12 (.slot (.slice Aw) (si 2 (jk 77 .nil))))),.nil⟩
def ju:Exs jy jw:=xs .ret (fun i p=>⟨AV.pv (.slice Aw) i.1::jn 1 (.b (false)::jn 90 ([])),[some (Cont.cells 4 [[AV.pv .i p.1,AV.pv .i p.2.1,AV.pv (.slice A0) p.2.2.1,AV.pv (.slice A0) p.2.2.2.1]])]⟩)<|xs .ret (fun i p=>⟨AV.pv (.slice Aw) i.1::jn 1 (.b (false)::jn 90 ([])),[some (Cont.cells 4 [[AV.pv .i p.1,AV.pv .i p.2.1,AV.pv (.slice A0) p.2.2.1,AV.pv (.slice A0) p.2.2.2.1]])]⟩)<|xs .ret (fun i p=>⟨AV.pv (.slice Aw) i.1::jn 1 (.b (false)::jn 90 ([])),[some (Cont.cells 4 [[AV.pv .i p.1,AV.pv .i p.2.1,AV.pv (.slice A0) p.2.2.1,AV.pv (.slice A0) p.2.2.2.1]])]⟩)<|xs .ret (fun i p=>⟨AV.pv (.slice Aw) i.1::jn 1 (.b (false)::jn 90 ([])),[some (Cont.cells 4 [[AV.pv .i p.1,AV.pv .i p.2.1,AV.pv (.slice A0) p.2.2.1,AV.pv (.slice A0) p.2.2.2.1]])]⟩)<|x1 (.exit 0) fun i p=>⟨AV.pv (.slice Aw) i.1::jn 92 ([]),[]⟩
def jx:=((.i (.i (.i (.v .n)))):Pk UY.ty _ _)
abbrev XV:=List (Int×Int×A9)×List (Int×Int×A9)×Int×Int×List A1×Int×Int×Int×A9
abbrev XP:=Int×Unit
abbrev XR:=Int×Int×Unit ⊕ Int×Int×Unit ⊕ Unit
def Dz (i:XV)(v:XP)(R:Type)(K:XP ⊕ XR->Option R):Option R:=bif decide (v.1<i.2.2.2.2.2.1)then(lAt i.2.2.2.2.1 v.1).bind fun a=>(Ik (i.1,(a.1,a.2.1,()),())).bind fun b=>bif b.1==i.2.2.2.2.2.2.1 then K (.inr (.inl (a.1,a.2.1,())))else bif decide (a.2.1>0)then bif b.1==0 then K (.inr (.inr (.inl (a.1,a.2.1,()))))else K (.inl (zXq.wrap (v.1+1),()))else K (.inl (zXq.wrap (v.1+1),()))else K (.inr (.inr (.inr ())))
theorem Ng:AW Dz:=fun i v R K=>Ad (Ac fun _=>Ac fun _=>Ad (Aa) (Ad (Ad (Aa) (Aa)) (Aa))) (Aa)
def Se:Tmpl:=⟨(.slot (.slice Aw) (jk 5 (.ptr 0 0 0 (jk 55 (.slot (.slice Aw) (si 2 (jk 4 (.slot (.slice A0) (si 2 (jk 21 .nil)))))))))),(.cells 4 (si 2 (.slot (.slice A0) (.slot (.slice A0) .nil))) .nil)⟩
def XN:Exs XV XR:=xs .ret (fun i p=>⟨AV.pv (.slice Aw) i.1::jn 1 (.b (false)::jn 59 (AV.pv (.slice Aw) i.2.1::.n (i.2.2.1)::.n (i.2.2.2.1)::jn 28 ([]))),[some (Cont.cells 4 [[AV.pv .i i.2.2.2.2.2.2.1,AV.pv (Ty.int zXq) i.2.2.2.2.2.2.2.1,AV.pv (.slice A0) i.2.2.2.2.2.2.2.2.1,AV.pv (.slice A0) i.2.2.2.2.2.2.2.2.2.1]]),some (Cont.cells 2 [[AV.pv .i p.1,AV.pv .i p.2.1]])]⟩)<|xs .ret (fun i p=>⟨AV.pv (.slice Aw) i.1::jn 1 (.b (false)::jn 59 (AV.pv (.slice Aw) i.2.1::.n (i.2.2.1)::.n (i.2.2.2.1)::jn 28 ([]))),[some (Cont.cells 4 [[AV.pv .i i.2.2.2.2.2.2.1,AV.pv (Ty.int zXq) i.2.2.2.2.2.2.2.1,AV.pv (.slice A0) i.2.2.2.2.2.2.2.2.1,AV.pv (.slice A0) i.2.2.2.2.2.2.2.2.2.1]]),some (Cont.cells 2 [[AV.pv .i p.1,AV.pv .i p.2.1]])]⟩)<|x1 (.exit 4) fun i p=>⟨AV.pv (.slice Aw) i.1::jn 61 (AV.pv (.slice Aw) i.2.1::.n (i.2.2.1)::.n (i.2.2.2.1)::jn 28 ([])),[some (Cont.cells 4 [[AV.pv .i i.2.2.2.2.2.2.1,AV.pv .i i.2.2.2.2.2.2.2.1,AV.pv (.slice A0) i.2.2.2.2.2.2.2.2.1,AV.pv (.slice A0) i.2.2.2.2.2.2.2.2.2.1]])]⟩
def XT:=((.i (.i (.i (.i (.i (.i (.v (.i (.i (.i (.i .n))))))))))):Pk Se.ty _ _)
abbrev XW:=List (Int×Int×A9)×List (Int×Int×A9)×Int×Unit
abbrev XQ:=Int×Unit
abbrev XS:=Int×Int×List A1×List A1×Int×Int×Unit ⊕ Int×Int×List A1×List A1×Int×Int×Unit ⊕ Unit
def EA (i:XW)(v:XQ)(R:Type)(K:XQ ⊕ XS->Option R):Option R:=bif decide (v.1<i.2.2.1)then(lAt i.2.1 v.1).bind fun a=>(Au (fun b=>Dz (i.1,i.2.1,i.2.2.1,v.1,a.2.2.1,(a.2.2.1.length:Int),a.1,a.2.1,a.2.2.1,a.2.2.2.1,()) b _ some) (0,())).bind fun p=>Ap p (fun p=>K (.inr (.inl (a.1,a.2.1,a.2.2.1,a.2.2.2.1,p.1,p.2.1,())))) fun p=>Ap p (fun p=>K (.inr (.inr (.inl (a.1,a.2.1,a.2.2.1,a.2.2.2.1,p.1,p.2.1,()))))) fun p=>K (.inl (zXq.wrap (v.1+1),()))else K (.inr (.inr (.inr ())))
theorem Nh:AW EA:=fun i v R K=>Ad (Ac fun _=>Ac fun _=>KH (fun _=>Aa) (fun _=>KH (fun _=>Aa) (fun _=>Aa))) (Aa)
def Sf:Tmpl:=⟨(.slot (.slice Aw) (jk 61 (.slot (.slice Aw) (si 2 (jk 28 .nil))))),.nil⟩
def XO:Exs XW XS:=xs .ret (fun i p=>⟨jn 2 (.b (false)::jn 90 ([])),[some (Cont.cells 4 [[AV.pv .i p.1,AV.pv .i p.2.1,AV.pv (.slice A0) p.2.2.1,AV.pv (.slice A0) p.2.2.2.1]]),some (Cont.cells 2 [[AV.pv .i p.2.2.2.2.1,AV.pv .i p.2.2.2.2.2.1]])]⟩)<|xs .ret (fun i p=>⟨jn 2 (.b (false)::jn 90 ([])),[some (Cont.cells 4 [[AV.pv .i p.1,AV.pv .i p.2.1,AV.pv (.slice A0) p.2.2.1,AV.pv (.slice A0) p.2.2.2.1]]),some (Cont.cells 2 [[AV.pv .i p.2.2.2.2.1,AV.pv .i p.2.2.2.2.2.1]])]⟩)<|x1 (.exit 2) fun i p=>⟨jn 93 ([]),[]⟩
def XU:=((.i (.i (.i (.v .n)))):Pk Sf.ty _ _)
def UZ:Cfg:={ti:=Az,ents:=[Y0,XY,Sg],ann:=[(4,Ao UY 0 (spP jx) F6 ju.E),(15,Ao Se 0 (spP XT) Dz XN.E),(12,Ao Sf 0 (spP XU) EA XO.E)],lent:=0}
def Jm (x:List (Int×Int×A9)×Unit):Option (Bool×Unit):=bif decide ((x.1.length:Int)>9)then some (false,())else(Au (fun v=>F6 (x.1,x.1,(x.1.length:Int),()) v _ some) (0,())).bind fun p=>Ap p (fun p=>some (false,())) fun p=>Ap p (fun p=>some (false,())) fun p=>Ap p (fun p=>some (false,())) fun p=>Ap p (fun p=>some (false,())) fun p=>(Au (fun v=>EA (x.1,x.1,(x.1.length:Int),()) v _ some) (0,())).bind fun p=>Ap p (fun p=>some (false,())) fun p=>Ap p (fun p=>some (false,())) fun p=>some (true,())
def A0o:Ent:=⟨42,⟨(.slot (.slice Aw) .nil),.nil⟩,⟨(.slot .bool .nil),.nil⟩,Jm⟩
theorem RM:CfgOK prog UZ:=hcB (all_cons Aby (all_cons Abv (all_cons jD all_nil)))
theorem TF:AN prog UZ (lpc f42 2):=lkA RM Se XT Dz XN [0,2,62,63,64] Ng
theorem rE:AN prog UZ (lpc f42 1):=lkB RM Sf XU EA XO [2] Nh TF
theorem A0n:AN prog UZ (lpc f42 0):=lkA RM UY jx F6 ju [0,2] O1
theorem Abq:Aj prog A0o:=ME RM func42 3 (by kernel_rfl) (fun k hk=>match k,hk with|0,_=>A0n|1,_=>rE|2,_=>TF) (by kernel_rfl) (by kernel_rfl) (fun x=>by kernel_rfl)
def Al1:Cfg:={ti:=Az,ents:=[],ann:=[],lent:=2,pre:=[(some (0,0))]}
def FB (x:Int×Int×Int×Int×List (B4)×Unit):Option (List (B4)×Unit):=bif x.1 != 0 then bif x.2.1 != 0 then bif x.1 != x.2.1 then if(x.2.2.2.2.1++[(x.1,x.2.1,x.2.2.1,x.2.2.2.1,())]).length<=1099511627776 then some (x.2.2.2.2.1++[(x.1,x.2.1,x.2.2.1,x.2.2.2.1,())],())else none else some (x.2.2.2.2.1,())else some (x.2.2.2.2.1,())else some (x.2.2.2.2.1,())
def XM:Ent:=⟨96,⟨(si 4 (.ptr 0 0 0 .nil)),(.cells 1 (.own 1 .nil) (.lst false AZ .nil))⟩,⟨.nil,(.cells 1 (.own 2 .nil) (.gone (.lst false AZ .nil)))⟩,FB⟩
theorem Abp:Aj prog XM:=okA (C:=Al1) (hcB all_nil) func96
abbrev js:=Int×Int×List (Int×Int×A9)×Int×Unit
abbrev jp:=Int×Int×Bool×Int×Unit
abbrev jq:=Int×Unit
def Dy (i:js)(v:jp)(R:Type)(K:jp ⊕ jq->Option R):Option R:=bif decide (v.2.2.2.1<i.2.2.2.1)then(lAt i.2.2.1 v.2.2.2.1).bind fun a=>bif decide (a.2.1>i.2.1)then(Fj ((a.1,a.2.1,a.2.2.1,a.2.2.2.1,()),i.1,())).bind fun b=>bif b.1 then bif !v.2.2.1 then K (.inl (a.1,a.2.1,true,zXq.wrap (v.2.2.2.1+1),()))else bif decide (a.2.1<v.2.1)then K (.inl (a.1,a.2.1,true,zXq.wrap (v.2.2.2.1+1),()))else K (.inl (v.1,v.2.1,v.2.2.1,zXq.wrap (v.2.2.2.1+1),()))else K (.inl (v.1,v.2.1,v.2.2.1,zXq.wrap (v.2.2.2.1+1),()))else K (.inl (v.1,v.2.1,v.2.2.1,zXq.wrap (v.2.2.2.1+1),()))else K (.inr (v.1,()))
theorem Nf:AW Dy:=fun i v R K=>Ad (Ac fun _=>Ad (Ac fun _=>Ad (Ad (Aa) (Ad (Aa) (Aa))) (Aa)) (Aa)) (Aa)
def UX:Tmpl:=⟨(.junk (si 2 (jk 4 (si 2 (.slot .bool (jk 2 (.slot (.slice Aw) (si 2 (jk 28 .nil))))))))),.nil⟩
def jo:Exs js jq:=x1 (.exit 0) fun i p=>⟨jn 7 (.n (p.1)::jn 35 ([])),[]⟩
def jr:=((.i (.i (.v (.v (.v (.i (.i (.v .n)))))))):Pk UX.ty _ _)
def A0m:Cfg:={ti:=Az,ents:=[Sh],ann:=[(3,Ao UX 0 (spP jr) Dy jo.E)],lent:=0}
def GD (x:List (Int×Int×A9)×Int×Int×Unit):Option (Int×Unit):=(Au (fun v=>Dy (x.2.1,x.2.2.1,x.1,(x.1.length:Int),()) v _ some) (0,0,false,0,())).bind fun p=>some (p.1,())
def XL:Ent:=⟨97,⟨(.slot (.slice Aw) (si 2 .nil)),.nil⟩,⟨(.slot .i .nil),.nil⟩,GD⟩
theorem jt:CfgOK prog A0m:=hcB (all_cons jG all_nil)
theorem A0l:AN prog A0m (lpc f97 0):=lkA jt UX jr Dy jo [7] Nf
theorem Abo:Aj prog XL:=okB jt func97 A0l
def CH (x:(B4)×(B4)×Unit):Option (Int×Unit):=(Bs (x.1.1,x.2.1.1,())).bind fun v=>(Bs (x.1.2.1,x.2.1.2.1,())).bind fun a=>(Bs (x.1.2.2.1,x.2.1.2.2.1,())).bind fun b=>(Bs (x.1.2.2.2.1,x.2.1.2.2.2.1,())).bind fun c=>(I7 ([v.1,a.1,b.1,c.1],())).bind fun v=>some (v.1,())
def Sd:Ent:=⟨90,⟨(.slot AZ (.slot AZ .nil)),.nil⟩,⟨(.slot .i .nil),.nil⟩,CH⟩
theorem jm:Aj prog Sd:=okA (hcA 0 (all_cons PQ (all_cons qu all_nil))) func90
def A0k:Go.Shelf.Ren:=⟨fun|6=>98|15=>166|14=>165|28=>224|29=>225|20=>216|21=>217|22=>218|23=>219|24=>220|25=>221|26=>222|27=>223|46=>252|47=>253|48=>254|49=>255|50=>256|57=>267|n=>n,fun|22=>47|24=>75|25=>130|3=>3|39=>191|0=>0|53=>238|55=>240|4=>4|46=>232|45=>231|50=>170|5=>5|9=>9|66=>255|70=>259|76=>266|77=>98|n=>n,fun|n=>n⟩
theorem Al0:Go.Proofs.SlLaysF0.n6 prog A0k where
 mixed:=by kernel_rfl
 f6:=⟨ "slices.SortFunc[[]loop.example/g01924/impl.Edge,loop.example/g01924/impl.Edge]",by decide,func98.trans (congrArg some (by kernel_rfl))⟩
 f14:=⟨ "slices.pdqsortCmpFunc[loop.example/g01924/impl.Edge]",by decide,func165.trans (congrArg some (by kernel_rfl))⟩
 f15:=func166.trans (congrArg some (by kernel_rfl))
 f20:=⟨ "slices.insertionSortCmpFunc[loop.example/g01924/impl.Edge]",by decide,func216.trans (congrArg some (by kernel_rfl))⟩
 f21:=⟨ "slices.heapSortCmpFunc[loop.example/g01924/impl.Edge]",by decide,func217.trans (congrArg some (by kernel_rfl))⟩
 f22:=⟨ "slices.breakPatternsCmpFunc[loop.example/g01924/impl.Edge]",by decide,func218.trans (congrArg some (by kernel_rfl))⟩
 f23:=⟨ "slices.choosePivotCmpFunc[loop.example/g01924/impl.Edge]",by decide,func219.trans (congrArg some (by kernel_rfl))⟩
 f24:=⟨ "slices.reverseRangeCmpFunc[loop.example/g01924/impl.Edge]",by decide,func220.trans (congrArg some (by kernel_rfl))⟩
 f25:=⟨ "slices.partialInsertionSortCmpFunc[loop.example/g01924/impl.Edge]",by decide,func221.trans (congrArg some (by kernel_rfl))⟩
 f26:=⟨ "slices.partitionEqualCmpFunc[loop.example/g01924/impl.Edge]",by decide,func222.trans (congrArg some (by kernel_rfl))⟩
 f27:=⟨ "slices.partitionCmpFunc[loop.example/g01924/impl.Edge]",by decide,func223.trans (congrArg some (by kernel_rfl))⟩
 f28:=func224.trans (congrArg some (by kernel_rfl))
 f29:=func225.trans (congrArg some (by kernel_rfl))
 f46:=⟨ "slices.siftDownCmpFunc[loop.example/g01924/impl.Edge]",by decide,func252.trans (congrArg some (by kernel_rfl))⟩
 f47:=func253.trans (congrArg some (by kernel_rfl))
 f48:=func254.trans (congrArg some (by kernel_rfl))
 f49:=⟨ "slices.medianAdjacentCmpFunc[loop.example/g01924/impl.Edge]",by decide,func255.trans (congrArg some (by kernel_rfl))⟩
 f50:=⟨ "slices.medianCmpFunc[loop.example/g01924/impl.Edge]",by decide,func256.trans (congrArg some (by kernel_rfl))⟩
 f57:=⟨ "slices.order2CmpFunc[loop.example/g01924/impl.Edge]",by decide,func267.trans (congrArg some (by kernel_rfl))⟩
 t0:=underlying0
 a0:=isAgg0
 z0:=sizeOf0
 v0:=zeroValue0
 t3:=underlying3
 a3:=isAgg3
 z3:=sizeOf3
 v3:=zeroValue3
 t4:=underlying4
 a4:=isAgg4
 z4:=sizeOf4
 v4:=zeroValue4
 t5:=underlying5
 a5:=isAgg5
 z5:=sizeOf5
 v5:=zeroValue5
 t9:=underlying9
 a9:=isAgg9
 z9:=sizeOf9
 v9:=zeroValue9
 t22:=underlying47
 a22:=isAgg47
 z22:=sizeOf47
 v22:=zeroValue47
 t25:=underlying130
 a25:=isAgg130
 z25:=sizeOf130
 v25:=zeroValue130
 t39:=underlying191
 a39:=isAgg191
 z39:=sizeOf191
 v39:=zeroValue191
 t45:=underlying231
 a45:=isAgg231
 z45:=sizeOf231
 v45:=zeroValue231
 t46:=underlying232
 a46:=isAgg232
 z46:=sizeOf232
 v46:=zeroValue232
 t50:=underlying170
 a50:=isAgg170
 z50:=sizeOf170
 v50:=zeroValue170
 t53:=underlying238
 a53:=isAgg238
 z53:=sizeOf238
 v53:=zeroValue238
 t55:=underlying240
 a55:=isAgg240
 z55:=sizeOf240
 v55:=zeroValue240
 t66:=underlying255
 a66:=isAgg255
 z66:=sizeOf255
 v66:=zeroValue255
 t70:=underlying259
 a70:=isAgg259
 z70:=sizeOf259
 v70:=zeroValue259
 t76:=underlying266
 a76:=isAgg266
 z76:=sizeOf266
 v76:=zeroValue266
 t77:=underlying98
 a77:=isAgg98
 z77:=sizeOf98
 v77:=zeroValue98
def Cc (x:List (Int×Int×Int×Int×Unit)×Unit):Option (List (Int×Int×Int×Int×Unit)×Unit):=WV (t:=AZ) CH x
def Anv:Cfg:={ti:=Az,ents:=[Sd],ann:=[],lent:=1}
def XK:Ent:=⟨98,⟨(.own 0 (.fn 90 .nil .nil)),(.lst false AZ .nil)⟩,⟨.nil,(.lst false AZ .nil)⟩,Cc⟩
theorem Abn:Aj prog XK:=A99 Al0 (t:=AZ) rfl rfl isAgg75 sizeOf75 rfl jm
abbrev ji:=Unit
abbrev jc:=Int×(Nat×Nat)×Int×List (B4)×Unit
abbrev je:=Int×List (B4)×Unit
def AL (i:ji)(v:jc)(R:Type)(K:jc ⊕ je->Option R):Option R:=bif decide (v.2.2.1<(↑v.2.1.2:Int))then if 0<=v.2.2.1/\v.2.2.1<(↑v.2.1.2:Int)then v.2.2.2.1[v.2.1.1+v.2.2.1.toNat]?.bind fun a=>if 0<=zXq.wrap (v.2.2.1-1)/\zXq.wrap (v.2.2.1-1)<(↑v.2.1.2:Int)then v.2.2.2.1[v.2.1.1+(zXq.wrap (v.2.2.1-1)).toNat]?.bind fun b=>bif !(a.1==b.1&&(a.2.1==b.2.1&&(a.2.2.1==b.2.2.1&&(a.2.2.2.1==b.2.2.2.1&&true))))then if 0<=v.2.2.1/\v.2.2.1<(↑v.2.1.2:Int)then v.2.2.2.1[v.2.1.1+v.2.2.1.toNat]?.bind fun c=>if 0<=v.1/\v.1<(v.2.2.2.1.length:Int)then v.2.2.2.1[0+v.1.toNat]?.bind fun d=>K (.inl (zXq.wrap (v.1+1),(v.2.1.1,v.2.1.2),zXq.wrap (v.2.2.1+1),v.2.2.2.1.set (0+v.1.toNat) (c.1,c.2.1,c.2.2.1,c.2.2.2.1,()),()))else none else none else K (.inl (v.1,(v.2.1.1,v.2.1.2),zXq.wrap (v.2.2.1+1),v.2.2.2.1,()))else none else none else K (.inr (v.1,v.2.2.2.1,()))
theorem JZ:AW AL:=fun i v R K=>Ad (Ar (Ac fun _=>Ar (Ac fun _=>Ad (Ar (Ac fun _=>Ar (Ac fun _=>Aa))) (Aa)))) (Aa)
def UU:Tmpl:=⟨(.own 0 (jk 2 (.slot .i (.ownR 0 (.slot .i (jk 55 .nil)))))),(.lst false AZ .nil)⟩
def ja:Exs ji je:=x1 (.exit 2) fun i p=>⟨AV.own 0 none none::jn 2 (.n (p.1)::jn 57 ([])),[some (Cont.lst false AZ p.2.1)]⟩
def jg:=((.v (.v (.v (.v .n)))):Pk UU.ty _ _)
abbrev jl:=List (B4)×Unit
abbrev jd:=Int×Unit
abbrev jf:=Nat×List (B4)×Unit ⊕ Unit
def BA (i:jl)(v:jd)(R:Type)(K:jd ⊕ jf->Option R):Option R:=bif decide (v.1<(i.1.length:Int))then if 0<=v.1/\v.1<(i.1.length:Int)then i.1[0+v.1.toNat]?.bind fun a=>if 0<=zXq.wrap (v.1-1)/\zXq.wrap (v.1-1)<(i.1.length:Int)then i.1[0+(zXq.wrap (v.1-1)).toNat]?.bind fun b=>bif a.1==b.1&&(a.2.1==b.2.1&&(a.2.2.1==b.2.2.1&&(a.2.2.2.1==b.2.2.2.1&&true)))then if 0<=v.1/\v.1<=(i.1.length:Int)/\(i.1.length:Int)<=(i.1.length:Int)then(Au (fun v=>AL () v _ some) (v.1,(0+v.1.toNat,(i.1.length:Int).toNat-v.1.toNat),1,i.1,())).bind fun p=>if 0<=p.1/\p.1<=(p.2.1.length:Int)/\(p.2.1.length:Int)<=(p.2.1.length:Int)then if(0:Int)<=0/\0<=p.1/\p.1<=(↑((List.take (0+p.1.toNat) p.2.1++List.replicate ((p.2.1.length:Int).toNat-p.1.toNat) (0,0,0,0,())++List.drop (0+p.1.toNat+((p.2.1.length:Int).toNat-p.1.toNat)) p.2.1).length):Int)then K (.inr (.inl (p.1.toNat-Int.toNat 0,List.take (0+p.1.toNat) p.2.1++List.replicate ((p.2.1.length:Int).toNat-p.1.toNat) (0,0,0,0,())++List.drop (0+p.1.toNat+((p.2.1.length:Int).toNat-p.1.toNat)) p.2.1,())))else none else none else none else K (.inl (zXq.wrap (v.1+1),()))else none else none else K (.inr (.inr ()))
theorem K0:AW BA:=fun i v R K=>Ad (Ar (Ac fun _=>Ar (Ac fun _=>Ad (Ar (Ac fun _=>Ar (Ar (Aa)))) (Aa)))) (Aa)
def UV:Tmpl:=⟨(.own 0 (jk 2 (.slot .i (jk 57 .nil)))),(.lst false AZ .nil)⟩
def jb:Exs jl jf:=xs .ret (fun i p=>⟨AV.own 0 none none::jn 1 (AV.own 0 none (some (0,p.1))::jn 58 ([])),[some (Cont.lst false AZ p.2.1)]⟩)<|x1 (.exit 0) fun i p=>⟨AV.own 0 none none::jn 60 ([]),[some (Cont.lst false AZ i.1)]⟩
def jh:=((.v (.i .n)):Pk UV.ty _ _)
def cD:Cfg:={ti:=Az,ents:=[],ann:=[(9,Ao UU 1 (spP jg) AL ja.E),(4,Ao UV 1 (spP jh) BA jb.E)],lent:=1,cut:=[none]}
def Ds (x:List (B4)×Unit):Option (List (B4)×Unit):=bif decide ((x.1.length:Int)<2)then some (x.1,())else(Au (fun v=>BA (x.1,()) v _ some) (1,())).bind fun p=>Ap p (fun p=>some (List.take p.1 p.2.1,())) fun p=>some (x.1,())
def XJ:Ent:=⟨99,⟨(.own 0 .nil),(.lst false AZ .nil)⟩,⟨(.own 1 .nil),(.gone (.lst false AZ .nil))⟩,Ds⟩
theorem UW:CfgOK prog cD:=hcB all_nil
theorem XI:AN prog cD (lpc f99 1):=lkA UW UU jg AL ja [0,3] JZ
theorem A0j:AN prog cD (lpc f99 0):=lkB UW UV jh BA jb [0,2] K0 XI
theorem Abm:Aj prog XJ:=okC UW func99 A0j XI
abbrev iY:=List (Int×Int×A9)×List (Int×Int×A9)×Int×Int×List A1×Int×Int×Int×A9
abbrev iR:=Int×List (B4)×Unit
abbrev iU:=List (B4)×Unit
def GN (i:iY)(v:iR)(R:Type)(K:iR ⊕ iU->Option R):Option R:=bif decide (v.1<i.2.2.2.2.2.1)then(lAt i.2.2.2.2.1 v.1).bind fun a=>(Ik (i.1,(a.1,a.2.1,()),())).bind fun b=>(FB (b.1,i.2.2.2.2.2.2.1,1,a.1,v.2.1,())).bind fun c=>(GD (i.1,a.1,a.2.1,())).bind fun d=>(FB (i.2.2.2.2.2.2.1,d.1,3,a.1,c.1,())).bind fun e=>K (.inl (zXq.wrap (v.1+1),e.1,()))else K (.inr (v.2.1,()))
theorem Qz:AW GN:=fun i v R K=>Ad (Ac fun _=>Ac fun _=>Ac fun _=>Ac fun _=>Ac fun _=>Aa) (Aa)
def UR:Tmpl:=⟨(.slot (.slice Aw) (jk 2 (.ptr 0 0 0 (.fn 96 (.ptr 0 0 0 .nil) (.junk (.ptr 2 0 0 (jk 6 (.slot (.slice Aw) (si 2 (jk 4 (.slot (.slice A0) (si 2 (jk 50 .nil))))))))))))),(.cells 1 (.own 1 .nil) (.lst false AZ (.cells 4 (si 2 (.slot (.slice A0) (.slot (.slice A0) .nil))) .nil)))⟩
def iP:Exs iY iU:=x1 (.exit 2) fun i p=>⟨AV.pv (.slice Aw) i.1::jn 2 (AV.ptr 0 none 0 0::AV.fn 96 [AV.ptr 0 none 0 0]::jn 1 (AV.ptr 2 none 0 0::jn 6 (AV.pv (.slice Aw) i.2.1::.n (i.2.2.1)::.n (i.2.2.2.1)::jn 57 ([])))),[some (Cont.cells 1 [[AV.own 1 none none]]),some (Cont.lst false AZ p.1),some (Cont.cells 4 [[AV.pv .i i.2.2.2.2.2.2.1,AV.pv .i i.2.2.2.2.2.2.2.1,AV.pv (.slice A0) i.2.2.2.2.2.2.2.2.1,AV.pv (.slice A0) i.2.2.2.2.2.2.2.2.2.1]])]⟩
def iW:=((.i (.i (.i (.i (.i (.i (.v (.v (.i (.i (.i (.i .n)))))))))))):Pk UR.ty _ _)
abbrev XH:=List (Int×Int×A9)×List (Int×Int×A9)×Int×Int×List A1×Int×Int×Int×A9
abbrev XE:=Int×List (B4)×Unit
abbrev XF:=List (B4)×Unit
def FT (i:XH)(v:XE)(R:Type)(K:XE ⊕ XF->Option R):Option R:=bif decide (v.1<i.2.2.2.2.2.1)then(lAt i.2.2.2.2.1 v.1).bind fun a=>(GD (i.1,a.1,i.2.2.2.2.2.2.2.1,())).bind fun b=>(FB (i.2.2.2.2.2.2.1,b.1,2,a.1,v.2.1,())).bind fun c=>K (.inl (zXq.wrap (v.1+1),c.1,()))else K (.inr (v.2.1,()))
theorem Q2:AW FT:=fun i v R K=>Ad (Ac fun _=>Ac fun _=>Ac fun _=>Aa) (Aa)
def Sc:Tmpl:=⟨(.slot (.slice Aw) (jk 2 (.ptr 0 0 0 (.fn 96 (.ptr 0 0 0 .nil) (.junk (.ptr 2 0 0 (jk 6 (.slot (.slice Aw) (si 2 (jk 33 (.slot (.slice A0) (si 2 (jk 21 .nil))))))))))))),(.cells 1 (.own 1 .nil) (.lst false AZ (.cells 4 (si 2 (.slot (.slice A0) (.slot (.slice A0) .nil))) .nil)))⟩
def XD:Exs XH XF:=x1 (.exit 4) fun i p=>⟨AV.pv (.slice Aw) i.1::jn 2 (AV.ptr 0 none 0 0::AV.fn 96 [AV.ptr 0 none 0 0]::jn 8 (AV.pv (.slice Aw) i.2.1::.n (i.2.2.1)::.n (i.2.2.2.1)::jn 57 ([]))),[some (Cont.cells 1 [[AV.own 1 none none]]),some (Cont.lst false AZ p.1),some (Cont.cells 4 [[AV.pv .i i.2.2.2.2.2.2.1,AV.pv .i i.2.2.2.2.2.2.2.1,AV.pv (.slice A0) i.2.2.2.2.2.2.2.2.1,AV.pv (.slice A0) i.2.2.2.2.2.2.2.2.2.1]])]⟩
def XG:=((.i (.i (.i (.i (.i (.i (.v (.v (.i (.i (.i (.i .n)))))))))))):Pk Sc.ty _ _)
abbrev iZ:=List (Int×Int×A9)×List (Int×Int×A9)×Int×Unit
abbrev iT:=Int×List (B4)×Unit
abbrev iV:=List (B4)×Unit
def GO (i:iZ)(v:iT)(R:Type)(K:iT ⊕ iV->Option R):Option R:=bif decide (v.1<i.2.2.1)then(lAt i.2.1 v.1).bind fun a=>(Au (fun b=>GN (i.1,i.2.1,i.2.2.1,v.1,a.2.2.1,(a.2.2.1.length:Int),a.1,a.2.1,a.2.2.1,a.2.2.2.1,()) b _ some) (0,v.2.1,())).bind fun p=>(Au (fun b=>FT (i.1,i.2.1,i.2.2.1,v.1,a.2.2.2.1,(a.2.2.2.1.length:Int),a.1,a.2.1,a.2.2.1,a.2.2.2.1,()) b _ some) (0,p.1,())).bind fun p=>K (.inl (zXq.wrap (v.1+1),p.1,()))else K (.inr (v.2.1,()))
theorem QA:AW GO:=fun i v R K=>Ad (Ac fun _=>Ac fun _=>Ac fun _=>Aa) (Aa)
def US:Tmpl:=⟨(.slot (.slice Aw) (jk 2 (.ptr 0 0 0 (.fn 96 (.ptr 0 0 0 .nil) (jk 8 (.slot (.slice Aw) (si 2 (jk 57 .nil)))))))),(.cells 1 (.own 1 .nil) (.lst false AZ .nil))⟩
def iQ:Exs iZ iV:=x1 (.exit 0) fun i p=>⟨jn 3 (AV.ptr 0 none 0 0::jn 69 ([])),[some (Cont.cells 1 [[AV.own 1 none none]]),some (Cont.lst false AZ p.1)]⟩
def iX:=((.i (.i (.i (.v (.v .n))))):Pk US.ty _ _)
def UT:Cfg:={ti:=Az,ents:=[XM,XK,XJ,Sg,XL],ann:=[(7,Ao UR 0 (spP iW) GN iP.E),(13,Ao Sc 0 (spP XG) FT XD.E),(4,Ao US 0 (spP iX) GO iQ.E)],lent:=0}
def Kf (x:List (Int×Int×A9)×Unit):Option (List (B4)×Unit):=(Au (fun v=>GO (x.1,x.1,(x.1.length:Int),()) v _ some) (0,[],())).bind fun p=>(Cc (p.1,())).bind fun v=>(Ds (v.1,())).bind fun v=>some (v.1,())
def A0i:Ent:=⟨43,⟨(.slot (.slice Aw) .nil),.nil⟩,⟨(.own 0 .nil),(.lst false AZ .nil)⟩,Kf⟩
theorem RL:CfgOK prog UT:=hcB (all_cons Abp (all_cons Abn (all_cons Abm (all_cons jD (all_cons Abo all_nil)))))
theorem TE:AN prog UT (lpc f43 2):=lkA RL Sc XG FT XD [0,3,4,13,14,15] Q2
theorem XC:AN prog UT (lpc f43 1):=lkA RL UR iW GN iP [0,3,4,6,13,14,15] Qz
theorem A0h:AN prog UT (lpc f43 0):=lkC RL US iX GO iQ [3] QA XC TE
theorem Abl:Aj prog A0i:=ME RL func43 3 (by kernel_rfl) (fun k hk=>match k,hk with|0,_=>A0h|1,_=>XC|2,_=>TE) (by kernel_rfl) (by kernel_rfl) (fun x=>by kernel_rfl)
def IL (x:List (Int×Int×A9)×Unit):Option (List (B4)×Unit):=(Jm (x.1,())).bind fun v=>bif !v.1 then some ([],())else(Kf (x.1,())).bind fun v=>some (v.1,())
def A04:Ent:=⟨22,⟨(.slot (.slice Aw) .nil),.nil⟩,⟨(.own 0 .nil),(.lst false AZ .nil)⟩,IL⟩
theorem Abj:Aj prog A04:=okA (hcA 0 (all_cons Abq (all_cons Abl all_nil))) func22
abbrev iK:=List (B4)×List (B4)×Int×Unit
abbrev iG:=Int×Unit
abbrev iH:=B4 ⊕ B4 ⊕ B4 ⊕ B4 ⊕ B4 ⊕ B4 ⊕ Unit
def FG (i:iK)(v:iG)(R:Type)(K:iG ⊕ iH->Option R):Option R:=bif decide (v.1<i.2.2.1)then(lAt i.2.1 v.1).bind fun a=>(BB (a.1,())).bind fun b=>bif !b.1 then K (.inr (.inl (a.1,a.2.1,a.2.2.1,a.2.2.2.1,())))else(BB (a.2.1,())).bind fun c=>bif !c.1 then K (.inr (.inr (.inl (a.1,a.2.1,a.2.2.1,a.2.2.2.1,()))))else bif a.1==a.2.1 then K (.inr (.inr (.inr (.inl (a.1,a.2.1,a.2.2.1,a.2.2.2.1,())))))else(BJ (a.2.2.1,1,3,())).bind fun d=>bif !d.1 then K (.inr (.inr (.inr (.inr (.inl (a.1,a.2.1,a.2.2.1,a.2.2.2.1,()))))))else(DX (a.2.2.2.1,())).bind fun e=>bif !e.1 then K (.inr (.inr (.inr (.inr (.inr (.inl (a.1,a.2.1,a.2.2.1,a.2.2.2.1,())))))))else bif decide (v.1>0)then(lAt i.1 (zXq.wrap (v.1-1))).bind fun f=>(CH ((f.1,f.2.1,f.2.2.1,f.2.2.2.1,()),(a.1,a.2.1,a.2.2.1,a.2.2.2.1,()),())).bind fun g=>bif decide (g.1>=0)then K (.inr (.inr (.inr (.inr (.inr (.inr (.inl (a.1,a.2.1,a.2.2.1,a.2.2.2.1,()))))))))else K (.inl (zXq.wrap (v.1+1),()))else K (.inl (zXq.wrap (v.1+1),()))else K (.inr (.inr (.inr (.inr (.inr (.inr (.inr ())))))))
theorem OD:AW FG:=fun i v R K=>Ad (Ac fun _=>Ac fun _=>Ad (Aa) (Ac fun _=>Ad (Aa) (Ad (Aa) (Ac fun _=>Ad (Aa) (Ac fun _=>Ad (Aa) (Ad (Ac fun _=>Ac fun _=>Ad (Aa) (Aa)) (Aa))))))) (Aa)
def UQ:Tmpl:=⟨(.slot (.slice AZ) (jk 4 (.slot (.slice AZ) (si 2 (jk 48 .nil))))),.nil⟩
def iE:Exs iK iH:=xs .ret (fun i p=>⟨jn 2 (.b (false)::jn 53 ([])),[some (Cont.cells 4 [[AV.pv .i p.1,AV.pv .i p.2.1,AV.pv .i p.2.2.1,AV.pv .i p.2.2.2.1]])]⟩)<|xs .ret (fun i p=>⟨jn 2 (.b (false)::jn 53 ([])),[some (Cont.cells 4 [[AV.pv .i p.1,AV.pv .i p.2.1,AV.pv .i p.2.2.1,AV.pv .i p.2.2.2.1]])]⟩)<|xs .ret (fun i p=>⟨jn 2 (.b (false)::jn 53 ([])),[some (Cont.cells 4 [[AV.pv .i p.1,AV.pv .i p.2.1,AV.pv .i p.2.2.1,AV.pv .i p.2.2.2.1]])]⟩)<|xs .ret (fun i p=>⟨jn 2 (.b (false)::jn 53 ([])),[some (Cont.cells 4 [[AV.pv .i p.1,AV.pv .i p.2.1,AV.pv .i p.2.2.1,AV.pv .i p.2.2.2.1]])]⟩)<|xs .ret (fun i p=>⟨jn 2 (.b (false)::jn 53 ([])),[some (Cont.cells 4 [[AV.pv .i p.1,AV.pv .i p.2.1,AV.pv .i p.2.2.1,AV.pv .i p.2.2.2.1]])]⟩)<|xs .ret (fun i p=>⟨jn 2 (.b (false)::jn 53 ([])),[some (Cont.cells 4 [[AV.pv .i p.1,AV.pv .i p.2.1,AV.pv .i p.2.2.1,AV.pv .i p.2.2.2.1]])]⟩)<|x1 (.exit 0) fun i p=>⟨jn 56 ([]),[]⟩
def iI:=((.i (.i (.i (.v .n)))):Pk UQ.ty _ _)
def A03:Cfg:={ti:=Az,ents:=[Qg,RH,Qf,Sd],ann:=[(2,Ao UQ 0 (spP iI) FG iE.E)],lent:=0}
def Il (x:List (B4)×Unit):Option (Bool×Unit):=(Au (fun v=>FG (x.1,x.1,(x.1.length:Int),()) v _ some) (0,())).bind fun p=>Ap p (fun p=>some (false,())) fun p=>Ap p (fun p=>some (false,())) fun p=>Ap p (fun p=>some (false,())) fun p=>Ap p (fun p=>some (false,())) fun p=>Ap p (fun p=>some (false,())) fun p=>Ap p (fun p=>some (false,())) fun p=>some (true,())
def XB:Ent:=⟨40,⟨(.slot (.slice AZ) .nil),.nil⟩,⟨(.slot .bool .nil),.nil⟩,Il⟩
theorem iL:CfgOK prog A03:=hcB (all_cons M5 (all_cons L3 (all_cons QQ (all_cons jm all_nil))))
theorem A02:AN prog A03 (lpc f40 0):=lkA iL UQ iI FG iE [2] OD
theorem iJ:Aj prog XB:=okB iL func40 A02
abbrev iD:=List (B4)×Int×List Int×Unit
abbrev iw:=Int×List Int×Unit
abbrev iz:=List Int×Unit
def EW (i:iD)(v:iw)(R:Type)(K:iw ⊕ iz->Option R):Option R:=bif decide (v.1<10)then if 1=1/\0<=v.1/\v.1<(↑10:Int)then v.2.1[v.1.toNat]?.bind fun a=>K (.inl (zXq.wrap (v.1+1),v.2.1.set (v.1.toNat) (-1),()))else none else K (.inr (v.2.1,()))
theorem NX:AW EW:=fun i v R K=>Ad (Ar (Ac fun _=>Aa)) (Aa)
def UO:Tmpl:=⟨(.slot (.slice AZ) (.slot .i (jk 2 (.ptr 0 0 0 (.ptr 1 0 0 (jk 7 (.slot .i (jk 42 .nil)))))))),(.lst false .i (.lst false .i .nil))⟩
def iu:Exs iD iz:=x1 (.exit 0) fun i p=>⟨AV.pv (.slice AZ) i.1::.n (i.2.1)::jn 2 (AV.ptr 0 none 0 0::AV.ptr 1 none 0 0::jn 50 ([])),[some (Cont.lst false .i i.2.2.1),some (Cont.lst false .i p.1)]⟩
def iB:=((.i (.i (.v (.i (.v .n))))):Pk UO.ty _ _)
abbrev Xz:=List (B4)×Int×List (B4)×Int×List Int×List Int×Unit
abbrev Xw:=Int×List Int×List Int×Unit
abbrev Xx:=List Int×List Int×Unit
def Cu (i:Xz)(v:Xw)(R:Type)(K:Xw ⊕ Xx->Option R):Option R:=bif decide (v.1<i.2.2.2.1)then(lAt i.2.2.1 v.1).bind fun a=>(CM (i.2.2.2.2.2.1,a.2.1,())).bind fun b=>bif b.1 then if 1=1/\0<=a.1/\a.1<(↑10:Int)then v.2.1[a.1.toNat]?.bind fun c=>bif decide (c<0)then if 1=1/\0<=a.1/\a.1<(↑10:Int)then v.2.1[a.1.toNat]?.bind fun d=>if(v.2.2.1++[a.1]).length<=4398046511104 then K (.inl (zXq.wrap (v.1+1),v.2.1.set (a.1.toNat) i.2.1,v.2.2.1++[a.1],()))else none else none else K (.inl (zXq.wrap (v.1+1),v.2.1,v.2.2.1,()))else none else K (.inl (zXq.wrap (v.1+1),v.2.1,v.2.2.1,()))else K (.inr (v.2.1,v.2.2.1,()))
theorem Nd:AW Cu:=fun i v R K=>Ad (Ac fun _=>Ac fun _=>Ad (Ar (Ac fun _=>Ad (Ar (Ac fun _=>Ar (Aa))) (Aa))) (Aa)) (Aa)
def Sb:Tmpl:=⟨(.slot (.slice AZ) (jk 3 (.ptr 0 0 0 (.ptr 1 0 0 (.junk (.own 2 (.slot .i (.own 3 (jk 17 (.slot (.slice AZ) (si 2 (jk 26 .nil)))))))))))),(.lst false .i (.lst false .i (.lst false .i (.lst false .i .nil))))⟩
def Xv:Exs Xz Xx:=x1 (.exit 4) fun i p=>⟨AV.pv (.slice AZ) i.1::jn 3 (AV.ptr 0 none 0 0::AV.ptr 1 none 0 0::jn 2 (.n (i.2.1)::AV.own 3 none none::jn 46 ([]))),[some (Cont.lst false .i i.2.2.2.2.1),some (Cont.lst false .i p.1),some (Cont.lst false .i i.2.2.2.2.2.1),some (Cont.lst false .i p.2.1)]⟩
def Xy:=((.i (.i (.i (.i (.v (.i (.v (.i (.v .n))))))))):Pk Sb.ty _ _)
abbrev iC:=List (B4)×List Int×Unit
abbrev iv:=Int×List Int×List Int×Unit
abbrev iy:=List Int×List Int×Unit
def DY (i:iC)(v:iv)(R:Type)(K:iv ⊕ iy->Option R):Option R:=bif decide ((v.2.2.1.length:Int)>0)then(Au (fun a=>Cu (i.1,v.1,i.1,(i.1.length:Int),i.2.1,v.2.2.1,()) a _ some) (0,v.2.1,[],())).bind fun p=>K (.inl (zXq.wrap (v.1+1),p.1,p.2.1,()))else K (.inr (v.2.1,v.2.2.1,()))
theorem NW:AW DY:=fun i v R K=>Ad (Ac fun _=>Aa) (Aa)
def UN:Tmpl:=⟨(.slot (.slice AZ) (jk 3 (.ptr 0 0 0 (.ptr 1 0 0 (.junk (.own 2 (.slot .i (jk 47 .nil)))))))),(.lst false .i (.lst false .i (.lst false .i .nil)))⟩
def it:Exs iC iy:=x1 (.exit 2) fun i p=>⟨jn 4 (AV.ptr 0 none 0 0::AV.ptr 1 none 0 0::jn 50 ([])),[some (Cont.lst false .i i.2.1),some (Cont.lst false .i p.1),some (Cont.lst false .i p.2.1)]⟩
def iA:=((.i (.v (.i (.v (.v .n))))):Pk UN.ty _ _)
def UP:Cfg:={ti:=Az,ents:=[Sk],ann:=[(3,Ao UO 0 (spP iB) EW iu.E),(13,Ao Sb 0 (spP Xy) Cu Xv.E),(9,Ao UN 0 (spP iA) DY it.E)],lent:=0}
def Hv (x:List (B4)×Int×Unit):Option (Int×Int×Int×Int×A6):=(Au (fun v=>EW (x.1,x.2.1,[0,0,0,0,0,0,0,0,0,0],()) v _ some) (0,[0,0,0,0,0,0,0,0,0,0],())).bind fun p=>(Au (fun v=>DY (x.1,[0,0,0,0,0,0,0,0,0,0],()) v _ some) (1,p.1,[x.2.1],())).bind fun p=>p.1[0]?.bind fun v=>p.1[0+1]?.bind fun a=>p.1[0+1+1]?.bind fun b=>p.1[0+1+1+1]?.bind fun c=>p.1[0+1+1+1+1]?.bind fun d=>p.1[0+1+1+1+1+1]?.bind fun e=>p.1[0+1+1+1+1+1+1]?.bind fun f=>p.1[0+1+1+1+1+1+1+1]?.bind fun g=>p.1[0+1+1+1+1+1+1+1+1]?.bind fun h=>p.1[0+1+1+1+1+1+1+1+1+1]?.bind fun j=>some (v,a,b,c,d,e,f,g,h,j,())
def XA:Ent:=⟨91,⟨(.slot (.slice AZ) (.slot .i .nil)),.nil⟩,⟨(.agg (si 10 .nil) .nil),.nil⟩,Hv⟩
theorem RK:CfgOK prog UP:=hcB (all_cons nL all_nil)
theorem TD:AN prog UP (lpc f91 2):=lkA RK Sb Xy Cu Xv [0,4,5,8,9] Nd
theorem A00:AN prog UP (lpc f91 1):=lkB RK UN iA DY it [4,5] NW TD
theorem A01:AN prog UP (lpc f91 0):=lkA RK UO iB EW iu [0,1,4,5] NX
theorem Abi:Aj prog XA:=ME RK func91 3 (by kernel_rfl) (fun k hk=>match k,hk with|0,_=>A01|1,_=>A00|2,_=>TD) (by kernel_rfl) (by kernel_rfl) (fun x=>by kernel_rfl)
def KA (x:(B4)×Option Int×Option Int×Unit):Option (Bool×Unit):=x.2.1.bind fun v=>bif x.1.1==v then x.2.2.1.bind fun v=>some (x.1.2.1==v,())else some (false,())
def Xu:Ent:=⟨158,⟨(.slot AZ (.slot (.iref .i) (.slot (.iref .i) .nil))),.nil⟩,⟨(.slot .bool .nil),.nil⟩,KA⟩
theorem Abh:Aj prog Xu:=okA (hcA 0 all_nil) func158
abbrev iq:=List (B4)×(Option Int×Option Int×Unit)×Int×Unit
abbrev im:=Int×Unit
abbrev io:=Int×Unit ⊕ Unit
def Ba (i:iq)(v:im)(R:Type)(K:im ⊕ io->Option R):Option R:=bif decide (v.1<i.2.2.1)then(lAt i.1 v.1).bind fun a=>(KA ((a.1,a.2.1,a.2.2.1,a.2.2.2.1,()),i.2.1.1,i.2.1.2.1,())).bind fun b=>bif b.1 then K (.inr (.inl (v.1,())))else K (.inl (zXq.wrap (v.1+1),()))else K (.inr (.inr ()))
theorem IP:AW Ba:=fun i v R K=>Ad (Ac fun _=>Ac fun _=>Ad (Aa) (Aa)) (Aa)
def UM:Tmpl:=⟨(.slot (.slice AZ) (.slot (.fn 158 (.prod (.iref .i) (.prod (.iref .i) .unit))) (jk 5 (si 2 (jk 10 .nil))))),.nil⟩
def il:Exs iq io:=xs .ret (fun i p=>⟨jn 4 (.n (p.1)::jn 14 ([])),[]⟩)<|x1 (.exit 0) fun i p=>⟨jn 19 ([]),[]⟩
def ip:=((.i (.i (.i (.v .n)))):Pk UM.ty _ _)
def zZ:Cfg:={ti:=Az,ents:=[Xu],ann:=[(2,Ao UM 0 (spP ip) Ba il.E)],lent:=0}
def Cr (x:List (B4)×(Option Int×Option Int×Unit)×Unit):Option (Int×Unit):=(Au (fun v=>Ba (x.1,x.2.1,(x.1.length:Int),()) v _ some) (0,())).bind fun p=>Ap p (fun p=>some (p.1,())) fun p=>some (-1,())
def zY:Ent:=⟨213,⟨(.slot (.slice AZ) (.slot (.fn 158 (.prod (.iref .i) (.prod (.iref .i) .unit))) .nil)),.nil⟩,⟨(.slot .i .nil),.nil⟩,Cr⟩
theorem ir:CfgOK prog zZ:=hcB (all_cons Abh all_nil)
theorem zX:AN prog zZ (lpc f213 0):=lkA ir UM ip Ba il [4] IP
theorem Abg:Aj prog zY:=okB ir func213 zX
def D2 (x:List (B4)×(Option Int×Option Int×Unit)×Unit):Option (Bool×Unit):=(Cr (x.1,x.2.1,())).bind fun v=>some (decide (v.1>=0),())
def zW:Ent:=⟨157,⟨(.slot (.slice AZ) (.slot (.fn 158 (.prod (.iref .i) (.prod (.iref .i) .unit))) .nil)),.nil⟩,⟨(.slot .bool .nil),.nil⟩,D2⟩
theorem Abf:Aj prog zW:=okA (hcA 0 (all_cons Abg all_nil)) func157
def Kg (x:List (B4)×Int×Int×Unit):Option (Bool×Unit):=(D2 (x.1,(some x.2.1,some x.2.2.1,()),())).bind fun v=>some (v.1,())
def Xt:Ent:=⟨92,⟨(.slot (.slice AZ) (si 2 .nil)),.nil⟩,⟨(.slot .bool .nil),.nil⟩,Kg⟩
theorem Abe:Aj prog Xt:=okA (hcA 0 (all_cons Abf all_nil)) func92
abbrev ik:=List (B4)×Unit
abbrev ig:=B3
abbrev ii:=Int×Int×Unit
def Dj (i:ik)(v:ig)(R:Type)(K:ig ⊕ ii->Option R):Option R:=bif decide (v.2.2.1<=9)then(Hv (i.1,v.2.2.1,())).bind fun a=>if 0<=v.2.2.1/\v.2.2.1<(↑10:Int)then(lAt [a.1,a.2.1,a.2.2.1,a.2.2.2.1,a.2.2.2.2.1,a.2.2.2.2.2.1,a.2.2.2.2.2.2.1,a.2.2.2.2.2.2.2.1,a.2.2.2.2.2.2.2.2.1,a.2.2.2.2.2.2.2.2.2.1] v.2.2.1).bind fun b=>bif decide (b>0)then bif v.1==0 then K (.inl (v.2.2.1,b,zXq.wrap (v.2.2.1+1),()))else bif decide (b<v.2.1)then K (.inl (v.2.2.1,b,zXq.wrap (v.2.2.1+1),()))else K (.inl (v.1,v.2.1,zXq.wrap (v.2.2.1+1),()))else K (.inl (v.1,v.2.1,zXq.wrap (v.2.2.1+1),()))else none else K (.inr (v.1,v.2.1,()))
theorem LR:AW Dj:=fun i v R K=>Ad (Ac fun _=>Ar (Ac fun _=>Ad (Ad (Aa) (Ad (Aa) (Aa))) (Aa))) (Aa)
def UK:Tmpl:=⟨(.slot (.slice AZ) (jk 2 (si 3 (jk 68 .nil)))),.nil⟩
def ic:Exs ik ii:=x1 (.exit 0) fun i p=>⟨AV.pv (.slice AZ) i.1::jn 2 (.n (p.1)::.n (p.2.1)::jn 69 ([])),[]⟩
def ij:=((.i (.v (.v (.v .n)))):Pk UK.ty _ _)
abbrev Xr:=List (B4)×Int×List Int×List Int×Unit
abbrev Xl:=Int×Unit
abbrev Xn:=List Int×List Int×Unit ⊕ Unit
def D5 (i:Xr)(v:Xl)(R:Type)(K:Xl ⊕ Xn->Option R):Option R:=bif decide (v.1<=9)then if 1=1/\0<=v.1/\v.1<(↑10:Int)then i.2.2.2.1[v.1.toNat]?.bind fun a=>bif a==i.2.1 then if 0<=zXq.wrap ((i.2.2.1.length:Int)-1)/\zXq.wrap ((i.2.2.1.length:Int)-1)<(i.2.2.1.length:Int)then i.2.2.1[0+(zXq.wrap ((i.2.2.1.length:Int)-1)).toNat]?.bind fun b=>(Kg (i.1,b,v.1,())).bind fun c=>bif c.1 then if(i.2.2.1++[v.1]).length<=4398046511104 then K (.inr (.inl ([v.1],i.2.2.1++[v.1],())))else none else K (.inl (zXq.wrap (v.1+1),()))else none else K (.inl (zXq.wrap (v.1+1),()))else none else K (.inr (.inr ()))
theorem LJ:AW D5:=fun i v R K=>Ad (Ar (Ac fun _=>Ad (Ar (Ac fun _=>Ac fun _=>Ad (Ar (Aa)) (Aa))) (Aa))) (Aa)
def S9:Tmpl:=⟨(.slot (.slice AZ) (jk 6 (.own 0 (.ptr 1 0 0 (si 2 (jk 63 .nil)))))),(.lst false .i (.lst false .i .nil))⟩
def Xj:Exs Xr Xn:=xs (.exit 4) (fun i p=>⟨AV.pv (.slice AZ) i.1::jn 6 (AV.own 3 none none::AV.ptr 1 none 0 0::.n (i.2.1)::jn 64 ([])),[some Cont.dead,some (Cont.lst false .i i.2.2.2.1),some (Cont.lst false .i p.1),some (Cont.lst false .i p.2.1)]⟩)<|x1 (.exit 4) fun i p=>⟨AV.pv (.slice AZ) i.1::jn 6 (AV.own 0 none none::AV.ptr 1 none 0 0::.n (i.2.1)::jn 64 ([])),[some (Cont.lst false .i i.2.2.1),some (Cont.lst false .i i.2.2.2.1)]⟩
def Xp:=((.i (.i (.v (.i (.i .n))))):Pk S9.ty _ _)
abbrev Xs:=List (B4)×List Int×Unit
abbrev Xm:=Int×List Int×Unit
abbrev Xo:=List Int×Unit
def BV (i:Xs)(v:Xm)(R:Type)(K:Xm ⊕ Xo->Option R):Option R:=bif decide (v.1>0)then(Au (fun a=>D5 (i.1,v.1,v.2.1,i.2.1,()) a _ some) (1,())).bind fun p=>Ap p (fun p=>K (.inl (zXq.wrap (v.1-1),p.2.1,()))) fun p=>K (.inl (zXq.wrap (v.1-1),v.2.1,()))else K (.inr (v.2.1,()))
theorem LK:AW BV:=fun i v R K=>Ad (Ac fun _=>KH (fun _=>Aa) (fun _=>Aa)) (Aa)
def Sa:Tmpl:=⟨(.slot (.slice AZ) (jk 6 (.own 0 (.ptr 1 0 0 (.slot .i (jk 64 .nil)))))),(.lst false .i (.lst false .i .nil))⟩
def Xk:Exs Xs Xo:=x1 (.exit 2) fun i p=>⟨jn 7 (AV.own 0 none none::jn 66 ([])),[some (Cont.lst false .i p.1),some (Cont.lst false .i i.2.1)]⟩
def Xq:=((.i (.v (.v (.i .n)))):Pk Sa.ty _ _)
def UL:Cfg:={ti:=Az,ents:=[XB,XA,Xt],ann:=[(5,Ao UK 0 (spP ij) Dj ic.E),(17,Ao S9 0 (spP Xp) D5 Xj.E),(14,Ao Sa 0 (spP Xq) BV Xk.E)],lent:=0}
def GC (x:List (B4)×Unit):Option (List Int×Unit):=(Il (x.1,())).bind fun v=>bif !v.1 then some ([],())else(Au (fun v=>Dj (x.1,()) v _ some) (0,0,1,())).bind fun p=>bif p.1==0 then some ([],())else(Hv (x.1,p.1,())).bind fun v=>(Au (fun a=>BV (x.1,[v.1,v.2.1,v.2.2.1,v.2.2.2.1,v.2.2.2.2.1,v.2.2.2.2.2.1,v.2.2.2.2.2.2.1,v.2.2.2.2.2.2.2.1,v.2.2.2.2.2.2.2.2.1,v.2.2.2.2.2.2.2.2.2.1],()) a _ some) (zXq.wrap (p.2.1-1),[p.1],())).bind fun p=>some (p.1,())
def zV:Ent:=⟨41,⟨(.slot (.slice AZ) .nil),.nil⟩,⟨(.own 0 .nil),(.lst false .i .nil)⟩,GC⟩
theorem RJ:CfgOK prog UL:=hcB (all_cons iJ (all_cons Abi (all_cons Abe all_nil)))
theorem TC:AN prog UL (lpc f41 2):=lkA RJ S9 Xp D5 Xj [0,7,8,9] LJ
theorem rD:AN prog UL (lpc f41 1):=lkB RJ Sa Xq BV Xk [7] LK TC
theorem zU:AN prog UL (lpc f41 0):=lkA RJ UK ij Dj ic [0,3,4] LR
theorem Abd:Aj prog zV:=ME RJ func41 3 (by kernel_rfl) (fun k hk=>match k,hk with|0,_=>zU|1,_=>rD|2,_=>TC) (by kernel_rfl) (by kernel_rfl) (fun x=>by kernel_rfl)
def Jn (x:List (B4)×Unit):Option (Bool×Unit):=(Il (x.1,())).bind fun v=>bif v.1 then(GC (x.1,())).bind fun v=>some ((v.1.length:Int)==0,())else some (false,())
def zT:Ent:=⟨21,⟨(.slot (.slice AZ) .nil),.nil⟩,⟨(.slot .bool .nil),.nil⟩,Jn⟩
theorem Abc:Aj prog zT:=okA (hcA 0 (all_cons iJ (all_cons Abd all_nil))) func21
def F7 (x:List (List A6)×Unit):Option (Int×Int×Bool×Unit):=(FU (x.1,())).bind fun v=>bif !v.1 then some (0,0,false,())else(J1 (true,x.1,())).bind fun v=>(J1 (false,x.1,())).bind fun a=>(Eh ((v.1,(v.2.2.1,()),v.2.2.2.1,v.2.2.2.2.1,v.2.2.2.2.2.1,v.2.1,()),())).bind fun v=>(Eh ((a.1,(a.2.2.1,()),a.2.2.2.1,a.2.2.2.2.1,a.2.2.2.2.2.1,a.2.1,()),())).bind fun b=>(Jo ((a.1,(a.2.2.1,()),a.2.2.2.1,a.2.2.2.2.1,a.2.2.2.2.2.1,a.2.1,()),())).bind fun c=>(IL (c.1,())).bind fun d=>(Jn (d.1,())).bind fun e=>some (v.1,b.1,e.1,())
def zS:Ent:=⟨7,⟨(.slot (.slice (.slice YOp)) .nil),.nil⟩,⟨(si 2 (.slot .bool .nil)),.nil⟩,F7⟩
theorem Abb:Aj prog zS:=okA (hcA 0 (all_cons tJ (all_cons Acu (all_cons Acr (all_cons Abz (all_cons Abj (all_cons Abc all_nil))))))) func7
def LX (x:A6×A6×Unit):Option (Bool×Unit):=bif x.1.1 != x.2.1.1 then some (false,())else bif x.1.2.1 != x.2.1.2.1 then some (false,())else bif x.1.2.2.1 != x.2.1.2.2.1 then some (false,())else bif x.1.2.2.2.1 != x.2.1.2.2.2.1 then some (false,())else bif x.1.2.2.2.2.1 != x.2.1.2.2.2.2.1 then some (false,())else bif x.1.2.2.2.2.2.1 != x.2.1.2.2.2.2.2.1 then some (false,())else some (true,())
def Xi:Ent:=⟨49,⟨(.slot YOp (.slot YOp .nil)),.nil⟩,⟨(.slot .bool .nil),.nil⟩,LX⟩
theorem Aba:Aj prog Xi:=okA (hcA 0 all_nil) func49
abbrev ia:=List A6×List A6×Unit
abbrev hX:=Int×Unit
abbrev hY:=Unit ⊕ Unit
def It (i:ia)(v:hX)(R:Type)(K:hX ⊕ hY->Option R):Option R:=bif decide (v.1<(i.1.length:Int))then(lAt i.1 v.1).bind fun a=>(lAt i.2.1 v.1).bind fun b=>(LX ((a.1,a.2.1,a.2.2.1,a.2.2.2.1,a.2.2.2.2.1,a.2.2.2.2.2.1,()),(b.1,b.2.1,b.2.2.1,b.2.2.2.1,b.2.2.2.2.1,b.2.2.2.2.2.1,()),())).bind fun c=>bif !c.1 then K (.inr (.inl ()))else K (.inl (zXq.wrap (v.1+1),()))else K (.inr (.inr ()))
theorem Qt:AW It:=fun i v R K=>Ad (Ac fun _=>Ac fun _=>Ac fun _=>Ad (Aa) (Aa)) (Aa)
def UI:Tmpl:=⟨(.slot (.slice YOp) (.slot (.slice YOp) (jk 3 (.slot .i (jk 21 .nil))))),.nil⟩
def hU:Exs ia hY:=xs .ret (fun i p=>⟨jn 4 (.b (false)::jn 22 ([])),[]⟩)<|x1 (.exit 0) fun i p=>⟨jn 27 ([]),[]⟩
def hZ:=((.i (.i (.v .n))):Pk UI.ty _ _)
def zQ:Cfg:={ti:=Az,ents:=[Xi],ann:=[(4,Ao UI 0 (spP hZ) It hU.E)],lent:=0}
def Lm (x:List A6×List A6×Unit):Option (Bool×Unit):=bif (x.1.length:Int) != (x.2.1.length:Int)then some (false,())else(Au (fun v=>It (x.1,x.2.1,()) v _ some) (0,())).bind fun p=>Ap p (fun p=>some (false,())) fun p=>some (true,())
def Xh:Ent:=⟨24,⟨(.slot (.slice YOp) (.slot (.slice YOp) .nil)),.nil⟩,⟨(.slot .bool .nil),.nil⟩,Lm⟩
theorem ib:CfgOK prog zQ:=hcB (all_cons Aba all_nil)
theorem zP:AN prog zQ (lpc f24 0):=lkA ib UI hZ It hU [4] Qt
theorem Ab9:Aj prog Xh:=okB ib func24 zP
abbrev gY:=List (List A6)×List (List A6)×Unit
abbrev gT:=Int×Unit
abbrev gU:=Unit ⊕ Unit
def Ht (i:gY)(v:gT)(R:Type)(K:gT ⊕ gU->Option R):Option R:=bif decide (v.1<(i.1.length:Int))then(lAt i.1 v.1).bind fun a=>(lAt i.2.1 v.1).bind fun b=>(Lm (a,b,())).bind fun c=>bif !c.1 then K (.inr (.inl ()))else K (.inl (zXq.wrap (v.1+1),()))else K (.inr (.inr ()))
theorem PZ:AW Ht:=fun i v R K=>Ad (Ac fun _=>Ac fun _=>Ac fun _=>Ad (Aa) (Aa)) (Aa)
def UH:Tmpl:=⟨(.slot (.slice (.slice YOp)) (.slot (.slice (.slice YOp)) (jk 3 (.slot .i (jk 21 .nil))))),.nil⟩
def gS:Exs gY gU:=xs .ret (fun i p=>⟨jn 4 (.b (false)::jn 22 ([])),[]⟩)<|x1 (.exit 0) fun i p=>⟨jn 27 ([]),[]⟩
def gV:=((.i (.i (.v .n))):Pk UH.ty _ _)
def zO:Cfg:={ti:=Az,ents:=[Xh],ann:=[(4,Ao UH 0 (spP gV) Ht gS.E)],lent:=0}
def KJ (x:List (List A6)×List (List A6)×Unit):Option (Bool×Unit):=bif (x.1.length:Int) != (x.2.1.length:Int)then some (false,())else(Au (fun v=>Ht (x.1,x.2.1,()) v _ some) (0,())).bind fun p=>Ap p (fun p=>some (false,())) fun p=>some (true,())
def zN:Ent:=⟨8,⟨(.slot (.slice (.slice YOp)) (.slot (.slice (.slice YOp)) .nil)),.nil⟩,⟨(.slot .bool .nil),.nil⟩,KJ⟩
theorem gZ:CfgOK prog zO:=hcB (all_cons Ab9 all_nil)
theorem zM:AN prog zO (lpc f8 0):=lkA gZ UH gV Ht gS [4] PZ
theorem Ab8:Aj prog zN:=okB gZ func8 zM
def Ey (x:List (List A6)×Unit):Option (Bool×Unit):=(Mf (x.1,1048576,())).bind fun v=>bif decide (v.1<0)then some (true,())else(Ir (x.1,())).bind fun v=>(EU (v.1,())).bind fun v=>(Ir (x.1,())).bind fun a=>(F7 (a.1,())).bind fun b=>bif b.1 != v.1 then some (false,())else bif b.2.1 != v.2.1 then some (false,())else bif !b.2.2.1==v.2.2.1 then some (false,())else(Ir (x.1,())).bind fun v=>(KJ (a.1,v.1,())).bind fun v=>bif !v.1 then some (false,())else some (true,())
def Xg:Ent:=⟨3,⟨(.slot (.slice (.slice YOp)) .nil),.nil⟩,⟨(.slot .bool .nil),.nil⟩,Ey⟩
theorem Ab7:Aj prog Xg:=okA (hcA 0 (all_cons Ana (all_cons An4 (all_cons Ajp (all_cons Abb (all_cons Ab8 all_nil)))))) func3
theorem laws_FnExactCompareCertifier_OK:Aj prog Xg:=Ab7
end
end Go.Ab
