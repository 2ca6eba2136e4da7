import Derived.Test.YtbehajdnamaeaaaGreatHp
set_option linter.all false
set_option maxRecDepth 100000
namespace Go.Ab
noncomputable section
def J9 (x:List Int×Unit):Option (Bool×Unit):=some (decide ((x.1.length:Int)>1048576),())
def WM:Ent:=⟨4,⟨(.slot (.slice (.int .u8)) .nil),.nil⟩,⟨(.slot .bool .nil),.nil⟩,J9⟩
theorem eo:Ao Go.Proofs.Tryz.prog WM:=okA (hcA 0 all_nil) Go.Proofs.Tryz.func4
abbrev aN:=List Int×Unit
abbrev aK:=Int×Int×Unit
abbrev aL:=Int×Unit ⊕ Int×Unit
def Cf (i:aN)(v:aK)(R:Type)(K:aK ⊕ aL->Option R):Option R:=bif decide (v.2.1<(i.1.length:Int))then bif decide (v.2.1<4000)then(lAt i.1 v.2.1).bind fun a=>K (.inl (MP IntKind.i64 (IntKind.i64.wrap (IntKind.i64.wrap (IntKind.i64.wrap (v.1*131)+IntKind.i64.wrap a)+7)) 1073741823,IntKind.i64.wrap (v.2.1+1),()))else K (.inr (.inl (v.1,())))else K (.inr (.inr (v.1,())))
theorem Jm:Dm Cf:=fun i v R K=>Al (Al (Ad fun _=>Ac) (Ac)) (Ac)
def Wp:Tmpl:=⟨(.slot (.slice (.int .u8)) (jk 2 (si 2 (jk 27 .nil)))),.nil⟩
def aJ:Exs aN aL:=xs (.exit 0) (fun i p=>⟨AV.pv (.slice (.int .u8)) i.1::jn 2 (.n (p.1)::jn 28 ([])),[]⟩)<|x1 (.exit 0) fun i p=>⟨AV.pv (.slice (.int .u8)) i.1::jn 2 (.n (p.1)::jn 28 ([])),[]⟩
def aM:=((.i (.v (.v .n))):Pk Wp.ty _ _)
def ek:Cfg:={ti:=Bw,ents:=[],ann:=[(3,Bf Wp 0 (spP aM) Cf aJ.E)],lent:=0}
def G8 (x:List Int×Unit):Option (List Int×Int×Int×Unit):=(BL (fun v=>Cf (x.1,()) v _ some) (IntKind.i64.wrap (10101+(x.1.length:Int)),0,())).bind fun p=>CA p (fun p=>some (x.1,0,p.1,())) fun p=>some (x.1,0,p.1,())
def cI:Ent:=⟨9,⟨(.slot (.slice (.int .u8)) .nil),.nil⟩,⟨(.ptr 0 0 0 .nil),(.cells 3 (.slot (.slice (.int .u8)) (si 2 .nil)) .nil)⟩,G8⟩
theorem aO:CfgOK Go.Proofs.Tryz.prog ek:=hcB all_nil
theorem cH:Cz Go.Proofs.Tryz.prog ek (lpc Go.Proofs.Tryz.f9 0):=lkA aO Wp aM Cf aJ [0,3] Jm
theorem ej:Ao Go.Proofs.Tryz.prog cI:=okB aO Go.Proofs.Tryz.func9 cH
def Cp (x:List Int×Int×Int×Unit):Option (Int×List Int×Int×Int×Unit):=bif decide (x.2.1<(x.1.length:Int))then(lAt x.1 x.2.1).bind fun v=>some (MP IntKind.i64 (IntKind.i64.wrap (MP IntKind.i64 (Zn IntKind.i64 (Int.fdiv (IntKind.i64.wrap (IntKind.i64.wrap (x.2.2.1*6364136223846793005)+1442695040888963407)) (2 ^ min (Int.toNat 33) (IntKind.bits IntKind.i64))) (Int.fdiv (IntKind.i64.wrap (IntKind.i64.wrap (x.2.2.1*6364136223846793005)+1442695040888963407)) (2 ^ min (Int.toNat 45) (IntKind.bits IntKind.i64)))) 255+IntKind.i64.wrap v)) 255,x.1,IntKind.i64.wrap (x.2.1+1),IntKind.i64.wrap (IntKind.i64.wrap (x.2.2.1*6364136223846793005)+1442695040888963407),())else some (MP IntKind.i64 (Zn IntKind.i64 (Int.fdiv (IntKind.i64.wrap (IntKind.i64.wrap (x.2.2.1*6364136223846793005)+1442695040888963407)) (2 ^ min (Int.toNat 33) (IntKind.bits IntKind.i64))) (Int.fdiv (IntKind.i64.wrap (IntKind.i64.wrap (x.2.2.1*6364136223846793005)+1442695040888963407)) (2 ^ min (Int.toNat 45) (IntKind.bits IntKind.i64)))) 255,x.1,x.2.1,IntKind.i64.wrap (IntKind.i64.wrap (x.2.2.1*6364136223846793005)+1442695040888963407),())
def cw:Ent:=⟨38,⟨(.ptr 0 0 0 .nil),(.cells 3 (.slot (.slice (.int .u8)) (si 2 .nil)) .nil)⟩,⟨(.slot .i .nil),(.cells 3 (.slot (.slice (.int .u8)) (si 2 .nil)) .nil)⟩,Cp⟩
theorem eh:Ao Go.Proofs.Tryz.prog cw:=okA (hcA 1 all_nil) Go.Proofs.Tryz.func38
def Ag (x:Int×List Int×Int×Int×Unit):Option (Int×List Int×Int×Int×Unit):=bif decide (x.1<=0)then some (0,x.2.1,x.2.2.1,x.2.2.2.1,())else bif decide (x.1<=256)then(Cp (x.2.1,x.2.2.1,x.2.2.2.1,())).bind fun v=>(T8 v.1 x.1).bind fun a=>some (a,v.2.1,v.2.2.1,v.2.2.2.1,())else(Cp (x.2.1,x.2.2.1,x.2.2.2.1,())).bind fun v=>(Cp (v.2.1,v.2.2.1,v.2.2.2.1,())).bind fun a=>(Cp (a.2.1,a.2.2.1,a.2.2.2.1,())).bind fun b=>(Cp (b.2.1,b.2.2.1,b.2.2.2.1,())).bind fun c=>(T8 (IntKind.i64.wrap (IntKind.i64.wrap (IntKind.i64.wrap (IntKind.i64.wrap (v.1*16777216)+IntKind.i64.wrap (a.1*65536))+IntKind.i64.wrap (b.1*256))+c.1)) x.1).bind fun v=>some (v,c.2.1,c.2.2.1,c.2.2.2.1,())
def VC:Ent:=⟨18,⟨(.ptr 0 0 0 (.slot .i .nil)),(.cells 3 (.slot (.slice (.int .u8)) (si 2 .nil)) .nil)⟩,⟨(.slot .i .nil),(.cells 3 (.slot (.slice (.int .u8)) (si 2 .nil)) .nil)⟩,Ag⟩
theorem Nu:Ao Go.Proofs.Tryz.prog VC:=okA (hcA 1 (all_cons eh all_nil)) Go.Proofs.Tryz.func18
def Ak (x:Int×List Int×Int×Int×Unit):Option (Bool×List Int×Int×Int×Unit):=(Ag (x.1,x.2.1,x.2.2.1,x.2.2.2.1,())).bind fun v=>some (v.1==0,v.2.1,v.2.2.1,v.2.2.2.1,())
def cd:Ent:=⟨10,⟨(.ptr 0 0 0 (.slot .i .nil)),(.cells 3 (.slot (.slice (.int .u8)) (si 2 .nil)) .nil)⟩,⟨(.slot .bool .nil),(.cells 3 (.slot (.slice (.int .u8)) (si 2 .nil)) .nil)⟩,Ak⟩
theorem Va:Ao Go.Proofs.Tryz.prog cd:=okA (hcA 1 (all_cons Nu all_nil)) Go.Proofs.Tryz.func10
def Ah (x:List Int×Int×Int×List Int×Unit):Option (Int×List Int×Int×Int×List Int×Unit):=(Ag ((x.2.2.2.1.length:Int),x.1,x.2.1,x.2.2.1,())).bind fun v=>if 0<=v.1/\v.1<(x.2.2.2.1.length:Int)then x.2.2.2.1[0+v.1.toNat]?.bind fun a=>some (a,v.2.1,v.2.2.1,v.2.2.2.1,x.2.2.2.1,())else none
def bW:Ent:=⟨20,⟨(.ptr 0 0 0 (.own 1 .nil)),(.cells 3 (.slot (.slice (.int .u8)) (si 2 .nil)) (.lst false .i .nil))⟩,⟨(.slot .i .nil),(.cells 3 (.slot (.slice (.int .u8)) (si 2 .nil)) (.lst false .i .nil))⟩,Ah⟩
theorem ar:Ao Go.Proofs.Tryz.prog bW:=okA (hcA 2 (all_cons Nu all_nil)) Go.Proofs.Tryz.func20
def Ep (x:Int×List Int×Int×Int×Unit):Option (Int×Int×Int×Int×Int×Int×List Int×Int×Int×Unit):=(Ag (x.1,x.2.1,x.2.2.1,x.2.2.2.1,())).bind fun v=>(Ag (3,v.2.1,v.2.2.1,v.2.2.2.1,())).bind fun a=>(Ak (4,a.2.1,a.2.2.1,a.2.2.2.1,())).bind fun b=>bif b.1 then(Ag (6,b.2.1,b.2.2.1,b.2.2.2.1,())).bind fun c=>(Ag (12,c.2.1,c.2.2.1,c.2.2.2.1,())).bind fun d=>bif d.1==0 then bif d.1==0 then some (2,IntKind.i64.wrap (1+v.1),0,c.1,0,0,d.2.1,d.2.2.1,d.2.2.2.1,())else bif d.1==4 then bif d.1==4 then(Ah (d.2.1,d.2.2.1,d.2.2.2.1,[-1,1,5,10,20],())).bind fun e=>some (3,IntKind.i64.wrap (1+v.1),0,c.1,0,e.1,e.2.1,e.2.2.1,e.2.2.2.1,())else bif d.1==8 then(Ag (IntKind.i64.wrap (6-c.1),d.2.1,d.2.2.1,d.2.2.2.1,())).bind fun e=>some (4,IntKind.i64.wrap (1+v.1),0,c.1,IntKind.i64.wrap (c.1+e.1),0,e.2.1,e.2.2.1,e.2.2.2.1,())else bif d.1==9 then(Ak (3,d.2.1,d.2.2.1,d.2.2.2.1,())).bind fun e=>bif e.1 then some (6,IntKind.i64.wrap (1+v.1),0,0,0,0,e.2.1,e.2.2.1,e.2.2.2.1,())else some (5,IntKind.i64.wrap (1+v.1),0,0,0,0,e.2.1,e.2.2.1,e.2.2.2.1,())else some (5,IntKind.i64.wrap (1+v.1),0,0,0,0,d.2.1,d.2.2.1,d.2.2.2.1,())else bif d.1==5 then bif d.1==5 then(Ah (d.2.1,d.2.2.1,d.2.2.2.1,[-1,1,5,10,20],())).bind fun e=>some (3,IntKind.i64.wrap (1+v.1),0,c.1,0,e.1,e.2.1,e.2.2.1,e.2.2.2.1,())else bif d.1==8 then(Ag (IntKind.i64.wrap (6-c.1),d.2.1,d.2.2.1,d.2.2.2.1,())).bind fun e=>some (4,IntKind.i64.wrap (1+v.1),0,c.1,IntKind.i64.wrap (c.1+e.1),0,e.2.1,e.2.2.1,e.2.2.2.1,())else bif d.1==9 then(Ak (3,d.2.1,d.2.2.1,d.2.2.2.1,())).bind fun e=>bif e.1 then some (6,IntKind.i64.wrap (1+v.1),0,0,0,0,e.2.1,e.2.2.1,e.2.2.2.1,())else some (5,IntKind.i64.wrap (1+v.1),0,0,0,0,e.2.1,e.2.2.1,e.2.2.2.1,())else some (5,IntKind.i64.wrap (1+v.1),0,0,0,0,d.2.1,d.2.2.1,d.2.2.2.1,())else bif d.1==6 then bif d.1==6 then(Ah (d.2.1,d.2.2.1,d.2.2.2.1,[-1,1,5,10,20],())).bind fun e=>some (3,IntKind.i64.wrap (1+v.1),0,c.1,0,e.1,e.2.1,e.2.2.1,e.2.2.2.1,())else bif d.1==8 then(Ag (IntKind.i64.wrap (6-c.1),d.2.1,d.2.2.1,d.2.2.2.1,())).bind fun e=>some (4,IntKind.i64.wrap (1+v.1),0,c.1,IntKind.i64.wrap (c.1+e.1),0,e.2.1,e.2.2.1,e.2.2.2.1,())else bif d.1==9 then(Ak (3,d.2.1,d.2.2.1,d.2.2.2.1,())).bind fun e=>bif e.1 then some (6,IntKind.i64.wrap (1+v.1),0,0,0,0,e.2.1,e.2.2.1,e.2.2.2.1,())else some (5,IntKind.i64.wrap (1+v.1),0,0,0,0,e.2.1,e.2.2.1,e.2.2.2.1,())else some (5,IntKind.i64.wrap (1+v.1),0,0,0,0,d.2.1,d.2.2.1,d.2.2.2.1,())else bif d.1==7 then(Ah (d.2.1,d.2.2.1,d.2.2.2.1,[-1,1,5,10,20],())).bind fun e=>some (3,IntKind.i64.wrap (1+v.1),0,c.1,0,e.1,e.2.1,e.2.2.1,e.2.2.2.1,())else bif d.1==8 then(Ag (IntKind.i64.wrap (6-c.1),d.2.1,d.2.2.1,d.2.2.2.1,())).bind fun e=>some (4,IntKind.i64.wrap (1+v.1),0,c.1,IntKind.i64.wrap (c.1+e.1),0,e.2.1,e.2.2.1,e.2.2.2.1,())else bif d.1==9 then(Ak (3,d.2.1,d.2.2.1,d.2.2.2.1,())).bind fun e=>bif e.1 then some (6,IntKind.i64.wrap (1+v.1),0,0,0,0,e.2.1,e.2.2.1,e.2.2.2.1,())else some (5,IntKind.i64.wrap (1+v.1),0,0,0,0,e.2.1,e.2.2.1,e.2.2.2.1,())else some (5,IntKind.i64.wrap (1+v.1),0,0,0,0,d.2.1,d.2.2.1,d.2.2.2.1,())else bif d.1==1 then bif d.1==1 then some (2,IntKind.i64.wrap (1+v.1),0,c.1,0,0,d.2.1,d.2.2.1,d.2.2.2.1,())else bif d.1==4 then bif d.1==4 then(Ah (d.2.1,d.2.2.1,d.2.2.2.1,[-1,1,5,10,20],())).bind fun e=>some (3,IntKind.i64.wrap (1+v.1),0,c.1,0,e.1,e.2.1,e.2.2.1,e.2.2.2.1,())else bif d.1==8 then(Ag (IntKind.i64.wrap (6-c.1),d.2.1,d.2.2.1,d.2.2.2.1,())).bind fun e=>some (4,IntKind.i64.wrap (1+v.1),0,c.1,IntKind.i64.wrap (c.1+e.1),0,e.2.1,e.2.2.1,e.2.2.2.1,())else bif d.1==9 then(Ak (3,d.2.1,d.2.2.1,d.2.2.2.1,())).bind fun e=>bif e.1 then some (6,IntKind.i64.wrap (1+v.1),0,0,0,0,e.2.1,e.2.2.1,e.2.2.2.1,())else some (5,IntKind.i64.wrap (1+v.1),0,0,0,0,e.2.1,e.2.2.1,e.2.2.2.1,())else some (5,IntKind.i64.wrap (1+v.1),0,0,0,0,d.2.1,d.2.2.1,d.2.2.2.1,())else bif d.1==5 then bif d.1==5 then(Ah (d.2.1,d.2.2.1,d.2.2.2.1,[-1,1,5,10,20],())).bind fun e=>some (3,IntKind.i64.wrap (1+v.1),0,c.1,0,e.1,e.2.1,e.2.2.1,e.2.2.2.1,())else bif d.1==8 then(Ag (IntKind.i64.wrap (6-c.1),d.2.1,d.2.2.1,d.2.2.2.1,())).bind fun e=>some (4,IntKind.i64.wrap (1+v.1),0,c.1,IntKind.i64.wrap (c.1+e.1),0,e.2.1,e.2.2.1,e.2.2.2.1,())else bif d.1==9 then(Ak (3,d.2.1,d.2.2.1,d.2.2.2.1,())).bind fun e=>bif e.1 then some (6,IntKind.i64.wrap (1+v.1),0,0,0,0,e.2.1,e.2.2.1,e.2.2.2.1,())else some (5,IntKind.i64.wrap (1+v.1),0,0,0,0,e.2.1,e.2.2.1,e.2.2.2.1,())else some (5,IntKind.i64.wrap (1+v.1),0,0,0,0,d.2.1,d.2.2.1,d.2.2.2.1,())else bif d.1==6 then bif d.1==6 then(Ah (d.2.1,d.2.2.1,d.2.2.2.1,[-1,1,5,10,20],())).bind fun e=>some (3,IntKind.i64.wrap (1+v.1),0,c.1,0,e.1,e.2.1,e.2.2.1,e.2.2.2.1,())else bif d.1==8 then(Ag (IntKind.i64.wrap (6-c.1),d.2.1,d.2.2.1,d.2.2.2.1,())).bind fun e=>some (4,IntKind.i64.wrap (1+v.1),0,c.1,IntKind.i64.wrap (c.1+e.1),0,e.2.1,e.2.2.1,e.2.2.2.1,())else bif d.1==9 then(Ak (3,d.2.1,d.2.2.1,d.2.2.2.1,())).bind fun e=>bif e.1 then some (6,IntKind.i64.wrap (1+v.1),0,0,0,0,e.2.1,e.2.2.1,e.2.2.2.1,())else some (5,IntKind.i64.wrap (1+v.1),0,0,0,0,e.2.1,e.2.2.1,e.2.2.2.1,())else some (5,IntKind.i64.wrap (1+v.1),0,0,0,0,d.2.1,d.2.2.1,d.2.2.2.1,())else bif d.1==7 then(Ah (d.2.1,d.2.2.1,d.2.2.2.1,[-1,1,5,10,20],())).bind fun e=>some (3,IntKind.i64.wrap (1+v.1),0,c.1,0,e.1,e.2.1,e.2.2.1,e.2.2.2.1,())else bif d.1==8 then(Ag (IntKind.i64.wrap (6-c.1),d.2.1,d.2.2.1,d.2.2.2.1,())).bind fun e=>some (4,IntKind.i64.wrap (1+v.1),0,c.1,IntKind.i64.wrap (c.1+e.1),0,e.2.1,e.2.2.1,e.2.2.2.1,())else bif d.1==9 then(Ak (3,d.2.1,d.2.2.1,d.2.2.2.1,())).bind fun e=>bif e.1 then some (6,IntKind.i64.wrap (1+v.1),0,0,0,0,e.2.1,e.2.2.1,e.2.2.2.1,())else some (5,IntKind.i64.wrap (1+v.1),0,0,0,0,e.2.1,e.2.2.1,e.2.2.2.1,())else some (5,IntKind.i64.wrap (1+v.1),0,0,0,0,d.2.1,d.2.2.1,d.2.2.2.1,())else bif d.1==2 then bif d.1==2 then some (2,IntKind.i64.wrap (1+v.1),0,c.1,0,0,d.2.1,d.2.2.1,d.2.2.2.1,())else bif d.1==4 then bif d.1==4 then(Ah (d.2.1,d.2.2.1,d.2.2.2.1,[-1,1,5,10,20],())).bind fun e=>some (3,IntKind.i64.wrap (1+v.1),0,c.1,0,e.1,e.2.1,e.2.2.1,e.2.2.2.1,())else bif d.1==8 then(Ag (IntKind.i64.wrap (6-c.1),d.2.1,d.2.2.1,d.2.2.2.1,())).bind fun e=>some (4,IntKind.i64.wrap (1+v.1),0,c.1,IntKind.i64.wrap (c.1+e.1),0,e.2.1,e.2.2.1,e.2.2.2.1,())else bif d.1==9 then(Ak (3,d.2.1,d.2.2.1,d.2.2.2.1,())).bind fun e=>bif e.1 then some (6,IntKind.i64.wrap (1+v.1),0,0,0,0,e.2.1,e.2.2.1,e.2.2.2.1,())else some (5,IntKind.i64.wrap (1+v.1),0,0,0,0,e.2.1,e.2.2.1,e.2.2.2.1,())else some (5,IntKind.i64.wrap (1+v.1),0,0,0,0,d.2.1,d.2.2.1,d.2.2.2.1,())else bif d.1==5 then bif d.1==5 then(Ah (d.2.1,d.2.2.1,d.2.2.2.1,[-1,1,5,10,20],())).bind fun e=>some (3,IntKind.i64.wrap (1+v.1),0,c.1,0,e.1,e.2.1,e.2.2.1,e.2.2.2.1,())else bif d.1==8 then(Ag (IntKind.i64.wrap (6-c.1),d.2.1,d.2.2.1,d.2.2.2.1,())).bind fun e=>some (4,IntKind.i64.wrap (1+v.1),0,c.1,IntKind.i64.wrap (c.1+e.1),0,e.2.1,e.2.2.1,e.2.2.2.1,())else bif d.1==9 then(Ak (3,d.2.1,d.2.2.1,d.2.2.2.1,())).bind fun e=>bif e.1 then some (6,IntKind.i64.wrap (1+v.1),0,0,0,0,e.2.1,e.2.2.1,e.2.2.2.1,())else some (5,IntKind.i64.wrap (1+v.1),0,0,0,0,e.2.1,e.2.2.1,e.2.2.2.1,())else some (5,IntKind.i64.wrap (1+v.1),0,0,0,0,d.2.1,d.2.2.1,d.2.2.2.1,())else bif d.1==6 then bif d.1==6 then(Ah (d.2.1,d.2.2.1,d.2.2.2.1,[-1,1,5,10,20],())).bind fun e=>some (3,IntKind.i64.wrap (1+v.1),0,c.1,0,e.1,e.2.1,e.2.2.1,e.2.2.2.1,())else bif d.1==8 then(Ag (IntKind.i64.wrap (6-c.1),d.2.1,d.2.2.1,d.2.2.2.1,())).bind fun e=>some (4,IntKind.i64.wrap (1+v.1),0,c.1,IntKind.i64.wrap (c.1+e.1),0,e.2.1,e.2.2.1,e.2.2.2.1,())else bif d.1==9 then(Ak (3,d.2.1,d.2.2.1,d.2.2.2.1,())).bind fun e=>bif e.1 then some (6,IntKind.i64.wrap (1+v.1),0,0,0,0,e.2.1,e.2.2.1,e.2.2.2.1,())else some (5,IntKind.i64.wrap (1+v.1),0,0,0,0,e.2.1,e.2.2.1,e.2.2.2.1,())else some (5,IntKind.i64.wrap (1+v.1),0,0,0,0,d.2.1,d.2.2.1,d.2.2.2.1,())else bif d.1==7 then(Ah (d.2.1,d.2.2.1,d.2.2.2.1,[-1,1,5,10,20],())).bind fun e=>some (3,IntKind.i64.wrap (1+v.1),0,c.1,0,e.1,e.2.1,e.2.2.1,e.2.2.2.1,())else bif d.1==8 then(Ag (IntKind.i64.wrap (6-c.1),d.2.1,d.2.2.1,d.2.2.2.1,())).bind fun e=>some (4,IntKind.i64.wrap (1+v.1),0,c.1,IntKind.i64.wrap (c.1+e.1),0,e.2.1,e.2.2.1,e.2.2.2.1,())else bif d.1==9 then(Ak (3,d.2.1,d.2.2.1,d.2.2.2.1,())).bind fun e=>bif e.1 then some (6,IntKind.i64.wrap (1+v.1),0,0,0,0,e.2.1,e.2.2.1,e.2.2.2.1,())else some (5,IntKind.i64.wrap (1+v.1),0,0,0,0,e.2.1,e.2.2.1,e.2.2.2.1,())else some (5,IntKind.i64.wrap (1+v.1),0,0,0,0,d.2.1,d.2.2.1,d.2.2.2.1,())else bif d.1==3 then some (2,IntKind.i64.wrap (1+v.1),0,c.1,0,0,d.2.1,d.2.2.1,d.2.2.2.1,())else bif d.1==4 then bif d.1==4 then(Ah (d.2.1,d.2.2.1,d.2.2.2.1,[-1,1,5,10,20],())).bind fun e=>some (3,IntKind.i64.wrap (1+v.1),0,c.1,0,e.1,e.2.1,e.2.2.1,e.2.2.2.1,())else bif d.1==8 then(Ag (IntKind.i64.wrap (6-c.1),d.2.1,d.2.2.1,d.2.2.2.1,())).bind fun e=>some (4,IntKind.i64.wrap (1+v.1),0,c.1,IntKind.i64.wrap (c.1+e.1),0,e.2.1,e.2.2.1,e.2.2.2.1,())else bif d.1==9 then(Ak (3,d.2.1,d.2.2.1,d.2.2.2.1,())).bind fun e=>bif e.1 then some (6,IntKind.i64.wrap (1+v.1),0,0,0,0,e.2.1,e.2.2.1,e.2.2.2.1,())else some (5,IntKind.i64.wrap (1+v.1),0,0,0,0,e.2.1,e.2.2.1,e.2.2.2.1,())else some (5,IntKind.i64.wrap (1+v.1),0,0,0,0,d.2.1,d.2.2.1,d.2.2.2.1,())else bif d.1==5 then bif d.1==5 then(Ah (d.2.1,d.2.2.1,d.2.2.2.1,[-1,1,5,10,20],())).bind fun e=>some (3,IntKind.i64.wrap (1+v.1),0,c.1,0,e.1,e.2.1,e.2.2.1,e.2.2.2.1,())else bif d.1==8 then(Ag (IntKind.i64.wrap (6-c.1),d.2.1,d.2.2.1,d.2.2.2.1,())).bind fun e=>some (4,IntKind.i64.wrap (1+v.1),0,c.1,IntKind.i64.wrap (c.1+e.1),0,e.2.1,e.2.2.1,e.2.2.2.1,())else bif d.1==9 then(Ak (3,d.2.1,d.2.2.1,d.2.2.2.1,())).bind fun e=>bif e.1 then some (6,IntKind.i64.wrap (1+v.1),0,0,0,0,e.2.1,e.2.2.1,e.2.2.2.1,())else some (5,IntKind.i64.wrap (1+v.1),0,0,0,0,e.2.1,e.2.2.1,e.2.2.2.1,())else some (5,IntKind.i64.wrap (1+v.1),0,0,0,0,d.2.1,d.2.2.1,d.2.2.2.1,())else bif d.1==6 then bif d.1==6 then(Ah (d.2.1,d.2.2.1,d.2.2.2.1,[-1,1,5,10,20],())).bind fun e=>some (3,IntKind.i64.wrap (1+v.1),0,c.1,0,e.1,e.2.1,e.2.2.1,e.2.2.2.1,())else bif d.1==8 then(Ag (IntKind.i64.wrap (6-c.1),d.2.1,d.2.2.1,d.2.2.2.1,())).bind fun e=>some (4,IntKind.i64.wrap (1+v.1),0,c.1,IntKind.i64.wrap (c.1+e.1),0,e.2.1,e.2.2.1,e.2.2.2.1,())else bif d.1==9 then(Ak (3,d.2.1,d.2.2.1,d.2.2.2.1,())).bind fun e=>bif e.1 then some (6,IntKind.i64.wrap (1+v.1),0,0,0,0,e.2.1,e.2.2.1,e.2.2.2.1,())else some (5,IntKind.i64.wrap (1+v.1),0,0,0,0,e.2.1,e.2.2.1,e.2.2.2.1,())else some (5,IntKind.i64.wrap (1+v.1),0,0,0,0,d.2.1,d.2.2.1,d.2.2.2.1,())else bif d.1==7 then(Ah (d.2.1,d.2.2.1,d.2.2.2.1,[-1,1,5,10,20],())).bind fun e=>some (3,IntKind.i64.wrap (1+v.1),0,c.1,0,e.1,e.2.1,e.2.2.1,e.2.2.2.1,())else bif d.1==8 then(Ag (IntKind.i64.wrap (6-c.1),d.2.1,d.2.2.1,d.2.2.2.1,())).bind fun e=>some (4,IntKind.i64.wrap (1+v.1),0,c.1,IntKind.i64.wrap (c.1+e.1),0,e.2.1,e.2.2.1,e.2.2.2.1,())else bif d.1==9 then(Ak (3,d.2.1,d.2.2.1,d.2.2.2.1,())).bind fun e=>bif e.1 then some (6,IntKind.i64.wrap (1+v.1),0,0,0,0,e.2.1,e.2.2.1,e.2.2.2.1,())else some (5,IntKind.i64.wrap (1+v.1),0,0,0,0,e.2.1,e.2.2.1,e.2.2.2.1,())else some (5,IntKind.i64.wrap (1+v.1),0,0,0,0,d.2.1,d.2.2.1,d.2.2.2.1,())else(Ag (12,b.2.1,b.2.2.1,b.2.2.2.1,())).bind fun c=>bif c.1==0 then bif c.1==0 then some (2,IntKind.i64.wrap (1+v.1),0,a.1,0,0,c.2.1,c.2.2.1,c.2.2.2.1,())else bif c.1==4 then bif c.1==4 then(Ah (c.2.1,c.2.2.1,c.2.2.2.1,[-1,1,5,10,20],())).bind fun d=>some (3,IntKind.i64.wrap (1+v.1),0,a.1,0,d.1,d.2.1,d.2.2.1,d.2.2.2.1,())else bif c.1==8 then(Ag (IntKind.i64.wrap (6-a.1),c.2.1,c.2.2.1,c.2.2.2.1,())).bind fun d=>some (4,IntKind.i64.wrap (1+v.1),0,a.1,IntKind.i64.wrap (a.1+d.1),0,d.2.1,d.2.2.1,d.2.2.2.1,())else bif c.1==9 then(Ak (3,c.2.1,c.2.2.1,c.2.2.2.1,())).bind fun d=>bif d.1 then some (6,IntKind.i64.wrap (1+v.1),0,0,0,0,d.2.1,d.2.2.1,d.2.2.2.1,())else some (5,IntKind.i64.wrap (1+v.1),0,0,0,0,d.2.1,d.2.2.1,d.2.2.2.1,())else some (5,IntKind.i64.wrap (1+v.1),0,0,0,0,c.2.1,c.2.2.1,c.2.2.2.1,())else bif c.1==5 then bif c.1==5 then(Ah (c.2.1,c.2.2.1,c.2.2.2.1,[-1,1,5,10,20],())).bind fun d=>some (3,IntKind.i64.wrap (1+v.1),0,a.1,0,d.1,d.2.1,d.2.2.1,d.2.2.2.1,())else bif c.1==8 then(Ag (IntKind.i64.wrap (6-a.1),c.2.1,c.2.2.1,c.2.2.2.1,())).bind fun d=>some (4,IntKind.i64.wrap (1+v.1),0,a.1,IntKind.i64.wrap (a.1+d.1),0,d.2.1,d.2.2.1,d.2.2.2.1,())else bif c.1==9 then(Ak (3,c.2.1,c.2.2.1,c.2.2.2.1,())).bind fun d=>bif d.1 then some (6,IntKind.i64.wrap (1+v.1),0,0,0,0,d.2.1,d.2.2.1,d.2.2.2.1,())else some (5,IntKind.i64.wrap (1+v.1),0,0,0,0,d.2.1,d.2.2.1,d.2.2.2.1,())else some (5,IntKind.i64.wrap (1+v.1),0,0,0,0,c.2.1,c.2.2.1,c.2.2.2.1,())else bif c.1==6 then bif c.1==6 then(Ah (c.2.1,c.2.2.1,c.2.2.2.1,[-1,1,5,10,20],())).bind fun d=>some (3,IntKind.i64.wrap (1+v.1),0,a.1,0,d.1,d.2.1,d.2.2.1,d.2.2.2.1,())else bif c.1==8 then(Ag (IntKind.i64.wrap (6-a.1),c.2.1,c.2.2.1,c.2.2.2.1,())).bind fun d=>some (4,IntKind.i64.wrap (1+v.1),0,a.1,IntKind.i64.wrap (a.1+d.1),0,d.2.1,d.2.2.1,d.2.2.2.1,())else bif c.1==9 then(Ak (3,c.2.1,c.2.2.1,c.2.2.2.1,())).bind fun d=>bif d.1 then some (6,IntKind.i64.wrap (1+v.1),0,0,0,0,d.2.1,d.2.2.1,d.2.2.2.1,())else some (5,IntKind.i64.wrap (1+v.1),0,0,0,0,d.2.1,d.2.2.1,d.2.2.2.1,())else some (5,IntKind.i64.wrap (1+v.1),0,0,0,0,c.2.1,c.2.2.1,c.2.2.2.1,())else bif c.1==7 then(Ah (c.2.1,c.2.2.1,c.2.2.2.1,[-1,1,5,10,20],())).bind fun d=>some (3,IntKind.i64.wrap (1+v.1),0,a.1,0,d.1,d.2.1,d.2.2.1,d.2.2.2.1,())else bif c.1==8 then(Ag (IntKind.i64.wrap (6-a.1),c.2.1,c.2.2.1,c.2.2.2.1,())).bind fun d=>some (4,IntKind.i64.wrap (1+v.1),0,a.1,IntKind.i64.wrap (a.1+d.1),0,d.2.1,d.2.2.1,d.2.2.2.1,())else bif c.1==9 then(Ak (3,c.2.1,c.2.2.1,c.2.2.2.1,())).bind fun d=>bif d.1 then some (6,IntKind.i64.wrap (1+v.1),0,0,0,0,d.2.1,d.2.2.1,d.2.2.2.1,())else some (5,IntKind.i64.wrap (1+v.1),0,0,0,0,d.2.1,d.2.2.1,d.2.2.2.1,())else some (5,IntKind.i64.wrap (1+v.1),0,0,0,0,c.2.1,c.2.2.1,c.2.2.2.1,())else bif c.1==1 then bif c.1==1 then some (2,IntKind.i64.wrap (1+v.1),0,a.1,0,0,c.2.1,c.2.2.1,c.2.2.2.1,())else bif c.1==4 then bif c.1==4 then(Ah (c.2.1,c.2.2.1,c.2.2.2.1,[-1,1,5,10,20],())).bind fun d=>some (3,IntKind.i64.wrap (1+v.1),0,a.1,0,d.1,d.2.1,d.2.2.1,d.2.2.2.1,())else bif c.1==8 then(Ag (IntKind.i64.wrap (6-a.1),c.2.1,c.2.2.1,c.2.2.2.1,())).bind fun d=>some (4,IntKind.i64.wrap (1+v.1),0,a.1,IntKind.i64.wrap (a.1+d.1),0,d.2.1,d.2.2.1,d.2.2.2.1,())else bif c.1==9 then(Ak (3,c.2.1,c.2.2.1,c.2.2.2.1,())).bind fun d=>bif d.1 then some (6,IntKind.i64.wrap (1+v.1),0,0,0,0,d.2.1,d.2.2.1,d.2.2.2.1,())else some (5,IntKind.i64.wrap (1+v.1),0,0,0,0,d.2.1,d.2.2.1,d.2.2.2.1,())else some (5,IntKind.i64.wrap (1+v.1),0,0,0,0,c.2.1,c.2.2.1,c.2.2.2.1,())else bif c.1==5 then bif c.1==5 then(Ah (c.2.1,c.2.2.1,c.2.2.2.1,[-1,1,5,10,20],())).bind fun d=>some (3,IntKind.i64.wrap (1+v.1),0,a.1,0,d.1,d.2.1,d.2.2.1,d.2.2.2.1,())else bif c.1==8 then(Ag (IntKind.i64.wrap (6-a.1),c.2.1,c.2.2.1,c.2.2.2.1,())).bind fun d=>some (4,IntKind.i64.wrap (1+v.1),0,a.1,IntKind.i64.wrap (a.1+d.1),0,d.2.1,d.2.2.1,d.2.2.2.1,())else bif c.1==9 then(Ak (3,c.2.1,c.2.2.1,c.2.2.2.1,())).bind fun d=>bif d.1 then some (6,IntKind.i64.wrap (1+v.1),0,0,0,0,d.2.1,d.2.2.1,d.2.2.2.1,())else some (5,IntKind.i64.wrap (1+v.1),0,0,0,0,d.2.1,d.2.2.1,d.2.2.2.1,())else some (5,IntKind.i64.wrap (1+v.1),0,0,0,0,c.2.1,c.2.2.1,c.2.2.2.1,())else bif c.1==6 then bif c.1==6 then(Ah (c.2.1,c.2.2.1,c.2.2.2.1,[-1,1,5,10,20],())).bind fun d=>some (3,IntKind.i64.wrap (1+v.1),0,a.1,0,d.1,d.2.1,d.2.2.1,d.2.2.2.1,())else bif c.1==8 then(Ag (IntKind.i64.wrap (6-a.1),c.2.1,c.2.2.1,c.2.2.2.1,())).bind fun d=>some (4,IntKind.i64.wrap (1+v.1),0,a.1,IntKind.i64.wrap (a.1+d.1),0,d.2.1,d.2.2.1,d.2.2.2.1,())else bif c.1==9 then(Ak (3,c.2.1,c.2.2.1,c.2.2.2.1,())).bind fun d=>bif d.1 then some (6,IntKind.i64.wrap (1+v.1),0,0,0,0,d.2.1,d.2.2.1,d.2.2.2.1,())else some (5,IntKind.i64.wrap (1+v.1),0,0,0,0,d.2.1,d.2.2.1,d.2.2.2.1,())else some (5,IntKind.i64.wrap (1+v.1),0,0,0,0,c.2.1,c.2.2.1,c.2.2.2.1,())else bif c.1==7 then(Ah (c.2.1,c.2.2.1,c.2.2.2.1,[-1,1,5,10,20],())).bind fun d=>some (3,IntKind.i64.wrap (1+v.1),0,a.1,0,d.1,d.2.1,d.2.2.1,d.2.2.2.1,())else bif c.1==8 then(Ag (IntKind.i64.wrap (6-a.1),c.2.1,c.2.2.1,c.2.2.2.1,())).bind fun d=>some (4,IntKind.i64.wrap (1+v.1),0,a.1,IntKind.i64.wrap (a.1+d.1),0,d.2.1,d.2.2.1,d.2.2.2.1,())else bif c.1==9 then(Ak (3,c.2.1,c.2.2.1,c.2.2.2.1,())).bind fun d=>bif d.1 then some (6,IntKind.i64.wrap (1+v.1),0,0,0,0,d.2.1,d.2.2.1,d.2.2.2.1,())else some (5,IntKind.i64.wrap (1+v.1),0,0,0,0,d.2.1,d.2.2.1,d.2.2.2.1,())else some (5,IntKind.i64.wrap (1+v.1),0,0,0,0,c.2.1,c.2.2.1,c.2.2.2.1,())else bif c.1==2 then bif c.1==2 then some (2,IntKind.i64.wrap (1+v.1),0,a.1,0,0,c.2.1,c.2.2.1,c.2.2.2.1,())else bif c.1==4 then bif c.1==4 then(Ah (c.2.1,c.2.2.1,c.2.2.2.1,[-1,1,5,10,20],())).bind fun d=>some (3,IntKind.i64.wrap (1+v.1),0,a.1,0,d.1,d.2.1,d.2.2.1,d.2.2.2.1,())else bif c.1==8 then(Ag (IntKind.i64.wrap (6-a.1),c.2.1,c.2.2.1,c.2.2.2.1,())).bind fun d=>some (4,IntKind.i64.wrap (1+v.1),0,a.1,IntKind.i64.wrap (a.1+d.1),0,d.2.1,d.2.2.1,d.2.2.2.1,())else bif c.1==9 then(Ak (3,c.2.1,c.2.2.1,c.2.2.2.1,())).bind fun d=>bif d.1 then some (6,IntKind.i64.wrap (1+v.1),0,0,0,0,d.2.1,d.2.2.1,d.2.2.2.1,())else some (5,IntKind.i64.wrap (1+v.1),0,0,0,0,d.2.1,d.2.2.1,d.2.2.2.1,())else some (5,IntKind.i64.wrap (1+v.1),0,0,0,0,c.2.1,c.2.2.1,c.2.2.2.1,())else bif c.1==5 then bif c.1==5 then(Ah (c.2.1,c.2.2.1,c.2.2.2.1,[-1,1,5,10,20],())).bind fun d=>some (3,IntKind.i64.wrap (1+v.1),0,a.1,0,d.1,d.2.1,d.2.2.1,d.2.2.2.1,())else bif c.1==8 then(Ag (IntKind.i64.wrap (6-a.1),c.2.1,c.2.2.1,c.2.2.2.1,())).bind fun d=>some (4,IntKind.i64.wrap (1+v.1),0,a.1,IntKind.i64.wrap (a.1+d.1),0,d.2.1,d.2.2.1,d.2.2.2.1,())else bif c.1==9 then(Ak (3,c.2.1,c.2.2.1,c.2.2.2.1,())).bind fun d=>bif d.1 then some (6,IntKind.i64.wrap (1+v.1),0,0,0,0,d.2.1,d.2.2.1,d.2.2.2.1,())else some (5,IntKind.i64.wrap (1+v.1),0,0,0,0,d.2.1,d.2.2.1,d.2.2.2.1,())else some (5,IntKind.i64.wrap (1+v.1),0,0,0,0,c.2.1,c.2.2.1,c.2.2.2.1,())else bif c.1==6 then bif c.1==6 then(Ah (c.2.1,c.2.2.1,c.2.2.2.1,[-1,1,5,10,20],())).bind fun d=>some (3,IntKind.i64.wrap (1+v.1),0,a.1,0,d.1,d.2.1,d.2.2.1,d.2.2.2.1,())else bif c.1==8 then(Ag (IntKind.i64.wrap (6-a.1),c.2.1,c.2.2.1,c.2.2.2.1,())).bind fun d=>some (4,IntKind.i64.wrap (1+v.1),0,a.1,IntKind.i64.wrap (a.1+d.1),0,d.2.1,d.2.2.1,d.2.2.2.1,())else bif c.1==9 then(Ak (3,c.2.1,c.2.2.1,c.2.2.2.1,())).bind fun d=>bif d.1 then some (6,IntKind.i64.wrap (1+v.1),0,0,0,0,d.2.1,d.2.2.1,d.2.2.2.1,())else some (5,IntKind.i64.wrap (1+v.1),0,0,0,0,d.2.1,d.2.2.1,d.2.2.2.1,())else some (5,IntKind.i64.wrap (1+v.1),0,0,0,0,c.2.1,c.2.2.1,c.2.2.2.1,())else bif c.1==7 then(Ah (c.2.1,c.2.2.1,c.2.2.2.1,[-1,1,5,10,20],())).bind fun d=>some (3,IntKind.i64.wrap (1+v.1),0,a.1,0,d.1,d.2.1,d.2.2.1,d.2.2.2.1,())else bif c.1==8 then(Ag (IntKind.i64.wrap (6-a.1),c.2.1,c.2.2.1,c.2.2.2.1,())).bind fun d=>some (4,IntKind.i64.wrap (1+v.1),0,a.1,IntKind.i64.wrap (a.1+d.1),0,d.2.1,d.2.2.1,d.2.2.2.1,())else bif c.1==9 then(Ak (3,c.2.1,c.2.2.1,c.2.2.2.1,())).bind fun d=>bif d.1 then some (6,IntKind.i64.wrap (1+v.1),0,0,0,0,d.2.1,d.2.2.1,d.2.2.2.1,())else some (5,IntKind.i64.wrap (1+v.1),0,0,0,0,d.2.1,d.2.2.1,d.2.2.2.1,())else some (5,IntKind.i64.wrap (1+v.1),0,0,0,0,c.2.1,c.2.2.1,c.2.2.2.1,())else bif c.1==3 then some (2,IntKind.i64.wrap (1+v.1),0,a.1,0,0,c.2.1,c.2.2.1,c.2.2.2.1,())else bif c.1==4 then bif c.1==4 then(Ah (c.2.1,c.2.2.1,c.2.2.2.1,[-1,1,5,10,20],())).bind fun d=>some (3,IntKind.i64.wrap (1+v.1),0,a.1,0,d.1,d.2.1,d.2.2.1,d.2.2.2.1,())else bif c.1==8 then(Ag (IntKind.i64.wrap (6-a.1),c.2.1,c.2.2.1,c.2.2.2.1,())).bind fun d=>some (4,IntKind.i64.wrap (1+v.1),0,a.1,IntKind.i64.wrap (a.1+d.1),0,d.2.1,d.2.2.1,d.2.2.2.1,())else bif c.1==9 then(Ak (3,c.2.1,c.2.2.1,c.2.2.2.1,())).bind fun d=>bif d.1 then some (6,IntKind.i64.wrap (1+v.1),0,0,0,0,d.2.1,d.2.2.1,d.2.2.2.1,())else some (5,IntKind.i64.wrap (1+v.1),0,0,0,0,d.2.1,d.2.2.1,d.2.2.2.1,())else some (5,IntKind.i64.wrap (1+v.1),0,0,0,0,c.2.1,c.2.2.1,c.2.2.2.1,())else bif c.1==5 then bif c.1==5 then(Ah (c.2.1,c.2.2.1,c.2.2.2.1,[-1,1,5,10,20],())).bind fun d=>some (3,IntKind.i64.wrap (1+v.1),0,a.1,0,d.1,d.2.1,d.2.2.1,d.2.2.2.1,())else bif c.1==8 then(Ag (IntKind.i64.wrap (6-a.1),c.2.1,c.2.2.1,c.2.2.2.1,())).bind fun d=>some (4,IntKind.i64.wrap (1+v.1),0,a.1,IntKind.i64.wrap (a.1+d.1),0,d.2.1,d.2.2.1,d.2.2.2.1,())else bif c.1==9 then(Ak (3,c.2.1,c.2.2.1,c.2.2.2.1,())).bind fun d=>bif d.1 then some (6,IntKind.i64.wrap (1+v.1),0,0,0,0,d.2.1,d.2.2.1,d.2.2.2.1,())else some (5,IntKind.i64.wrap (1+v.1),0,0,0,0,d.2.1,d.2.2.1,d.2.2.2.1,())else some (5,IntKind.i64.wrap (1+v.1),0,0,0,0,c.2.1,c.2.2.1,c.2.2.2.1,())else bif c.1==6 then bif c.1==6 then(Ah (c.2.1,c.2.2.1,c.2.2.2.1,[-1,1,5,10,20],())).bind fun d=>some (3,IntKind.i64.wrap (1+v.1),0,a.1,0,d.1,d.2.1,d.2.2.1,d.2.2.2.1,())else bif c.1==8 then(Ag (IntKind.i64.wrap (6-a.1),c.2.1,c.2.2.1,c.2.2.2.1,())).bind fun d=>some (4,IntKind.i64.wrap (1+v.1),0,a.1,IntKind.i64.wrap (a.1+d.1),0,d.2.1,d.2.2.1,d.2.2.2.1,())else bif c.1==9 then(Ak (3,c.2.1,c.2.2.1,c.2.2.2.1,())).bind fun d=>bif d.1 then some (6,IntKind.i64.wrap (1+v.1),0,0,0,0,d.2.1,d.2.2.1,d.2.2.2.1,())else some (5,IntKind.i64.wrap (1+v.1),0,0,0,0,d.2.1,d.2.2.1,d.2.2.2.1,())else some (5,IntKind.i64.wrap (1+v.1),0,0,0,0,c.2.1,c.2.2.1,c.2.2.2.1,())else bif c.1==7 then(Ah (c.2.1,c.2.2.1,c.2.2.2.1,[-1,1,5,10,20],())).bind fun d=>some (3,IntKind.i64.wrap (1+v.1),0,a.1,0,d.1,d.2.1,d.2.2.1,d.2.2.2.1,())else bif c.1==8 then(Ag (IntKind.i64.wrap (6-a.1),c.2.1,c.2.2.1,c.2.2.2.1,())).bind fun d=>some (4,IntKind.i64.wrap (1+v.1),0,a.1,IntKind.i64.wrap (a.1+d.1),0,d.2.1,d.2.2.1,d.2.2.2.1,())else bif c.1==9 then(Ak (3,c.2.1,c.2.2.1,c.2.2.2.1,())).bind fun d=>bif d.1 then some (6,IntKind.i64.wrap (1+v.1),0,0,0,0,d.2.1,d.2.2.1,d.2.2.2.1,())else some (5,IntKind.i64.wrap (1+v.1),0,0,0,0,d.2.1,d.2.2.1,d.2.2.2.1,())else some (5,IntKind.i64.wrap (1+v.1),0,0,0,0,c.2.1,c.2.2.1,c.2.2.2.1,())
def Uq:Ent:=⟨19,⟨(.ptr 0 0 0 (.slot .i .nil)),(.cells 3 (.slot (.slice (.int .u8)) (si 2 .nil)) .nil)⟩,⟨(.agg (si 6 .nil) .nil),(.cells 3 (.slot (.slice (.int .u8)) (si 2 .nil)) .nil)⟩,Ep⟩
theorem al:Ao Go.Proofs.Tryz.prog Uq:=okA (hcA 1 (all_cons Nu (all_cons Va (all_cons ar all_nil)))) Go.Proofs.Tryz.func19
abbrev af:=Unit
abbrev aa:=Int×List Int×Int×Int×List A6×List Bool×Unit
abbrev ac:=List Int×Int×Int×List A6×List Bool×Unit
def C8 (i:af)(v:aa)(R:Type)(K:aa ⊕ ac->Option R):Option R:=bif decide (v.1>0)then(Ep (5,v.2.1,v.2.2.1,v.2.2.2.1,())).bind fun a=>if 0<=a.2.1/\a.2.1<(v.2.2.2.2.2.1.length:Int)then v.2.2.2.2.2.1[0+a.2.1.toNat]?.bind fun b=>bif !b then(Ag (4,a.2.2.2.2.2.2.1,a.2.2.2.2.2.2.2.1,a.2.2.2.2.2.2.2.2.1,())).bind fun c=>if(v.2.2.2.2.1++[(1,a.2.1,IntKind.i64.wrap (1+c.1),0,0,0,())]).length<=733007751850 then if 0<=a.2.1/\a.2.1<(v.2.2.2.2.2.1.length:Int)then v.2.2.2.2.2.1[0+a.2.1.toNat]?.bind fun d=>if(v.2.2.2.2.1++[(1,a.2.1,IntKind.i64.wrap (1+c.1),0,0,0,())]++[(a.1,a.2.1,a.2.2.1,a.2.2.2.1,a.2.2.2.2.1,a.2.2.2.2.2.1,())]).length<=733007751850 then K (.inl (IntKind.i64.wrap (v.1-1),c.2.1,c.2.2.1,c.2.2.2.1,v.2.2.2.2.1++[(1,a.2.1,IntKind.i64.wrap (1+c.1),0,0,0,())]++[(a.1,a.2.1,a.2.2.1,a.2.2.2.1,a.2.2.2.2.1,a.2.2.2.2.2.1,())],v.2.2.2.2.2.1.set (0+a.2.1.toNat) true,()))else none else none else none else if(v.2.2.2.2.1++[(a.1,a.2.1,a.2.2.1,a.2.2.2.1,a.2.2.2.2.1,a.2.2.2.2.2.1,())]).length<=733007751850 then K (.inl (IntKind.i64.wrap (v.1-1),a.2.2.2.2.2.2.1,a.2.2.2.2.2.2.2.1,a.2.2.2.2.2.2.2.2.1,v.2.2.2.2.1++[(a.1,a.2.1,a.2.2.1,a.2.2.2.1,a.2.2.2.2.1,a.2.2.2.2.2.1,())],v.2.2.2.2.2.1,()))else none else none else K (.inr (v.2.1,v.2.2.1,v.2.2.2.1,v.2.2.2.2.1,v.2.2.2.2.2.1,()))
theorem HQ:Dm C8:=fun i v R K=>Al (Ad fun _=>BG (Ad fun _=>Al (Ad fun _=>BG (BG (Ad fun _=>BG (Ac)))) (BG (Ac)))) (Ac)
def U0:Tmpl:=⟨(.ptr 0 0 0 (jk 4 (.own 1 (.own 2 (.slot .i (jk 37 .nil)))))),(.cells 3 (.slot (.slice (.int .u8)) (si 2 .nil)) (.lst false YOp (.lst false .bool .nil)))⟩
def ZZ:Exs af ac:=x1 (.exit 0) fun i p=>⟨jn 5 (AV.own 1 none none::jn 39 ([])),[some (Cont.cells 3 [[AV.pv (.slice (.int .u8)) p.1,AV.pv .i p.2.1,AV.pv .i p.2.2.1]]),some (Cont.lst false YOp p.2.2.2.1),some (Cont.lst false .bool p.2.2.2.2.1)]⟩
def ae:=((.v (.v (.v (.v (.v (.v .n)))))):Pk U0.ty _ _)
def dY:Cfg:={ti:=Bw,ents:=[VC,Uq],ann:=[(4,Bf U0 1 (spP ae) C8 ZZ.E)],lent:=1,hid:=[((8,0),[0]),((8,1),[0]),((8,2),[0])]}
def EP (x:Int×List Int×Int×Int×Unit):Option (List Int×Int×Int×List A6×Unit):=(Ag (x.1,x.2.1,x.2.2.1,x.2.2.2.1,())).bind fun v=>(BL (fun v=>C8 () v _ some) (IntKind.i64.wrap (4+v.1),v.2.1,v.2.2.1,v.2.2.2.1,[],[false,false,false,false,false,false,false],())).bind fun p=>some (p.1,p.2.1,p.2.2.1,p.2.2.2.1,())
def bF:Ent:=⟨11,⟨(.ptr 0 0 0 (.slot .i .nil)),(.cells 3 (.slot (.slice (.int .u8)) (si 2 .nil)) .nil)⟩,⟨(.own 1 .nil),(.cells 3 (.slot (.slice (.int .u8)) (si 2 .nil)) (.lst false YOp .nil))⟩,EP⟩
theorem ag:CfgOK Go.Proofs.Tryz.prog dY:=hcB (all_cons Nu (all_cons al all_nil))
theorem bE:Cz Go.Proofs.Tryz.prog dY (lpc Go.Proofs.Tryz.f11 0):=lkA ag U0 ae C8 ZZ [5] HQ
theorem dX:Ao Go.Proofs.Tryz.prog bF:=okB ag Go.Proofs.Tryz.func11 bE
def ER (x:List Int×Int×Int×Unit):Option (Int×Int×Int×Int×Int×Int×List Int×Int×Int×Unit):=(Ep (6,x.1,x.2.1,x.2.2.1,())).bind fun v=>(Ak (3,v.2.2.2.2.2.2.1,v.2.2.2.2.2.2.2.1,v.2.2.2.2.2.2.2.2.1,())).bind fun a=>bif a.1 then(Ag (7,a.2.1,a.2.2.1,a.2.2.2.1,())).bind fun v=>(Ag (4,v.2.1,v.2.2.1,v.2.2.2.1,())).bind fun b=>(Ag (14,b.2.1,b.2.2.1,b.2.2.2.1,())).bind fun c=>bif c.1==0 then(Ag (8,c.2.1,c.2.2.1,c.2.2.2.1,())).bind fun d=>some (d.1,IntKind.i64.wrap (1+v.1),IntKind.i64.wrap (1+b.1),0,0,0,d.2.1,d.2.2.1,d.2.2.2.1,())else bif c.1==1 then(Ah (c.2.1,c.2.2.1,c.2.2.2.1,[0,9,10],())).bind fun v=>some (1,v.1,IntKind.i64.wrap (1+b.1),0,0,0,v.2.1,v.2.2.1,v.2.2.2.1,())else bif c.1==2 then(Ah (c.2.1,c.2.2.1,c.2.2.2.1,[-1,5,6],())).bind fun d=>some (1,IntKind.i64.wrap (1+v.1),IntKind.i64.wrap (1+b.1),d.1,0,0,d.2.1,d.2.2.1,d.2.2.2.1,())else bif c.1==3 then(Ah (c.2.1,c.2.2.1,c.2.2.2.1,[0,5,6],())).bind fun d=>some (1,IntKind.i64.wrap (1+v.1),IntKind.i64.wrap (1+b.1),0,d.1,0,d.2.1,d.2.2.1,d.2.2.2.1,())else some (1,IntKind.i64.wrap (1+v.1),IntKind.i64.wrap (1+b.1),0,0,0,c.2.1,c.2.2.1,c.2.2.2.1,())else(Ag (14,a.2.1,a.2.2.1,a.2.2.2.1,())).bind fun b=>bif b.1==0 then(Ag (8,b.2.1,b.2.2.1,b.2.2.2.1,())).bind fun c=>some (c.1,v.2.1,v.2.2.1,v.2.2.2.1,v.2.2.2.2.1,v.2.2.2.2.2.1,c.2.1,c.2.2.1,c.2.2.2.1,())else bif b.1==1 then(Ah (b.2.1,b.2.2.1,b.2.2.2.1,[0,9,10],())).bind fun c=>some (v.1,c.1,v.2.2.1,v.2.2.2.1,v.2.2.2.2.1,v.2.2.2.2.2.1,c.2.1,c.2.2.1,c.2.2.2.1,())else bif b.1==2 then(Ah (b.2.1,b.2.2.1,b.2.2.2.1,[-1,5,6],())).bind fun c=>some (v.1,v.2.1,v.2.2.1,c.1,v.2.2.2.2.1,v.2.2.2.2.2.1,c.2.1,c.2.2.1,c.2.2.2.1,())else bif b.1==3 then(Ah (b.2.1,b.2.2.1,b.2.2.2.1,[0,5,6],())).bind fun c=>some (v.1,v.2.1,v.2.2.1,v.2.2.2.1,c.1,v.2.2.2.2.2.1,c.2.1,c.2.2.1,c.2.2.2.1,())else some (v.1,v.2.1,v.2.2.1,v.2.2.2.1,v.2.2.2.2.1,v.2.2.2.2.2.1,b.2.1,b.2.2.1,b.2.2.2.1,())
def bt:Ent:=⟨12,⟨(.ptr 0 0 0 .nil),(.cells 3 (.slot (.slice (.int .u8)) (si 2 .nil)) .nil)⟩,⟨(.agg (si 6 .nil) .nil),(.cells 3 (.slot (.slice (.int .u8)) (si 2 .nil)) .nil)⟩,ER⟩
theorem dR:Ao Go.Proofs.Tryz.prog bt:=okA (hcA 1 (all_cons al (all_cons Va (all_cons Nu (all_cons ar all_nil))))) Go.Proofs.Tryz.func12
def Ek (x:List Int×Unit):Option (Bool×List A6×Unit):=(G8 (x.1,())).bind fun v=>(Ak (4,v.1,v.2.1,v.2.2.1,())).bind fun v=>(EP (24,v.2.1,v.2.2.1,v.2.2.2.1,())).bind fun a=>(Ak (8,a.1,a.2.1,a.2.2.1,())).bind fun b=>bif b.1 then(ER (b.2.1,b.2.2.1,b.2.2.2.1,())).bind fun c=>if(a.2.2.2.1++[(c.1,c.2.1,c.2.2.1,c.2.2.2.1,c.2.2.2.2.1,c.2.2.2.2.2.1,())]).length<=733007751850 then some (!v.1,a.2.2.2.1++[(c.1,c.2.1,c.2.2.1,c.2.2.2.1,c.2.2.2.2.1,c.2.2.2.2.2.1,())],())else none else some (!v.1,a.2.2.2.1,())
def Td:Ent:=⟨5,⟨(.slot (.slice (.int .u8)) .nil),.nil⟩,⟨(.slot .bool (.own 0 .nil)),(.lst false YOp .nil)⟩,Ek⟩
theorem dQ:Ao Go.Proofs.Tryz.prog Td:=okA (hcA 0 (all_cons Va (all_cons dX (all_cons dR (all_cons ej all_nil))))) Go.Proofs.Tryz.func5
abbrev WC:=Unit
abbrev Wz:=Int×List (List A2)×Unit
abbrev WA:=List (List A2)×Unit
def DT (i:WC)(v:Wz)(R:Type)(K:Wz ⊕ WA->Option R):Option R:=bif decide (v.1<6)then if(v.2.1++[[(0,-1,0,0,1000,())]]).length<=1466015503701 then K (.inl (IntKind.i64.wrap (v.1+1),v.2.1++[[(0,-1,0,0,1000,())]],()))else none else K (.inr (v.2.1,()))
theorem I9:Dm DT:=fun i v R K=>Al (BG (Ac)) (Ac)
def Pn:Tmpl:=⟨(.ptr 0 0 0 (.ptr 1 0 0 (.junk (.slot .i (jk 10 .nil))))),(.cells 1 (.const (AV.nils) .nil) (.cells 1 (.own 2 .nil) (.tree false 0 (.slice Am) .nil)))⟩
def Wy:Exs WC WA:=x1 (.exit 0) fun i p=>⟨AV.ptr 0 none 0 0::AV.ptr 1 none 0 0::jn 12 ([]),[some (Cont.cells 1 [[AV.nils]]),some (Cont.cells 1 [[AV.own 2 none none]]),some (Cont.tree false 0 (.slice Am) p.1 none)]⟩
def WB:=((.v (.v .n)):Pk Pn.ty _ _)
def aP:Cfg:={ti:=Bw,ents:=[],ann:=[(3,Bf Pn 0 (spP WB) DT Wy.E)],lent:=0}
def ES (x:Unit):Option A4:=(BL (fun v=>DT () v _ some) (0,[],())).bind fun p=>some (p.1,())
def Z3:Ent:=⟨21,⟨.nil,.nil⟩,⟨(.agg (.own 0 .nil) .nil),(.tree false 0 (.slice Am) .nil)⟩,ES⟩
theorem WD:CfgOK Go.Proofs.Tryz.prog aP:=hcB all_nil
theorem Z2:Cz Go.Proofs.Tryz.prog aP (lpc Go.Proofs.Tryz.f21 0):=lkA WD Pn WB DT Wy [0,1] I9
theorem cM:Ao Go.Proofs.Tryz.prog Z3:=okB WD Go.Proofs.Tryz.func21 Z2
def EC (x:Bool×Unit):Option (Bool×Int×List (List A2)×Unit):=(ES ()).bind fun v=>some (x.1,0,v.1,())
def QY:Ent:=⟨13,⟨(.slot .bool .nil),.nil⟩,⟨(.agg (.slot .bool (.own 0 (.const (AV.nils) (.const (AV.nils) (.const (AV.nils) (.slot .i .nil)))))) .nil),(.tree false 0 (.slice Am) .nil)⟩,EC⟩
theorem cL:Ao Go.Proofs.Tryz.prog QY:=okA (hcA 0 (all_cons cM all_nil)) Go.Proofs.Tryz.func13
def Bo (x:B3):Option (Bool×Unit):=bif decide (x.2.1<=x.1)then some (decide (x.1<=x.2.2.1),())else some (false,())
def QX:Ent:=⟨25,⟨(si 3 .nil),.nil⟩,⟨(.slot .bool .nil),.nil⟩,Bo⟩
theorem Hk:Ao Go.Proofs.Tryz.prog QX:=okA (hcA 0 all_nil) Go.Proofs.Tryz.func25
def Ds (x:Int×Unit):Option (Bool×Unit):=(Bo (x.1,1,4,())).bind fun v=>some (v.1,())
def YV:Ent:=⟨22,⟨(.slot .i .nil),.nil⟩,⟨(.slot .bool .nil),.nil⟩,Ds⟩
theorem Wq:Ao Go.Proofs.Tryz.prog YV:=okA (hcA 0 (all_cons Hk all_nil)) Go.Proofs.Tryz.func22
def Bh (x:Int×Unit):Option (Bool×Unit):=(Bo (x.1,1,9,())).bind fun v=>some (v.1,())
def Kw:Ent:=⟨26,⟨(.slot .i .nil),.nil⟩,⟨(.slot .bool .nil),.nil⟩,Bh⟩
theorem HV:Ao Go.Proofs.Tryz.prog Kw:=okA (hcA 0 (all_cons Hk all_nil)) Go.Proofs.Tryz.func26
def CB (x:Int×Unit):Option (Bool×Unit):=(Bo (x.1,0,5,())).bind fun v=>some (v.1,())
def Kv:Ent:=⟨23,⟨(.slot .i .nil),.nil⟩,⟨(.slot .bool .nil),.nil⟩,CB⟩
theorem KO:Ao Go.Proofs.Tryz.prog Kv:=okA (hcA 0 (all_cons Hk all_nil)) Go.Proofs.Tryz.func23
def DP (x:Int×Unit):Option (Bool×Unit):=(Bo (x.1,-1,99,())).bind fun v=>some (v.1,())
def QW:Ent:=⟨24,⟨(.slot .i .nil),.nil⟩,⟨(.slot .bool .nil),.nil⟩,DP⟩
theorem Pm:Ao Go.Proofs.Tryz.prog QW:=okA (hcA 0 (all_cons Hk all_nil)) Go.Proofs.Tryz.func24
def ED (x:A6×Unit):Option (Bool×Unit):=bif x.1.1==1 then(Ds (x.1.2.2.1,())).bind fun v=>(Bo (x.1.1,1,6,())).bind fun a=>bif a.1 then(Bh (x.1.2.1,())).bind fun b=>bif b.1 then bif v.1 then some (0==0&&(0==0&&(0==0&&(x.1.2.2.2.1==0&&(x.1.2.2.2.2.1==0&&(x.1.2.2.2.2.2.1==0&&true))))),())else some (false,())else some (false,())else some (false,())else bif x.1.1==2 then(CB (x.1.2.2.2.1,())).bind fun v=>(Bo (x.1.1,1,6,())).bind fun a=>bif a.1 then(Bh (x.1.2.1,())).bind fun b=>bif b.1 then bif v.1 then some (0==0&&(0==0&&(x.1.2.2.1==0&&(0==0&&(x.1.2.2.2.2.1==0&&(x.1.2.2.2.2.2.1==0&&true))))),())else some (false,())else some (false,())else some (false,())else bif x.1.1==3 then(CB (x.1.2.2.2.1,())).bind fun v=>bif v.1 then(DP (x.1.2.2.2.2.2.1,())).bind fun v=>(Bo (x.1.1,1,6,())).bind fun a=>bif a.1 then(Bh (x.1.2.1,())).bind fun b=>bif b.1 then bif v.1 then some (0==0&&(0==0&&(x.1.2.2.1==0&&(0==0&&(x.1.2.2.2.2.1==0&&(0==0&&true))))),())else some (false,())else some (false,())else some (false,())else(Bo (x.1.1,1,6,())).bind fun v=>bif v.1 then(Bh (x.1.2.1,())).bind fun v=>bif v.1 then some (false,())else some (false,())else some (false,())else bif x.1.1==4 then(CB (x.1.2.2.2.1,())).bind fun v=>bif v.1 then(Bo (x.1.2.2.2.2.1,x.1.2.2.2.1,5,())).bind fun v=>(Bo (x.1.1,1,6,())).bind fun a=>bif a.1 then(Bh (x.1.2.1,())).bind fun b=>bif b.1 then bif v.1 then some (0==0&&(0==0&&(x.1.2.2.1==0&&(0==0&&(0==0&&(x.1.2.2.2.2.2.1==0&&true))))),())else some (false,())else some (false,())else some (false,())else(Bo (x.1.1,1,6,())).bind fun v=>bif v.1 then(Bh (x.1.2.1,())).bind fun v=>bif v.1 then some (false,())else some (false,())else some (false,())else(Bo (x.1.1,1,6,())).bind fun v=>bif v.1 then(Bh (x.1.2.1,())).bind fun v=>bif v.1 then some (0==0&&(0==0&&(x.1.2.2.1==0&&(x.1.2.2.2.1==0&&(x.1.2.2.2.2.1==0&&(x.1.2.2.2.2.2.1==0&&true))))),())else some (false,())else some (false,())
def QV:Ent:=⟨14,⟨(.slot YOp .nil),.nil⟩,⟨(.slot .bool .nil),.nil⟩,ED⟩
theorem cK:Ao Go.Proofs.Tryz.prog QV:=okA (hcA 0 (all_cons Wq (all_cons Hk (all_cons HV (all_cons KO (all_cons Pm all_nil)))))) Go.Proofs.Tryz.func14
def ET (x:Int×Unit):Option (Bool×Unit):=some (x.1 != x.1,())
def YU:Ent:=⟨60,⟨(.slot .i .nil),.nil⟩,⟨(.slot .bool .nil),.nil⟩,ET⟩
theorem cJ:Ao Go.Proofs.Tryz.prog YU:=okA (hcA 0 all_nil) Go.Proofs.Tryz.func60
def Bv (x:Int×Int×Unit):Option (Int×Unit):=(ET (x.1,())).bind fun v=>(ET (x.2.1,())).bind fun a=>bif v.1 then bif a.1 then some (0,())else some (-1,())else bif a.1 then some (1,())else bif decide (x.1<x.2.1)then some (-1,())else bif decide (x.1>x.2.1)then some (1,())else some (0,())
def YT:Ent:=⟨41,⟨(si 2 .nil),.nil⟩,⟨(.slot .i .nil),.nil⟩,Bv⟩
theorem KN:Ao Go.Proofs.Tryz.prog YT:=okA (hcA 0 (all_cons cJ all_nil)) Go.Proofs.Tryz.func41
def Cv (x:A3×Int×Unit):Option (Int×Unit):=(Bv (x.1.1,x.2.1,())).bind fun v=>some (v.1,())
def QU:Ent:=⟨40,⟨(.slot Af (.slot .i .nil)),.nil⟩,⟨(.slot .i .nil),.nil⟩,Cv⟩
theorem cG:Ao Go.Proofs.Tryz.prog QU:=okA (hcA 0 (all_cons KN all_nil)) Go.Proofs.Tryz.func40
abbrev Wn:=List A3×Int×Unit×Int×Unit
abbrev Wk:=Int×Int×Unit
abbrev Wl:=Int×Unit
def Av (i:Wn)(v:Wk)(R:Type)(K:Wk ⊕ Wl->Option R):Option R:=bif decide (v.1<v.2.1)then(lAt i.1 (IntKind.i64.wrap (Int.fdiv (IntKind.u64.wrap (IntKind.i64.wrap (v.1+v.2.1))) (2 ^ min (Int.toNat 1) (IntKind.bits IntKind.u64))))).bind fun a=>(Cv ((a.1,a.2.1,a.2.2.1,a.2.2.2.1,a.2.2.2.2.1,a.2.2.2.2.2.1,a.2.2.2.2.2.2.1,a.2.2.2.2.2.2.2.1,a.2.2.2.2.2.2.2.2.1,()),i.2.1,())).bind fun b=>bif decide (b.1<0)then K (.inl (IntKind.i64.wrap (IntKind.i64.wrap (Int.fdiv (IntKind.u64.wrap (IntKind.i64.wrap (v.1+v.2.1))) (2 ^ min (Int.toNat 1) (IntKind.bits IntKind.u64)))+1),v.2.1,()))else K (.inl (v.1,IntKind.i64.wrap (Int.fdiv (IntKind.u64.wrap (IntKind.i64.wrap (v.1+v.2.1))) (2 ^ min (Int.toNat 1) (IntKind.bits IntKind.u64))),()))else K (.inr (v.1,()))
theorem D0:Dm Av:=fun i v R K=>Al (Ad fun _=>Ad fun _=>Al (Ac) (Ac)) (Ac)
def Pl:Tmpl:=⟨(.slot (.slice Af) (.slot .i (.slot (.fn 40 .unit) (jk 5 (si 3 (jk 38 .nil)))))),.nil⟩
def Wj:Exs Wn Wl:=x1 (.exit 0) fun i p=>⟨AV.pv (.slice Af) i.1::.n (i.2.1)::AV.pv (.fn 40 .unit) i.2.2.1::jn 5 (.n (i.2.2.2.1)::.n (p.1)::jn 39 ([])),[]⟩
def Wm:=((.i (.i (.i (.i (.v (.v .n)))))):Pk Pl.ty _ _)
def aI:Cfg:={ti:=Bw,ents:=[QU],ann:=[(3,Bf Pl 0 (spP Wm) Av Wj.E)],lent:=0}
def AH (x:List A3×Int×Unit×Unit):Option (Int×Bool×Unit):=(BL (fun v=>Av (x.1,x.2.1,x.2.2.1,(x.1.length:Int),()) v _ some) (0,(x.1.length:Int),())).bind fun p=>bif decide (p.1<(x.1.length:Int))then(lAt x.1 p.1).bind fun v=>(Cv ((v.1,v.2.1,v.2.2.1,v.2.2.2.1,v.2.2.2.2.1,v.2.2.2.2.2.1,v.2.2.2.2.2.2.1,v.2.2.2.2.2.2.2.1,v.2.2.2.2.2.2.2.2.1,()),x.2.1,())).bind fun v=>some (p.1,v.1==0,())else some (p.1,false,())
def QT:Ent:=⟨39,⟨(.slot (.slice Af) (.slot .i (.slot (.fn 40 .unit) .nil))),.nil⟩,⟨(.slot .i (.slot .bool .nil)),.nil⟩,AH⟩
theorem Wo:CfgOK Go.Proofs.Tryz.prog aI:=hcB (all_cons cG all_nil)
theorem YS:Cz Go.Proofs.Tryz.prog aI (lpc Go.Proofs.Tryz.f39 0):=lkA Wo Pl Wm Av Wj [0,1,2,8,9] D0
theorem cF:Ao Go.Proofs.Tryz.prog QT:=okB Wo Go.Proofs.Tryz.func39 YS
def Gr (x:Int×Unit):Option (Bool×Unit):=(Bo (x.1,1,999,())).bind fun v=>some (v.1,())
def YR:Ent:=⟨92,⟨(.slot .i .nil),.nil⟩,⟨(.slot .bool .nil),.nil⟩,Gr⟩
theorem cE:Ao Go.Proofs.Tryz.prog YR:=okA (hcA 0 (all_cons Hk all_nil)) Go.Proofs.Tryz.func92
abbrev Wh:=Int×List Int×Int×Unit
abbrev We:=Int×Unit
abbrev Wf:=Int×Unit ⊕ Unit
def Cg (i:Wh)(v:We)(R:Type)(K:We ⊕ Wf->Option R):Option R:=bif decide (v.1<i.2.2.1)then(lAt i.2.1 v.1).bind fun a=>bif a != i.1 then K (.inr (.inl (a,())))else K (.inl (IntKind.i64.wrap (v.1+1),()))else K (.inr (.inr ()))
theorem JH:Dm Cg:=fun i v R K=>Al (Ad fun _=>Al (Ac) (Ac)) (Ac)
def Pj:Tmpl:=⟨(jk 3 (.slot .i (jk 2 (.slot (.slice .i) (si 2 (jk 9 .nil)))))),.nil⟩
def Wd:Exs Wh Wf:=xs .ret (fun i p=>⟨jn 2 (.n (p.1)::.n (i.1)::jn 14 ([])),[]⟩)<|x1 (.exit 0) fun i p=>⟨jn 3 (.n (i.1)::jn 14 ([])),[]⟩
def Wg:=((.i (.i (.i (.v .n)))):Pk Pj.ty _ _)
def aH:Cfg:={ti:=Bw,ents:=[],ann:=[(3,Bf Pj 0 (spP Wg) Cg Wd.E)],lent:=0}
def Gc (x:List Int×Unit):Option (Int×Unit):=(BL (fun v=>Cg (0,x.1,(x.1.length:Int),()) v _ some) (0,())).bind fun p=>CA p (fun p=>some (p.1,())) fun p=>some (0,())
def YQ:Ent:=⟨116,⟨(.slot (.slice .i) .nil),.nil⟩,⟨(.slot .i .nil),.nil⟩,Gc⟩
theorem Wi:CfgOK Go.Proofs.Tryz.prog aH:=hcB all_nil
theorem YP:Cz Go.Proofs.Tryz.prog aH (lpc Go.Proofs.Tryz.f116 0):=lkA Wi Pj Wg Cg Wd [2,3] JH
theorem cD:Ao Go.Proofs.Tryz.prog YQ:=okB Wi Go.Proofs.Tryz.func116 YP
def Bu (x:A1×A1×Unit):Option (Int×Unit):=(Bv (x.1.1,x.2.1.1,())).bind fun v=>(Bv (x.1.2.1,x.2.1.2.1,())).bind fun a=>(Gc ([v.1,a.1],())).bind fun v=>some (v.1,())
def Mk:Ent:=⟨100,⟨(.slot A0 (.slot A0 .nil)),.nil⟩,⟨(.slot .i .nil),.nil⟩,Bu⟩
theorem Wc:Ao Go.Proofs.Tryz.prog Mk:=okA (hcA 0 (all_cons KN (all_cons cD all_nil))) Go.Proofs.Tryz.func100
abbrev Wa:=List A1×List A1×Int×Unit
abbrev W7:=Int×Unit
abbrev W8:=Int×Int×Unit ⊕ Int×Int×Unit ⊕ Int×Int×Unit ⊕ Unit
def D1 (i:Wa)(v:W7)(R:Type)(K:W7 ⊕ W8->Option R):Option R:=bif decide (v.1<i.2.2.1)then(lAt i.2.1 v.1).bind fun a=>(CB (a.1,())).bind fun b=>bif !b.1 then K (.inr (.inl (a.1,a.2.1,())))else(Bo (a.2.1,0,999,())).bind fun c=>bif !c.1 then K (.inr (.inr (.inl (a.1,a.2.1,()))))else bif decide (v.1>0)then(lAt i.1 (IntKind.i64.wrap (v.1-1))).bind fun d=>(Bu ((d.1,d.2.1,()),(a.1,a.2.1,()),())).bind fun e=>bif decide (e.1>=0)then K (.inr (.inr (.inr (.inl (a.1,a.2.1,())))))else K (.inl (IntKind.i64.wrap (v.1+1),()))else K (.inl (IntKind.i64.wrap (v.1+1),()))else K (.inr (.inr (.inr (.inr ()))))
theorem I8:Dm D1:=fun i v R K=>Al (Ad fun _=>Ad fun _=>Al (Ac) (Ad fun _=>Al (Ac) (Al (Ad fun _=>Ad fun _=>Al (Ac) (Ac)) (Ac)))) (Ac)
def Pi:Tmpl:=⟨(.slot (.slice A0) (jk 4 (.slot (.slice A0) (si 2 (jk 32 .nil))))),.nil⟩
def W6:Exs Wa W8:=xs .ret (fun i p=>⟨AV.pv (.slice A0) i.1::jn 1 (.b (false)::jn 37 ([])),[some (Cont.cells 2 [[AV.pv .i p.1,AV.pv .i p.2.1]])]⟩)<|xs .ret (fun i p=>⟨AV.pv (.slice A0) i.1::jn 1 (.b (false)::jn 37 ([])),[some (Cont.cells 2 [[AV.pv .i p.1,AV.pv .i p.2.1]])]⟩)<|xs .ret (fun i p=>⟨AV.pv (.slice A0) i.1::jn 1 (.b (false)::jn 37 ([])),[some (Cont.cells 2 [[AV.pv .i p.1,AV.pv .i p.2.1]])]⟩)<|x1 (.exit 0) fun i p=>⟨AV.pv (.slice A0) i.1::jn 39 ([]),[]⟩
def W9:=((.i (.i (.i (.v .n)))):Pk Pi.ty _ _)
def aG:Cfg:={ti:=Bw,ents:=[Kv,QX,Mk],ann:=[(2,Bf Pi 0 (spP W9) D1 W6.E)],lent:=0}
def Cq (x:List A1×Unit):Option (Bool×Unit):=(BL (fun v=>D1 (x.1,x.1,(x.1.length:Int),()) v _ some) (0,())).bind fun p=>CA p (fun p=>some (false,())) fun p=>CA p (fun p=>some (false,())) fun p=>CA p (fun p=>some (false,())) fun p=>some (decide ((x.1.length:Int)<=60),())
def YO:Ent:=⟨93,⟨(.slot (.slice A0) .nil),.nil⟩,⟨(.slot .bool .nil),.nil⟩,Cq⟩
theorem Wb:CfgOK Go.Proofs.Tryz.prog aG:=hcB (all_cons KO (all_cons Hk (all_cons Wc all_nil)))
theorem YN:Cz Go.Proofs.Tryz.prog aG (lpc Go.Proofs.Tryz.f93 0):=lkA Wb Pi W9 D1 W6 [0,2] I8
theorem cC:Ao Go.Proofs.Tryz.prog YO:=okB Wb Go.Proofs.Tryz.func93 YN
abbrev W4:=List A1×List A1×Int×Unit
abbrev W0:=Int×Unit
abbrev W2:=Int×Int×Unit ⊕ Int×Int×Unit ⊕ Int×Int×Unit ⊕ Unit
def CG (i:W4)(v:W0)(R:Type)(K:W0 ⊕ W2->Option R):Option R:=bif decide (v.1<i.2.2.1)then(lAt i.2.1 v.1).bind fun a=>(CB (a.1,())).bind fun b=>bif !b.1 then K (.inr (.inl (a.1,a.2.1,())))else(DP (a.2.1,())).bind fun c=>bif !c.1 then K (.inr (.inr (.inl (a.1,a.2.1,()))))else bif decide (v.1>0)then(lAt i.1 (IntKind.i64.wrap (v.1-1))).bind fun d=>bif decide (d.1>=a.1)then K (.inr (.inr (.inr (.inl (a.1,a.2.1,())))))else K (.inl (IntKind.i64.wrap (v.1+1),()))else K (.inl (IntKind.i64.wrap (v.1+1),()))else K (.inr (.inr (.inr (.inr ()))))
theorem HH:Dm CG:=fun i v R K=>Al (Ad fun _=>Ad fun _=>Al (Ac) (Ad fun _=>Al (Ac) (Al (Ad fun _=>Al (Ac) (Ac)) (Ac)))) (Ac)
def Ph:Tmpl:=⟨(.slot (.slice A0) (jk 4 (.slot (.slice A0) (si 2 (jk 30 .nil))))),.nil⟩
def VZ:Exs W4 W2:=xs .ret (fun i p=>⟨jn 2 (.b (false)::jn 35 ([])),[some (Cont.cells 2 [[AV.pv .i p.1,AV.pv .i p.2.1]])]⟩)<|xs .ret (fun i p=>⟨jn 2 (.b (false)::jn 35 ([])),[some (Cont.cells 2 [[AV.pv .i p.1,AV.pv .i p.2.1]])]⟩)<|xs .ret (fun i p=>⟨jn 2 (.b (false)::jn 35 ([])),[some (Cont.cells 2 [[AV.pv .i p.1,AV.pv .i p.2.1]])]⟩)<|x1 (.exit 0) fun i p=>⟨jn 38 ([]),[]⟩
def W3:=((.i (.i (.i (.v .n)))):Pk Ph.ty _ _)
def aF:Cfg:={ti:=Bw,ents:=[Kv,QW],ann:=[(2,Bf Ph 0 (spP W3) CG VZ.E)],lent:=0}
def Ca (x:List A1×Unit):Option (Bool×Unit):=(BL (fun v=>CG (x.1,x.1,(x.1.length:Int),()) v _ some) (0,())).bind fun p=>CA p (fun p=>some (false,())) fun p=>CA p (fun p=>some (false,())) fun p=>CA p (fun p=>some (false,())) fun p=>some (true,())
def YM:Ent:=⟨94,⟨(.slot (.slice A0) .nil),.nil⟩,⟨(.slot .bool .nil),.nil⟩,Ca⟩
theorem W5:CfgOK Go.Proofs.Tryz.prog aF:=hcB (all_cons KO (all_cons Pm all_nil))
theorem YL:Cz Go.Proofs.Tryz.prog aF (lpc Go.Proofs.Tryz.f94 0):=lkA W5 Ph W3 CG VZ [2] HH
theorem cB:Ao Go.Proofs.Tryz.prog YM:=okB W5 Go.Proofs.Tryz.func94 YL
def Ct (x:A3×Unit):Option (Bool×Unit):=(Bh (x.1.1,())).bind fun v=>bif !v.1 then some (false,())else(Ds (x.1.2.1,())).bind fun v=>bif !v.1 then some (false,())else(Bo (x.1.2.2.1,1,3,())).bind fun v=>bif !v.1 then some (false,())else(Bo (x.1.2.2.2.1,0,999,())).bind fun v=>bif !v.1 then some (false,())else(Bo (x.1.2.2.2.2.1,0,999,())).bind fun v=>bif !v.1 then some (false,())else(Bo (x.1.2.2.2.2.2.1,1,1000,())).bind fun v=>bif !v.1 then some (false,())else bif x.1.2.2.1==2 then(Gr (x.1.2.2.2.2.2.2.1,())).bind fun v=>bif !v.1 then some (false,())else bif x.1.2.2.1 != 2 then bif x.1.2.2.2.2.2.2.1 != 0 then some (false,())else(Cq (x.1.2.2.2.2.2.2.2.1,())).bind fun v=>bif v.1 then(Ca (x.1.2.2.2.2.2.2.2.2.1,())).bind fun v=>some (v.1,())else some (false,())else(Cq (x.1.2.2.2.2.2.2.2.1,())).bind fun v=>bif v.1 then(Ca (x.1.2.2.2.2.2.2.2.2.1,())).bind fun v=>some (v.1,())else some (false,())else bif x.1.2.2.1 != 2 then bif x.1.2.2.2.2.2.2.1 != 0 then some (false,())else(Cq (x.1.2.2.2.2.2.2.2.1,())).bind fun v=>bif v.1 then(Ca (x.1.2.2.2.2.2.2.2.2.1,())).bind fun v=>some (v.1,())else some (false,())else(Cq (x.1.2.2.2.2.2.2.2.1,())).bind fun v=>bif v.1 then(Ca (x.1.2.2.2.2.2.2.2.2.1,())).bind fun v=>some (v.1,())else some (false,())
def YK:Ent:=⟨61,⟨(.slot Af .nil),.nil⟩,⟨(.slot .bool .nil),.nil⟩,Ct⟩
theorem cA:Ao Go.Proofs.Tryz.prog YK:=okA (hcA 0 (all_cons HV (all_cons Wq (all_cons Hk (all_cons cE (all_cons cC (all_cons cB all_nil))))))) Go.Proofs.Tryz.func61
def Dd (x:B3):Option (Int×Int×Int×Int×Int×Int×Int×Bool×Unit):=(Ct ((x.1,x.2.1,1,x.2.2.1,0,1000,0,[],[],()),())).bind fun v=>bif !v.1 then some (0,0,0,0,0,0,0,false,())else some (x.1,x.2.1,1,x.2.2.1,0,1000,0,true,())
def QS:Ent:=⟨42,⟨(si 3 .nil),.nil⟩,⟨(.agg (si 7 (.const (AV.nils) (.const (AV.nils) .nil))) (.slot .bool .nil)),.nil⟩,Dd⟩
theorem cy:Ao Go.Proofs.Tryz.prog QS:=okA (hcA 0 (all_cons cA all_nil)) Go.Proofs.Tryz.func42
def QQ:Go.Shelf.Ren:=⟨fun|22=>43|29=>62|30=>63|n=>n,fun|24=>30|9=>45|n=>n,fun|n=>n⟩
theorem ei:InsL Go.Proofs.Tryz.prog QQ true 9 where
 mixed:=by kernel_rfl
 f22:=⟨ "slices.Insert[[]loop.example/g01924/impl.Transaction,loop.example/g01924/impl.Transaction]",by decide,Go.Proofs.Tryz.func43.trans (congrArg some (by kernel_rfl))⟩
 f29:=⟨_,Go.Proofs.Tryz.func62,by kernel_rfl,by kernel_rfl,by kernel_rfl,by kernel_rfl⟩
 a9:=Go.Proofs.Tryz.isAgg45
 z9:=Go.Proofs.Tryz.sizeOf45
 t0:=Go.Proofs.Tryz.underlying0
 a0:=Go.Proofs.Tryz.isAgg0
 z0:=Go.Proofs.Tryz.sizeOf0
 v0:=Go.Proofs.Tryz.zeroValue0
 t3:=Go.Proofs.Tryz.underlying3
 a3:=Go.Proofs.Tryz.isAgg3
 z3:=Go.Proofs.Tryz.sizeOf3
 v3:=Go.Proofs.Tryz.zeroValue3
 t4:=Go.Proofs.Tryz.underlying4
 a4:=Go.Proofs.Tryz.isAgg4
 z4:=Go.Proofs.Tryz.sizeOf4
 v4:=Go.Proofs.Tryz.zeroValue4
 t24:=Go.Proofs.Tryz.underlying30
 a24:=Go.Proofs.Tryz.isAgg30
 z24:=Go.Proofs.Tryz.sizeOf30
 v24:=Go.Proofs.Tryz.zeroValue30
def Ch (x:Int×List (Int×Int×Int×Int×Int×Int×Int×List (Int×Int×Unit)×List (Int×Int×Unit)×Unit)×List (Int×Int×Int×Int×Int×Int×Int×List (Int×Int×Unit)×List (Int×Int×Unit)×Unit)×Unit):Option (List (Int×Int×Int×Int×Int×Int×Int×List (Int×Int×Unit)×List (Int×Int×Unit)×Unit)×Unit):=JZ (α:=Int×Int×Int×Int×Int×Int×Int×List (Int×Int×Unit)×List (Int×Int×Unit)×Unit) 338311270084 x
def eR:Cfg:={ti:=Bw,ents:=[],ann:=[],lent:=2}
def QR:Ent:=⟨43,⟨(.own 0 (.slot Ty.i (.own 1 .nil))),(.tree false 0 (Ty.prod Ty.i (Ty.prod Ty.i (Ty.prod Ty.i (Ty.prod Ty.i (Ty.prod Ty.i (Ty.prod Ty.i (Ty.prod Ty.i (Ty.prod (Ty.slice (Ty.prod
 Ty.i (Ty.prod Ty.i Ty.unit))) (Ty.prod (Ty.slice A0) Ty.unit))))))))) (.tree false 0 (Ty.prod Ty.i (Ty.prod Ty.i (Ty.prod Ty.i (Ty.prod Ty.i (Ty.prod Ty.i (Ty.prod Ty.i (Ty.prod Ty.i (Ty.prod (Ty.slice (Ty.prod
 Ty.i (Ty.prod Ty.i Ty.unit))) (Ty.prod (Ty.slice A0) Ty.unit))))))))) .nil))⟩,⟨(.own 2 .nil),(.gone (.gone (.tree false 0 (Ty.prod Ty.i (Ty.prod Ty.i (Ty.prod Ty.i (Ty.prod Ty.i (Ty.prod Ty.i (Ty.prod Ty.i (Ty.prod Ty.i (Ty.prod (Ty.slice (Ty.prod
 Ty.i (Ty.prod Ty.i Ty.unit))) (Ty.prod (Ty.slice A0) Ty.unit))))))))) .nil)))⟩,Ch⟩
theorem cx:Ao Go.Proofs.Tryz.prog QR:=Zr (ρ:=QQ) (t:=Ty.prod Ty.i (Ty.prod Ty.i (Ty.prod Ty.i (Ty.prod Ty.i (Ty.prod Ty.i (Ty.prod Ty.i (Ty.prod Ty.i (Ty.prod (Ty.slice (Ty.prod
 Ty.i (Ty.prod Ty.i Ty.unit))) (Ty.prod (Ty.slice A0) Ty.unit))))))))) XB ei rfl (by decide) rfl
def eg:Cfg:={ti:=Bw,ents:=[QR,QT,QS],ann:=[],lent:=5,hid:=[((5,0),[2,5])],pre:=[(some (0,2))]}
def Dg (x:Int×Int×Int×Int×Int×Int×Bool×Int×A7):Option (Int×Bool×Int×List (List A2)×List A1×List A1×List A3×Unit):=(AH (x.2.2.2.2.2.2.2.2.2.1,x.2.1,(),())).bind fun v=>bif v.2.1 then some (6,x.2.2.2.2.2.2.1,x.2.2.2.2.2.2.2.1,x.2.2.2.2.2.2.2.2.1,x.2.2.2.2.2.2.2.2.2.2.1,x.2.2.2.2.2.2.2.2.2.2.2.1,x.2.2.2.2.2.2.2.2.2.1,())else bif (x.2.2.2.2.2.2.2.2.2.1.length:Int)==6 then some (6,x.2.2.2.2.2.2.1,x.2.2.2.2.2.2.2.1,x.2.2.2.2.2.2.2.2.1,x.2.2.2.2.2.2.2.2.2.2.1,x.2.2.2.2.2.2.2.2.2.2.2.1,x.2.2.2.2.2.2.2.2.2.1,())else(Dd (x.2.1,x.2.2.1,x.2.2.2.2.2.2.2.1,())).bind fun a=>(Ch (v.1,x.2.2.2.2.2.2.2.2.2.1,[(a.1,a.2.1,a.2.2.1,a.2.2.2.1,a.2.2.2.2.1,a.2.2.2.2.2.1,a.2.2.2.2.2.2.1,[],[],())],())).bind fun v=>some (0,x.2.2.2.2.2.2.1,x.2.2.2.2.2.2.2.1,x.2.2.2.2.2.2.2.2.1,x.2.2.2.2.2.2.2.2.2.2.1,x.2.2.2.2.2.2.2.2.2.2.2.1,v.1,())
def QP:Ent:=⟨27,⟨(.ptr 0 0 0 (.agg (si 6 .nil) .nil)),(.cells 6 (.slot .bool (.own 1 (.own 2 (.own 3 (.own 4 (.slot .i .nil)))))) (.tree false 0 (.slice Am) (.tree false 0 Af (.lst false A0 (.lst false A0 .nil)))))⟩,⟨(.agg (.slot .i (.const (AV.nils) .nil)) .nil),(.cells 6 (.slot .bool (.own 1 (.own 5 (.own 3 (.own 4 (.slot .i .nil)))))) (.tree false 0 (.slice Am) (.gone (.lst false A0 (.lst false A0 (.tree false 0 Af .nil))))))⟩,Dg⟩
theorem cv:Ao Go.Proofs.Tryz.prog QP:=okA (C:=eg) (hcB (all_cons cx (all_cons cF (all_cons cy all_nil)))) Go.Proofs.Tryz.func27
def DG (x:A3×Option Int×Unit):Option (Bool×Unit):=x.2.1.bind fun v=>some (x.1.1==v,())
def QO:Ent:=⟨45,⟨(.slot Af (.slot (.iref .i) .nil)),.nil⟩,⟨(.slot .bool .nil),.nil⟩,DG⟩
theorem cu:Ao Go.Proofs.Tryz.prog QO:=okA (hcA 0 all_nil) Go.Proofs.Tryz.func45
abbrev VX:=List A3×(Option Int×Unit)×Int×Unit
abbrev VT:=Int×Unit
abbrev VU:=Int×Unit ⊕ Unit
def Ay (i:VX)(v:VT)(R:Type)(K:VT ⊕ VU->Option R):Option R:=bif decide (v.1<i.2.2.1)then(lAt i.1 v.1).bind fun a=>(DG ((a.1,a.2.1,a.2.2.1,a.2.2.2.1,a.2.2.2.2.1,a.2.2.2.2.2.1,a.2.2.2.2.2.2.1,a.2.2.2.2.2.2.2.1,a.2.2.2.2.2.2.2.2.1,()),i.2.1.1,())).bind fun b=>bif b.1 then K (.inr (.inl (v.1,())))else K (.inl (IntKind.i64.wrap (v.1+1),()))else K (.inr (.inr ()))
theorem Dv:Dm Ay:=fun i v R K=>Al (Ad fun _=>Ad fun _=>Al (Ac) (Ac)) (Ac)
def Pg:Tmpl:=⟨(.slot (.slice Af) (.slot (.fn 45 (.prod (.iref .i) .unit)) (jk 5 (si 2 (jk 10 .nil))))),.nil⟩
def VS:Exs VX VU:=xs .ret (fun i p=>⟨jn 4 (.n (p.1)::jn 14 ([])),[]⟩)<|x1 (.exit 0) fun i p=>⟨jn 19 ([]),[]⟩
def VW:=((.i (.i (.i (.v .n)))):Pk Pg.ty _ _)
def aE:Cfg:={ti:=Bw,ents:=[QO],ann:=[(2,Bf Pg 0 (spP VW) Ay VS.E)],lent:=0}
def BA (x:List A3×(Option Int×Unit)×Unit):Option (Int×Unit):=(BL (fun v=>Ay (x.1,x.2.1,(x.1.length:Int),()) v _ some) (0,())).bind fun p=>CA p (fun p=>some (p.1,())) fun p=>some (-1,())
def YJ:Ent:=⟨44,⟨(.slot (.slice Af) (.slot (.fn 45 (.prod (.iref .i) .unit)) .nil)),.nil⟩,⟨(.slot .i .nil),.nil⟩,BA⟩
theorem VY:CfgOK Go.Proofs.Tryz.prog aE:=hcB (all_cons cu all_nil)
theorem YI:Cz Go.Proofs.Tryz.prog aE (lpc Go.Proofs.Tryz.f44 0):=lkA VY Pg VW Ay VS [4] Dv
theorem ct:Ao Go.Proofs.Tryz.prog YJ:=okB VY Go.Proofs.Tryz.func44 YI
def Cl (x:A5×Int×Unit):Option (Int×Unit):=(BA (x.1.2.2.1,(some x.2.1,()),())).bind fun v=>some (v.1,())
def QN:Ent:=⟨29,⟨(.slot IG (.slot .i .nil)),.nil⟩,⟨(.slot .i .nil),.nil⟩,Cl⟩
theorem VR:Ao Go.Proofs.Tryz.prog QN:=okA (hcA 0 (all_cons ct all_nil)) Go.Proofs.Tryz.func29
def CY (x:A5×Int×Unit):Option (Bool×Unit):=(Cl ((x.1.1,(x.1.2.1.1,()),x.1.2.2.1,x.1.2.2.2.1,x.1.2.2.2.2.1,x.1.2.2.2.2.2.1,()),x.2.1,())).bind fun v=>bif decide (v.1>=0)then(lAt x.1.2.2.1 v.1).bind fun v=>some (v.2.2.1==1,())else some (false,())
def QM:Ent:=⟨28,⟨(.slot IG (.slot .i .nil)),.nil⟩,⟨(.slot .bool .nil),.nil⟩,CY⟩
theorem cr:Ao Go.Proofs.Tryz.prog QM:=okA (hcA 0 (all_cons VR all_nil)) Go.Proofs.Tryz.func28
def BI (x:List A1×Unit):Option (List A1×Unit):=bif x.1.length==0 then MZ (some ([],())) (if x.1.length<=2199023255552 then some (x.1,())else none)else if x.1.length<=2199023255552 then some (x.1,())else none
def QL:Ent:=⟨31,⟨(.slot (.slice A0) .nil),.nil⟩,⟨(.own 0 .nil),(.lst false A0 .nil)⟩,BI⟩
theorem Pf:Ao Go.Proofs.Tryz.prog QL:=okA (hcA 0 all_nil) Go.Proofs.Tryz.func31
def Cc (x:A1×Option A6×Unit):Option (Bool×Unit):=x.2.1.bind fun v=>some (x.1.1==v.2.1,())
def Mj:Ent:=⟨32,⟨(.slot A0 (.slot (.iref YOp) .nil)),.nil⟩,⟨(.slot .bool .nil),.nil⟩,Cc⟩
theorem VQ:Ao Go.Proofs.Tryz.prog Mj:=okA (hcA 0 all_nil) Go.Proofs.Tryz.func32
abbrev VO:=List A1×(Option A6×Unit)×Int×Unit
abbrev VK:=Int×Unit
abbrev VL:=Int×Unit ⊕ Unit
def AI (i:VO)(v:VK)(R:Type)(K:VK ⊕ VL->Option R):Option R:=bif decide (v.1<i.2.2.1)then(lAt i.1 v.1).bind fun a=>(Cc ((a.1,a.2.1,()),i.2.1.1,())).bind fun b=>bif b.1 then K (.inr (.inl (v.1,())))else K (.inl (IntKind.i64.wrap (v.1+1),()))else K (.inr (.inr ()))
theorem DW:Dm AI:=fun i v R K=>Al (Ad fun _=>Ad fun _=>Al (Ac) (Ac)) (Ac)
def Pe:Tmpl:=⟨(.slot (.slice A0) (.slot (.fn 32 (.prod (.iref YOp) .unit)) (jk 5 (si 2 (jk 10 .nil))))),.nil⟩
def VJ:Exs VO VL:=xs .ret (fun i p=>⟨jn 4 (.n (p.1)::jn 14 ([])),[]⟩)<|x1 (.exit 0) fun i p=>⟨jn 19 ([]),[]⟩
def VN:=((.i (.i (.i (.v .n)))):Pk Pe.ty _ _)
def aD:Cfg:={ti:=Bw,ents:=[Mj],ann:=[(2,Bf Pe 0 (spP VN) AI VJ.E)],lent:=0}
def Bg (x:List A1×(Option A6×Unit)×Unit):Option (Int×Unit):=(BL (fun v=>AI (x.1,x.2.1,(x.1.length:Int),()) v _ some) (0,())).bind fun p=>CA p (fun p=>some (p.1,())) fun p=>some (-1,())
def QK:Ent:=⟨46,⟨(.slot (.slice A0) (.slot (.fn 32 (.prod (.iref YOp) .unit)) .nil)),.nil⟩,⟨(.slot .i .nil),.nil⟩,Bg⟩
theorem VP:CfgOK Go.Proofs.Tryz.prog aD:=hcB (all_cons VQ all_nil)
theorem YH:Cz Go.Proofs.Tryz.prog aD (lpc Go.Proofs.Tryz.f46 0):=lkA VP Pe VN AI VJ [4] DW
theorem cq:Ao Go.Proofs.Tryz.prog QK:=okB VP Go.Proofs.Tryz.func46 YH
abbrev VH:=A6
abbrev VE:=Int×Int×List A1×Unit
abbrev VF:=Int×List A1×Unit
def AX (i:VH)(v:VE)(R:Type)(K:VE ⊕ VF->Option R):Option R:=bif decide (v.2.1<(v.2.2.1.length:Int))then if 0<=v.2.1/\v.2.1<(v.2.2.1.length:Int)then v.2.2.1[0+v.2.1.toNat]?.bind fun a=>(Cc ((a.1,a.2.1,()),some (i.1,i.2.1,i.2.2.1,i.2.2.2.1,i.2.2.2.2.1,i.2.2.2.2.2.1,()),())).bind fun b=>bif !b.1 then if 0<=v.1/\v.1<(v.2.2.1.length:Int)then v.2.2.1[0+v.1.toNat]?.bind fun c=>K (.inl (IntKind.i64.wrap (v.1+1),IntKind.i64.wrap (v.2.1+1),v.2.2.1.set (0+v.1.toNat) (a.1,a.2.1,()),()))else none else K (.inl (v.1,IntKind.i64.wrap (v.2.1+1),v.2.2.1,()))else none else K (.inr (v.1,v.2.2.1,()))
theorem EJ:Dm AX:=fun i v R K=>Al (BG (Ad fun _=>Ad fun _=>Al (BG (Ad fun _=>Ac)) (Ac))) (Ac)
def Pd:Tmpl:=⟨(.own 0 (.fn 32 (.ptr 1 0 0 .nil) (jk 3 (si 2 (jk 35 .nil))))),(.lst false A0 (.cells 6 (si 6 .nil) .nil))⟩
def VD:Exs VH VF:=x1 (.exit 0) fun i p=>⟨AV.own 0 none none::jn 4 (.n (p.1)::jn 36 ([])),[some (Cont.lst false A0 p.2.1),some (Cont.cells 6 [[AV.pv .i i.1,AV.pv .i i.2.1,AV.pv .i i.2.2.1,AV.pv .i i.2.2.2.1,AV.pv .i i.2.2.2.2.1,AV.pv .i i.2.2.2.2.2.1]])]⟩
def VG:=((.v (.v (.v (.i (.i (.i (.i (.i (.i .n))))))))):Pk Pd.ty _ _)
def aC:Cfg:={ti:=Bw,ents:=[QK,Mj],ann:=[(5,Bf Pd 2 (spP VG) AX VD.E)],lent:=2,cut:=[none]}
def Bp (x:List A1×A6):Option (Int×Int×Int×Int×Int×Int×List A1×Unit):=(Bg (x.1,(some (x.2.1,x.2.2.1,x.2.2.2.1,x.2.2.2.2.1,x.2.2.2.2.2.1,x.2.2.2.2.2.2.1,()),()),())).bind fun v=>bif v.1==-1 then some (x.2.1,x.2.2.1,x.2.2.2.1,x.2.2.2.2.1,x.2.2.2.2.2.1,x.2.2.2.2.2.2.1,x.1,())else(BL (fun v=>AX (x.2.1,x.2.2.1,x.2.2.2.1,x.2.2.2.2.1,x.2.2.2.2.2.1,x.2.2.2.2.2.2.1,()) v _ some) (v.1,IntKind.i64.wrap (v.1+1),x.1,())).bind fun p=>if 0<=p.1/\p.1<=(p.2.1.length:Int)/\(p.2.1.length:Int)<=(p.2.1.length:Int)then if(0:Int)<=0/\0<=p.1/\p.1<=(↑((List.take (0+p.1.toNat) p.2.1++List.replicate ((p.2.1.length:Int).toNat-p.1.toNat) (0,0,())++List.drop (0+p.1.toNat+((p.2.1.length:Int).toNat-p.1.toNat)) p.2.1).length):Int)then some (x.2.1,x.2.2.1,x.2.2.2.1,x.2.2.2.2.1,x.2.2.2.2.2.1,x.2.2.2.2.2.2.1,List.take (p.1.toNat-Int.toNat 0) (List.take (0+p.1.toNat) p.2.1++List.replicate ((p.2.1.length:Int).toNat-p.1.toNat) (0,0,())++List.drop (0+p.1.toNat+((p.2.1.length:Int).toNat-p.1.toNat)) p.2.1),())else none else none
def QJ:Ent:=⟨30,⟨(.own 0 (.fn 32 (.ptr 1 0 0 .nil) .nil)),(.lst false A0 (.cells 6 (si 6 .nil) .nil))⟩,⟨(.own 2 .nil),(.gone (.cells 6 (si 6 .nil) (.lst false A0 .nil)))⟩,Bp⟩
theorem VI:CfgOK Go.Proofs.Tryz.prog aC:=hcB (all_cons cq (all_cons VQ all_nil))
theorem YG:Cz Go.Proofs.Tryz.prog aC (lpc Go.Proofs.Tryz.f30 0):=lkA VI Pd VG AX VD [0,5] EJ
theorem cp:Ao Go.Proofs.Tryz.prog QJ:=okB VI Go.Proofs.Tryz.func30 YG
def Ea (x:A1×Option Int×Unit):Option (Bool×Unit):=x.2.1.bind fun v=>some (x.1.1==v,())
def QI:Ent:=⟨97,⟨(.slot A0 (.slot (.iref .i) .nil)),.nil⟩,⟨(.slot .bool .nil),.nil⟩,Ea⟩
theorem cn:Ao Go.Proofs.Tryz.prog QI:=okA (hcA 0 all_nil) Go.Proofs.Tryz.func97
abbrev VA:=List A1×(Option Int×Unit)×Int×Unit
abbrev Vx:=Int×Unit
abbrev Vy:=Int×Unit ⊕ Unit
def AU (i:VA)(v:Vx)(R:Type)(K:Vx ⊕ Vy->Option R):Option R:=bif decide (v.1<i.2.2.1)then(lAt i.1 v.1).bind fun a=>(Ea ((a.1,a.2.1,()),i.2.1.1,())).bind fun b=>bif b.1 then K (.inr (.inl (v.1,())))else K (.inl (IntKind.i64.wrap (v.1+1),()))else K (.inr (.inr ()))
theorem Ef:Dm AU:=fun i v R K=>Al (Ad fun _=>Ad fun _=>Al (Ac) (Ac)) (Ac)
def Pc:Tmpl:=⟨(.slot (.slice A0) (.slot (.fn 97 (.prod (.iref .i) .unit)) (jk 5 (si 2 (jk 10 .nil))))),.nil⟩
def Vw:Exs VA Vy:=xs .ret (fun i p=>⟨jn 4 (.n (p.1)::jn 14 ([])),[]⟩)<|x1 (.exit 0) fun i p=>⟨jn 19 ([]),[]⟩
def Vz:=((.i (.i (.i (.v .n)))):Pk Pc.ty _ _)
def aB:Cfg:={ti:=Bw,ents:=[QI],ann:=[(2,Bf Pc 0 (spP Vz) AU Vw.E)],lent:=0}
def Bt (x:List A1×(Option Int×Unit)×Unit):Option (Int×Unit):=(BL (fun v=>AU (x.1,x.2.1,(x.1.length:Int),()) v _ some) (0,())).bind fun p=>CA p (fun p=>some (p.1,())) fun p=>some (-1,())
def YF:Ent:=⟨96,⟨(.slot (.slice A0) (.slot (.fn 97 (.prod (.iref .i) .unit)) .nil)),.nil⟩,⟨(.slot .i .nil),.nil⟩,Bt⟩
theorem VB:CfgOK Go.Proofs.Tryz.prog aB:=hcB (all_cons cn all_nil)
theorem YE:Cz Go.Proofs.Tryz.prog aB (lpc Go.Proofs.Tryz.f96 0):=lkA VB Pc Vz AU Vw [4] Ef
theorem cl:Ao Go.Proofs.Tryz.prog YF:=okB VB Go.Proofs.Tryz.func96 YE
def EE (x:A3×Int×Unit):Option (Int×Unit):=(Bt (x.1.2.2.2.2.2.2.2.2.1,(some x.2.1,()),())).bind fun v=>some (v.1,())
def QH:Ent:=⟨64,⟨(.slot Af (.slot .i .nil)),.nil⟩,⟨(.slot .i .nil),.nil⟩,EE⟩
theorem ck:Ao Go.Proofs.Tryz.prog QH:=okA (hcA 0 (all_cons cl all_nil)) Go.Proofs.Tryz.func64
abbrev Vu:=List A2×Int×Unit
abbrev Vr:=Int×Unit
abbrev Vs:=Int×Unit ⊕ Int×Unit
def BX (i:Vu)(v:Vr)(R:Type)(K:Vr ⊕ Vs->Option R):Option R:=bif decide (v.1>=0)then(lAt i.1 v.1).bind fun a=>bif decide (a.2.2.1>i.2.1)then K (.inl (IntKind.i64.wrap (v.1-1),()))else K (.inr (.inl (v.1,())))else K (.inr (.inr (v.1,())))
theorem HG:Dm BX:=fun i v R K=>Al (Ad fun _=>Al (Ac) (Ac)) (Ac)
def Pb:Tmpl:=⟨(.slot (.slice Am) (.slot .i (jk 3 (.slot .i (jk 17 .nil))))),.nil⟩
def Vq:Exs Vu Vs:=xs (.exit 0) (fun i p=>⟨jn 5 (.n (p.1)::jn 17 ([])),[]⟩)<|x1 (.exit 0) fun i p=>⟨jn 5 (.n (p.1)::jn 17 ([])),[]⟩
def Vt:=((.i (.i (.v .n))):Pk Pb.ty _ _)
def aA:Cfg:={ti:=Bw,ents:=[],ann:=[(2,Bf Pb 0 (spP Vt) BX Vq.E)],lent:=0}
def EB (x:List A2×Int×Unit):Option (Int×Unit):=(BL (fun v=>BX (x.1,x.2.1,()) v _ some) (IntKind.i64.wrap ((x.1.length:Int)-1),())).bind fun p=>CA p (fun p=>some (p.1,())) fun p=>some (p.1,())
def YD:Ent:=⟨98,⟨(.slot (.slice Am) (.slot .i .nil)),.nil⟩,⟨(.slot .i .nil),.nil⟩,EB⟩
theorem Vv:CfgOK Go.Proofs.Tryz.prog aA:=hcB all_nil
theorem YC:Cz Go.Proofs.Tryz.prog aA (lpc Go.Proofs.Tryz.f98 0):=lkA Vv Pb Vt BX Vq [5] HG
theorem cj:Ao Go.Proofs.Tryz.prog YD:=okB Vv Go.Proofs.Tryz.func98 YC
def DJ (x:A4×A3×Int×Unit):Option A6:=(lAt x.1.1 x.2.2.1).bind fun v=>bif x.2.1.2.1==2 then(EB (v,x.2.1.2.2.2.1,())).bind fun a=>bif decide (a.1<0)then some (0,0,0,0,0,3,())else bif x.2.1.2.1==4 then(lAt v a.1).bind fun b=>bif decide (b.2.2.1>x.2.1.2.2.2.1)then some (0,0,0,0,0,3,())else(lAt v a.1).bind fun v=>some (v.1,v.2.1,v.2.2.1,v.2.2.2.1,v.2.2.2.2.1,0,())else(lAt v a.1).bind fun v=>some (v.1,v.2.1,v.2.2.1,v.2.2.2.1,v.2.2.2.2.1,0,())else bif decide (IntKind.i64.wrap ((v.length:Int)-1)<0)then some (0,0,0,0,0,3,())else bif x.2.1.2.1==4 then(lAt v (IntKind.i64.wrap ((v.length:Int)-1))).bind fun a=>bif decide (a.2.2.1>x.2.1.2.2.2.1)then some (0,0,0,0,0,3,())else(lAt v (IntKind.i64.wrap ((v.length:Int)-1))).bind fun v=>some (v.1,v.2.1,v.2.2.1,v.2.2.2.1,v.2.2.2.2.1,0,())else(lAt v (IntKind.i64.wrap ((v.length:Int)-1))).bind fun v=>some (v.1,v.2.1,v.2.2.1,v.2.2.2.1,v.2.2.2.2.1,0,())
def QG:Ent:=⟨65,⟨(.slot Dl (.slot Af (.slot .i .nil))),.nil⟩,⟨(.agg (si 5 .nil) (.slot .i .nil)),.nil⟩,DJ⟩
theorem ci:Ao Go.Proofs.Tryz.prog QG:=okA (hcA 0 (all_cons cj all_nil)) Go.Proofs.Tryz.func65
def C1 (x:List A1×Unit):Option (List A1×Unit):=bif x.1.length==0 then MZ (some ([],())) (if x.1.length<=2199023255552 then some (x.1,())else none)else if x.1.length<=2199023255552 then some (x.1,())else none
def YB:Ent:=⟨75,⟨(.slot (.slice A0) .nil),.nil⟩,⟨(.own 0 .nil),(.lst false A0 .nil)⟩,C1⟩
theorem Vp:Ao Go.Proofs.Tryz.prog YB:=okA (hcA 0 all_nil) Go.Proofs.Tryz.func75
def C0 (x:A1×Option Int×Unit):Option (Bool×Unit):=x.2.1.bind fun v=>some (x.1.2.1==v,())
def Mi:Ent:=⟨113,⟨(.slot A0 (.slot (.iref .i) .nil)),.nil⟩,⟨(.slot .bool .nil),.nil⟩,C0⟩
theorem Vo:Ao Go.Proofs.Tryz.prog Mi:=okA (hcA 0 all_nil) Go.Proofs.Tryz.func113
abbrev Vm:=List A1×(Option Int×Unit)×Int×Unit
abbrev Vj:=Int×Unit
abbrev Vk:=Int×Unit ⊕ Unit
def AF (i:Vm)(v:Vj)(R:Type)(K:Vj ⊕ Vk->Option R):Option R:=bif decide (v.1<i.2.2.1)then(lAt i.1 v.1).bind fun a=>(C0 ((a.1,a.2.1,()),i.2.1.1,())).bind fun b=>bif b.1 then K (.inr (.inl (v.1,())))else K (.inl (IntKind.i64.wrap (v.1+1),()))else K (.inr (.inr ()))
theorem DN:Dm AF:=fun i v R K=>Al (Ad fun _=>Ad fun _=>Al (Ac) (Ac)) (Ac)
def Pa:Tmpl:=⟨(.slot (.slice A0) (.slot (.fn 113 (.prod (.iref .i) .unit)) (jk 5 (si 2 (jk 10 .nil))))),.nil⟩
def Vi:Exs Vm Vk:=xs .ret (fun i p=>⟨jn 4 (.n (p.1)::jn 14 ([])),[]⟩)<|x1 (.exit 0) fun i p=>⟨jn 19 ([]),[]⟩
def Vl:=((.i (.i (.i (.v .n)))):Pk Pa.ty _ _)
def az:Cfg:={ti:=Bw,ents:=[Mi],ann:=[(2,Bf Pa 0 (spP Vl) AF Vi.E)],lent:=0}
def Be (x:List A1×(Option Int×Unit)×Unit):Option (Int×Unit):=(BL (fun v=>AF (x.1,x.2.1,(x.1.length:Int),()) v _ some) (0,())).bind fun p=>CA p (fun p=>some (p.1,())) fun p=>some (-1,())
def QF:Ent:=⟨68,⟨(.slot (.slice A0) (.slot (.fn 113 (.prod (.iref .i) .unit)) .nil)),.nil⟩,⟨(.slot .i .nil),.nil⟩,Be⟩
theorem Vn:CfgOK Go.Proofs.Tryz.prog az:=hcB (all_cons Vo all_nil)
theorem YA:Cz Go.Proofs.Tryz.prog az (lpc Go.Proofs.Tryz.f68 0):=lkA Vn Pa Vl AF Vi [4] DN
theorem ch:Ao Go.Proofs.Tryz.prog QF:=okB Vn Go.Proofs.Tryz.func68 YA
abbrev Vg:=Int×Unit
abbrev Vd:=Int×Int×List A1×Unit
abbrev Ve:=Int×List A1×Unit
def AY (i:Vg)(v:Vd)(R:Type)(K:Vd ⊕ Ve->Option R):Option R:=bif decide (v.2.1<(v.2.2.1.length:Int))then if 0<=v.2.1/\v.2.1<(v.2.2.1.length:Int)then v.2.2.1[0+v.2.1.toNat]?.bind fun a=>(C0 ((a.1,a.2.1,()),some i.1,())).bind fun b=>bif !b.1 then if 0<=v.1/\v.1<(v.2.2.1.length:Int)then v.2.2.1[0+v.1.toNat]?.bind fun c=>K (.inl (IntKind.i64.wrap (v.1+1),IntKind.i64.wrap (v.2.1+1),v.2.2.1.set (0+v.1.toNat) (a.1,a.2.1,()),()))else none else K (.inl (v.1,IntKind.i64.wrap (v.2.1+1),v.2.2.1,()))else none else K (.inr (v.1,v.2.2.1,()))
theorem EK:Dm AY:=fun i v R K=>Al (BG (Ad fun _=>Ad fun _=>Al (BG (Ad fun _=>Ac)) (Ac))) (Ac)
def P9:Tmpl:=⟨(.own 0 (.fn 113 (.ptr 1 0 0 .nil) (jk 3 (si 2 (jk 35 .nil))))),(.lst false A0 (.cells 1 (.slot .i .nil) .nil))⟩
def Vc:Exs Vg Ve:=x1 (.exit 0) fun i p=>⟨AV.own 0 none none::jn 4 (.n (p.1)::jn 36 ([])),[some (Cont.lst false A0 p.2.1),some (Cont.cells 1 [[AV.pv .i i.1]])]⟩
def Vf:=((.v (.v (.v (.i .n)))):Pk P9.ty _ _)
def ay:Cfg:={ti:=Bw,ents:=[QF,Mi],ann:=[(5,Bf P9 2 (spP Vf) AY Vc.E)],lent:=2,cut:=[none]}
def BP (x:List A1×Int×Unit):Option (Int×List A1×Unit):=(Be (x.1,(some x.2.1,()),())).bind fun v=>bif v.1==-1 then some (x.2.1,x.1,())else(BL (fun v=>AY (x.2.1,()) v _ some) (v.1,IntKind.i64.wrap (v.1+1),x.1,())).bind fun p=>if 0<=p.1/\p.1<=(p.2.1.length:Int)/\(p.2.1.length:Int)<=(p.2.1.length:Int)then if(0:Int)<=0/\0<=p.1/\p.1<=(↑((List.take (0+p.1.toNat) p.2.1++List.replicate ((p.2.1.length:Int).toNat-p.1.toNat) (0,0,())++List.drop (0+p.1.toNat+((p.2.1.length:Int).toNat-p.1.toNat)) p.2.1).length):Int)then some (x.2.1,List.take (p.1.toNat-Int.toNat 0) (List.take (0+p.1.toNat) p.2.1++List.replicate ((p.2.1.length:Int).toNat-p.1.toNat) (0,0,())++List.drop (0+p.1.toNat+((p.2.1.length:Int).toNat-p.1.toNat)) p.2.1),())else none else none
def Yz:Ent:=⟨112,⟨(.own 0 (.fn 113 (.ptr 1 0 0 .nil) .nil)),(.lst false A0 (.cells 1 (.slot .i .nil) .nil))⟩,⟨(.own 2 .nil),(.gone (.cells 1 (.slot .i .nil) (.lst false A0 .nil)))⟩,BP⟩
theorem Vh:CfgOK Go.Proofs.Tryz.prog ay:=hcB (all_cons ch (all_cons Vo all_nil))
theorem Yy:Cz Go.Proofs.Tryz.prog ay (lpc Go.Proofs.Tryz.f112 0):=lkA Vh P9 Vf AY Vc [0,5] EK
theorem cg:Ao Go.Proofs.Tryz.prog Yz:=okB Vh Go.Proofs.Tryz.func112 Yy
def DK (x:List A1×Int×Unit):Option (List A1×Unit):=(C1 (x.1,())).bind fun v=>(BP (v.1,x.2.1,())).bind fun v=>some (v.2.1,())
def QE:Ent:=⟨90,⟨(.slot (.slice A0) (.slot .i .nil)),.nil⟩,⟨(.own 0 .nil),(.lst false A0 .nil)⟩,DK⟩
theorem cf:Ao Go.Proofs.Tryz.prog QE:=okA (hcA 0 (all_cons cg (all_cons Vp all_nil))) Go.Proofs.Tryz.func90
def Co (x:A1×Option Int×Unit):Option (Bool×Unit):=x.2.1.bind fun v=>bif x.1.1==v then some (true,())else x.2.1.bind fun v=>some (x.1.2.1==v,())
def Mh:Ent:=⟨114,⟨(.slot A0 (.slot (.iref .i) .nil)),.nil⟩,⟨(.slot .bool .nil),.nil⟩,Co⟩
theorem Vb:Ao Go.Proofs.Tryz.prog Mh:=okA (hcA 0 all_nil) Go.Proofs.Tryz.func114
abbrev V8:=List A1×(Option Int×Unit)×Int×Unit
abbrev V5:=Int×Unit
abbrev V6:=Int×Unit ⊕ Unit
def AN (i:V8)(v:V5)(R:Type)(K:V5 ⊕ V6->Option R):Option R:=bif decide (v.1<i.2.2.1)then(lAt i.1 v.1).bind fun a=>(Co ((a.1,a.2.1,()),i.2.1.1,())).bind fun b=>bif b.1 then K (.inr (.inl (v.1,())))else K (.inl (IntKind.i64.wrap (v.1+1),()))else K (.inr (.inr ()))
theorem E3:Dm AN:=fun i v R K=>Al (Ad fun _=>Ad fun _=>Al (Ac) (Ac)) (Ac)
def P8:Tmpl:=⟨(.slot (.slice A0) (.slot (.fn 114 (.prod (.iref .i) .unit)) (jk 5 (si 2 (jk 10 .nil))))),.nil⟩
def V4:Exs V8 V6:=xs .ret (fun i p=>⟨jn 4 (.n (p.1)::jn 14 ([])),[]⟩)<|x1 (.exit 0) fun i p=>⟨jn 19 ([]),[]⟩
def V7:=((.i (.i (.i (.v .n)))):Pk P8.ty _ _)
def ax:Cfg:={ti:=Bw,ents:=[Mh],ann:=[(2,Bf P8 0 (spP V7) AN V4.E)],lent:=0}
def Bl (x:List A1×(Option Int×Unit)×Unit):Option (Int×Unit):=(BL (fun v=>AN (x.1,x.2.1,(x.1.length:Int),()) v _ some) (0,())).bind fun p=>CA p (fun p=>some (p.1,())) fun p=>some (-1,())
def QD:Ent:=⟨46,⟨(.slot (.slice A0) (.slot (.fn 114 (.prod (.iref .i) .unit)) .nil)),.nil⟩,⟨(.slot .i .nil),.nil⟩,Bl⟩
theorem V9:CfgOK Go.Proofs.Tryz.prog ax:=hcB (all_cons Vb all_nil)
theorem Yx:Cz Go.Proofs.Tryz.prog ax (lpc Go.Proofs.Tryz.f46 0):=lkA V9 P8 V7 AN V4 [4] E3
theorem cc:Ao Go.Proofs.Tryz.prog QD:=okB V9 Go.Proofs.Tryz.func46 Yx
abbrev V2:=Int×Unit
abbrev UZ:=Int×Int×List A1×Unit
abbrev V0:=Int×List A1×Unit
def AK (i:V2)(v:UZ)(R:Type)(K:UZ ⊕ V0->Option R):Option R:=bif decide (v.2.1<(v.2.2.1.length:Int))then if 0<=v.2.1/\v.2.1<(v.2.2.1.length:Int)then v.2.2.1[0+v.2.1.toNat]?.bind fun a=>(Co ((a.1,a.2.1,()),some i.1,())).bind fun b=>bif !b.1 then if 0<=v.1/\v.1<(v.2.2.1.length:Int)then v.2.2.1[0+v.1.toNat]?.bind fun c=>K (.inl (IntKind.i64.wrap (v.1+1),IntKind.i64.wrap (v.2.1+1),v.2.2.1.set (0+v.1.toNat) (a.1,a.2.1,()),()))else none else K (.inl (v.1,IntKind.i64.wrap (v.2.1+1),v.2.2.1,()))else none else K (.inr (v.1,v.2.2.1,()))
theorem Es:Dm AK:=fun i v R K=>Al (BG (Ad fun _=>Ad fun _=>Al (BG (Ad fun _=>Ac)) (Ac))) (Ac)
def P7:Tmpl:=⟨(.own 0 (.fn 114 (.ptr 1 0 0 .nil) (jk 3 (si 2 (jk 35 .nil))))),(.lst false A0 (.cells 1 (.slot .i .nil) .nil))⟩
def UY:Exs V2 V0:=x1 (.exit 0) fun i p=>⟨AV.own 0 none none::jn 4 (.n (p.1)::jn 36 ([])),[some (Cont.lst false A0 p.2.1),some (Cont.cells 1 [[AV.pv .i i.1]])]⟩
def V1:=((.v (.v (.v (.i .n)))):Pk P7.ty _ _)
def aw:Cfg:={ti:=Bw,ents:=[QD,Mh],ann:=[(5,Bf P7 2 (spP V1) AK UY.E)],lent:=2,cut:=[none]}
def BF (x:List A1×Int×Unit):Option (Int×List A1×Unit):=(Bl (x.1,(some x.2.1,()),())).bind fun v=>bif v.1==-1 then some (x.2.1,x.1,())else(BL (fun v=>AK (x.2.1,()) v _ some) (v.1,IntKind.i64.wrap (v.1+1),x.1,())).bind fun p=>if 0<=p.1/\p.1<=(p.2.1.length:Int)/\(p.2.1.length:Int)<=(p.2.1.length:Int)then if(0:Int)<=0/\0<=p.1/\p.1<=(↑((List.take (0+p.1.toNat) p.2.1++List.replicate ((p.2.1.length:Int).toNat-p.1.toNat) (0,0,())++List.drop (0+p.1.toNat+((p.2.1.length:Int).toNat-p.1.toNat)) p.2.1).length):Int)then some (x.2.1,List.take (p.1.toNat-Int.toNat 0) (List.take (0+p.1.toNat) p.2.1++List.replicate ((p.2.1.length:Int).toNat-p.1.toNat) (0,0,())++List.drop (0+p.1.toNat+((p.2.1.length:Int).toNat-p.1.toNat)) p.2.1),())else none else none
def Yw:Ent:=⟨30,⟨(.own 0 (.fn 114 (.ptr 1 0 0 .nil) .nil)),(.lst false A0 (.cells 1 (.slot .i .nil) .nil))⟩,⟨(.own 2 .nil),(.gone (.cells 1 (.slot .i .nil) (.lst false A0 .nil)))⟩,BF⟩
theorem V3:CfgOK Go.Proofs.Tryz.prog aw:=hcB (all_cons cc (all_cons Vb all_nil))
theorem Yv:Cz Go.Proofs.Tryz.prog aw (lpc Go.Proofs.Tryz.f30 0):=lkA V3 P7 V1 AK UY [0,5] Es
theorem ca:Ao Go.Proofs.Tryz.prog Yw:=okB V3 Go.Proofs.Tryz.func30 Yv
def Em (x:List A1×Int×Unit):Option (List A1×Unit):=(BI (x.1,())).bind fun v=>(BF (v.1,x.2.1,())).bind fun v=>some (v.2.1,())
def QC:Ent:=⟨91,⟨(.slot (.slice A0) (.slot .i .nil)),.nil⟩,⟨(.own 0 .nil),(.lst false A0 .nil)⟩,Em⟩
theorem c9:Ao Go.Proofs.Tryz.prog QC:=okA (hcA 0 (all_cons ca (all_cons Pf all_nil))) Go.Proofs.Tryz.func91
def ed:Cfg:={ti:=Bw,ents:=[QE,QC],ann:=[],lent:=5,hid:=[((0,1),[0])]}
def Cn (x:Nat×Bool×Int×A7):Option (Bool×Int×List (List A2)×List A3×List A1×List A1×A9):=x.2.2.2.2.1[x.1]?.bind fun v=>(DK (x.2.2.2.2.2.1,v.1,())).bind fun v=>x.2.2.2.2.1[x.1]?.bind fun a=>(Em (x.2.2.2.2.2.2.1,a.1,())).bind fun b=>some (x.2.1,x.2.2.1,x.2.2.2.1,x.2.2.2.2.1,x.2.2.2.2.2.1,x.2.2.2.2.2.2.1,v.1,b.1,())
def QB:Ent:=⟨59,⟨(.ptr 0 0 0 (.ptrI 2 0 .nil)),(.cells 6 (.slot .bool (.own 1 (.own 2 (.own 3 (.own 4 (.slot .i .nil)))))) (.tree false 0 (.slice Am) (.tree false 0 Af (.lst false A0 (.lst false A0 .nil)))))⟩,⟨.nil,(.cells 6 (.slot .bool (.own 1 (.own 2 (.own 5 (.own 6 (.slot .i .nil)))))) (.tree false 0 (.slice Am) (.tree false 0 Af (.lst false A0 (.lst false A0 (.lst false A0 (.lst false A0 .nil)))))))⟩,Cn⟩
theorem UX:Ao Go.Proofs.Tryz.prog QB:=okA (C:=ed) (hcB (all_cons cf (all_cons c9 all_nil))) Go.Proofs.Tryz.func59
def AP (x:Nat×Int×Bool×Int×A7):Option (Int×Bool×Int×List (List A2)×List A3×List A1×List A1×A9):=x.2.2.2.2.2.1[x.1]?.bind fun v=>(Cn (x.1,x.2.2.1,x.2.2.2.1,x.2.2.2.2.1,x.2.2.2.2.2.1.set x.1 (v.1,v.2.1,3,v.2.2.2.1,v.2.2.2.2.1,v.2.2.2.2.2.1,v.2.2.2.2.2.2.1,v.2.2.2.2.2.2.2.1,v.2.2.2.2.2.2.2.2.1,()),x.2.2.2.2.2.2.1,x.2.2.2.2.2.2.2.1,())).bind fun v=>some (x.2.1,v.1,v.2.1,v.2.2.1,v.2.2.2.1,v.2.2.2.2.1,v.2.2.2.2.2.1,v.2.2.2.2.2.2.1,v.2.2.2.2.2.2.2.1,())
def Js:Ent:=⟨36,⟨(.ptr 0 0 0 (.ptrI 2 0 (.slot .i .nil))),(.cells 6 (.slot .bool (.own 1 (.own 2 (.own 3 (.own 4 (.slot .i .nil)))))) (.tree false 0 (.slice Am) (.tree false 0 Af (.lst false A0 (.lst false A0 .nil)))))⟩,⟨(.agg (.slot .i (.const (AV.nils) .nil)) .nil),(.cells 6 (.slot .bool (.own 1 (.own 2 (.own 5 (.own 6 (.slot .i .nil)))))) (.tree false 0 (.slice Am) (.tree false 1 Af (.lst false A0 (.lst false A0 (.lst false A0 (.lst false A0 .nil)))))))⟩,AP⟩
theorem Mg:Ao Go.Proofs.Tryz.prog Js:=okA (hcA 5 (all_cons UX all_nil)) Go.Proofs.Tryz.func36
abbrev UV:=List A1×Unit×B3
abbrev US:=Int×Int×Unit
abbrev UT:=Int×Unit
def Ax (i:UV)(v:US)(R:Type)(K:US ⊕ UT->Option R):Option R:=bif decide (v.1<v.2.1)then(lAt i.1 (IntKind.i64.wrap (Int.fdiv (IntKind.u64.wrap (IntKind.i64.wrap (v.1+v.2.1))) (2 ^ min (Int.toNat 1) (IntKind.bits IntKind.u64))))).bind fun a=>(Bu ((a.1,a.2.1,()),(i.2.2.2.1,i.2.2.2.2.1,()),())).bind fun b=>bif decide (b.1<0)then K (.inl (IntKind.i64.wrap (IntKind.i64.wrap (Int.fdiv (IntKind.u64.wrap (IntKind.i64.wrap (v.1+v.2.1))) (2 ^ min (Int.toNat 1) (IntKind.bits IntKind.u64)))+1),v.2.1,()))else K (.inl (v.1,IntKind.i64.wrap (Int.fdiv (IntKind.u64.wrap (IntKind.i64.wrap (v.1+v.2.1))) (2 ^ min (Int.toNat 1) (IntKind.bits IntKind.u64))),()))else K (.inr (v.1,()))
theorem Dh:Dm Ax:=fun i v R K=>Al (Ad fun _=>Ad fun _=>Al (Ac) (Ac)) (Ac)
def P6:Tmpl:=⟨(.slot (.slice A0) (.junk (.slot (.fn 100 .unit) (.junk (.ptr 0 0 0 (jk 3 (si 3 (jk 38 .nil)))))))),(.cells 2 (si 2 .nil) .nil)⟩
def UR:Exs UV UT:=x1 (.exit 0) fun i p=>⟨AV.pv (.slice A0) i.1::jn 1 (AV.pv (.fn 100 .unit) i.2.1::jn 1 (AV.ptr 0 none 0 0::jn 3 (.n (i.2.2.1)::.n (p.1)::jn 39 ([])))),[some (Cont.cells 2 [[AV.pv .i i.2.2.2.1,AV.pv .i i.2.2.2.2.1]])]⟩
def UU:=((.i (.i (.i (.v (.v (.i (.i .n))))))):Pk P6.ty _ _)
def au:Cfg:={ti:=Bw,ents:=[Mk],ann:=[(3,Bf P6 0 (spP UU) Ax UR.E)],lent:=0}
def AO (x:List A1×A1×Unit×Unit):Option (Int×Bool×Unit):=(BL (fun v=>Ax (x.1,x.2.2.1,(x.1.length:Int),x.2.1.1,x.2.1.2.1,()) v _ some) (0,(x.1.length:Int),())).bind fun p=>bif decide (p.1<(x.1.length:Int))then(lAt x.1 p.1).bind fun v=>(Bu ((v.1,v.2.1,()),(x.2.1.1,x.2.1.2.1,()),())).bind fun v=>some (p.1,v.1==0,())else some (p.1,false,())
def QA:Ent:=⟨99,⟨(.slot (.slice A0) (.slot A0 (.slot (.fn 100 .unit) .nil))),.nil⟩,⟨(.slot .i (.slot .bool .nil)),.nil⟩,AO⟩
theorem UW:CfgOK Go.Proofs.Tryz.prog au:=hcB (all_cons Wc all_nil)
theorem Yu:Cz Go.Proofs.Tryz.prog au (lpc Go.Proofs.Tryz.f99 0):=lkA UW P6 UU Ax UR [0,2,4,8,9] Dh
theorem c8:Ao Go.Proofs.Tryz.prog QA:=okB UW Go.Proofs.Tryz.func99 Yu
def C5 (x:List A1×Unit):Option (List A1×Unit):=bif x.1.length==0 then MZ (some ([],())) (if x.1.length<=2199023255552 then some (x.1,())else none)else if x.1.length<=2199023255552 then some (x.1,())else none
def Qz:Ent:=⟨102,⟨(.slot (.slice A0) .nil),.nil⟩,⟨(.own 0 .nil),(.lst false A0 .nil)⟩,C5⟩
theorem c7:Ao Go.Proofs.Tryz.prog Qz:=okA (hcA 0 all_nil) Go.Proofs.Tryz.func102
def Qx:Go.Shelf.Ren:=⟨fun|22=>101|29=>117|30=>118|n=>n,fun|24=>42|9=>48|n=>n,fun|n=>n⟩
theorem eb:InsL Go.Proofs.Tryz.prog Qx true 2 where
 mixed:=by kernel_rfl
 f22:=⟨ "slices.Insert[[]loop.example/g01924/impl.ReadMark,loop.example/g01924/impl.ReadMark]",by decide,Go.Proofs.Tryz.func101.trans (congrArg some (by kernel_rfl))⟩
 f29:=⟨_,Go.Proofs.Tryz.func117,by kernel_rfl,by kernel_rfl,by kernel_rfl,by kernel_rfl⟩
 a9:=Go.Proofs.Tryz.isAgg48
 z9:=Go.Proofs.Tryz.sizeOf48
 t0:=Go.Proofs.Tryz.underlying0
 a0:=Go.Proofs.Tryz.isAgg0
 z0:=Go.Proofs.Tryz.sizeOf0
 v0:=Go.Proofs.Tryz.zeroValue0
 t3:=Go.Proofs.Tryz.underlying3
 a3:=Go.Proofs.Tryz.isAgg3
 z3:=Go.Proofs.Tryz.sizeOf3
 v3:=Go.Proofs.Tryz.zeroValue3
 t4:=Go.Proofs.Tryz.underlying4
 a4:=Go.Proofs.Tryz.isAgg4
 z4:=Go.Proofs.Tryz.sizeOf4
 v4:=Go.Proofs.Tryz.zeroValue4
 t24:=Go.Proofs.Tryz.underlying42
 a24:=Go.Proofs.Tryz.isAgg42
 z24:=Go.Proofs.Tryz.sizeOf42
 v24:=Go.Proofs.Tryz.zeroValue42
def BW (x:Int×List (Int×Int×Unit)×List (Int×Int×Unit)×Unit):Option (List (Int×Int×Unit)×Unit):=JZ (α:=Int×Int×Unit) 2199023255552 x
def eP:Cfg:={ti:=Bw,ents:=[],ann:=[],lent:=2}
def Qy:Ent:=⟨101,⟨(.own 0 (.slot Ty.i (.own 1 .nil))),(.lst false A0 (.lst false A0 .nil))⟩,⟨(.own 2 .nil),(.gone (.gone (.lst false A0 .nil)))⟩,BW⟩
theorem c6:Ao Go.Proofs.Tryz.prog Qy:=Kz (ρ:=Qx) (t:=A0) XA eb rfl (by decide) rfl
def e9:Cfg:={ti:=Bw,ents:=[Qy,QA,Qz],ann:=[],lent:=1,hid:=[((7,1),[0]),((7,13),[0]),((7,14),[0]),((7,15),[0])]}
def Ck (x:Nat×Int×Int×Int×Int×Int×Int×List A3×Unit):Option (Bool×List A3×Unit):=x.2.2.2.2.2.2.2.1[x.1]?.bind fun v=>x.2.2.2.2.2.2.2.1[x.1]?.bind fun v=>bif (v.2.2.2.2.2.2.2.1.length:Int)==60 then some (false,x.2.2.2.2.2.2.2.1,())else x.2.2.2.2.2.2.2.1[x.1]?.bind fun v=>x.2.2.2.2.2.2.2.1[x.1]?.bind fun v=>(AO (v.2.2.2.2.2.2.2.1,(x.2.1,x.2.2.2.2.1,()),(),())).bind fun v=>bif !v.2.1 then x.2.2.2.2.2.2.2.1[x.1]?.bind fun a=>x.2.2.2.2.2.2.2.1[x.1]?.bind fun b=>(C5 (b.2.2.2.2.2.2.2.1,())).bind fun c=>(BW (v.1,c.1,[(x.2.1,x.2.2.2.2.1,())],())).bind fun v=>x.2.2.2.2.2.2.2.1[x.1]?.bind fun d=>(x.2.2.2.2.2.2.2.1.set x.1 (d.1,d.2.1,d.2.2.1,d.2.2.2.1,d.2.2.2.2.1,d.2.2.2.2.2.1,d.2.2.2.2.2.2.1,v.1,d.2.2.2.2.2.2.2.2.1,()))[x.1]?.bind fun e=>(x.2.2.2.2.2.2.2.1.set x.1 (d.1,d.2.1,d.2.2.1,d.2.2.2.1,d.2.2.2.2.1,d.2.2.2.2.2.1,d.2.2.2.2.2.2.1,v.1,d.2.2.2.2.2.2.2.2.1,()))[x.1]?.bind fun f=>(x.2.2.2.2.2.2.2.1.set x.1 (d.1,d.2.1,d.2.2.1,d.2.2.2.1,d.2.2.2.2.1,d.2.2.2.2.2.1,d.2.2.2.2.2.2.1,v.1,d.2.2.2.2.2.2.2.2.1,()))[x.1]?.bind fun g=>((x.2.2.2.2.2.2.2.1.set x.1 (d.1,d.2.1,d.2.2.1,d.2.2.2.1,d.2.2.2.2.1,d.2.2.2.2.2.1,d.2.2.2.2.2.2.1,v.1,d.2.2.2.2.2.2.2.2.1,())).set x.1 (g.1,g.2.1,g.2.2.1,g.2.2.2.1,mx e.2.2.2.2.1 x.2.2.2.2.1,g.2.2.2.2.2.1,g.2.2.2.2.2.2.1,g.2.2.2.2.2.2.2.1,g.2.2.2.2.2.2.2.2.1,()))[x.1]?.bind fun h=>some (true,((x.2.2.2.2.2.2.2.1.set x.1 (d.1,d.2.1,d.2.2.1,d.2.2.2.1,d.2.2.2.2.1,d.2.2.2.2.2.1,d.2.2.2.2.2.2.1,v.1,d.2.2.2.2.2.2.2.2.1,())).set x.1 (g.1,g.2.1,g.2.2.1,g.2.2.2.1,mx e.2.2.2.2.1 x.2.2.2.2.1,g.2.2.2.2.2.1,g.2.2.2.2.2.2.1,g.2.2.2.2.2.2.2.1,g.2.2.2.2.2.2.2.2.1,())).set x.1 (h.1,h.2.1,h.2.2.1,h.2.2.2.1,h.2.2.2.2.1,mn f.2.2.2.2.2.1 x.2.2.2.2.2.2.1,h.2.2.2.2.2.2.1,h.2.2.2.2.2.2.2.1,h.2.2.2.2.2.2.2.2.1,()),())else x.2.2.2.2.2.2.2.1[x.1]?.bind fun v=>x.2.2.2.2.2.2.2.1[x.1]?.bind fun a=>x.2.2.2.2.2.2.2.1[x.1]?.bind fun b=>(x.2.2.2.2.2.2.2.1.set x.1 (b.1,b.2.1,b.2.2.1,b.2.2.2.1,mx v.2.2.2.2.1 x.2.2.2.2.1,b.2.2.2.2.2.1,b.2.2.2.2.2.2.1,b.2.2.2.2.2.2.2.1,b.2.2.2.2.2.2.2.2.1,()))[x.1]?.bind fun c=>some (true,(x.2.2.2.2.2.2.2.1.set x.1 (b.1,b.2.1,b.2.2.1,b.2.2.2.1,mx v.2.2.2.2.1 x.2.2.2.2.1,b.2.2.2.2.2.1,b.2.2.2.2.2.2.1,b.2.2.2.2.2.2.2.1,b.2.2.2.2.2.2.2.2.1,())).set x.1 (c.1,c.2.1,c.2.2.1,c.2.2.2.1,c.2.2.2.2.1,mn a.2.2.2.2.2.1 x.2.2.2.2.2.2.1,c.2.2.2.2.2.2.1,c.2.2.2.2.2.2.2.1,c.2.2.2.2.2.2.2.2.1,()),())
def Qw:Ent:=⟨66,⟨(.ptrI 0 0 (.slot .i (.agg (si 5 .nil) .nil))),(.tree false 0 Af .nil)⟩,⟨(.slot .bool .nil),(.tree false 1 Af .nil)⟩,Ck⟩
theorem bZ:Ao Go.Proofs.Tryz.prog Qw:=okA (C:=e9) (hcB (all_cons c6 (all_cons c8 (all_cons c7 all_nil)))) Go.Proofs.Tryz.func66
def e8:Cfg:={ti:=Bw,ents:=[Js,Qw,QH,QG],ann:=[],lent:=5,pre:=[(some (0,3)),(some (0,4))]}
def DC (x:Nat×Int×Bool×Int×A7):Option (Int×Int×Bool×Int×A7):=x.2.2.2.2.2.1[x.1]?.bind fun v=>x.2.2.2.2.2.1[x.1]?.bind fun a=>x.2.2.2.2.2.1[x.1]?.bind fun b=>(EE ((v.1,v.2.1,v.2.2.1,v.2.2.2.1,v.2.2.2.2.1,v.2.2.2.2.2.1,v.2.2.2.2.2.2.1,a.2.2.2.2.2.2.2.1,b.2.2.2.2.2.2.2.2.1,()),x.2.1,())).bind fun v=>bif decide (v.1>=0)then x.2.2.2.2.2.1[x.1]?.bind fun c=>x.2.2.2.2.2.1[x.1]?.bind fun d=>if 0<=v.1/\v.1<(d.2.2.2.2.2.2.2.2.1.length:Int)then x.2.2.2.2.2.1[x.1]?.bind fun e=>e.2.2.2.2.2.2.2.2.1[0+v.1.toNat]?.bind fun v=>some (v.2.1,0,x.2.2.1,x.2.2.2.1,x.2.2.2.2.1,x.2.2.2.2.2.1,x.2.2.2.2.2.2.1,x.2.2.2.2.2.2.2.1,())else none else x.2.2.2.2.2.1[x.1]?.bind fun v=>x.2.2.2.2.2.1[x.1]?.bind fun c=>x.2.2.2.2.2.1[x.1]?.bind fun d=>(DJ ((x.2.2.2.2.1,()),(v.1,v.2.1,v.2.2.1,v.2.2.2.1,v.2.2.2.2.1,v.2.2.2.2.2.1,v.2.2.2.2.2.2.1,c.2.2.2.2.2.2.2.1,d.2.2.2.2.2.2.2.2.1,()),x.2.1,())).bind fun v=>bif v.2.2.2.2.2.1 != 0 then(AP (x.1,v.2.2.2.2.2.1,x.2.2.1,x.2.2.2.1,x.2.2.2.2.1,x.2.2.2.2.2.1,x.2.2.2.2.2.2.1,x.2.2.2.2.2.2.2.1,())).bind fun e=>some (0,v.2.2.2.2.2.1,e.2.1,e.2.2.1,e.2.2.2.1,e.2.2.2.2.1,e.2.2.2.2.2.2.2.1,e.2.2.2.2.2.2.2.2.1,())else(Ck (x.1,x.2.1,v.1,v.2.1,v.2.2.1,v.2.2.2.1,v.2.2.2.2.1,x.2.2.2.2.2.1,())).bind fun e=>bif !e.1 then some (0,6,x.2.2.1,x.2.2.2.1,x.2.2.2.2.1,e.2.1,x.2.2.2.2.2.2.1,x.2.2.2.2.2.2.2.1,())else some (v.2.1,0,x.2.2.1,x.2.2.2.1,x.2.2.2.2.1,e.2.1,x.2.2.2.2.2.2.1,x.2.2.2.2.2.2.2.1,())
def Qv:Ent:=⟨47,⟨(.ptr 0 0 0 (.ptrI 2 0 (.slot .i .nil))),(.cells 6 (.slot .bool (.own 1 (.own 2 (.own 3 (.own 4 (.slot .i .nil)))))) (.tree false 0 (.slice Am) (.tree false 0 Af (.lst false A0 (.lst false A0 .nil)))))⟩,⟨(si 2 .nil),(.cells 6 (.slot .bool (.own 1 (.own 2 (.own 5 (.own 6 (.slot .i .nil)))))) (.tree false 0 (.slice Am) (.tree false 1 Af (.gone (.gone (.lst false A0 (.lst false A0 .nil)))))))⟩,DC⟩
theorem bX:Ao Go.Proofs.Tryz.prog Qv:=okA (C:=e8) (hcB (all_cons Mg (all_cons bZ (all_cons ck (all_cons ci all_nil))))) Go.Proofs.Tryz.func47
abbrev UP:=Nat×B3
abbrev UM:=Int×Bool×Int×List (List A2)×List A3×List A1×List A1×List Int×Unit
abbrev UN:=Bool×Int×List (List A2)×List A3×Int×List Int×A9 ⊕ Bool×Int×List (List A2)×List A3×List A1×List A1×List Int×Unit
def BM (i:UP)(v:UM)(R:Type)(K:UM ⊕ UN->Option R):Option R:=bif decide (v.1<=i.2.1)then(DC (i.1,v.1,v.2.1,v.2.2.1,v.2.2.2.1,v.2.2.2.2.1,v.2.2.2.2.2.1,v.2.2.2.2.2.2.1,())).bind fun a=>bif a.2.1 != 0 then K (.inr (.inl (a.2.2.1,a.2.2.2.1,a.2.2.2.2.1,a.2.2.2.2.2.1,a.2.1,v.2.2.2.2.2.2.2.1,a.2.2.2.2.2.2.1,a.2.2.2.2.2.2.2.1,())))else if(v.2.2.2.2.2.2.2.1++[a.1]).length<=4398046511104 then K (.inl (IntKind.i64.wrap (v.1+1),a.2.2.1,a.2.2.2.1,a.2.2.2.2.1,a.2.2.2.2.2.1,a.2.2.2.2.2.2.1,a.2.2.2.2.2.2.2.1,v.2.2.2.2.2.2.2.1++[a.1],()))else none else K (.inr (.inr (v.2.1,v.2.2.1,v.2.2.2.1,v.2.2.2.2.1,v.2.2.2.2.2.1,v.2.2.2.2.2.2.1,v.2.2.2.2.2.2.2.1,())))
theorem Gy:Dm BM:=fun i v R K=>Al (Ad fun _=>Al (Ac) (BG (Ac))) (Ac)
def P5:Tmpl:=⟨(.ptr 0 0 0 (.ptrI 2 0 (.junk (.slot .i (jk 4 (.ptr 7 0 0 (.ptr 8 0 0 (.slot .i (jk 27 .nil))))))))),(.cells 6 (.slot .bool (.own 1 (.own 2 (.own 5 (.own 6 (.slot .i .nil)))))) (.tree false 0 (.slice Am) (.tree false 1 Af (.gone (.gone (.lst false A0 (.lst false A0 (.cells 2 (.slot .i (.const (AV.nils) .nil)) (.cells 2 (.slot .i (.own 9 .nil)) (.lst false .i .nil))))))))))⟩
def UL:Exs UP UN:=xs .ret (fun i p=>⟨jn 8 (AV.ptr 7 none 0 0::AV.ptr 8 none 0 0::jn 28 ([])),[some (Cont.cells 6 [[AV.pv .bool p.1,AV.own 1 none none,AV.own 2 none none,AV.own 15 none none,AV.own 16 none none,AV.pv .i p.2.1]]),some (Cont.tree false 0 (.slice Am) p.2.2.1 none),some (Cont.tree false 2 Af p.2.2.2.1 none),some Cont.dead,some Cont.dead,some Cont.dead,some Cont.dead,some (Cont.cells 2 [[AV.pv .i p.2.2.2.2.1,AV.nils]]),some (Cont.cells 2 [[AV.pv .i i.2.2.2.1,AV.own 9 none none]]),some (Cont.lst false .i p.2.2.2.2.2.1),none,none,none,none,none,some (Cont.lst false A0 p.2.2.2.2.2.2.1),some (Cont.lst false A0 p.2.2.2.2.2.2.2.1)]⟩)<|x1 (.exit 0) fun i p=>⟨jn 8 (AV.ptr 7 none 0 0::AV.ptr 8 none 0 0::jn 28 ([])),[some (Cont.cells 6 [[AV.pv .bool p.1,AV.own 1 none none,AV.own 2 none none,AV.own 5 none none,AV.own 6 none none,AV.pv .i p.2.1]]),some (Cont.tree false 0 (.slice Am) p.2.2.1 none),some (Cont.tree false 1 Af p.2.2.2.1 none),some Cont.dead,some Cont.dead,some (Cont.lst false A0 p.2.2.2.2.1),some (Cont.lst false A0 p.2.2.2.2.2.1),some (Cont.cells 2 [[AV.pv .i i.2.2.1,AV.nils]]),some (Cont.cells 2 [[AV.pv .i i.2.2.2.1,AV.own 9 none none]]),some (Cont.lst false .i p.2.2.2.2.2.2.1)]⟩
def UO:=((.i (.i (.v (.v (.v (.v (.v (.v (.v (.i (.i (.v .n)))))))))))):Pk P5.ty _ _)
def aq:Cfg:={ti:=Bw,ents:=[Qv],ann:=[(3,Bf P5 5 (spP UO) BM UL.E)],lent:=5,pre:=[(some (0,3)),(some (0,4))]}
def DB (x:Nat×Int×Int×Bool×Int×A7):Option (Int×Bool×Int×List (List A2)×List A3×List A1×List A1×List Int×Unit):=(BL (fun v=>BM (x.1,x.2.2.1,0,0,()) v _ some) (x.2.1,x.2.2.2.1,x.2.2.2.2.1,x.2.2.2.2.2.1,x.2.2.2.2.2.2.1,x.2.2.2.2.2.2.2.1,x.2.2.2.2.2.2.2.2.1,[],())).bind fun p=>CA p (fun p=>some (p.2.2.2.2.1,p.1,p.2.1,p.2.2.1,p.2.2.2.1,p.2.2.2.2.2.2.1,p.2.2.2.2.2.2.2.1,[],())) fun p=>some (0,p.1,p.2.1,p.2.2.1,p.2.2.2.1,p.2.2.2.2.1,p.2.2.2.2.2.1,p.2.2.2.2.2.2.1,())
def Qu:Ent:=⟨33,⟨(.ptr 0 0 0 (.ptrI 2 0 (si 2 .nil))),(.cells 6 (.slot .bool (.own 1 (.own 2 (.own 3 (.own 4 (.slot .i .nil)))))) (.tree false 0 (.slice Am) (.tree false 0 Af (.lst false A0 (.lst false A0 .nil)))))⟩,⟨(.agg (.slot .i (.own 7 .nil)) .nil),(.cells 6 (.slot .bool (.own 1 (.own 2 (.own 5 (.own 6 (.slot .i .nil)))))) (.tree false 0 (.slice Am) (.tree false 1 Af (.gone (.gone (.lst false A0 (.lst false A0 (.lst false .i .nil))))))))⟩,DB⟩
theorem UQ:CfgOK Go.Proofs.Tryz.prog aq:=hcB (all_cons bX all_nil)
theorem Yt:Cz Go.Proofs.Tryz.prog aq (lpc Go.Proofs.Tryz.f33 0):=lkA UQ P5 UO BM UL [8,9] Gy
theorem bV:Ao Go.Proofs.Tryz.prog Qu:=okB UQ Go.Proofs.Tryz.func33 Yt
def E9 (x:A1×Option Int×Unit):Option (Bool×Unit):=x.2.1.bind fun v=>some (x.1.1==v,())
def Qt:Ent:=⟨69,⟨(.slot A0 (.slot (.iref .i) .nil)),.nil⟩,⟨(.slot .bool .nil),.nil⟩,E9⟩
theorem bU:Ao Go.Proofs.Tryz.prog Qt:=okA (hcA 0 all_nil) Go.Proofs.Tryz.func69
abbrev UJ:=List A1×(Option Int×Unit)×Int×Unit
abbrev UG:=Int×Unit
abbrev UH:=Int×Unit ⊕ Unit
def AR (i:UJ)(v:UG)(R:Type)(K:UG ⊕ UH->Option R):Option R:=bif decide (v.1<i.2.2.1)then(lAt i.1 v.1).bind fun a=>(E9 ((a.1,a.2.1,()),i.2.1.1,())).bind fun b=>bif b.1 then K (.inr (.inl (v.1,())))else K (.inl (IntKind.i64.wrap (v.1+1),()))else K (.inr (.inr ()))
theorem Ee:Dm AR:=fun i v R K=>Al (Ad fun _=>Ad fun _=>Al (Ac) (Ac)) (Ac)
def P4:Tmpl:=⟨(.slot (.slice A0) (.slot (.fn 69 (.prod (.iref .i) .unit)) (jk 5 (si 2 (jk 10 .nil))))),.nil⟩
def UF:Exs UJ UH:=xs .ret (fun i p=>⟨jn 4 (.n (p.1)::jn 14 ([])),[]⟩)<|x1 (.exit 0) fun i p=>⟨jn 19 ([]),[]⟩
def UI:=((.i (.i (.i (.v .n)))):Pk P4.ty _ _)
def ap:Cfg:={ti:=Bw,ents:=[Qt],ann:=[(2,Bf P4 0 (spP UI) AR UF.E)],lent:=0}
def Bs (x:List A1×(Option Int×Unit)×Unit):Option (Int×Unit):=(BL (fun v=>AR (x.1,x.2.1,(x.1.length:Int),()) v _ some) (0,())).bind fun p=>CA p (fun p=>some (p.1,())) fun p=>some (-1,())
def Ys:Ent:=⟨68,⟨(.slot (.slice A0) (.slot (.fn 69 (.prod (.iref .i) .unit)) .nil)),.nil⟩,⟨(.slot .i .nil),.nil⟩,Bs⟩
theorem UK:CfgOK Go.Proofs.Tryz.prog ap:=hcB (all_cons bU all_nil)
theorem Yr:Cz Go.Proofs.Tryz.prog ap (lpc Go.Proofs.Tryz.f68 0):=lkA UK P4 UI AR UF [4] Ee
theorem bT:Ao Go.Proofs.Tryz.prog Ys:=okB UK Go.Proofs.Tryz.func68 Yr
def DU (x:List A1×Int×Unit):Option (Int×Unit):=(Bs (x.1,(some x.2.1,()),())).bind fun v=>bif decide (v.1<0)then some (0,())else(lAt x.1 v.1).bind fun v=>some (v.2.1,())
def Qs:Ent:=⟨49,⟨(.slot (.slice A0) (.slot .i .nil)),.nil⟩,⟨(.slot .i .nil),.nil⟩,DU⟩
theorem UE:Ao Go.Proofs.Tryz.prog Qs:=okA (hcA 0 (all_cons bT all_nil)) Go.Proofs.Tryz.func49
def Cm (x:A4×Int×Unit):Option (Option A2×Unit):=(lAt x.1.1 x.2.1).bind fun v=>(lAt v (IntKind.i64.wrap ((v.length:Int)-1))).bind fun v=>some (some v,())
def Qr:Ent:=⟨67,⟨(.slot Dl (.slot .i .nil)),.nil⟩,⟨(.slot (.iref Am) .nil),.nil⟩,Cm⟩
theorem P3:Ao Go.Proofs.Tryz.prog Qr:=okA (hcA 0 all_nil) Go.Proofs.Tryz.func67
def CX (x:A4×List A1×A3×Int×Unit):Option (Int×Unit):=(DU (x.2.1,x.2.2.2.1,())).bind fun v=>(Cm ((x.1.1,()),x.2.2.2.1,())).bind fun a=>bif v.1 != 0 then bif x.2.2.1.2.1==1 then bif v.1 != x.2.2.1.1 then some (1,())else bif x.2.2.1.2.1==2 then bif v.1 != x.2.2.1.1 then some (2,())else a.1.bind fun v=>bif decide (v.2.2.1>x.2.2.1.2.2.2.1)then some (2,())else bif x.2.2.1.2.1==4 then a.1.bind fun v=>bif decide (v.2.2.2.1>x.2.2.1.2.2.2.1)then some (3,())else some (0,())else some (0,())else bif x.2.2.1.2.1==4 then a.1.bind fun v=>bif decide (v.2.2.2.1>x.2.2.1.2.2.2.1)then some (3,())else some (0,())else some (0,())else bif x.2.2.1.2.1==2 then bif v.1 != x.2.2.1.1 then some (2,())else a.1.bind fun v=>bif decide (v.2.2.1>x.2.2.1.2.2.2.1)then some (2,())else bif x.2.2.1.2.1==4 then a.1.bind fun v=>bif decide (v.2.2.2.1>x.2.2.1.2.2.2.1)then some (3,())else some (0,())else some (0,())else bif x.2.2.1.2.1==4 then a.1.bind fun v=>bif decide (v.2.2.2.1>x.2.2.1.2.2.2.1)then some (3,())else some (0,())else some (0,())else bif x.2.2.1.2.1==1 then bif x.2.2.1.2.1==2 then a.1.bind fun v=>bif decide (v.2.2.1>x.2.2.1.2.2.2.1)then some (2,())else bif x.2.2.1.2.1==4 then a.1.bind fun v=>bif decide (v.2.2.2.1>x.2.2.1.2.2.2.1)then some (3,())else some (0,())else some (0,())else bif x.2.2.1.2.1==4 then a.1.bind fun v=>bif decide (v.2.2.2.1>x.2.2.1.2.2.2.1)then some (3,())else some (0,())else some (0,())else bif x.2.2.1.2.1==2 then a.1.bind fun v=>bif decide (v.2.2.1>x.2.2.1.2.2.2.1)then some (2,())else bif x.2.2.1.2.1==4 then a.1.bind fun v=>bif decide (v.2.2.2.1>x.2.2.1.2.2.2.1)then some (3,())else some (0,())else some (0,())else bif x.2.2.1.2.1==4 then a.1.bind fun v=>bif decide (v.2.2.2.1>x.2.2.1.2.2.2.1)then some (3,())else some (0,())else some (0,())
def Qq:Ent:=⟨48,⟨(.slot Dl (.slot (.slice A0) (.slot Af (.slot .i .nil)))),.nil⟩,⟨(.slot .i .nil),.nil⟩,CX⟩
theorem bS:Ao Go.Proofs.Tryz.prog Qq:=okA (hcA 0 (all_cons UE (all_cons P3 all_nil))) Go.Proofs.Tryz.func48
abbrev UC:=List A1×List A1×Int×Unit
abbrev Uy:=Int×Unit
abbrev Uz:=Int×Int×Unit ⊕ Int×Int×Unit ⊕ Int×Int×Unit ⊕ Int×Int×Unit ⊕ Unit
def D2 (i:UC)(v:Uy)(R:Type)(K:Uy ⊕ Uz->Option R):Option R:=bif decide (v.1<i.2.2.1)then(lAt i.2.1 v.1).bind fun a=>(Bh (a.1,())).bind fun b=>bif !b.1 then K (.inr (.inl (a.1,a.2.1,())))else(Bh (a.2.1,())).bind fun c=>bif !c.1 then K (.inr (.inr (.inl (a.1,a.2.1,()))))else bif a.1==a.2.1 then K (.inr (.inr (.inr (.inl (a.1,a.2.1,())))))else bif decide (v.1>0)then(lAt i.1 (IntKind.i64.wrap (v.1-1))).bind fun d=>bif decide (d.1>=a.1)then K (.inr (.inr (.inr (.inr (.inl (a.1,a.2.1,()))))))else K (.inl (IntKind.i64.wrap (v.1+1),()))else K (.inl (IntKind.i64.wrap (v.1+1),()))else K (.inr (.inr (.inr (.inr (.inr ())))))
theorem Ia:Dm D2:=fun i v R K=>Al (Ad fun _=>Ad fun _=>Al (Ac) (Ad fun _=>Al (Ac) (Al (Ac) (Al (Ad fun _=>Al (Ac) (Ac)) (Ac))))) (Ac)
def P2:Tmpl:=⟨(.slot (.slice A0) (jk 4 (.slot (.slice A0) (si 2 (jk 37 .nil))))),.nil⟩
def Ux:Exs UC Uz:=xs .ret (fun i p=>⟨jn 2 (.b (false)::jn 42 ([])),[some (Cont.cells 2 [[AV.pv .i p.1,AV.pv .i p.2.1]])]⟩)<|xs .ret (fun i p=>⟨jn 2 (.b (false)::jn 42 ([])),[some (Cont.cells 2 [[AV.pv .i p.1,AV.pv .i p.2.1]])]⟩)<|xs .ret (fun i p=>⟨jn 2 (.b (false)::jn 42 ([])),[some (Cont.cells 2 [[AV.pv .i p.1,AV.pv .i p.2.1]])]⟩)<|xs .ret (fun i p=>⟨jn 2 (.b (false)::jn 42 ([])),[some (Cont.cells 2 [[AV.pv .i p.1,AV.pv .i p.2.1]])]⟩)<|x1 (.exit 0) fun i p=>⟨jn 45 ([]),[]⟩
def UA:=((.i (.i (.i (.v .n)))):Pk P2.ty _ _)
def an:Cfg:={ti:=Bw,ents:=[Kw],ann:=[(2,Bf P2 0 (spP UA) D2 Ux.E)],lent:=0}
def CN (x:List A1×Unit):Option (Bool×Unit):=(BL (fun v=>D2 (x.1,x.1,(x.1.length:Int),()) v _ some) (0,())).bind fun p=>CA p (fun p=>some (false,())) fun p=>CA p (fun p=>some (false,())) fun p=>CA p (fun p=>some (false,())) fun p=>CA p (fun p=>some (false,())) fun p=>some (true,())
def Qp:Ent:=⟨71,⟨(.slot (.slice A0) .nil),.nil⟩,⟨(.slot .bool .nil),.nil⟩,CN⟩
theorem UD:CfgOK Go.Proofs.Tryz.prog an:=hcB (all_cons HV all_nil)
theorem Yq:Cz Go.Proofs.Tryz.prog an (lpc Go.Proofs.Tryz.f71 0):=lkA UD P2 UA D2 Ux [2] Ia
theorem UB:Ao Go.Proofs.Tryz.prog Qp:=okB UD Go.Proofs.Tryz.func71 Yq
def DR (x:A1×Int×Unit):Option (Int×Unit):=(Bv (x.1.1,x.2.1,())).bind fun v=>some (v.1,())
def Qo:Ent:=⟨73,⟨(.slot A0 (.slot .i .nil)),.nil⟩,⟨(.slot .i .nil),.nil⟩,DR⟩
theorem bR:Ao Go.Proofs.Tryz.prog Qo:=okA (hcA 0 (all_cons KN all_nil)) Go.Proofs.Tryz.func73
abbrev Uv:=List A1×Int×Unit×Int×Unit
abbrev Us:=Int×Int×Unit
abbrev Ut:=Int×Unit
def Az (i:Uv)(v:Us)(R:Type)(K:Us ⊕ Ut->Option R):Option R:=bif decide (v.1<v.2.1)then(lAt i.1 (IntKind.i64.wrap (Int.fdiv (IntKind.u64.wrap (IntKind.i64.wrap (v.1+v.2.1))) (2 ^ min (Int.toNat 1) (IntKind.bits IntKind.u64))))).bind fun a=>(DR ((a.1,a.2.1,()),i.2.1,())).bind fun b=>bif decide (b.1<0)then K (.inl (IntKind.i64.wrap (IntKind.i64.wrap (Int.fdiv (IntKind.u64.wrap (IntKind.i64.wrap (v.1+v.2.1))) (2 ^ min (Int.toNat 1) (IntKind.bits IntKind.u64)))+1),v.2.1,()))else K (.inl (v.1,IntKind.i64.wrap (Int.fdiv (IntKind.u64.wrap (IntKind.i64.wrap (v.1+v.2.1))) (2 ^ min (Int.toNat 1) (IntKind.bits IntKind.u64))),()))else K (.inr (v.1,()))
theorem DF:Dm Az:=fun i v R K=>Al (Ad fun _=>Ad fun _=>Al (Ac) (Ac)) (Ac)
def P1:Tmpl:=⟨(.slot (.slice A0) (.slot .i (.slot (.fn 73 .unit) (jk 5 (si 3 (jk 38 .nil)))))),.nil⟩
def Ur:Exs Uv Ut:=x1 (.exit 0) fun i p=>⟨AV.pv (.slice A0) i.1::.n (i.2.1)::AV.pv (.fn 73 .unit) i.2.2.1::jn 5 (.n (i.2.2.2.1)::.n (p.1)::jn 39 ([])),[]⟩
def Uu:=((.i (.i (.i (.i (.v (.v .n)))))):Pk P1.ty _ _)
def am:Cfg:={ti:=Bw,ents:=[Qo],ann:=[(3,Bf P1 0 (spP Uu) Az Ur.E)],lent:=0}
def AZ (x:List A1×Int×Unit×Unit):Option (Int×Bool×Unit):=(BL (fun v=>Az (x.1,x.2.1,x.2.2.1,(x.1.length:Int),()) v _ some) (0,(x.1.length:Int),())).bind fun p=>bif decide (p.1<(x.1.length:Int))then(lAt x.1 p.1).bind fun v=>(DR ((v.1,v.2.1,()),x.2.1,())).bind fun v=>some (p.1,v.1==0,())else some (p.1,false,())
def Yp:Ent:=⟨72,⟨(.slot (.slice A0) (.slot .i (.slot (.fn 73 .unit) .nil))),.nil⟩,⟨(.slot .i (.slot .bool .nil)),.nil⟩,AZ⟩
theorem Uw:CfgOK Go.Proofs.Tryz.prog am:=hcB (all_cons bR all_nil)
theorem Yo:Cz Go.Proofs.Tryz.prog am (lpc Go.Proofs.Tryz.f72 0):=lkA Uw P1 Uu Az Ur [0,1,2,8,9] DF
theorem bQ:Ao Go.Proofs.Tryz.prog Yp:=okB Uw Go.Proofs.Tryz.func72 Yo
def Qn:Go.Shelf.Ren:=⟨fun|22=>74|29=>105|30=>106|n=>n,fun|24=>32|9=>78|n=>n,fun|n=>n⟩
theorem dZ:InsL Go.Proofs.Tryz.prog Qn true 2 where
 mixed:=by kernel_rfl
 f22:=⟨ "slices.Insert[[]loop.example/g01924/impl.Wait,loop.example/g01924/impl.Wait]",by decide,Go.Proofs.Tryz.func74.trans (congrArg some (by kernel_rfl))⟩
 f29:=⟨_,Go.Proofs.Tryz.func105,by kernel_rfl,by kernel_rfl,by kernel_rfl,by kernel_rfl⟩
 a9:=Go.Proofs.Tryz.isAgg78
 z9:=Go.Proofs.Tryz.sizeOf78
 t0:=Go.Proofs.Tryz.underlying0
 a0:=Go.Proofs.Tryz.isAgg0
 z0:=Go.Proofs.Tryz.sizeOf0
 v0:=Go.Proofs.Tryz.zeroValue0
 t3:=Go.Proofs.Tryz.underlying3
 a3:=Go.Proofs.Tryz.isAgg3
 z3:=Go.Proofs.Tryz.sizeOf3
 v3:=Go.Proofs.Tryz.zeroValue3
 t4:=Go.Proofs.Tryz.underlying4
 a4:=Go.Proofs.Tryz.isAgg4
 z4:=Go.Proofs.Tryz.sizeOf4
 v4:=Go.Proofs.Tryz.zeroValue4
 t24:=Go.Proofs.Tryz.underlying32
 a24:=Go.Proofs.Tryz.isAgg32
 z24:=Go.Proofs.Tryz.sizeOf32
 v24:=Go.Proofs.Tryz.zeroValue32
def Di (x:Int×List (Int×Int×Unit)×List (Int×Int×Unit)×Unit):Option (List (Int×Int×Unit)×Unit):=JZ (α:=Int×Int×Unit) 2199023255552 x
def eO:Cfg:={ti:=Bw,ents:=[],ann:=[],lent:=2}
def Yn:Ent:=⟨74,⟨(.own 0 (.slot Ty.i (.own 1 .nil))),(.lst false A0 (.lst false A0 .nil))⟩,⟨(.own 2 .nil),(.gone (.gone (.lst false A0 .nil)))⟩,Di⟩
theorem bP:Ao Go.Proofs.Tryz.prog Yn:=Kz (ρ:=Qn) (t:=A0) Xz dZ rfl (by decide) rfl
def DQ (x:List A1×Int×Int×Unit):Option (Bool×List A1×Unit):=(BI (x.1,())).bind fun v=>(CN (x.1,())).bind fun a=>bif !a.1 then some (false,v.1,())else(Bh (x.2.1,())).bind fun b=>bif !b.1 then some (false,v.1,())else(Bh (x.2.2.1,())).bind fun c=>bif !c.1 then some (false,v.1,())else bif x.2.1==x.2.2.1 then some (false,v.1,())else(AZ (x.1,x.2.1,(),())).bind fun d=>bif !d.2.1 then(Di (d.1,v.1,[(x.2.1,x.2.2.1,())],())).bind fun v=>some (true,v.1,())else if 0<=d.1/\d.1<(v.1.length:Int)then v.1[0+d.1.toNat]?.bind fun e=>some (true,v.1.set (0+d.1.toNat) (e.1,x.2.2.1,()),())else none
def Qm:Ent:=⟨51,⟨(.slot (.slice A0) (si 2 .nil)),.nil⟩,⟨(.own 0 (.slot .bool .nil)),(.lst false A0 .nil)⟩,DQ⟩
theorem Up:Ao Go.Proofs.Tryz.prog Qm:=okA (hcA 0 (all_cons bP (all_cons Pf (all_cons UB (all_cons HV (all_cons bQ all_nil)))))) Go.Proofs.Tryz.func51
def E8 (x:A1×Option (List Int)×Unit):Option (Bool×Unit):=x.2.1.bind fun v=>x.2.1.bind fun a=>(lAt v (IntKind.i64.wrap ((a.length:Int)-1))).bind fun v=>some (x.1.1==v,())
def Ql:Ent:=⟨103,⟨(.slot A0 (.slot (.iref (.slice .i)) .nil)),.nil⟩,⟨(.slot .bool .nil),.nil⟩,E8⟩
theorem bO:Ao Go.Proofs.Tryz.prog Ql:=okA (hcA 0 all_nil) Go.Proofs.Tryz.func103
abbrev Un:=List A1×(Option (List Int)×Unit)×Int×Unit
abbrev Uk:=Int×Unit
abbrev Ul:=Int×Unit ⊕ Unit
def AQ (i:Un)(v:Uk)(R:Type)(K:Uk ⊕ Ul->Option R):Option R:=bif decide (v.1<i.2.2.1)then(lAt i.1 v.1).bind fun a=>(E8 ((a.1,a.2.1,()),i.2.1.1,())).bind fun b=>bif b.1 then K (.inr (.inl (v.1,())))else K (.inl (IntKind.i64.wrap (v.1+1),()))else K (.inr (.inr ()))
theorem Ed:Dm AQ:=fun i v R K=>Al (Ad fun _=>Ad fun _=>Al (Ac) (Ac)) (Ac)
def P0:Tmpl:=⟨(.slot (.slice A0) (.slot (.fn 103 (.prod (.iref (.slice .i)) .unit)) (jk 5 (si 2 (jk 10 .nil))))),.nil⟩
def Uj:Exs Un Ul:=xs .ret (fun i p=>⟨jn 4 (.n (p.1)::jn 14 ([])),[]⟩)<|x1 (.exit 0) fun i p=>⟨jn 19 ([]),[]⟩
def Um:=((.i (.i (.i (.v .n)))):Pk P0.ty _ _)
def ak:Cfg:={ti:=Bw,ents:=[Ql],ann:=[(2,Bf P0 0 (spP Um) AQ Uj.E)],lent:=0}
def Br (x:List A1×(Option (List Int)×Unit)×Unit):Option (Int×Unit):=(BL (fun v=>AQ (x.1,x.2.1,(x.1.length:Int),()) v _ some) (0,())).bind fun p=>CA p (fun p=>some (p.1,())) fun p=>some (-1,())
def Qk:Ent:=⟨46,⟨(.slot (.slice A0) (.slot (.fn 103 (.prod (.iref (.slice .i)) .unit)) .nil)),.nil⟩,⟨(.slot .i .nil),.nil⟩,Br⟩
theorem Uo:CfgOK Go.Proofs.Tryz.prog ak:=hcB (all_cons bO all_nil)
theorem Ym:Cz Go.Proofs.Tryz.prog ak (lpc Go.Proofs.Tryz.f46 0):=lkA Uo P0 Um AQ Uj [4] Ed
theorem bN:Ao Go.Proofs.Tryz.prog Qk:=okB Uo Go.Proofs.Tryz.func46 Ym
abbrev Uh:=List Int×Int×Int×Unit
abbrev Ue:=Int×Unit
abbrev Uf:=Int×Unit ⊕ Unit
def BV (i:Uh)(v:Ue)(R:Type)(K:Ue ⊕ Uf->Option R):Option R:=bif decide (v.1<i.2.2.1)then(lAt i.1 v.1).bind fun a=>bif i.2.1==a then K (.inr (.inl (v.1,())))else K (.inl (IntKind.i64.wrap (v.1+1),()))else K (.inr (.inr ()))
theorem GS:Dm BV:=fun i v R K=>Al (Ad fun _=>Al (Ac) (Ac)) (Ac)
def OZ:Tmpl:=⟨(.slot (.slice .i) (.slot .i (jk 5 (si 2 (jk 10 .nil))))),.nil⟩
def Ud:Exs Uh Uf:=xs .ret (fun i p=>⟨jn 4 (.n (p.1)::jn 14 ([])),[]⟩)<|x1 (.exit 0) fun i p=>⟨jn 19 ([]),[]⟩
def Ug:=((.i (.i (.i (.v .n)))):Pk OZ.ty _ _)
def aj:Cfg:={ti:=Bw,ents:=[],ann:=[(2,Bf OZ 0 (spP Ug) BV Ud.E)],lent:=0}
def EW (x:List Int×Int×Unit):Option (Int×Unit):=(BL (fun v=>BV (x.1,x.2.1,(x.1.length:Int),()) v _ some) (0,())).bind fun p=>CA p (fun p=>some (p.1,())) fun p=>some (-1,())
def Yl:Ent:=⟨119,⟨(.slot (.slice .i) (.slot .i .nil)),.nil⟩,⟨(.slot .i .nil),.nil⟩,EW⟩
theorem Ui:CfgOK Go.Proofs.Tryz.prog aj:=hcB all_nil
theorem Yk:Cz Go.Proofs.Tryz.prog aj (lpc Go.Proofs.Tryz.f119 0):=lkA Ui OZ Ug BV Ud [4] GS
theorem bM:Ao Go.Proofs.Tryz.prog Yl:=okB Ui Go.Proofs.Tryz.func119 Yk
def Dc (x:List Int×Int×Unit):Option (Bool×Unit):=(EW (x.1,x.2.1,())).bind fun v=>some (decide (v.1>=0),())
def Qj:Ent:=⟨104,⟨(.slot (.slice .i) (.slot .i .nil)),.nil⟩,⟨(.slot .bool .nil),.nil⟩,Dc⟩
theorem bL:Ao Go.Proofs.Tryz.prog Qj:=okA (hcA 0 (all_cons bM all_nil)) Go.Proofs.Tryz.func104
abbrev Ub:=List A1×Unit
abbrev U8:=List Int×Unit
abbrev U9:=List Int×Unit ⊕ List Int×List Int×Unit
def CH (i:Ub)(v:U8)(R:Type)(K:U8 ⊕ U9->Option R):Option R:=(Br (i.1,(some v.1,()),())).bind fun a=>bif decide (a.1<0)then K (.inr (.inl (v.1,())))else(lAt i.1 a.1).bind fun b=>(Dc (v.1,b.2.1,())).bind fun c=>(lAt i.1 a.1).bind fun d=>if(v.1++[d.2.1]).length<=4398046511104 then bif c.1 then K (.inr (.inr ([d.2.1],v.1++[d.2.1],())))else K (.inl (v.1++[d.2.1],()))else none
theorem HJ:Dm CH:=fun i v R K=>Ad fun _=>Al (Ac) (Ad fun _=>Ad fun _=>Ad fun _=>BG (Al (Ac) (Ac)))
def OY:Tmpl:=⟨(.slot (.slice A0) (jk 4 (.ptr 0 0 0 (jk 35 .nil)))),(.cells 1 (.own 1 .nil) (.lst false .i .nil))⟩
def U7:Exs Ub U9:=xs .ret (fun i p=>⟨jn 4 (AV.own 1 none none::jn 36 ([])),[some (Cont.cells 1 [[AV.own 1 none none]]),some (Cont.lst false .i p.1)]⟩)<|x1 .ret fun i p=>⟨jn 4 (AV.own 3 none none::jn 36 ([])),[some (Cont.cells 1 [[AV.own 3 none none]]),some Cont.dead,some (Cont.lst false .i p.1),some (Cont.lst false .i p.2.1)]⟩
def Ua:=((.i (.v .n)):Pk OY.ty _ _)
def ai:Cfg:={ti:=Bw,ents:=[Qp,Kw,Qk,Qj],ann:=[(4,Bf OY 0 (spP Ua) CH U7.E)],lent:=0}
def Fz (x:List A1×Int×Unit):Option (List Int×Unit):=(CN (x.1,())).bind fun v=>bif !v.1 then some ([],())else(Bh (x.2.1,())).bind fun v=>bif !v.1 then some ([],())else(BL (fun v=>CH (x.1,()) v _ some) ([x.2.1],())).bind fun p=>CA p (fun p=>some (p.1,())) fun p=>some (p.2.1,())
def Yj:Ent:=⟨70,⟨(.slot (.slice A0) (.slot .i .nil)),.nil⟩,⟨(.own 0 .nil),(.lst false .i .nil)⟩,Fz⟩
theorem Uc:CfgOK Go.Proofs.Tryz.prog ai:=hcB (all_cons UB (all_cons HV (all_cons bN (all_cons bL all_nil))))
theorem Yi:Cz Go.Proofs.Tryz.prog ai (lpc Go.Proofs.Tryz.f70 0):=lkA Uc OY Ua CH U7 [4] HJ
theorem bK:Ao Go.Proofs.Tryz.prog Yj:=okB Uc Go.Proofs.Tryz.func70 Yi
def Dy (x:List A1×Int×Int×Unit):Option (Bool×Unit):=(DQ (x.1,x.2.1,x.2.2.1,())).bind fun v=>bif !v.1 then some (false,())else(Fz (v.2.1,x.2.1,())).bind fun v=>if 0<=IntKind.i64.wrap ((v.1.length:Int)-1)/\IntKind.i64.wrap ((v.1.length:Int)-1)<(v.1.length:Int)then v.1[0+(IntKind.i64.wrap ((v.1.length:Int)-1)).toNat]?.bind fun v=>some (v==x.2.1,())else none
def Qi:Ent:=⟨50,⟨(.slot (.slice A0) (si 2 .nil)),.nil⟩,⟨(.slot .bool .nil),.nil⟩,Dy⟩
theorem bJ:Ao Go.Proofs.Tryz.prog Qi:=okA (hcA 0 (all_cons Up (all_cons bK all_nil))) Go.Proofs.Tryz.func50
def Dz (x:Int×Unit):Option (Bool×Unit):=bif x.1==1 then some (true,())else some (x.1==2,())
def Qh:Ent:=⟨52,⟨(.slot .i .nil),.nil⟩,⟨(.slot .bool .nil),.nil⟩,Dz⟩
theorem bI:Ao Go.Proofs.Tryz.prog Qh:=okA (hcA 0 all_nil) Go.Proofs.Tryz.func52
abbrev U5:=List A1×List A1×Int×Unit
abbrev U2:=Int×Unit
abbrev U3:=Int×Int×Unit ⊕ Int×Int×Unit ⊕ Int×Int×Unit ⊕ Unit
def D3 (i:U5)(v:U2)(R:Type)(K:U2 ⊕ U3->Option R):Option R:=bif decide (v.1<i.2.2.1)then(lAt i.2.1 v.1).bind fun a=>(CB (a.1,())).bind fun b=>bif !b.1 then K (.inr (.inl (a.1,a.2.1,())))else(Bh (a.2.1,())).bind fun c=>bif !c.1 then K (.inr (.inr (.inl (a.1,a.2.1,()))))else bif decide (v.1>0)then(lAt i.1 (IntKind.i64.wrap (v.1-1))).bind fun d=>bif decide (d.1>=a.1)then K (.inr (.inr (.inr (.inl (a.1,a.2.1,())))))else K (.inl (IntKind.i64.wrap (v.1+1),()))else K (.inl (IntKind.i64.wrap (v.1+1),()))else K (.inr (.inr (.inr (.inr ()))))
theorem Ib:Dm D3:=fun i v R K=>Al (Ad fun _=>Ad fun _=>Al (Ac) (Ad fun _=>Al (Ac) (Al (Ad fun _=>Al (Ac) (Ac)) (Ac)))) (Ac)
def OX:Tmpl:=⟨(.slot (.slice A0) (jk 4 (.slot (.slice A0) (si 2 (jk 30 .nil))))),.nil⟩
def U1:Exs U5 U3:=xs .ret (fun i p=>⟨jn 2 (.b (false)::jn 35 ([])),[some (Cont.cells 2 [[AV.pv .i p.1,AV.pv .i p.2.1]])]⟩)<|xs .ret (fun i p=>⟨jn 2 (.b (false)::jn 35 ([])),[some (Cont.cells 2 [[AV.pv .i p.1,AV.pv .i p.2.1]])]⟩)<|xs .ret (fun i p=>⟨jn 2 (.b (false)::jn 35 ([])),[some (Cont.cells 2 [[AV.pv .i p.1,AV.pv .i p.2.1]])]⟩)<|x1 (.exit 0) fun i p=>⟨jn 38 ([]),[]⟩
def U4:=((.i (.i (.i (.v .n)))):Pk OX.ty _ _)
def ah:Cfg:={ti:=Bw,ents:=[Kv,Kw],ann:=[(2,Bf OX 0 (spP U4) D3 U1.E)],lent:=0}
def Dt (x:List A1×Unit):Option (Bool×Unit):=(BL (fun v=>D3 (x.1,x.1,(x.1.length:Int),()) v _ some) (0,())).bind fun p=>CA p (fun p=>some (false,())) fun p=>CA p (fun p=>some (false,())) fun p=>CA p (fun p=>some (false,())) fun p=>some (true,())
def Yh:Ent:=⟨76,⟨(.slot (.slice A0) .nil),.nil⟩,⟨(.slot .bool .nil),.nil⟩,Dt⟩
theorem U6:CfgOK Go.Proofs.Tryz.prog ah:=hcB (all_cons KO (all_cons HV all_nil))
theorem Yg:Cz Go.Proofs.Tryz.prog ah (lpc Go.Proofs.Tryz.f76 0):=lkA U6 OX U4 D3 U1 [2] Ib
theorem bH:Ao Go.Proofs.Tryz.prog Yh:=okB U6 Go.Proofs.Tryz.func76 Yg
def CD (x:A1×Int×Unit):Option (Int×Unit):=(Bv (x.1.1,x.2.1,())).bind fun v=>some (v.1,())
def Qg:Ent:=⟨78,⟨(.slot A0 (.slot .i .nil)),.nil⟩,⟨(.slot .i .nil),.nil⟩,CD⟩
theorem bG:Ao Go.Proofs.Tryz.prog Qg:=okA (hcA 0 (all_cons KN all_nil)) Go.Proofs.Tryz.func78
abbrev TY:=List A1×Int×Unit×Int×Unit
abbrev TU:=Int×Int×Unit
abbrev TV:=Int×Unit
def Aw (i:TY)(v:TU)(R:Type)(K:TU ⊕ TV->Option R):Option R:=bif decide (v.1<v.2.1)then(lAt i.1 (IntKind.i64.wrap (Int.fdiv (IntKind.u64.wrap (IntKind.i64.wrap (v.1+v.2.1))) (2 ^ min (Int.toNat 1) (IntKind.bits IntKind.u64))))).bind fun a=>(CD ((a.1,a.2.1,()),i.2.1,())).bind fun b=>bif decide (b.1<0)then K (.inl (IntKind.i64.wrap (IntKind.i64.wrap (Int.fdiv (IntKind.u64.wrap (IntKind.i64.wrap (v.1+v.2.1))) (2 ^ min (Int.toNat 1) (IntKind.bits IntKind.u64)))+1),v.2.1,()))else K (.inl (v.1,IntKind.i64.wrap (Int.fdiv (IntKind.u64.wrap (IntKind.i64.wrap (v.1+v.2.1))) (2 ^ min (Int.toNat 1) (IntKind.bits IntKind.u64))),()))else K (.inr (v.1,()))
theorem D6:Dm Aw:=fun i v R K=>Al (Ad fun _=>Ad fun _=>Al (Ac) (Ac)) (Ac)
def OW:Tmpl:=⟨(.slot (.slice A0) (.slot .i (.slot (.fn 78 .unit) (jk 5 (si 3 (jk 38 .nil)))))),.nil⟩
def TT:Exs TY TV:=x1 (.exit 0) fun i p=>⟨AV.pv (.slice A0) i.1::.n (i.2.1)::AV.pv (.fn 78 .unit) i.2.2.1::jn 5 (.n (i.2.2.2.1)::.n (p.1)::jn 39 ([])),[]⟩
def TW:=((.i (.i (.i (.i (.v (.v .n)))))):Pk OW.ty _ _)
def ZY:Cfg:={ti:=Bw,ents:=[Qg],ann:=[(3,Bf OW 0 (spP TW) Aw TT.E)],lent:=0}
def AJ (x:List A1×Int×Unit×Unit):Option (Int×Bool×Unit):=(BL (fun v=>Aw (x.1,x.2.1,x.2.2.1,(x.1.length:Int),()) v _ some) (0,(x.1.length:Int),())).bind fun p=>bif decide (p.1<(x.1.length:Int))then(lAt x.1 p.1).bind fun v=>(CD ((v.1,v.2.1,()),x.2.1,())).bind fun v=>some (p.1,v.1==0,())else some (p.1,false,())
def Yf:Ent:=⟨77,⟨(.slot (.slice A0) (.slot .i (.slot (.fn 78 .unit) .nil))),.nil⟩,⟨(.slot .i (.slot .bool .nil)),.nil⟩,AJ⟩
theorem TZ:CfgOK Go.Proofs.Tryz.prog ZY:=hcB (all_cons bG all_nil)
theorem Ye:Cz Go.Proofs.Tryz.prog ZY (lpc Go.Proofs.Tryz.f77 0):=lkA TZ OW TW Aw TT [0,1,2,8,9] D6
theorem bD:Ao Go.Proofs.Tryz.prog Yf:=okB TZ Go.Proofs.Tryz.func77 Ye
def Qf:Go.Shelf.Ren:=⟨fun|22=>79|29=>107|30=>108|n=>n,fun|24=>31|9=>122|n=>n,fun|n=>n⟩
theorem dW:InsL Go.Proofs.Tryz.prog Qf true 2 where
 mixed:=by kernel_rfl
 f22:=⟨ "slices.Insert[[]loop.example/g01924/impl.Lock,loop.example/g01924/impl.Lock]",by decide,Go.Proofs.Tryz.func79.trans (congrArg some (by kernel_rfl))⟩
 f29:=⟨_,Go.Proofs.Tryz.func107,by kernel_rfl,by kernel_rfl,by kernel_rfl,by kernel_rfl⟩
 a9:=Go.Proofs.Tryz.isAgg122
 z9:=Go.Proofs.Tryz.sizeOf122
 t0:=Go.Proofs.Tryz.underlying0
 a0:=Go.Proofs.Tryz.isAgg0
 z0:=Go.Proofs.Tryz.sizeOf0
 v0:=Go.Proofs.Tryz.zeroValue0
 t3:=Go.Proofs.Tryz.underlying3
 a3:=Go.Proofs.Tryz.isAgg3
 z3:=Go.Proofs.Tryz.sizeOf3
 v3:=Go.Proofs.Tryz.zeroValue3
 t4:=Go.Proofs.Tryz.underlying4
 a4:=Go.Proofs.Tryz.isAgg4
 z4:=Go.Proofs.Tryz.sizeOf4
 v4:=Go.Proofs.Tryz.zeroValue4
 t24:=Go.Proofs.Tryz.underlying31
 a24:=Go.Proofs.Tryz.isAgg31
 z24:=Go.Proofs.Tryz.sizeOf31
 v24:=Go.Proofs.Tryz.zeroValue31
def Dj (x:Int×List (Int×Int×Unit)×List (Int×Int×Unit)×Unit):Option (List (Int×Int×Unit)×Unit):=JZ (α:=Int×Int×Unit) 2199023255552 x
def eN:Cfg:={ti:=Bw,ents:=[],ann:=[],lent:=2}
def Yd:Ent:=⟨79,⟨(.own 0 (.slot Ty.i (.own 1 .nil))),(.lst false A0 (.lst false A0 .nil))⟩,⟨(.own 2 .nil),(.gone (.gone (.lst false A0 .nil)))⟩,Dj⟩
theorem bC:Ao Go.Proofs.Tryz.prog Yd:=Kz (ρ:=Qf) (t:=A0) RO dW rfl (by decide) rfl
def Db (x:List A1×Int×Int×Unit):Option (Bool×List A1×Unit):=(C1 (x.1,())).bind fun v=>(Dt (x.1,())).bind fun a=>bif !a.1 then some (false,v.1,())else(CB (x.2.1,())).bind fun b=>bif !b.1 then some (false,v.1,())else(Bh (x.2.2.1,())).bind fun c=>bif !c.1 then some (false,v.1,())else(AJ (x.1,x.2.1,(),())).bind fun d=>bif d.2.1 then(lAt x.1 d.1).bind fun e=>some (e.2.1==x.2.2.1,v.1,())else(Dj (d.1,v.1,[(x.2.1,x.2.2.1,())],())).bind fun v=>some (true,v.1,())
def Qe:Ent:=⟨53,⟨(.slot (.slice A0) (si 2 .nil)),.nil⟩,⟨(.own 0 (.slot .bool .nil)),(.lst false A0 .nil)⟩,Db⟩
theorem bB:Ao Go.Proofs.Tryz.prog Qe:=okA (hcA 0 (all_cons bC (all_cons Vp (all_cons bH (all_cons KO (all_cons HV (all_cons bD all_nil))))))) Go.Proofs.Tryz.func53
def C3 (x:A1×Int×Unit):Option (Int×Unit):=(Bv (x.1.1,x.2.1,())).bind fun v=>some (v.1,())
def Qd:Ent:=⟨81,⟨(.slot A0 (.slot .i .nil)),.nil⟩,⟨(.slot .i .nil),.nil⟩,C3⟩
theorem bA:Ao Go.Proofs.Tryz.prog Qd:=okA (hcA 0 (all_cons KN all_nil)) Go.Proofs.Tryz.func81
abbrev TR:=List A1×Int×Unit×Int×Unit
abbrev TN:=Int×Int×Unit
abbrev TP:=Int×Unit
def Ap (i:TR)(v:TN)(R:Type)(K:TN ⊕ TP->Option R):Option R:=bif decide (v.1<v.2.1)then(lAt i.1 (IntKind.i64.wrap (Int.fdiv (IntKind.u64.wrap (IntKind.i64.wrap (v.1+v.2.1))) (2 ^ min (Int.toNat 1) (IntKind.bits IntKind.u64))))).bind fun a=>(C3 ((a.1,a.2.1,()),i.2.1,())).bind fun b=>bif decide (b.1<0)then K (.inl (IntKind.i64.wrap (IntKind.i64.wrap (Int.fdiv (IntKind.u64.wrap (IntKind.i64.wrap (v.1+v.2.1))) (2 ^ min (Int.toNat 1) (IntKind.bits IntKind.u64)))+1),v.2.1,()))else K (.inl (v.1,IntKind.i64.wrap (Int.fdiv (IntKind.u64.wrap (IntKind.i64.wrap (v.1+v.2.1))) (2 ^ min (Int.toNat 1) (IntKind.bits IntKind.u64))),()))else K (.inr (v.1,()))
theorem CM:Dm Ap:=fun i v R K=>Al (Ad fun _=>Ad fun _=>Al (Ac) (Ac)) (Ac)
def OV:Tmpl:=⟨(.slot (.slice A0) (.slot .i (.slot (.fn 81 .unit) (jk 5 (si 3 (jk 38 .nil)))))),.nil⟩
def TM:Exs TR TP:=x1 (.exit 0) fun i p=>⟨AV.pv (.slice A0) i.1::.n (i.2.1)::AV.pv (.fn 81 .unit) i.2.2.1::jn 5 (.n (i.2.2.2.1)::.n (p.1)::jn 39 ([])),[]⟩
def TQ:=((.i (.i (.i (.i (.v (.v .n)))))):Pk OV.ty _ _)
def ZX:Cfg:={ti:=Bw,ents:=[Qd],ann:=[(3,Bf OV 0 (spP TQ) Ap TM.E)],lent:=0}
def AD (x:List A1×Int×Unit×Unit):Option (Int×Bool×Unit):=(BL (fun v=>Ap (x.1,x.2.1,x.2.2.1,(x.1.length:Int),()) v _ some) (0,(x.1.length:Int),())).bind fun p=>bif decide (p.1<(x.1.length:Int))then(lAt x.1 p.1).bind fun v=>(C3 ((v.1,v.2.1,()),x.2.1,())).bind fun v=>some (p.1,v.1==0,())else some (p.1,false,())
def Qc:Ent:=⟨80,⟨(.slot (.slice A0) (.slot .i (.slot (.fn 81 .unit) .nil))),.nil⟩,⟨(.slot .i (.slot .bool .nil)),.nil⟩,AD⟩
theorem TS:CfgOK Go.Proofs.Tryz.prog ZX:=hcB (all_cons bA all_nil)
theorem Yc:Cz Go.Proofs.Tryz.prog ZX (lpc Go.Proofs.Tryz.f80 0):=lkA TS OV TQ Ap TM [0,1,2,8,9] CM
theorem bz:Ao Go.Proofs.Tryz.prog Qc:=okB TS Go.Proofs.Tryz.func80 Yc
def Cs (x:List A1×Unit):Option (List A1×Unit):=bif x.1.length==0 then MZ (some ([],())) (if x.1.length<=2199023255552 then some (x.1,())else none)else if x.1.length<=2199023255552 then some (x.1,())else none
def Qb:Ent:=⟨82,⟨(.slot (.slice A0) .nil),.nil⟩,⟨(.own 0 .nil),(.lst false A0 .nil)⟩,Cs⟩
theorem bx:Ao Go.Proofs.Tryz.prog Qb:=okA (hcA 0 all_nil) Go.Proofs.Tryz.func82
def Bq (x:Int×List (List A2)×Unit):Option (Option (Nat×Nat)×List (List A2)×Unit):=if 0<=x.1/\x.1<(x.2.1.length:Int)then x.2.1[0+x.1.toNat]?.bind fun v=>x.2.1[0+x.1.toNat]?.bind fun v=>x.2.1[0+x.1.toNat]?.bind fun a=>if 0<=IntKind.i64.wrap ((v.length:Int)-1)/\IntKind.i64.wrap ((v.length:Int)-1)<(a.length:Int)then some (some (0+x.1.toNat,0+(IntKind.i64.wrap ((v.length:Int)-1)).toNat),x.2.1,())else none else none
def Mf:Ent:=⟨67,⟨(.agg (.own 0 .nil) (.slot .i .nil)),(.tree false 0 (.slice Am) .nil)⟩,⟨(.mptr 0 0 0 .nil),(.tree false 0 (.slice Am) .nil)⟩,Bq⟩
theorem TL:Ao Go.Proofs.Tryz.prog Mf:=okA (hcA 1 all_nil) Go.Proofs.Tryz.func67
def Q9:Go.Shelf.Ren:=⟨fun|22=>83|29=>109|30=>110|n=>n,fun|24=>43|9=>114|n=>n,fun|n=>n⟩
theorem dV:InsL Go.Proofs.Tryz.prog Q9 true 2 where
 mixed:=by kernel_rfl
 f22:=⟨ "slices.Insert[[]loop.example/g01924/impl.Write,loop.example/g01924/impl.Write]",by decide,Go.Proofs.Tryz.func83.trans (congrArg some (by kernel_rfl))⟩
 f29:=⟨_,Go.Proofs.Tryz.func109,by kernel_rfl,by kernel_rfl,by kernel_rfl,by kernel_rfl⟩
 a9:=Go.Proofs.Tryz.isAgg114
 z9:=Go.Proofs.Tryz.sizeOf114
 t0:=Go.Proofs.Tryz.underlying0
 a0:=Go.Proofs.Tryz.isAgg0
 z0:=Go.Proofs.Tryz.sizeOf0
 v0:=Go.Proofs.Tryz.zeroValue0
 t3:=Go.Proofs.Tryz.underlying3
 a3:=Go.Proofs.Tryz.isAgg3
 z3:=Go.Proofs.Tryz.sizeOf3
 v3:=Go.Proofs.Tryz.zeroValue3
 t4:=Go.Proofs.Tryz.underlying4
 a4:=Go.Proofs.Tryz.isAgg4
 z4:=Go.Proofs.Tryz.sizeOf4
 v4:=Go.Proofs.Tryz.zeroValue4
 t24:=Go.Proofs.Tryz.underlying43
 a24:=Go.Proofs.Tryz.isAgg43
 z24:=Go.Proofs.Tryz.sizeOf43
 v24:=Go.Proofs.Tryz.zeroValue43
def D5 (x:Int×List (Int×Int×Unit)×List (Int×Int×Unit)×Unit):Option (List (Int×Int×Unit)×Unit):=JZ (α:=Int×Int×Unit) 2199023255552 x
def eM:Cfg:={ti:=Bw,ents:=[],ann:=[],lent:=2}
def Qa:Ent:=⟨83,⟨(.own 0 (.slot Ty.i (.own 1 .nil))),(.lst false A0 (.lst false A0 .nil))⟩,⟨(.own 2 .nil),(.gone (.gone (.lst false A0 .nil)))⟩,D5⟩
theorem bw:Ao Go.Proofs.Tryz.prog Qa:=Kz (ρ:=Q9) (t:=A0) RP dV rfl (by decide) rfl
def dU:Cfg:={ti:=Bw,ents:=[Mf,Qa,Qc,Qb],ann:=[],lent:=2,hid:=[((6,0),[1]),((6,1),[1]),((6,2),[1]),((6,3),[1]),((6,4),[1])],tak:=[83]}
def Bj (x:Nat×Int×Int×List A3×List (List A2)×Unit):Option (List A3×List (List A2)×Unit):=x.2.2.2.1[x.1]?.bind fun v=>x.2.2.2.1[x.1]?.bind fun v=>(AD (v.2.2.2.2.2.2.2.2.1,x.2.1,(),())).bind fun v=>x.2.2.2.1[x.1]?.bind fun a=>x.2.2.2.1[x.1]?.bind fun b=>(Cs (b.2.2.2.2.2.2.2.2.1,())).bind fun c=>x.2.2.2.1[x.1]?.bind fun d=>bif v.2.1 then(x.2.2.2.1.set x.1 (d.1,d.2.1,d.2.2.1,d.2.2.2.1,d.2.2.2.2.1,d.2.2.2.2.2.1,d.2.2.2.2.2.2.1,d.2.2.2.2.2.2.2.1,c.1,()))[x.1]?.bind fun e=>(x.2.2.2.1.set x.1 (d.1,d.2.1,d.2.2.1,d.2.2.2.1,d.2.2.2.2.1,d.2.2.2.2.2.1,d.2.2.2.2.2.2.1,d.2.2.2.2.2.2.2.1,c.1,()))[x.1]?.bind fun f=>if 0<=v.1/\v.1<(f.2.2.2.2.2.2.2.2.1.length:Int)then(x.2.2.2.1.set x.1 (d.1,d.2.1,d.2.2.1,d.2.2.2.1,d.2.2.2.2.1,d.2.2.2.2.2.1,d.2.2.2.2.2.2.1,d.2.2.2.2.2.2.2.1,c.1,()))[x.1]?.bind fun g=>g.2.2.2.2.2.2.2.2.1[0+v.1.toNat]?.bind fun h=>((x.2.2.2.1.set x.1 (d.1,d.2.1,d.2.2.1,d.2.2.2.1,d.2.2.2.2.1,d.2.2.2.2.2.1,d.2.2.2.2.2.2.1,d.2.2.2.2.2.2.2.1,c.1,())).set x.1 (g.1,g.2.1,g.2.2.1,g.2.2.2.1,g.2.2.2.2.1,g.2.2.2.2.2.1,g.2.2.2.2.2.2.1,g.2.2.2.2.2.2.2.1,g.2.2.2.2.2.2.2.2.1.set (0+v.1.toNat) (h.1,x.2.2.1,()),()))[x.1]?.bind fun j=>(Bq (x.2.1,x.2.2.2.2.1,())).bind fun k=>k.1.bind fun l=>k.2.1[l.1]?.bind fun m=>m[l.2]?.bind fun n=>((x.2.2.2.1.set x.1 (d.1,d.2.1,d.2.2.1,d.2.2.2.1,d.2.2.2.2.1,d.2.2.2.2.2.1,d.2.2.2.2.2.2.1,d.2.2.2.2.2.2.2.1,c.1,())).set x.1 (g.1,g.2.1,g.2.2.1,g.2.2.2.1,g.2.2.2.2.1,g.2.2.2.2.2.1,g.2.2.2.2.2.2.1,g.2.2.2.2.2.2.2.1,g.2.2.2.2.2.2.2.2.1.set (0+v.1.toNat) (h.1,x.2.2.1,()),()))[x.1]?.bind fun o=>some (((x.2.2.2.1.set x.1 (d.1,d.2.1,d.2.2.1,d.2.2.2.1,d.2.2.2.2.1,d.2.2.2.2.2.1,d.2.2.2.2.2.2.1,d.2.2.2.2.2.2.2.1,c.1,())).set x.1 (g.1,g.2.1,g.2.2.1,g.2.2.2.1,g.2.2.2.2.1,g.2.2.2.2.2.1,g.2.2.2.2.2.2.1,g.2.2.2.2.2.2.2.1,g.2.2.2.2.2.2.2.2.1.set (0+v.1.toNat) (h.1,x.2.2.1,()),())).set x.1 (o.1,o.2.1,o.2.2.1,o.2.2.2.1,mx j.2.2.2.2.1 n.2.2.2.1,o.2.2.2.2.2.1,o.2.2.2.2.2.2.1,o.2.2.2.2.2.2.2.1,o.2.2.2.2.2.2.2.2.1,()),k.2.1,())else none else(x.2.2.2.1.set x.1 (d.1,d.2.1,d.2.2.1,d.2.2.2.1,d.2.2.2.2.1,d.2.2.2.2.2.1,d.2.2.2.2.2.2.1,d.2.2.2.2.2.2.2.1,c.1,()))[x.1]?.bind fun e=>(x.2.2.2.1.set x.1 (d.1,d.2.1,d.2.2.1,d.2.2.2.1,d.2.2.2.2.1,d.2.2.2.2.2.1,d.2.2.2.2.2.2.1,d.2.2.2.2.2.2.2.1,c.1,()))[x.1]?.bind fun f=>(D5 (v.1,f.2.2.2.2.2.2.2.2.1,[(x.2.1,x.2.2.1,())],())).bind fun v=>(x.2.2.2.1.set x.1 (d.1,d.2.1,d.2.2.1,d.2.2.2.1,d.2.2.2.2.1,d.2.2.2.2.2.1,d.2.2.2.2.2.2.1,d.2.2.2.2.2.2.2.1,c.1,()))[x.1]?.bind fun g=>if 9<=9/\true=true/\x.1=x.1/\8<=8/\8<9 then((x.2.2.2.1.set x.1 (d.1,d.2.1,d.2.2.1,d.2.2.2.1,d.2.2.2.2.1,d.2.2.2.2.2.1,d.2.2.2.2.2.2.1,d.2.2.2.2.2.2.2.1,c.1,())).set x.1 (g.1,g.2.1,g.2.2.1,g.2.2.2.1,g.2.2.2.2.1,g.2.2.2.2.2.1,g.2.2.2.2.2.2.1,g.2.2.2.2.2.2.2.1,v.1,()))[x.1]?.bind fun h=>(Bq (x.2.1,x.2.2.2.2.1,())).bind fun j=>j.1.bind fun k=>j.2.1[k.1]?.bind fun l=>l[k.2]?.bind fun m=>((x.2.2.2.1.set x.1 (d.1,d.2.1,d.2.2.1,d.2.2.2.1,d.2.2.2.2.1,d.2.2.2.2.2.1,d.2.2.2.2.2.2.1,d.2.2.2.2.2.2.2.1,c.1,())).set x.1 (g.1,g.2.1,g.2.2.1,g.2.2.2.1,g.2.2.2.2.1,g.2.2.2.2.2.1,g.2.2.2.2.2.2.1,g.2.2.2.2.2.2.2.1,v.1,()))[x.1]?.bind fun n=>some (((x.2.2.2.1.set x.1 (d.1,d.2.1,d.2.2.1,d.2.2.2.1,d.2.2.2.2.1,d.2.2.2.2.2.1,d.2.2.2.2.2.2.1,d.2.2.2.2.2.2.2.1,c.1,())).set x.1 (g.1,g.2.1,g.2.2.1,g.2.2.2.1,g.2.2.2.2.1,g.2.2.2.2.2.1,g.2.2.2.2.2.2.1,g.2.2.2.2.2.2.2.1,v.1,())).set x.1 (n.1,n.2.1,n.2.2.1,n.2.2.2.1,mx h.2.2.2.2.1 m.2.2.2.1,n.2.2.2.2.2.1,n.2.2.2.2.2.2.1,n.2.2.2.2.2.2.2.1,n.2.2.2.2.2.2.2.2.1,()),j.2.1,())else none
def Q8:Ent:=⟨54,⟨(.ptrI 0 0 (.agg (.own 1 .nil) (si 2 .nil))),(.tree false 0 Af (.tree false 0 (.slice Am) .nil))⟩,⟨.nil,(.tree false 1 Af (.tree false 0 (.slice Am) .nil))⟩,Bj⟩
theorem bv:Ao Go.Proofs.Tryz.prog Q8:=okA (C:=dU) (hcB (all_cons TL (all_cons bw (all_cons bz (all_cons bx all_nil))))) Go.Proofs.Tryz.func54
def dS:Cfg:={ti:=Bw,ents:=[Js,Q8,Qq,Qs,Qi,Qm,Qh,Qe],ann:=[],lent:=5,hid:=[((5,13),[0]),((10,13),[0])],pre:=[(some (0,3)),(some (0,4))]}
def Df (x:Nat×Int×Int×Bool×Int×A7):Option (Int×Bool×Int×A7):=x.2.2.2.2.2.2.1[x.1]?.bind fun v=>x.2.2.2.2.2.2.1[x.1]?.bind fun a=>x.2.2.2.2.2.2.1[x.1]?.bind fun b=>(CX ((x.2.2.2.2.2.1,()),x.2.2.2.2.2.2.2.1,(v.1,v.2.1,v.2.2.1,v.2.2.2.1,v.2.2.2.2.1,v.2.2.2.2.2.1,v.2.2.2.2.2.2.1,a.2.2.2.2.2.2.2.1,b.2.2.2.2.2.2.2.2.1,()),x.2.1,())).bind fun v=>(DU (x.2.2.2.2.2.2.2.1,x.2.1,())).bind fun c=>bif v.1==1 then x.2.2.2.2.2.2.1[x.1]?.bind fun d=>(Dy (x.2.2.2.2.2.2.2.2.1,d.1,c.1,())).bind fun e=>bif e.1 then(AP (x.1,4,x.2.2.2.1,x.2.2.2.2.1,x.2.2.2.2.2.1,x.2.2.2.2.2.2.1,x.2.2.2.2.2.2.2.1,x.2.2.2.2.2.2.2.2.1,())).bind fun v=>some (v.1,v.2.1,v.2.2.1,v.2.2.2.1,v.2.2.2.2.1,v.2.2.2.2.2.2.2.1,v.2.2.2.2.2.2.2.2.1,())else bif v.1==1 then x.2.2.2.2.2.2.1[x.1]?.bind fun f=>(DQ (x.2.2.2.2.2.2.2.2.1,f.1,c.1,())).bind fun g=>some (v.1,x.2.2.2.1,x.2.2.2.2.1,x.2.2.2.2.2.1,x.2.2.2.2.2.2.1,x.2.2.2.2.2.2.2.1,g.2.1,())else bif v.1 != 0 then(AP (x.1,v.1,x.2.2.2.1,x.2.2.2.2.1,x.2.2.2.2.2.1,x.2.2.2.2.2.2.1,x.2.2.2.2.2.2.2.1,x.2.2.2.2.2.2.2.2.1,())).bind fun v=>some (v.1,v.2.1,v.2.2.1,v.2.2.2.1,v.2.2.2.2.1,v.2.2.2.2.2.2.2.1,v.2.2.2.2.2.2.2.2.1,())else x.2.2.2.2.2.2.1[x.1]?.bind fun v=>(Dz (v.2.1,())).bind fun v=>bif v.1 then x.2.2.2.2.2.2.1[x.1]?.bind fun v=>(Db (x.2.2.2.2.2.2.2.1,x.2.1,v.1,())).bind fun v=>(Bj (x.1,x.2.1,x.2.2.1,x.2.2.2.2.2.2.1,x.2.2.2.2.2.1,())).bind fun f=>some (0,x.2.2.2.1,x.2.2.2.2.1,f.2.1,f.1,v.2.1,x.2.2.2.2.2.2.2.2.1,())else(Bj (x.1,x.2.1,x.2.2.1,x.2.2.2.2.2.2.1,x.2.2.2.2.2.1,())).bind fun v=>some (0,x.2.2.2.1,x.2.2.2.2.1,v.2.1,v.1,x.2.2.2.2.2.2.2.1,x.2.2.2.2.2.2.2.2.1,())else bif v.1==1 then x.2.2.2.2.2.2.1[x.1]?.bind fun d=>(DQ (x.2.2.2.2.2.2.2.2.1,d.1,c.1,())).bind fun e=>some (v.1,x.2.2.2.1,x.2.2.2.2.1,x.2.2.2.2.2.1,x.2.2.2.2.2.2.1,x.2.2.2.2.2.2.2.1,e.2.1,())else bif v.1 != 0 then(AP (x.1,v.1,x.2.2.2.1,x.2.2.2.2.1,x.2.2.2.2.2.1,x.2.2.2.2.2.2.1,x.2.2.2.2.2.2.2.1,x.2.2.2.2.2.2.2.2.1,())).bind fun v=>some (v.1,v.2.1,v.2.2.1,v.2.2.2.1,v.2.2.2.2.1,v.2.2.2.2.2.2.2.1,v.2.2.2.2.2.2.2.2.1,())else x.2.2.2.2.2.2.1[x.1]?.bind fun v=>(Dz (v.2.1,())).bind fun v=>bif v.1 then x.2.2.2.2.2.2.1[x.1]?.bind fun v=>(Db (x.2.2.2.2.2.2.2.1,x.2.1,v.1,())).bind fun v=>(Bj (x.1,x.2.1,x.2.2.1,x.2.2.2.2.2.2.1,x.2.2.2.2.2.1,())).bind fun d=>some (0,x.2.2.2.1,x.2.2.2.2.1,d.2.1,d.1,v.2.1,x.2.2.2.2.2.2.2.2.1,())else(Bj (x.1,x.2.1,x.2.2.1,x.2.2.2.2.2.2.1,x.2.2.2.2.2.1,())).bind fun v=>some (0,x.2.2.2.1,x.2.2.2.2.1,v.2.1,v.1,x.2.2.2.2.2.2.2.1,x.2.2.2.2.2.2.2.2.1,())
def Q7:Ent:=⟨34,⟨(.ptr 0 0 0 (.ptrI 2 0 (si 2 .nil))),(.cells 6 (.slot .bool (.own 1 (.own 2 (.own 3 (.own 4 (.slot .i .nil)))))) (.tree false 0 (.slice Am) (.tree false 0 Af (.lst false A0 (.lst false A0 .nil)))))⟩,⟨(.agg (.slot .i (.const (AV.nils) .nil)) .nil),(.cells 6 (.slot .bool (.own 1 (.own 2 (.own 5 (.own 6 (.slot .i .nil)))))) (.tree false 0 (.slice Am) (.tree false 1 Af (.gone (.gone (.lst false A0 (.lst false A0 .nil)))))))⟩,Df⟩
theorem bu:Ao Go.Proofs.Tryz.prog Q7:=okA (C:=dS) (hcB (all_cons Mg (all_cons bv (all_cons bS (all_cons UE (all_cons bJ (all_cons Up (all_cons bI (all_cons bB all_nil))))))))) Go.Proofs.Tryz.func34
def Bz (x:A1×Option A4×Option A3×Unit):Option (Bool×Unit):=x.2.1.bind fun v=>(Cm ((v.1,()),x.1.1,())).bind fun v=>v.1.bind fun v=>x.2.2.1.bind fun a=>some (decide (v.2.2.1>a.2.2.2.1),())
def Q6:Ent:=⟨85,⟨(.slot A0 (.slot (.iref Dl) (.slot (.iref Af) .nil))),.nil⟩,⟨(.slot .bool .nil),.nil⟩,Bz⟩
theorem bq:Ao Go.Proofs.Tryz.prog Q6:=okA (hcA 0 (all_cons P3 all_nil)) Go.Proofs.Tryz.func85
abbrev TJ:=List A1×(Option A4×Option A3×Unit)×Int×Unit
abbrev TF:=Int×Unit
abbrev TG:=Int×Unit ⊕ Unit
def AC (i:TJ)(v:TF)(R:Type)(K:TF ⊕ TG->Option R):Option R:=bif decide (v.1<i.2.2.1)then(lAt i.1 v.1).bind fun a=>(Bz ((a.1,a.2.1,()),i.2.1.1,i.2.1.2.1,())).bind fun b=>bif b.1 then K (.inr (.inl (v.1,())))else K (.inl (IntKind.i64.wrap (v.1+1),()))else K (.inr (.inr ()))
theorem Dk:Dm AC:=fun i v R K=>Al (Ad fun _=>Ad fun _=>Al (Ac) (Ac)) (Ac)
def OU:Tmpl:=⟨(.slot (.slice A0) (.slot (.fn 85 (.prod (.iref Dl) (.prod (.iref Af) .unit))) (jk 5 (si 2 (jk 10 .nil))))),.nil⟩
def TE:Exs TJ TG:=xs .ret (fun i p=>⟨jn 4 (.n (p.1)::jn 14 ([])),[]⟩)<|x1 (.exit 0) fun i p=>⟨jn 19 ([]),[]⟩
def TH:=((.i (.i (.i (.v .n)))):Pk OU.ty _ _)
def ZW:Cfg:={ti:=Bw,ents:=[Q6],ann:=[(2,Bf OU 0 (spP TH) AC TE.E)],lent:=0}
def B9 (x:List A1×(Option A4×Option A3×Unit)×Unit):Option (Int×Unit):=(BL (fun v=>AC (x.1,x.2.1,(x.1.length:Int),()) v _ some) (0,())).bind fun p=>CA p (fun p=>some (p.1,())) fun p=>some (-1,())
def Yb:Ent:=⟨96,⟨(.slot (.slice A0) (.slot (.fn 85 (.prod (.iref Dl) (.prod (.iref Af) .unit))) .nil)),.nil⟩,⟨(.slot .i .nil),.nil⟩,B9⟩
theorem TK:CfgOK Go.Proofs.Tryz.prog ZW:=hcB (all_cons bq all_nil)
theorem Ya:Cz Go.Proofs.Tryz.prog ZW (lpc Go.Proofs.Tryz.f96 0):=lkA TK OU TH AC TE [4] Dk
theorem bp:Ao Go.Proofs.Tryz.prog Yb:=okB TK Go.Proofs.Tryz.func96 Ya
def B6 (x:List A1×(Option A4×Option A3×Unit)×Unit):Option (Bool×Unit):=(B9 (x.1,x.2.1,())).bind fun v=>some (decide (v.1>=0),())
def Y9:Ent:=⟨84,⟨(.slot (.slice A0) (.slot (.fn 85 (.prod (.iref Dl) (.prod (.iref Af) .unit))) .nil)),.nil⟩,⟨(.slot .bool .nil),.nil⟩,B6⟩
theorem bo:Ao Go.Proofs.Tryz.prog Y9:=okA (hcA 0 (all_cons bp all_nil)) Go.Proofs.Tryz.func84
def CK (x:A4×A3×Unit):Option (Int×Unit):=(B6 (x.2.1.2.2.2.2.2.2.2.2.1,(some (x.1.1,()),some (x.2.1.1,x.2.1.2.1,x.2.1.2.2.1,x.2.1.2.2.2.1,x.2.1.2.2.2.2.1,x.2.1.2.2.2.2.2.1,x.2.1.2.2.2.2.2.2.1,x.2.1.2.2.2.2.2.2.2.1,x.2.1.2.2.2.2.2.2.2.2.1,()),()),())).bind fun v=>bif !v.1 then some (0,())else bif x.2.1.2.1==2 then some (2,())else bif x.2.1.2.1==4 then some (3,())else some (0,())
def Q5:Ent:=⟨55,⟨(.slot Dl (.slot Af .nil)),.nil⟩,⟨(.slot .i .nil),.nil⟩,CK⟩
theorem bn:Ao Go.Proofs.Tryz.prog Q5:=okA (hcA 0 (all_cons bo all_nil)) Go.Proofs.Tryz.func55
abbrev TC:=List A1×Int×List (List A2)×A3
abbrev Tv:=Int×Int×Unit
abbrev Tx:=Int×Unit
def BJ (i:TC)(v:Tv)(R:Type)(K:Tv ⊕ Tx->Option R):Option R:=bif decide (v.2.1<i.2.1)then(lAt i.1 v.2.1).bind fun a=>K (.inl (mx v.1 a.2.1,IntKind.i64.wrap (v.2.1+1),()))else K (.inr (v.1,()))
theorem G3:Dm BJ:=fun i v R K=>Al (Ad fun _=>Ac) (Ac)
def OS:Tmpl:=⟨(jk 2 (.ptr 0 0 0 (.ptr 1 0 0 (.junk (.slot .i (jk 5 (.slot (.slice A0) (si 2 (jk 26 .nil))))))))),(.cells 1 (.slot (.slice (.slice Am)) .nil) (.cells 9 (si 7 (.slot (.slice A0) (.slot (.slice A0) .nil))) .nil))⟩
def Tt:Exs TC Tx:=x1 (.exit 0) fun i p=>⟨jn 2 (AV.ptr 0 none 0 0::AV.ptr 1 none 0 0::jn 1 (.n (p.1)::jn 34 ([]))),[some (Cont.cells 1 [[AV.pv (.slice (.slice Am)) i.2.2.1]]),some (Cont.cells 9 [[AV.pv .i i.2.2.2.1,AV.pv .i i.2.2.2.2.1,AV.pv .i i.2.2.2.2.2.1,AV.pv .i i.2.2.2.2.2.2.1,AV.pv .i i.2.2.2.2.2.2.2.1,AV.pv .i i.2.2.2.2.2.2.2.2.1,AV.pv .i i.2.2.2.2.2.2.2.2.2.1,AV.pv (.slice A0) i.2.2.2.2.2.2.2.2.2.2.1,AV.pv (.slice A0) i.2.2.2.2.2.2.2.2.2.2.2.1]])]⟩
def TA:=((.v (.i (.i (.v (.i (.i (.i (.i (.i (.i (.i (.i (.i (.i .n)))))))))))))):Pk OS.ty _ _)
abbrev TB:=List A1×Int×List (List A2)×Unit
abbrev Tu:=Int×Int×Unit
abbrev Tw:=Int×Unit
def Bk (i:TB)(v:Tu)(R:Type)(K:Tu ⊕ Tw->Option R):Option R:=bif decide (v.2.1<i.2.1)then(lAt i.1 v.2.1).bind fun a=>(Cm ((i.2.2.1,()),a.1,())).bind fun b=>b.1.bind fun c=>K (.inl (mx v.1 c.2.2.2.1,IntKind.i64.wrap (v.2.1+1),()))else K (.inr (v.1,()))
theorem G2:Dm Bk:=fun i v R K=>Al (Ad fun _=>Ad fun _=>Ad fun _=>Ac) (Ac)
def OQ:Tmpl:=⟨(jk 2 (.ptr 0 0 0 (jk 2 (.slot .i (jk 17 (.slot (.slice A0) (si 2 (jk 14 .nil)))))))),(.cells 1 (.slot (.slice (.slice Am)) .nil) .nil)⟩
def Ts:Exs TB Tw:=x1 (.exit 2) fun i p=>⟨jn 5 (.n (p.1)::jn 34 ([])),[some (Cont.cells 1 [[AV.pv (.slice (.slice Am)) i.2.2.1]])]⟩
def Tz:=((.v (.i (.i (.v (.i .n))))):Pk OQ.ty _ _)
def TD:Cfg:={ti:=Bw,ents:=[Qr],ann:=[(3,Bf OS 0 (spP TA) BJ Tt.E),(8,Bf OQ 0 (spP Tz) Bk Ts.E)],lent:=0}
def CJ (x:A4×A3×Unit):Option (Int×Unit):=(BL (fun v=>BJ (x.2.1.2.2.2.2.2.2.2.1,(x.2.1.2.2.2.2.2.2.2.1.length:Int),x.1.1,x.2.1.1,x.2.1.2.1,x.2.1.2.2.1,x.2.1.2.2.2.1,x.2.1.2.2.2.2.1,x.2.1.2.2.2.2.2.1,x.2.1.2.2.2.2.2.2.1,x.2.1.2.2.2.2.2.2.2.1,x.2.1.2.2.2.2.2.2.2.2.1,()) v _ some) (0,0,())).bind fun p=>(BL (fun v=>Bk (x.2.1.2.2.2.2.2.2.2.2.1,(x.2.1.2.2.2.2.2.2.2.2.1.length:Int),x.1.1,()) v _ some) (p.1,0,())).bind fun p=>some (p.1,())
def Y8:Ent:=⟨86,⟨(.slot Dl (.slot Af .nil)),.nil⟩,⟨(.slot .i .nil),.nil⟩,CJ⟩
theorem OT:CfgOK Go.Proofs.Tryz.prog TD:=hcB (all_cons P3 all_nil)
theorem Y6:Cz Go.Proofs.Tryz.prog TD (lpc Go.Proofs.Tryz.f86 1):=lkA OT OQ Tz Bk Ts [5] G2
theorem Y7:Cz Go.Proofs.Tryz.prog TD (lpc Go.Proofs.Tryz.f86 0):=lkA OT OS TA BJ Tt [2,3,5] G3
theorem bm:Ao Go.Proofs.Tryz.prog Y8:=okC OT Go.Proofs.Tryz.func86 Y7 Y6
def Ew (x:A2×Option Int×Unit):Option (Bool×Unit):=x.2.1.bind fun v=>some (x.1.2.2.1==v,())
def Q4:Ent:=⟨124,⟨(.slot Am (.slot (.iref .i) .nil)),.nil⟩,⟨(.slot .bool .nil),.nil⟩,Ew⟩
theorem bl:Ao Go.Proofs.Tryz.prog Q4:=okA (hcA 0 all_nil) Go.Proofs.Tryz.func124
abbrev Tp:=List A2×(Option Int×Unit)×Int×Unit
abbrev Tm:=Int×Unit
abbrev Tn:=Int×Unit ⊕ Unit
def AA (i:Tp)(v:Tm)(R:Type)(K:Tm ⊕ Tn->Option R):Option R:=bif decide (v.1<i.2.2.1)then(lAt i.1 v.1).bind fun a=>(Ew ((a.1,a.2.1,a.2.2.1,a.2.2.2.1,a.2.2.2.2.1,()),i.2.1.1,())).bind fun b=>bif b.1 then K (.inr (.inl (v.1,())))else K (.inl (IntKind.i64.wrap (v.1+1),()))else K (.inr (.inr ()))
theorem DV:Dm AA:=fun i v R K=>Al (Ad fun _=>Ad fun _=>Al (Ac) (Ac)) (Ac)
def OP:Tmpl:=⟨(.slot (.slice Am) (.slot (.fn 124 (.prod (.iref .i) .unit)) (jk 5 (si 2 (jk 10 .nil))))),.nil⟩
def Tl:Exs Tp Tn:=xs .ret (fun i p=>⟨jn 4 (.n (p.1)::jn 14 ([])),[]⟩)<|x1 (.exit 0) fun i p=>⟨jn 19 ([]),[]⟩
def To:=((.i (.i (.i (.v .n)))):Pk OP.ty _ _)
def ZV:Cfg:={ti:=Bw,ents:=[Q4],ann:=[(2,Bf OP 0 (spP To) AA Tl.E)],lent:=0}
def BQ (x:List A2×(Option Int×Unit)×Unit):Option (Int×Unit):=(BL (fun v=>AA (x.1,x.2.1,(x.1.length:Int),()) v _ some) (0,())).bind fun p=>CA p (fun p=>some (p.1,())) fun p=>some (-1,())
def Y5:Ent:=⟨123,⟨(.slot (.slice Am) (.slot (.fn 124 (.prod (.iref .i) .unit)) .nil)),.nil⟩,⟨(.slot .i .nil),.nil⟩,BQ⟩
theorem Tq:CfgOK Go.Proofs.Tryz.prog ZV:=hcB (all_cons bl all_nil)
theorem Y4:Cz Go.Proofs.Tryz.prog ZV (lpc Go.Proofs.Tryz.f123 0):=lkA Tq OP To AA Tl [4] DV
theorem bk:Ao Go.Proofs.Tryz.prog Y5:=okB Tq Go.Proofs.Tryz.func123 Y4
def Da (x:List A2×Int×Unit):Option (Int×Unit):=(BQ (x.1,(some x.2.1,()),())).bind fun v=>some (v.1,())
def Y3:Ent:=⟨111,⟨(.slot (.slice Am) (.slot .i .nil)),.nil⟩,⟨(.slot .i .nil),.nil⟩,Da⟩
theorem Tk:Ao Go.Proofs.Tryz.prog Y3:=okA (hcA 0 (all_cons bk all_nil)) Go.Proofs.Tryz.func111
def El (x:A4×A1×Unit):Option (Option A2×Unit):=(lAt x.1.1 x.2.1.1).bind fun v=>(Da (v,x.2.1.2.1,())).bind fun a=>bif decide (a.1<0)then some (none,())else(lAt v a.1).bind fun v=>some (some v,())
def Q3:Ent:=⟨89,⟨(.slot Dl (.slot A0 .nil)),.nil⟩,⟨(.slot (.iref Am) .nil),.nil⟩,El⟩
theorem bj:Ao Go.Proofs.Tryz.prog Q3:=okA (hcA 0 (all_cons Tk all_nil)) Go.Proofs.Tryz.func89
abbrev Ti:=List A1×Int×List (List A2)×Unit
abbrev Tf:=Int×Int×Unit
abbrev Tg:=Int×Unit
def Bx (i:Ti)(v:Tf)(R:Type)(K:Tf ⊕ Tg->Option R):Option R:=bif decide (v.2.1<i.2.1)then(lAt i.1 v.2.1).bind fun a=>(El ((i.2.2.1,()),(a.1,a.2.1,()),())).bind fun b=>b.1.bind fun c=>K (.inl (mn v.1 c.2.2.2.2.1,IntKind.i64.wrap (v.2.1+1),()))else K (.inr (v.1,()))
theorem FQ:Dm Bx:=fun i v R K=>Al (Ad fun _=>Ad fun _=>Ad fun _=>Ac) (Ac)
def OO:Tmpl:=⟨(jk 2 (.ptr 0 0 0 (jk 2 (.slot .i (jk 3 (.slot (.slice A0) (si 2 (jk 13 .nil)))))))),(.cells 1 (.slot (.slice (.slice Am)) .nil) .nil)⟩
def Te:Exs Ti Tg:=x1 (.exit 0) fun i p=>⟨jn 5 (.n (p.1)::jn 19 ([])),[some (Cont.cells 1 [[AV.pv (.slice (.slice Am)) i.2.2.1]])]⟩
def Th:=((.v (.i (.i (.v (.i .n))))):Pk OO.ty _ _)
def ZU:Cfg:={ti:=Bw,ents:=[Q3],ann:=[(3,Bf OO 0 (spP Th) Bx Te.E)],lent:=0}
def CC (x:A4×A3×Unit):Option (Int×Unit):=(BL (fun v=>Bx (x.2.1.2.2.2.2.2.2.2.1,(x.2.1.2.2.2.2.2.2.2.1.length:Int),x.1.1,()) v _ some) (1000,0,())).bind fun p=>some (p.1,())
def Y2:Ent:=⟨87,⟨(.slot Dl (.slot Af .nil)),.nil⟩,⟨(.slot .i .nil),.nil⟩,CC⟩
theorem Tj:CfgOK Go.Proofs.Tryz.prog ZU:=hcB (all_cons bj all_nil)
theorem Y1:Cz Go.Proofs.Tryz.prog ZU (lpc Go.Proofs.Tryz.f87 0):=lkA Tj OO Th Bx Te [5] FQ
theorem bi:Ao Go.Proofs.Tryz.prog Y2:=okB Tj Go.Proofs.Tryz.func87 Y1
def CP (x:A4×A3×Int×Unit):Option A1:=(CJ ((x.1.1,()),(x.2.1.1,x.2.1.2.1,x.2.1.2.2.1,x.2.1.2.2.2.1,x.2.1.2.2.2.2.1,x.2.1.2.2.2.2.2.1,x.2.1.2.2.2.2.2.2.1,x.2.1.2.2.2.2.2.2.2.1,x.2.1.2.2.2.2.2.2.2.2.1,()),())).bind fun v=>(CC ((x.1.1,()),(x.2.1.1,x.2.1.2.1,x.2.1.2.2.1,x.2.1.2.2.2.1,x.2.1.2.2.2.2.1,x.2.1.2.2.2.2.2.1,x.2.1.2.2.2.2.2.2.1,x.2.1.2.2.2.2.2.2.2.1,x.2.1.2.2.2.2.2.2.2.2.1,()),())).bind fun a=>some (mx x.2.1.2.2.2.2.1 v.1,mn (mn x.2.1.2.2.2.2.2.1 a.1) x.2.2.1,())
def KR:Ent:=⟨56,⟨(.slot Dl (.slot Af (.slot .i .nil))),.nil⟩,⟨(si 2 .nil),.nil⟩,CP⟩
theorem RD:Ao Go.Proofs.Tryz.prog KR:=okA (hcA 0 (all_cons bm (all_cons bi all_nil))) Go.Proofs.Tryz.func56
def BZ (x:A1×Option A4×Unit):Option (Bool×Unit):=x.2.1.bind fun v=>(lAt v.1 x.1.1).bind fun v=>some ((v.length:Int)==50,())
def NP:Ent:=⟨88,⟨(.slot A0 (.slot (.iref Dl) .nil)),.nil⟩,⟨(.slot .bool .nil),.nil⟩,BZ⟩
theorem Zc:Ao Go.Proofs.Tryz.prog NP:=okA (hcA 0 all_nil) Go.Proofs.Tryz.func88
abbrev RB:=List A1×(Option A4×Unit)×Int×Unit
abbrev Ry:=Int×Unit
abbrev Rz:=Int×Unit ⊕ Unit
def AE (i:RB)(v:Ry)(R:Type)(K:Ry ⊕ Rz->Option R):Option R:=bif decide (v.1<i.2.2.1)then(lAt i.1 v.1).bind fun a=>(BZ ((a.1,a.2.1,()),i.2.1.1,())).bind fun b=>bif b.1 then K (.inr (.inl (v.1,())))else K (.inl (IntKind.i64.wrap (v.1+1),()))else K (.inr (.inr ()))
theorem DM:Dm AE:=fun i v R K=>Al (Ad fun _=>Ad fun _=>Al (Ac) (Ac)) (Ac)
def Mt:Tmpl:=⟨(.slot (.slice A0) (.slot (.fn 88 (.prod (.iref Dl) .unit)) (jk 5 (si 2 (jk 10 .nil))))),.nil⟩
def Rx:Exs RB Rz:=xs .ret (fun i p=>⟨jn 4 (.n (p.1)::jn 14 ([])),[]⟩)<|x1 (.exit 0) fun i p=>⟨jn 19 ([]),[]⟩
def RA:=((.i (.i (.i (.v .n)))):Pk Mt.ty _ _)
def WL:Cfg:={ti:=Bw,ents:=[NP],ann:=[(2,Bf Mt 0 (spP RA) AE Rx.E)],lent:=0}
def Bd (x:List A1×(Option A4×Unit)×Unit):Option (Int×Unit):=(BL (fun v=>AE (x.1,x.2.1,(x.1.length:Int),()) v _ some) (0,())).bind fun p=>CA p (fun p=>some (p.1,())) fun p=>some (-1,())
def WK:Ent:=⟨96,⟨(.slot (.slice A0) (.slot (.fn 88 (.prod (.iref Dl) .unit)) .nil)),.nil⟩,⟨(.slot .i .nil),.nil⟩,Bd⟩
theorem RC:CfgOK Go.Proofs.Tryz.prog WL:=hcB (all_cons Zc all_nil)
theorem WJ:Cz Go.Proofs.Tryz.prog WL (lpc Go.Proofs.Tryz.f96 0):=lkA RC Mt RA AE Rx [4] DM
theorem Zb:Ao Go.Proofs.Tryz.prog WK:=okB RC Go.Proofs.Tryz.func96 WJ
def Ba (x:List A1×(Option A4×Unit)×Unit):Option (Bool×Unit):=(Bd (x.1,x.2.1,())).bind fun v=>some (decide (v.1>=0),())
def WI:Ent:=⟨84,⟨(.slot (.slice A0) (.slot (.fn 88 (.prod (.iref Dl) .unit)) .nil)),.nil⟩,⟨(.slot .bool .nil),.nil⟩,Ba⟩
theorem Za:Ao Go.Proofs.Tryz.prog WI:=okA (hcA 0 (all_cons Zb all_nil)) Go.Proofs.Tryz.func84
def CQ (x:A4×A3×Unit):Option (Bool×Unit):=(Ba (x.2.1.2.2.2.2.2.2.2.2.1,(some (x.1.1,()),()),())).bind fun v=>some (v.1,())
def NO:Ent:=⟨57,⟨(.slot Dl (.slot Af .nil)),.nil⟩,⟨(.slot .bool .nil),.nil⟩,CQ⟩
theorem Z9:Ao Go.Proofs.Tryz.prog NO:=okA (hcA 0 (all_cons Za all_nil)) Go.Proofs.Tryz.func57
def DI (x:Int×Int×List (List A2)×Unit):Option (Option (Nat×Nat)×List (List A2)×Unit):=if 0<=x.1/\x.1<(x.2.2.1.length:Int)then x.2.2.1[0+x.1.toNat]?.bind fun v=>x.2.2.1[0+x.1.toNat]?.bind fun v=>(Da (v,x.2.1,())).bind fun v=>bif decide (v.1<0)then some (none,x.2.2.1,())else x.2.2.1[0+x.1.toNat]?.bind fun a=>if 0<=v.1/\v.1<(a.length:Int)then some (some (0+x.1.toNat,0+v.1.toNat),x.2.2.1,())else none else none
def NN:Ent:=⟨89,⟨(.agg (.own 0 .nil) (.agg (si 2 .nil) .nil)),(.tree false 0 (.slice Am) .nil)⟩,⟨(.mptr 0 0 0 .nil),(.tree false 0 (.slice Am) .nil)⟩,DI⟩
theorem Z8:Ao Go.Proofs.Tryz.prog NN:=okA (hcA 1 (all_cons Tk all_nil)) Go.Proofs.Tryz.func89
abbrev Rv:=Nat×Int×Nat×Int×Bool×Int×A8
abbrev Rp:=Int×List (List A2)×Unit
abbrev Rr:=List (List A2)×Unit
def BC (i:Rv)(v:Rp)(R:Type)(K:Rp ⊕ Rr->Option R):Option R:=bif decide (v.1<i.2.2.2.1)then i.2.2.2.2.2.2.1[i.2.2.1]?.bind fun a=>if 0<=v.1/\v.1<(a.2.2.2.2.2.2.2.1.length:Int)then i.2.2.2.2.2.2.1[i.2.2.1]?.bind fun b=>b.2.2.2.2.2.2.2.1[0+v.1.toNat]?.bind fun c=>(DI (c.1,c.2.1,v.2.1,())).bind fun d=>d.1.bind fun e=>d.2.1[e.1]?.bind fun f=>f[e.2]?.bind fun g=>d.1.bind fun h=>d.2.1[h.1]?.bind fun j=>j[h.2]?.bind fun k=>K (.inl (IntKind.i64.wrap (v.1+1),d.2.1.set h.1 (j.set h.2 (k.1,k.2.1,k.2.2.1,mx g.2.2.2.1 i.2.1,k.2.2.2.2.1,())),()))else none else K (.inr (v.2.1,()))
theorem Gq:Dm BC:=fun i v R K=>Al (Ad fun _=>BG (Ad fun _=>Ad fun _=>Ad fun _=>Ad fun _=>Ad fun _=>Ad fun _=>Ad fun _=>Ad fun _=>Ad fun _=>Ac)) (Ac)
def Mr:Tmpl:=⟨(.ptr 0 0 1 (.ptrI 2 0 (.slot .i (jk 35 (.nown 2 7 (si 2 (jk 66 .nil))))))),(.cells 6 (.slot .bool (.own 1 (.own 2 (.own 3 (.own 4 (.slot .i .nil)))))) (.tree false 0 (.slice Am) (.tree false 1 Af (.lst false A0 (.lst false A0 .nil)))))⟩
def Rn:Exs Rv Rr:=x1 (.exit 0) fun i p=>⟨AV.ptr 0 none 0 1::AV.ptr 2 none i.1 0::.n (i.2.1)::jn 104 ([]),[some (Cont.cells 6 [[AV.pv .bool i.2.2.2.2.1,AV.own 1 none none,AV.own 2 none none,AV.own 3 none none,AV.own 4 none none,AV.pv .i i.2.2.2.2.2.1]]),some (Cont.tree false 0 (.slice Am) p.1 none),some (Cont.tree false 1 Af i.2.2.2.2.2.2.1 none),some (Cont.lst false A0 i.2.2.2.2.2.2.2.1),some (Cont.lst false A0 i.2.2.2.2.2.2.2.2.1)]⟩
def Rt:=((.i (.i (.i (.i (.v (.i (.i (.v (.i (.i (.i .n))))))))))):Pk Mr.ty _ _)
abbrev Ru:=Nat×Int×Nat×Int×Bool×Int×A8
abbrev Ro:=Int×List (List A2)×Unit
abbrev Rq:=List (List A2)×Unit
def BB (i:Ru)(v:Ro)(R:Type)(K:Ro ⊕ Rq->Option R):Option R:=bif decide (v.1<i.2.2.2.1)then i.2.2.2.2.2.2.1[i.2.2.1]?.bind fun a=>if 0<=v.1/\v.1<(a.2.2.2.2.2.2.2.2.1.length:Int)then i.2.2.2.2.2.2.1[i.2.2.1]?.bind fun b=>b.2.2.2.2.2.2.2.2.1[0+v.1.toNat]?.bind fun c=>(Bq (c.1,v.2.1,())).bind fun d=>i.2.2.2.2.2.2.1[i.1]?.bind fun e=>d.1.bind fun f=>d.2.1[f.1]?.bind fun g=>g[f.2]?.bind fun h=>if 0<=c.1/\c.1<(↑((d.2.1.set f.1 (g.set f.2 (h.1,h.2.1,h.2.2.1,h.2.2.2.1,e.2.2.2.2.2.1,()))).length):Int)then(d.2.1.set f.1 (g.set f.2 (h.1,h.2.1,h.2.2.1,h.2.2.2.1,e.2.2.2.2.2.1,())))[0+c.1.toNat]?.bind fun j=>i.2.2.2.2.2.2.1[i.1]?.bind fun k=>(d.2.1.set f.1 (g.set f.2 (h.1,h.2.1,h.2.2.1,h.2.2.2.1,e.2.2.2.2.2.1,())))[0+c.1.toNat]?.bind fun l=>if(l++[(k.1,c.2.1,i.2.1,i.2.1,1000,())]).length<=879609302220 then if 0<=c.1/\c.1<(↑((d.2.1.set f.1 (g.set f.2 (h.1,h.2.1,h.2.2.1,h.2.2.2.1,e.2.2.2.2.2.1,()))).length):Int)then(d.2.1.set f.1 (g.set f.2 (h.1,h.2.1,h.2.2.1,h.2.2.2.1,e.2.2.2.2.2.1,())))[0+c.1.toNat]?.bind fun m=>if 1<=1/\true=true/\0+c.1.toNat=0+c.1.toNat/\0<=0/\0<1 then K (.inl (IntKind.i64.wrap (v.1+1),(d.2.1.set f.1 (g.set f.2 (h.1,h.2.1,h.2.2.1,h.2.2.2.1,e.2.2.2.2.2.1,()))).set (0+c.1.toNat) (l++[(k.1,c.2.1,i.2.1,i.2.1,1000,())]),()))else none else none else none else none else none else K (.inr (v.2.1,()))
theorem Gp:Dm BB:=fun i v R K=>Al (Ad fun _=>BG (Ad fun _=>Ad fun _=>Ad fun _=>Ad fun _=>Ad fun _=>Ad fun _=>Ad fun _=>BG (Ad fun _=>Ad fun _=>Ad fun _=>BG (BG (Ad fun _=>BG (Ac)))))) (Ac)
def Mq:Tmpl:=⟨(.ptr 0 0 1 (.ptrI 2 0 (.slot .i (jk 59 (.nown 2 8 (si 2 (jk 42 .nil))))))),(.cells 6 (.slot .bool (.own 1 (.own 2 (.own 3 (.own 4 (.slot .i .nil)))))) (.tree false 1 (.slice Am) (.tree false 1 Af (.lst false A0 (.lst false A0 .nil)))))⟩
def Rm:Exs Ru Rq:=x1 (.exit 2) fun i p=>⟨jn 107 ([]),[some (Cont.cells 6 [[AV.pv .bool i.2.2.2.2.1,AV.own 1 none none,AV.own 2 none none,AV.own 3 none none,AV.own 4 none none,AV.pv .i i.2.2.2.2.2.1]]),some (Cont.tree false 1 (.slice Am) p.1 none),some (Cont.tree false 1 Af i.2.2.2.2.2.2.1 none),some (Cont.lst false A0 i.2.2.2.2.2.2.2.1),some (Cont.lst false A0 i.2.2.2.2.2.2.2.2.1)]⟩
def Rs:=((.i (.i (.i (.i (.v (.i (.i (.v (.i (.i (.i .n))))))))))):Pk Mq.ty _ _)
def Po:Cfg:={ti:=Bw,ents:=[NN,Mf,KR],ann:=[(3,Bf Mr 5 (spP Rt) BC Rn.E),(9,Bf Mq 5 (spP Rs) BB Rm.E)],lent:=5,hid:=[((0,1),[2]),((0,12),[2]),((12,0),[1]),((12,1),[1]),((12,2),[1]),((12,3),[1]),((12,4),[1]),((12,5),[1])]}
def Cu (x:Nat×Int×Bool×Int×A7):Option (Bool×Int×A7):=x.2.2.2.2.2.1[x.1]?.bind fun v=>x.2.2.2.2.2.1[x.1]?.bind fun a=>x.2.2.2.2.2.1[x.1]?.bind fun b=>(CP ((x.2.2.2.2.1,()),(v.1,v.2.1,v.2.2.1,v.2.2.2.1,v.2.2.2.2.1,v.2.2.2.2.2.1,v.2.2.2.2.2.2.1,a.2.2.2.2.2.2.2.1,b.2.2.2.2.2.2.2.2.1,()),x.2.1,())).bind fun v=>x.2.2.2.2.2.1[x.1]?.bind fun c=>(x.2.2.2.2.2.1.set x.1 (c.1,c.2.1,c.2.2.1,c.2.2.2.1,v.1,c.2.2.2.2.2.1,c.2.2.2.2.2.2.1,c.2.2.2.2.2.2.2.1,c.2.2.2.2.2.2.2.2.1,()))[x.1]?.bind fun d=>((x.2.2.2.2.2.1.set x.1 (c.1,c.2.1,c.2.2.1,c.2.2.2.1,v.1,c.2.2.2.2.2.1,c.2.2.2.2.2.2.1,c.2.2.2.2.2.2.2.1,c.2.2.2.2.2.2.2.2.1,())).set x.1 (d.1,d.2.1,d.2.2.1,d.2.2.2.1,d.2.2.2.2.1,v.2.1,d.2.2.2.2.2.2.1,d.2.2.2.2.2.2.2.1,d.2.2.2.2.2.2.2.2.1,()))[x.1]?.bind fun e=>(((x.2.2.2.2.2.1.set x.1 (c.1,c.2.1,c.2.2.1,c.2.2.2.1,v.1,c.2.2.2.2.2.1,c.2.2.2.2.2.2.1,c.2.2.2.2.2.2.2.1,c.2.2.2.2.2.2.2.2.1,())).set x.1 (d.1,d.2.1,d.2.2.1,d.2.2.2.1,d.2.2.2.2.1,v.2.1,d.2.2.2.2.2.2.1,d.2.2.2.2.2.2.2.1,d.2.2.2.2.2.2.2.2.1,())).set x.1 (e.1,e.2.1,2,e.2.2.2.1,e.2.2.2.2.1,e.2.2.2.2.2.1,e.2.2.2.2.2.2.1,e.2.2.2.2.2.2.2.1,e.2.2.2.2.2.2.2.2.1,()))[x.1]?.bind fun f=>((((x.2.2.2.2.2.1.set x.1 (c.1,c.2.1,c.2.2.1,c.2.2.2.1,v.1,c.2.2.2.2.2.1,c.2.2.2.2.2.2.1,c.2.2.2.2.2.2.2.1,c.2.2.2.2.2.2.2.2.1,())).set x.1 (d.1,d.2.1,d.2.2.1,d.2.2.2.1,d.2.2.2.2.1,v.2.1,d.2.2.2.2.2.2.1,d.2.2.2.2.2.2.2.1,d.2.2.2.2.2.2.2.2.1,())).set x.1 (e.1,e.2.1,2,e.2.2.2.1,e.2.2.2.2.1,e.2.2.2.2.2.1,e.2.2.2.2.2.2.1,e.2.2.2.2.2.2.2.1,e.2.2.2.2.2.2.2.2.1,())).set x.1 (f.1,f.2.1,f.2.2.1,f.2.2.2.1,f.2.2.2.2.1,f.2.2.2.2.2.1,x.2.1,f.2.2.2.2.2.2.2.1,f.2.2.2.2.2.2.2.2.1,()))[x.1]?.bind fun g=>((((x.2.2.2.2.2.1.set x.1 (c.1,c.2.1,c.2.2.1,c.2.2.2.1,v.1,c.2.2.2.2.2.1,c.2.2.2.2.2.2.1,c.2.2.2.2.2.2.2.1,c.2.2.2.2.2.2.2.2.1,())).set x.1 (d.1,d.2.1,d.2.2.1,d.2.2.2.1,d.2.2.2.2.1,v.2.1,d.2.2.2.2.2.2.1,d.2.2.2.2.2.2.2.1,d.2.2.2.2.2.2.2.2.1,())).set x.1 (e.1,e.2.1,2,e.2.2.2.1,e.2.2.2.2.1,e.2.2.2.2.2.1,e.2.2.2.2.2.2.1,e.2.2.2.2.2.2.2.1,e.2.2.2.2.2.2.2.2.1,())).set x.1 (f.1,f.2.1,f.2.2.1,f.2.2.2.1,f.2.2.2.2.1,f.2.2.2.2.2.1,x.2.1,f.2.2.2.2.2.2.2.1,f.2.2.2.2.2.2.2.2.1,()))[x.1]?.bind fun h=>(BL (fun j=>BC (x.1,x.2.1,x.1,(h.2.2.2.2.2.2.2.1.length:Int),x.2.2.1,x.2.2.2.1,(((x.2.2.2.2.2.1.set x.1 (c.1,c.2.1,c.2.2.1,c.2.2.2.1,v.1,c.2.2.2.2.2.1,c.2.2.2.2.2.2.1,c.2.2.2.2.2.2.2.1,c.2.2.2.2.2.2.2.2.1,())).set x.1 (d.1,d.2.1,d.2.2.1,d.2.2.2.1,d.2.2.2.2.1,v.2.1,d.2.2.2.2.2.2.1,d.2.2.2.2.2.2.2.1,d.2.2.2.2.2.2.2.2.1,())).set x.1 (e.1,e.2.1,2,e.2.2.2.1,e.2.2.2.2.1,e.2.2.2.2.2.1,e.2.2.2.2.2.2.1,e.2.2.2.2.2.2.2.1,e.2.2.2.2.2.2.2.2.1,())).set x.1 (f.1,f.2.1,f.2.2.1,f.2.2.2.1,f.2.2.2.2.1,f.2.2.2.2.2.1,x.2.1,f.2.2.2.2.2.2.2.1,f.2.2.2.2.2.2.2.2.1,()),x.2.2.2.2.2.2.1,x.2.2.2.2.2.2.2.1,()) j _ some) (0,x.2.2.2.2.1,())).bind fun p=>((((x.2.2.2.2.2.1.set x.1 (c.1,c.2.1,c.2.2.1,c.2.2.2.1,v.1,c.2.2.2.2.2.1,c.2.2.2.2.2.2.1,c.2.2.2.2.2.2.2.1,c.2.2.2.2.2.2.2.2.1,())).set x.1 (d.1,d.2.1,d.2.2.1,d.2.2.2.1,d.2.2.2.2.1,v.2.1,d.2.2.2.2.2.2.1,d.2.2.2.2.2.2.2.1,d.2.2.2.2.2.2.2.2.1,())).set x.1 (e.1,e.2.1,2,e.2.2.2.1,e.2.2.2.2.1,e.2.2.2.2.2.1,e.2.2.2.2.2.2.1,e.2.2.2.2.2.2.2.1,e.2.2.2.2.2.2.2.2.1,())).set x.1 (f.1,f.2.1,f.2.2.1,f.2.2.2.1,f.2.2.2.2.1,f.2.2.2.2.2.1,x.2.1,f.2.2.2.2.2.2.2.1,f.2.2.2.2.2.2.2.2.1,()))[x.1]?.bind fun j=>((((x.2.2.2.2.2.1.set x.1 (c.1,c.2.1,c.2.2.1,c.2.2.2.1,v.1,c.2.2.2.2.2.1,c.2.2.2.2.2.2.1,c.2.2.2.2.2.2.2.1,c.2.2.2.2.2.2.2.2.1,())).set x.1 (d.1,d.2.1,d.2.2.1,d.2.2.2.1,d.2.2.2.2.1,v.2.1,d.2.2.2.2.2.2.1,d.2.2.2.2.2.2.2.1,d.2.2.2.2.2.2.2.2.1,())).set x.1 (e.1,e.2.1,2,e.2.2.2.1,e.2.2.2.2.1,e.2.2.2.2.2.1,e.2.2.2.2.2.2.1,e.2.2.2.2.2.2.2.1,e.2.2.2.2.2.2.2.2.1,())).set x.1 (f.1,f.2.1,f.2.2.1,f.2.2.2.1,f.2.2.2.2.1,f.2.2.2.2.2.1,x.2.1,f.2.2.2.2.2.2.2.1,f.2.2.2.2.2.2.2.2.1,()))[x.1]?.bind fun k=>(BL (fun l=>BB (x.1,x.2.1,x.1,(k.2.2.2.2.2.2.2.2.1.length:Int),x.2.2.1,x.2.2.2.1,(((x.2.2.2.2.2.1.set x.1 (c.1,c.2.1,c.2.2.1,c.2.2.2.1,v.1,c.2.2.2.2.2.1,c.2.2.2.2.2.2.1,c.2.2.2.2.2.2.2.1,c.2.2.2.2.2.2.2.2.1,())).set x.1 (d.1,d.2.1,d.2.2.1,d.2.2.2.1,d.2.2.2.2.1,v.2.1,d.2.2.2.2.2.2.1,d.2.2.2.2.2.2.2.1,d.2.2.2.2.2.2.2.2.1,())).set x.1 (e.1,e.2.1,2,e.2.2.2.1,e.2.2.2.2.1,e.2.2.2.2.2.1,e.2.2.2.2.2.2.1,e.2.2.2.2.2.2.2.1,e.2.2.2.2.2.2.2.2.1,())).set x.1 (f.1,f.2.1,f.2.2.1,f.2.2.2.1,f.2.2.2.2.1,f.2.2.2.2.2.1,x.2.1,f.2.2.2.2.2.2.2.1,f.2.2.2.2.2.2.2.2.1,()),x.2.2.2.2.2.2.1,x.2.2.2.2.2.2.2.1,()) l _ some) (0,p.1,())).bind fun p=>some (x.2.2.1,x.2.2.2.1,p.1,(((x.2.2.2.2.2.1.set x.1 (c.1,c.2.1,c.2.2.1,c.2.2.2.1,v.1,c.2.2.2.2.2.1,c.2.2.2.2.2.2.1,c.2.2.2.2.2.2.2.1,c.2.2.2.2.2.2.2.2.1,())).set x.1 (d.1,d.2.1,d.2.2.1,d.2.2.2.1,d.2.2.2.2.1,v.2.1,d.2.2.2.2.2.2.1,d.2.2.2.2.2.2.2.1,d.2.2.2.2.2.2.2.2.1,())).set x.1 (e.1,e.2.1,2,e.2.2.2.1,e.2.2.2.2.1,e.2.2.2.2.2.1,e.2.2.2.2.2.2.1,e.2.2.2.2.2.2.2.1,e.2.2.2.2.2.2.2.2.1,())).set x.1 (f.1,f.2.1,f.2.2.1,f.2.2.2.1,f.2.2.2.2.1,f.2.2.2.2.2.1,x.2.1,f.2.2.2.2.2.2.2.1,f.2.2.2.2.2.2.2.2.1,()),x.2.2.2.2.2.2.1,x.2.2.2.2.2.2.2.1,())
def NM:Ent:=⟨58,⟨(.ptr 0 0 1 (.ptrI 2 0 (.slot .i .nil))),(.cells 6 (.slot .bool (.own 1 (.own 2 (.own 3 (.own 4 (.slot .i .nil)))))) (.tree false 0 (.slice Am) (.tree false 0 Af (.lst false A0 (.lst false A0 .nil)))))⟩,⟨.nil,(.cells 6 (.slot .bool (.own 1 (.own 2 (.own 3 (.own 4 (.slot .i .nil)))))) (.tree false 1 (.slice Am) (.tree false 1 Af (.lst false A0 (.lst false A0 .nil)))))⟩,Cu⟩
theorem Ms:CfgOK Go.Proofs.Tryz.prog Po:=hcB (all_cons Z8 (all_cons TL (all_cons RD all_nil)))
theorem WG:Cz Go.Proofs.Tryz.prog Po (lpc Go.Proofs.Tryz.f58 1):=lkA Ms Mq Rs BB Rm [] Gp
theorem WH:Cz Go.Proofs.Tryz.prog Po (lpc Go.Proofs.Tryz.f58 0):=lkA Ms Mr Rt BC Rn [0,1,2] Gq
theorem Z7:Ao Go.Proofs.Tryz.prog NM:=okC Ms Go.Proofs.Tryz.func58 WH WG
def cO:Cfg:={ti:=Bw,ents:=[Js,NM,QB,Q5,KR,NO],ann:=[],lent:=5,pre:=[(some (0,3)),(some (0,4))]}
def CZ (x:Nat×Bool×Int×A7):Option (Int×Bool×Int×A7):=x.2.2.2.2.1[x.1]?.bind fun v=>x.2.2.2.2.1[x.1]?.bind fun a=>x.2.2.2.2.1[x.1]?.bind fun b=>(CK ((x.2.2.2.1,()),(v.1,v.2.1,v.2.2.1,v.2.2.2.1,v.2.2.2.2.1,v.2.2.2.2.2.1,v.2.2.2.2.2.2.1,a.2.2.2.2.2.2.2.1,b.2.2.2.2.2.2.2.2.1,()),())).bind fun v=>bif v.1 != 0 then(AP (x.1,v.1,x.2.1,x.2.2.1,x.2.2.2.1,x.2.2.2.2.1,x.2.2.2.2.2.1,x.2.2.2.2.2.2.1,())).bind fun v=>some (v.1,v.2.1,v.2.2.1,v.2.2.2.1,v.2.2.2.2.1,v.2.2.2.2.2.2.2.1,v.2.2.2.2.2.2.2.2.1,())else bif x.2.2.1==999 then some (6,x.2.1,x.2.2.1,x.2.2.2.1,x.2.2.2.2.1,x.2.2.2.2.2.1,x.2.2.2.2.2.2.1,())else x.2.2.2.2.1[x.1]?.bind fun v=>x.2.2.2.2.1[x.1]?.bind fun c=>x.2.2.2.2.1[x.1]?.bind fun d=>(CP ((x.2.2.2.1,()),(v.1,v.2.1,v.2.2.1,v.2.2.2.1,v.2.2.2.2.1,v.2.2.2.2.2.1,v.2.2.2.2.2.2.1,c.2.2.2.2.2.2.2.1,d.2.2.2.2.2.2.2.2.1,()),IntKind.i64.wrap (x.2.2.1+1),())).bind fun v=>bif x.2.1 then bif decide (v.1>=v.2.1)then(AP (x.1,5,x.2.1,x.2.2.1,x.2.2.2.1,x.2.2.2.2.1,x.2.2.2.2.2.1,x.2.2.2.2.2.2.1,())).bind fun v=>some (v.1,v.2.1,v.2.2.1,v.2.2.2.1,v.2.2.2.2.1,v.2.2.2.2.2.2.2.1,v.2.2.2.2.2.2.2.2.1,())else x.2.2.2.2.1[x.1]?.bind fun v=>x.2.2.2.2.1[x.1]?.bind fun e=>x.2.2.2.2.1[x.1]?.bind fun f=>(CQ ((x.2.2.2.1,()),(v.1,v.2.1,v.2.2.1,v.2.2.2.1,v.2.2.2.2.1,v.2.2.2.2.2.1,v.2.2.2.2.2.2.1,e.2.2.2.2.2.2.2.1,f.2.2.2.2.2.2.2.2.1,()),())).bind fun v=>bif v.1 then(AP (x.1,5,x.2.1,x.2.2.1,x.2.2.2.1,x.2.2.2.2.1,x.2.2.2.2.2.1,x.2.2.2.2.2.2.1,())).bind fun v=>some (v.1,v.2.1,v.2.2.1,v.2.2.2.1,v.2.2.2.2.1,v.2.2.2.2.2.2.2.1,v.2.2.2.2.2.2.2.2.1,())else(Cu (x.1,IntKind.i64.wrap (x.2.2.1+1),x.2.1,IntKind.i64.wrap (x.2.2.1+1),x.2.2.2.1,x.2.2.2.2.1,x.2.2.2.2.2.1,x.2.2.2.2.2.2.1,())).bind fun v=>(Cn (x.1,v.1,v.2.1,v.2.2.1,v.2.2.2.1,v.2.2.2.2.1,v.2.2.2.2.2.1,())).bind fun v=>some (0,v.1,v.2.1,v.2.2.1,v.2.2.2.1,v.2.2.2.2.2.2.1,v.2.2.2.2.2.2.2.1,())else x.2.2.2.2.1[x.1]?.bind fun v=>x.2.2.2.2.1[x.1]?.bind fun e=>x.2.2.2.2.1[x.1]?.bind fun f=>(CQ ((x.2.2.2.1,()),(v.1,v.2.1,v.2.2.1,v.2.2.2.1,v.2.2.2.2.1,v.2.2.2.2.2.1,v.2.2.2.2.2.2.1,e.2.2.2.2.2.2.2.1,f.2.2.2.2.2.2.2.2.1,()),())).bind fun v=>bif v.1 then(AP (x.1,5,x.2.1,x.2.2.1,x.2.2.2.1,x.2.2.2.2.1,x.2.2.2.2.2.1,x.2.2.2.2.2.2.1,())).bind fun v=>some (v.1,v.2.1,v.2.2.1,v.2.2.2.1,v.2.2.2.2.1,v.2.2.2.2.2.2.2.1,v.2.2.2.2.2.2.2.2.1,())else(Cu (x.1,IntKind.i64.wrap (x.2.2.1+1),x.2.1,IntKind.i64.wrap (x.2.2.1+1),x.2.2.2.1,x.2.2.2.2.1,x.2.2.2.2.2.1,x.2.2.2.2.2.2.1,())).bind fun v=>(Cn (x.1,v.1,v.2.1,v.2.2.1,v.2.2.2.1,v.2.2.2.2.1,v.2.2.2.2.2.1,())).bind fun v=>some (0,v.1,v.2.1,v.2.2.1,v.2.2.2.1,v.2.2.2.2.2.2.1,v.2.2.2.2.2.2.2.1,())
def NL:Ent:=⟨35,⟨(.ptr 0 0 0 (.ptrI 2 0 .nil)),(.cells 6 (.slot .bool (.own 1 (.own 2 (.own 3 (.own 4 (.slot .i .nil)))))) (.tree false 0 (.slice Am) (.tree false 0 Af (.lst false A0 (.lst false A0 .nil)))))⟩,⟨(.agg (.slot .i (.const (AV.nils) .nil)) .nil),(.cells 6 (.slot .bool (.own 1 (.own 2 (.own 5 (.own 6 (.slot .i .nil)))))) (.tree false 1 (.slice Am) (.tree false 1 Af (.gone (.gone (.lst false A0 (.lst false A0 .nil)))))))⟩,CZ⟩
theorem Z6:Ao Go.Proofs.Tryz.prog NL:=okA (C:=cO) (hcB (all_cons Mg (all_cons Z7 (all_cons UX (all_cons bn (all_cons RD (all_cons Z9 all_nil))))))) Go.Proofs.Tryz.func35
def cN:Cfg:={ti:=Bw,ents:=[QP,QJ,Qu,Q7,NL,Js,QM,QN,QL],ann:=[],lent:=5,pre:=[(some (0,2)),(some (0,3)),(some (0,4))]}
def DA (x:Int×Int×Int×Int×Int×Int×Bool×Int×A7):Option (Int×Bool×Int×List (List A2)×List A3×List A1×List A1×List Int×Unit):=bif x.1==1 then(Dg (x.1,x.2.1,x.2.2.1,x.2.2.2.1,x.2.2.2.2.1,x.2.2.2.2.2.1,x.2.2.2.2.2.2.1,x.2.2.2.2.2.2.2.1,x.2.2.2.2.2.2.2.2.1,x.2.2.2.2.2.2.2.2.2.1,x.2.2.2.2.2.2.2.2.2.2.1,x.2.2.2.2.2.2.2.2.2.2.2.1,())).bind fun v=>some (v.1,v.2.1,v.2.2.1,v.2.2.2.1,v.2.2.2.2.2.2.1,v.2.2.2.2.1,v.2.2.2.2.2.1,[],())else(CY ((x.2.2.2.2.2.2.1,(x.2.2.2.2.2.2.2.2.1,()),x.2.2.2.2.2.2.2.2.2.1,x.2.2.2.2.2.2.2.2.2.2.1,x.2.2.2.2.2.2.2.2.2.2.2.1,x.2.2.2.2.2.2.2.1,()),x.2.1,())).bind fun v=>bif !v.1 then some (6,x.2.2.2.2.2.2.1,x.2.2.2.2.2.2.2.1,x.2.2.2.2.2.2.2.2.1,x.2.2.2.2.2.2.2.2.2.1,x.2.2.2.2.2.2.2.2.2.2.1,x.2.2.2.2.2.2.2.2.2.2.2.1,[],())else(Cl ((x.2.2.2.2.2.2.1,(x.2.2.2.2.2.2.2.2.1,()),x.2.2.2.2.2.2.2.2.2.1,x.2.2.2.2.2.2.2.2.2.2.1,x.2.2.2.2.2.2.2.2.2.2.2.1,x.2.2.2.2.2.2.2.1,()),x.2.1,())).bind fun v=>if 0<=v.1/\v.1<(x.2.2.2.2.2.2.2.2.2.1.length:Int)then(BI (x.2.2.2.2.2.2.2.2.2.2.2.1,())).bind fun a=>(Bp (a.1,x.1,x.2.1,x.2.2.1,x.2.2.2.1,x.2.2.2.2.1,x.2.2.2.2.2.1,())).bind fun b=>bif b.1==2 then(DB (0+v.1.toNat,b.2.2.2.1,b.2.2.2.1,x.2.2.2.2.2.2.1,x.2.2.2.2.2.2.2.1,x.2.2.2.2.2.2.2.2.1,x.2.2.2.2.2.2.2.2.2.1,x.2.2.2.2.2.2.2.2.2.2.1,b.2.2.2.2.2.2.1,())).bind fun v=>some (v.1,v.2.1,v.2.2.1,v.2.2.2.1,v.2.2.2.2.1,v.2.2.2.2.2.1,v.2.2.2.2.2.2.1,v.2.2.2.2.2.2.2.1,())else bif b.1==4 then(DB (0+v.1.toNat,b.2.2.2.1,b.2.2.2.2.1,x.2.2.2.2.2.2.1,x.2.2.2.2.2.2.2.1,x.2.2.2.2.2.2.2.2.1,x.2.2.2.2.2.2.2.2.2.1,x.2.2.2.2.2.2.2.2.2.2.1,b.2.2.2.2.2.2.1,())).bind fun v=>some (v.1,v.2.1,v.2.2.1,v.2.2.2.1,v.2.2.2.2.1,v.2.2.2.2.2.1,v.2.2.2.2.2.2.1,v.2.2.2.2.2.2.2.1,())else bif b.1==3 then(Df (0+v.1.toNat,b.2.2.2.1,b.2.2.2.2.2.1,x.2.2.2.2.2.2.1,x.2.2.2.2.2.2.2.1,x.2.2.2.2.2.2.2.2.1,x.2.2.2.2.2.2.2.2.2.1,x.2.2.2.2.2.2.2.2.2.2.1,b.2.2.2.2.2.2.1,())).bind fun v=>some (v.1,v.2.1,v.2.2.1,v.2.2.2.1,v.2.2.2.2.1,v.2.2.2.2.2.1,v.2.2.2.2.2.2.1,[],())else bif b.1==5 then(CZ (0+v.1.toNat,x.2.2.2.2.2.2.1,x.2.2.2.2.2.2.2.1,x.2.2.2.2.2.2.2.2.1,x.2.2.2.2.2.2.2.2.2.1,x.2.2.2.2.2.2.2.2.2.2.1,b.2.2.2.2.2.2.1,())).bind fun v=>some (v.1,v.2.1,v.2.2.1,v.2.2.2.1,v.2.2.2.2.1,v.2.2.2.2.2.1,v.2.2.2.2.2.2.1,[],())else(AP (0+v.1.toNat,0,x.2.2.2.2.2.2.1,x.2.2.2.2.2.2.2.1,x.2.2.2.2.2.2.2.2.1,x.2.2.2.2.2.2.2.2.2.1,x.2.2.2.2.2.2.2.2.2.2.1,b.2.2.2.2.2.2.1,())).bind fun v=>some (v.1,v.2.1,v.2.2.1,v.2.2.2.1,v.2.2.2.2.1,v.2.2.2.2.2.2.2.1,v.2.2.2.2.2.2.2.2.1,[],())else none
def NK:Ent:=⟨15,⟨(.ptr 0 0 0 (.agg (si 6 .nil) .nil)),(.cells 6 (.slot .bool (.own 1 (.own 2 (.own 3 (.own 4 (.slot .i .nil)))))) (.tree false 0 (.slice Am) (.tree false 0 Af (.lst false A0 (.lst false A0 .nil)))))⟩,⟨(.agg (.slot .i (.own 8 .nil)) .nil),(.cells 6 (.slot .bool (.own 1 (.own 5 (.own 6 (.own 7 (.slot .i .nil)))))) (.tree false 1 (.slice Am) (.gone (.gone (.gone (.tree false 1 Af (.lst false A0 (.lst false A0 (.lst false .i .nil)))))))))⟩,DA⟩
theorem Z5:Ao Go.Proofs.Tryz.prog NK:=okA (C:=cN) (hcB (all_cons cv (all_cons cp (all_cons bV (all_cons bu (all_cons Z6 (all_cons Mg (all_cons cr (all_cons VR (all_cons Pf all_nil)))))))))) Go.Proofs.Tryz.func15
abbrev Rk:=List A6×Int×Bool×Int×Unit
abbrev Rh:=Int×Bool×Int×List (List A2)×List (Int×List Int×Unit)×A8
abbrev Ri:=Bool×Int×List (List A2)×List (Int×List Int×Unit)×A8
def DS (i:Rk)(v:Rh)(R:Type)(K:Rh ⊕ Ri->Option R):Option R:=bif decide (v.1<i.2.1)then(lAt i.1 v.1).bind fun a=>(ED ((a.1,a.2.1,a.2.2.1,a.2.2.2.1,a.2.2.2.2.1,a.2.2.2.2.2.1,()),())).bind fun b=>bif b.1 then(DA (a.1,a.2.1,a.2.2.1,a.2.2.2.1,a.2.2.2.2.1,a.2.2.2.2.2.1,v.2.1,v.2.2.1,v.2.2.2.1,v.2.2.2.2.2.1,v.2.2.2.2.2.2.1,v.2.2.2.2.2.2.2.1,())).bind fun c=>if(v.2.2.2.2.1++[(c.1,c.2.2.2.2.2.2.2.1,())]).length<=1099511627776 then K (.inl (IntKind.i64.wrap (v.1+1),c.2.1,c.2.2.1,c.2.2.2.1,v.2.2.2.2.1++[(c.1,c.2.2.2.2.2.2.2.1,())],c.2.2.2.2.1,c.2.2.2.2.2.1,c.2.2.2.2.2.2.1,()))else none else if(v.2.2.2.2.1++[(6,[],())]).length<=1099511627776 then K (.inl (IntKind.i64.wrap (v.1+1),v.2.1,v.2.2.1,v.2.2.2.1,v.2.2.2.2.1++[(6,[],())],v.2.2.2.2.2.1,v.2.2.2.2.2.2.1,v.2.2.2.2.2.2.2.1,()))else none else K (.inr (v.2.1,v.2.2.1,v.2.2.2.1,v.2.2.2.2.1,v.2.2.2.2.2.1,v.2.2.2.2.2.2.1,v.2.2.2.2.2.2.2.1,()))
theorem Jc:Dm DS:=fun i v R K=>Al (Ad fun _=>Ad fun _=>Al (Ad fun _=>BG (Ac)) (BG (Ac))) (Ac)
def Mp:Tmpl:=⟨(jk 4 (.ptr 0 0 0 (.junk (.ptr 1 0 0 (.own 3 (jk 9 (.slot (.slice YOp) (si 2 (jk 17 .nil))))))))),(.cells 6 (.slot .bool (.const (AV.nils) (.const (AV.nils) (.const (AV.nils) (.const (AV.nils) (.slot .i .nil)))))) (.cells 6 (.slot .bool (.own 2 (.own 4 (.own 5 (.own 6 (.slot .i .nil)))))) (.tree false 1 (.slice Am) (.tree false 0 Lm (.tree false 1 Af (.lst false A0 (.lst false A0 .nil)))))))⟩
def Rg:Exs Rk Ri:=x1 (.exit 0) fun i p=>⟨jn 4 (AV.ptr 0 none 0 0::jn 1 (AV.ptr 1 none 0 0::AV.own 3 none none::jn 29 ([]))),[some (Cont.cells 6 [[AV.pv .bool i.2.2.1,AV.nils,AV.nils,AV.nils,AV.nils,AV.pv .i i.2.2.2.1]]),some (Cont.cells 6 [[AV.pv .bool p.1,AV.own 2 none none,AV.own 4 none none,AV.own 5 none none,AV.own 6 none none,AV.pv .i p.2.1]]),some (Cont.tree false 1 (.slice Am) p.2.2.1 none),some (Cont.tree false 0 Lm p.2.2.2.1 none),some (Cont.tree false 1 Af p.2.2.2.2.1 none),some (Cont.lst false A0 p.2.2.2.2.2.1),some (Cont.lst false A0 p.2.2.2.2.2.2.1)]⟩
def Rj:=((.i (.i (.v (.i (.i (.v (.v (.v (.v (.v (.v (.v .n)))))))))))):Pk Mp.ty _ _)
def WF:Cfg:={ti:=Bw,ents:=[NK,QY,QV],ann:=[(3,Bf Mp 0 (spP Rj) DS Rg.E)],lent:=0}
def FF (x:Bool×List A6×Unit):Option (Bool×Int×List (List A2)×List A3×List A1×List A1×List (Int×List Int×Unit)×Unit):=(EC (x.1,())).bind fun v=>(T2 x.2.1 0 (mn (x.2.1.length:Int) 100)).bind fun a=>(BL (fun v=>DS (a,(a.length:Int),false,0,()) v _ some) (0,v.1,v.2.1,v.2.2.1,[],[],[],[],())).bind fun p=>some (p.1,p.2.1,p.2.2.1,p.2.2.2.2.1,p.2.2.2.2.2.1,p.2.2.2.2.2.2.1,p.2.2.2.1,())
def NJ:Ent:=⟨6,⟨(.slot .bool (.slot (.slice YOp) .nil)),.nil⟩,⟨(.agg (.slot .bool (.own 0 (.own 1 (.own 2 (.own 3 (.slot .i .nil)))))) (.own 4 .nil)),(.tree false 1 (.slice Am) (.tree false 1 Af (.lst false A0 (.lst false A0 (.tree false 0 Lm .nil)))))⟩,FF⟩
theorem Rl:CfgOK Go.Proofs.Tryz.prog WF:=hcB (all_cons Z5 (all_cons cL (all_cons cK all_nil)))
theorem WE:Cz Go.Proofs.Tryz.prog WF (lpc Go.Proofs.Tryz.f6 0):=lkA Rl Mp Rj DS Rg [4,6,7] Jc
theorem Z4:Ao Go.Proofs.Tryz.prog NJ:=okB Rl Go.Proofs.Tryz.func6 WE
def De (x:A2×Unit):Option (Bool×Unit):=(DP (x.1.2.1,())).bind fun v=>bif !v.1 then some (false,())else(Bo (x.1.2.2.1,0,999,())).bind fun v=>bif !v.1 then some (false,())else(Bo (x.1.2.2.2.1,x.1.2.2.1,999,())).bind fun v=>bif !v.1 then some (false,())else(Bo (x.1.2.2.2.2.1,1,1000,())).bind fun v=>bif !v.1 then some (false,())else bif x.1.2.2.1==0 then bif x.1.1==0 then some (x.1.2.1==-1,())else some (false,())else(Bh (x.1.1,())).bind fun v=>some (v.1,())
def NI:Ent:=⟨16,⟨(.slot Am .nil),.nil⟩,⟨(.slot .bool .nil),.nil⟩,De⟩
theorem Z1:Ao Go.Proofs.Tryz.prog NI:=okA (hcA 0 (all_cons Pm (all_cons Hk (all_cons HV all_nil)))) Go.Proofs.Tryz.func16
abbrev Re:=List A2×List A2×Int×Unit
abbrev Rb:=Int×Unit
abbrev Rc:=A2 ⊕ A2 ⊕ A2 ⊕ Unit
def Cb (i:Re)(v:Rb)(R:Type)(K:Rb ⊕ Rc->Option R):Option R:=bif decide (v.1<i.2.2.1)then(lAt i.2.1 v.1).bind fun a=>(De ((a.1,a.2.1,a.2.2.1,a.2.2.2.1,a.2.2.2.2.1,()),())).bind fun b=>bif !b.1 then K (.inr (.inl (a.1,a.2.1,a.2.2.1,a.2.2.2.1,a.2.2.2.2.1,())))else bif decide (v.1>0)then(lAt i.1 (IntKind.i64.wrap (v.1-1))).bind fun c=>bif decide (c.2.2.1>=a.2.2.1)then K (.inr (.inr (.inl (a.1,a.2.1,a.2.2.1,a.2.2.2.1,a.2.2.2.2.1,()))))else(lAt i.1 (IntKind.i64.wrap (v.1-1))).bind fun d=>bif decide (d.2.2.2.2.1>a.2.2.1)then K (.inr (.inr (.inr (.inl (a.1,a.2.1,a.2.2.1,a.2.2.2.1,a.2.2.2.2.1,())))))else K (.inl (IntKind.i64.wrap (v.1+1),()))else K (.inl (IntKind.i64.wrap (v.1+1),()))else K (.inr (.inr (.inr (.inr ()))))
theorem GM:Dm Cb:=fun i v R K=>Al (Ad fun _=>Ad fun _=>Al (Ac) (Al (Ad fun _=>Al (Ac) (Ad fun _=>Al (Ac) (Ac))) (Ac))) (Ac)
def Mo:Tmpl:=⟨(.slot (.slice Am) (jk 4 (.slot (.slice Am) (si 2 (jk 47 .nil))))),.nil⟩
def Ra:Exs Re Rc:=xs .ret (fun i p=>⟨AV.pv (.slice Am) i.1::jn 1 (.b (false)::jn 52 ([])),[some (Cont.cells 5 [[AV.pv .i p.1,AV.pv .i p.2.1,AV.pv .i p.2.2.1,AV.pv .i p.2.2.2.1,AV.pv .i p.2.2.2.2.1]])]⟩)<|xs .ret (fun i p=>⟨AV.pv (.slice Am) i.1::jn 1 (.b (false)::jn 52 ([])),[some (Cont.cells 5 [[AV.pv .i p.1,AV.pv .i p.2.1,AV.pv .i p.2.2.1,AV.pv .i p.2.2.2.1,AV.pv .i p.2.2.2.2.1]])]⟩)<|xs .ret (fun i p=>⟨AV.pv (.slice Am) i.1::jn 1 (.b (false)::jn 52 ([])),[some (Cont.cells 5 [[AV.pv .i p.1,AV.pv .i p.2.1,AV.pv .i p.2.2.1,AV.pv .i p.2.2.2.1,AV.pv .i p.2.2.2.2.1]])]⟩)<|x1 (.exit 0) fun i p=>⟨AV.pv (.slice Am) i.1::jn 54 ([]),[]⟩
def Rd:=((.i (.i (.i (.v .n)))):Pk Mo.ty _ _)
def Wx:Cfg:={ti:=Bw,ents:=[NI],ann:=[(2,Bf Mo 0 (spP Rd) Cb Ra.E)],lent:=0}
def CR (x:List A2×Unit):Option (Bool×Unit):=(BL (fun v=>Cb (x.1,x.1,(x.1.length:Int),()) v _ some) (0,())).bind fun p=>CA p (fun p=>some (false,())) fun p=>CA p (fun p=>some (false,())) fun p=>CA p (fun p=>some (false,())) fun p=>bif decide ((x.1.length:Int)>0)then(lAt x.1 (IntKind.i64.wrap ((x.1.length:Int)-1))).bind fun v=>some (v.2.2.2.2.1==1000,())else some (false,())
def NH:Ent:=⟨7,⟨(.slot (.slice Am) .nil),.nil⟩,⟨(.slot .bool .nil),.nil⟩,CR⟩
theorem Rf:CfgOK Go.Proofs.Tryz.prog Wx:=hcB (all_cons Z1 all_nil)
theorem Ww:Cz Go.Proofs.Tryz.prog Wx (lpc Go.Proofs.Tryz.f7 0):=lkA Rf Mo Rd Cb Ra [0,2] GM
theorem Z0:Ao Go.Proofs.Tryz.prog NH:=okB Rf Go.Proofs.Tryz.func7 Ww
abbrev R8:=List A1×B3
abbrev R5:=Int×Unit
abbrev R6:=Int×Unit ⊕ Unit
def B7 (i:R8)(v:R5)(R:Type)(K:R5 ⊕ R6->Option R):Option R:=bif decide (v.1<i.2.1)then(lAt i.1 v.1).bind fun a=>bif i.2.2.1==a.1&&(i.2.2.2.1==a.2.1&&true)then K (.inr (.inl (v.1,())))else K (.inl (IntKind.i64.wrap (v.1+1),()))else K (.inr (.inr ()))
theorem Fd:Dm B7:=fun i v R K=>Al (Ad fun _=>Al (Ac) (Ac)) (Ac)
def Mn:Tmpl:=⟨(.slot (.slice A0) (jk 2 (.ptr 0 0 0 (jk 3 (si 2 (jk 10 .nil)))))),(.cells 2 (si 2 .nil) .nil)⟩
def R4:Exs R8 R6:=xs .ret (fun i p=>⟨jn 4 (.n (p.1)::jn 14 ([])),[some (Cont.cells 2 [[AV.pv .i i.2.2.1,AV.pv .i i.2.2.2.1]])]⟩)<|x1 (.exit 0) fun i p=>⟨jn 19 ([]),[some (Cont.cells 2 [[AV.pv .i i.2.2.1,AV.pv .i i.2.2.2.1]])]⟩
def R7:=((.i (.i (.v (.i (.i .n))))):Pk Mn.ty _ _)
def Wv:Cfg:={ti:=Bw,ents:=[],ann:=[(2,Bf Mn 0 (spP R7) B7 R4.E)],lent:=0}
def CL (x:List A1×A1×Unit):Option (Int×Unit):=(BL (fun v=>B7 (x.1,(x.1.length:Int),x.2.1.1,x.2.1.2.1,()) v _ some) (0,())).bind fun p=>CA p (fun p=>some (p.1,())) fun p=>some (-1,())
def Wu:Ent:=⟨37,⟨(.slot (.slice A0) (.slot A0 .nil)),.nil⟩,⟨(.slot .i .nil),.nil⟩,CL⟩
theorem R9:CfgOK Go.Proofs.Tryz.prog Wv:=hcB all_nil
theorem Wt:Cz Go.Proofs.Tryz.prog Wv (lpc Go.Proofs.Tryz.f37 0):=lkA R9 Mn R7 B7 R4 [4] Fd
theorem YZ:Ao Go.Proofs.Tryz.prog Wu:=okB R9 Go.Proofs.Tryz.func37 Wt
def Cr (x:List A1×A1×Unit):Option (Bool×Unit):=(CL (x.1,(x.2.1.1,x.2.1.2.1,()),())).bind fun v=>some (decide (v.1>=0),())
def Ws:Ent:=⟨17,⟨(.slot (.slice A0) (.slot A0 .nil)),.nil⟩,⟨(.slot .bool .nil),.nil⟩,Cr⟩
theorem YY:Ao Go.Proofs.Tryz.prog Ws:=okA (hcA 0 (all_cons YZ all_nil)) Go.Proofs.Tryz.func17
def Fm (x:A3×A1×Unit):Option (Bool×Unit):=(Cr (x.1.2.2.2.2.2.2.2.1,(x.2.1.1,x.2.1.2.1,()),())).bind fun v=>some (v.1,())
def NG:Ent:=⟨8,⟨(.slot Af (.slot A0 .nil)),.nil⟩,⟨(.slot .bool .nil),.nil⟩,Fm⟩
theorem YX:Ao Go.Proofs.Tryz.prog NG:=okA (hcA 0 (all_cons YY all_nil)) Go.Proofs.Tryz.func8
abbrev ND:=Int×Nat×Int×Bool×Int×A7
abbrev Nx:=B3
abbrev Nz:=Int×Int×Unit
def Cw (i:ND)(v:Nx)(R:Type)(K:Nx ⊕ Nz->Option R):Option R:=bif decide (v.2.2.1<(i.2.2.2.2.2.2.1.length:Int))then if 0<=v.2.2.1/\v.2.2.1<(i.2.2.2.2.2.2.1.length:Int)then i.2.2.2.2.2.2.1[0+v.2.2.1.toNat]?.bind fun a=>bif a.2.2.1 != 2 then K (.inl (v.1,v.2.1,IntKind.i64.wrap (v.2.2.1+1),()))else i.2.2.2.2.2.1[i.2.1]?.bind fun b=>if 0<=i.2.2.1/\i.2.2.1<(b.length:Int)then i.2.2.2.2.2.1[i.2.1]?.bind fun c=>c[0+i.2.2.1.toNat]?.bind fun d=>i.2.2.2.2.2.2.1[0+v.2.2.1.toNat]?.bind fun e=>i.2.2.2.2.2.2.1[0+v.2.2.1.toNat]?.bind fun f=>(Fm ((a.1,a.2.1,a.2.2.1,a.2.2.2.1,a.2.2.2.2.1,a.2.2.2.2.2.1,a.2.2.2.2.2.2.1,e.2.2.2.2.2.2.2.1,f.2.2.2.2.2.2.2.2.1,()),(i.1,d.2.2.1,()),())).bind fun g=>bif g.1 then i.2.2.2.2.2.1[i.2.1]?.bind fun h=>bif decide (IntKind.i64.wrap (i.2.2.1+1)<(h.length:Int))then i.2.2.2.2.2.1[i.2.1]?.bind fun j=>if 0<=IntKind.i64.wrap (i.2.2.1+1)/\IntKind.i64.wrap (i.2.2.1+1)<(j.length:Int)then i.2.2.2.2.2.1[i.2.1]?.bind fun k=>k[0+(IntKind.i64.wrap (i.2.2.1+1)).toNat]?.bind fun l=>bif a.2.2.2.2.2.2.1==l.2.2.1 then K (.inl (mx v.1 a.2.2.2.2.2.2.1,a.2.2.2.2.2.1,IntKind.i64.wrap (v.2.2.1+1),()))else K (.inl (mx v.1 a.2.2.2.2.2.2.1,v.2.1,IntKind.i64.wrap (v.2.2.1+1),()))else none else K (.inl (mx v.1 a.2.2.2.2.2.2.1,v.2.1,IntKind.i64.wrap (v.2.2.1+1),()))else i.2.2.2.2.2.1[i.2.1]?.bind fun h=>bif decide (IntKind.i64.wrap (i.2.2.1+1)<(h.length:Int))then i.2.2.2.2.2.1[i.2.1]?.bind fun j=>if 0<=IntKind.i64.wrap (i.2.2.1+1)/\IntKind.i64.wrap (i.2.2.1+1)<(j.length:Int)then i.2.2.2.2.2.1[i.2.1]?.bind fun k=>k[0+(IntKind.i64.wrap (i.2.2.1+1)).toNat]?.bind fun l=>bif a.2.2.2.2.2.2.1==l.2.2.1 then K (.inl (v.1,a.2.2.2.2.2.1,IntKind.i64.wrap (v.2.2.1+1),()))else K (.inl (v.1,v.2.1,IntKind.i64.wrap (v.2.2.1+1),()))else none else K (.inl (v.1,v.2.1,IntKind.i64.wrap (v.2.2.1+1),()))else none else none else K (.inr (v.1,v.2.1,()))
theorem I5:Dm Cw:=fun i v R K=>Al (BG (Ad fun _=>Al (Ac) (Ad fun _=>BG (Ad fun _=>Ad fun _=>Ad fun _=>Ad fun _=>Ad fun _=>Al (Ad fun _=>Al (Ad fun _=>BG (Ad fun _=>Ad fun _=>Al (Ac) (Ac))) (Ac)) (Ad fun _=>Al (Ad fun _=>BG (Ad fun _=>Ad fun _=>Al (Ac) (Ac))) (Ac)))))) (Ac)
def KP:Tmpl:=⟨(jk 5 (.ptr 0 0 0 (.junk (.slot .i (.nown 1 0 (si 4 (jk 104 .nil))))))),(.cells 6 (.slot .bool (.own 1 (.own 2 (.own 3 (.own 4 (.slot .i .nil)))))) (.tree false 1 (.slice Am) (.tree false 1 Af (.lst false A0 (.lst false A0 .nil)))))⟩
def Nv:Exs ND Nz:=x1 (.exit 4) fun i p=>⟨jn 5 (AV.ptr 0 none 0 0::jn 1 (.n (i.1)::AV.own 1 (some (i.2.1,0,1)) none::.n (i.2.2.1)::.n (p.1)::.n (p.2.1)::jn 105 ([]))),[some (Cont.cells 6 [[AV.pv .bool i.2.2.2.1,AV.own 1 none none,AV.own 2 none none,AV.own 3 none none,AV.own 4 none none,AV.pv .i i.2.2.2.2.1]]),some (Cont.tree false 1 (.slice Am) i.2.2.2.2.2.1 none),some (Cont.tree false 1 Af i.2.2.2.2.2.2.1 none),some (Cont.lst false A0 i.2.2.2.2.2.2.2.1),some (Cont.lst false A0 i.2.2.2.2.2.2.2.2.1)]⟩
def NB:=((.i (.i (.i (.v (.v (.v (.i (.i (.i (.i (.i (.i .n)))))))))))):Pk KP.ty _ _)
abbrev NE:=Int×Nat×Bool×Int×A7
abbrev Ny:=Int×Unit
abbrev NA:=Unit ⊕ Unit ⊕ Unit
def Cy (i:NE)(v:Ny)(R:Type)(K:Ny ⊕ NA->Option R):Option R:=i.2.2.2.2.1[i.2.1]?.bind fun a=>bif decide (v.1<(a.length:Int))then i.2.2.2.2.1[i.2.1]?.bind fun b=>if 0<=v.1/\v.1<(b.length:Int)then i.2.2.2.2.1[i.2.1]?.bind fun c=>c[0+v.1.toNat]?.bind fun d=>(BL (fun e=>Cw (i.1,i.2.1,v.1,i.2.2.1,i.2.2.2.1,i.2.2.2.2.1,i.2.2.2.2.2.1,i.2.2.2.2.2.2.1,i.2.2.2.2.2.2.2.1,()) e _ some) (d.2.2.1,1000,0,())).bind fun p=>i.2.2.2.2.1[i.2.1]?.bind fun e=>if 0<=v.1/\v.1<(e.length:Int)then i.2.2.2.2.1[i.2.1]?.bind fun f=>f[0+v.1.toNat]?.bind fun g=>bif g.2.2.2.1 != p.1 then K (.inr (.inl ()))else i.2.2.2.2.1[i.2.1]?.bind fun h=>if 0<=v.1/\v.1<(h.length:Int)then i.2.2.2.2.1[i.2.1]?.bind fun j=>j[0+v.1.toNat]?.bind fun k=>bif k.2.2.2.2.1 != p.2.1 then K (.inr (.inr (.inl ())))else K (.inl (IntKind.i64.wrap (v.1+1),()))else none else none else none else K (.inr (.inr (.inr ())))
theorem I6:Dm Cy:=fun i v R K=>Ad fun _=>Al (Ad fun _=>BG (Ad fun _=>Ad fun _=>Ad fun _=>Ad fun _=>BG (Ad fun _=>Ad fun _=>Al (Ac) (Ad fun _=>BG (Ad fun _=>Ad fun _=>Al (Ac) (Ac)))))) (Ac)
def KQ:Tmpl:=⟨(jk 5 (.ptr 0 0 0 (.junk (.slot .i (.nown 1 0 (.slot .i (jk 107 .nil))))))),(.cells 6 (.slot .bool (.own 1 (.own 2 (.own 3 (.own 4 (.slot .i .nil)))))) (.tree false 1 (.slice Am) (.tree false 1 Af (.lst false A0 (.lst false A0 .nil)))))⟩
def Nw:Exs NE NA:=xs .ret (fun i p=>⟨jn 2 (.b (false)::jn 2 (AV.ptr 0 none 0 0::jn 1 (.n (i.1)::jn 109 ([])))),[some (Cont.cells 6 [[AV.pv .bool i.2.2.1,AV.own 1 none none,AV.own 2 none none,AV.own 3 none none,AV.own 4 none none,AV.pv .i i.2.2.2.1]]),some (Cont.tree false 1 (.slice Am) i.2.2.2.2.1 none),some (Cont.tree false 1 Af i.2.2.2.2.2.1 none),some (Cont.lst false A0 i.2.2.2.2.2.2.1),some (Cont.lst false A0 i.2.2.2.2.2.2.2.1)]⟩)<|xs .ret (fun i p=>⟨jn 2 (.b (false)::jn 2 (AV.ptr 0 none 0 0::jn 1 (.n (i.1)::jn 109 ([])))),[some (Cont.cells 6 [[AV.pv .bool i.2.2.1,AV.own 1 none none,AV.own 2 none none,AV.own 3 none none,AV.own 4 none none,AV.pv .i i.2.2.2.1]]),some (Cont.tree false 1 (.slice Am) i.2.2.2.2.1 none),some (Cont.tree false 1 Af i.2.2.2.2.2.1 none),some (Cont.lst false A0 i.2.2.2.2.2.2.1),some (Cont.lst false A0 i.2.2.2.2.2.2.2.1)]⟩)<|x1 (.exit 2) fun i p=>⟨jn 5 (AV.ptr 0 none 0 0::jn 1 (.n (i.1)::jn 109 ([]))),[some (Cont.cells 6 [[AV.pv .bool i.2.2.1,AV.own 1 none none,AV.own 2 none none,AV.own 3 none none,AV.own 4 none none,AV.pv .i i.2.2.2.1]]),some (Cont.tree false 1 (.slice Am) i.2.2.2.2.1 none),some (Cont.tree false 1 Af i.2.2.2.2.2.1 none),some (Cont.lst false A0 i.2.2.2.2.2.2.1),some (Cont.lst false A0 i.2.2.2.2.2.2.2.1)]⟩
def NC:=((.i (.i (.v (.i (.i (.i (.i (.i (.i .n))))))))):Pk KQ.ty _ _)
abbrev R3:=Bool×Int×A7
abbrev R0:=Int×Unit
abbrev R1:=Unit ⊕ Unit ⊕ Unit ⊕ Unit
def Dr (i:R3)(v:R0)(R:Type)(K:R0 ⊕ R1->Option R):Option R:=bif decide (v.1<6)then if 0<=v.1/\v.1<(i.2.2.1.length:Int)then i.2.2.1[0+v.1.toNat]?.bind fun a=>i.2.2.1[0+v.1.toNat]?.bind fun b=>(CR (b,())).bind fun c=>bif !c.1 then K (.inr (.inl ()))else(BL (fun d=>Cy (v.1,0+v.1.toNat,i.1,i.2.1,i.2.2.1,i.2.2.2.1,i.2.2.2.2.1,i.2.2.2.2.2.1,()) d _ some) (0,())).bind fun p=>CA p (fun p=>K (.inr (.inr (.inl ())))) fun p=>CA p (fun p=>K (.inr (.inr (.inr (.inl ()))))) fun p=>K (.inl (IntKind.i64.wrap (v.1+1),()))else none else K (.inr (.inr (.inr (.inr ()))))
theorem IK:Dm Dr:=fun i v R K=>Al (BG (Ad fun _=>Ad fun _=>Ad fun _=>Al (Ac) (Ad fun _=>RG (fun _=>Ac) (fun _=>RG (fun _=>Ac) (fun _=>Ac))))) (Ac)
def Ml:Tmpl:=⟨(jk 5 (.ptr 0 0 0 (.junk (.slot .i (jk 109 .nil))))),(.cells 6 (.slot .bool (.own 1 (.own 2 (.own 3 (.own 4 (.slot .i .nil)))))) (.tree false 1 (.slice Am) (.tree false 1 Af (.lst false A0 (.lst false A0 .nil)))))⟩
def QZ:Exs R3 R1:=xs .ret (fun i p=>⟨jn 2 (.b (false)::jn 114 ([])),[some (Cont.cells 6 [[AV.pv .bool i.1,AV.own 1 none none,AV.own 2 none none,AV.own 3 none none,AV.own 4 none none,AV.pv .i i.2.1]]),some (Cont.tree false 1 (.slice Am) i.2.2.1 none),some (Cont.tree false 1 Af i.2.2.2.1 none),some (Cont.lst false A0 i.2.2.2.2.1),some (Cont.lst false A0 i.2.2.2.2.2.1)]⟩)<|xs .ret (fun i p=>⟨jn 2 (.b (false)::jn 114 ([])),[some (Cont.cells 6 [[AV.pv .bool i.1,AV.own 1 none none,AV.own 2 none none,AV.own 3 none none,AV.own 4 none none,AV.pv .i i.2.1]]),some (Cont.tree false 1 (.slice Am) i.2.2.1 none),some (Cont.tree false 1 Af i.2.2.2.1 none),some (Cont.lst false A0 i.2.2.2.2.1),some (Cont.lst false A0 i.2.2.2.2.2.1)]⟩)<|xs .ret (fun i p=>⟨jn 2 (.b (false)::jn 114 ([])),[some (Cont.cells 6 [[AV.pv .bool i.1,AV.own 1 none none,AV.own 2 none none,AV.own 3 none none,AV.own 4 none none,AV.pv .i i.2.1]]),some (Cont.tree false 1 (.slice Am) i.2.2.1 none),some (Cont.tree false 1 Af i.2.2.2.1 none),some (Cont.lst false A0 i.2.2.2.2.1),some (Cont.lst false A0 i.2.2.2.2.2.1)]⟩)<|x1 (.exit 0) fun i p=>⟨jn 117 ([]),[some (Cont.cells 6 [[AV.pv .bool i.1,AV.own 1 none none,AV.own 2 none none,AV.own 3 none none,AV.own 4 none none,AV.pv .i i.2.1]]),some (Cont.tree false 1 (.slice Am) i.2.2.1 none),some (Cont.tree false 1 Af i.2.2.2.1 none),some (Cont.lst false A0 i.2.2.2.2.1),some (Cont.lst false A0 i.2.2.2.2.2.1)]⟩
def R2:=((.v (.i (.i (.i (.i (.i (.i .n))))))):Pk Ml.ty _ _)
def Mm:Cfg:={ti:=Bw,ents:=[WM,Td,NJ,NH,NG],ann:=[(19,Bf KP 0 (spP NB) Cw Nv.E),(14,Bf KQ 0 (spP NC) Cy Nw.E),(8,Bf Ml 0 (spP R2) Dr QZ.E)],lent:=0}
def Gm (x:List Int×Unit):Option (Bool×Unit):=(J9 (x.1,())).bind fun v=>bif v.1 then some (true,())else(Ek (x.1,())).bind fun v=>(FF (true,v.2.1,())).bind fun v=>bif (v.2.2.1.length:Int) != 6 then some (false,())else(BL (fun a=>Dr (v.1,v.2.1,v.2.2.1,v.2.2.2.1,v.2.2.2.2.1,v.2.2.2.2.2.1,()) a _ some) (0,())).bind fun p=>CA p (fun p=>some (false,())) fun p=>CA p (fun p=>some (false,())) fun p=>CA p (fun p=>some (false,())) fun p=>some (true,())
def NF:Ent:=⟨3,⟨(.slot (.slice (.int .u8)) .nil),.nil⟩,⟨(.slot .bool .nil),.nil⟩,Gm⟩
theorem Kx:CfgOK Go.Proofs.Tryz.prog Mm:=hcB (all_cons eo (all_cons dQ (all_cons Z4 (all_cons Z0 (all_cons YX all_nil)))))
theorem JR:Cz Go.Proofs.Tryz.prog Mm (lpc Go.Proofs.Tryz.f3 2):=lkA Kx KP NB Cw Nv [5,7,8,9,10,11] I5
theorem LI:Cz Go.Proofs.Tryz.prog Mm (lpc Go.Proofs.Tryz.f3 1):=lkB Kx KQ NC Cy Nw [2,5,7] I6 JR
theorem Wr:Cz Go.Proofs.Tryz.prog Mm (lpc Go.Proofs.Tryz.f3 0):=lkC Kx Ml R2 Dr QZ [2] IK LI JR
theorem YW:Ao Go.Proofs.Tryz.prog NF:=RE Kx Go.Proofs.Tryz.func3 3 (by kernel_rfl) (fun k hk=>match k,hk with|0,_=>Wr|1,_=>LI|2,_=>JR) (by kernel_rfl) (by kernel_rfl) (fun x=>by kernel_rfl)
theorem laws_FnMarks_OK:Ao Go.Proofs.Tryz.prog NF:=YW
end
end Go.Ab
