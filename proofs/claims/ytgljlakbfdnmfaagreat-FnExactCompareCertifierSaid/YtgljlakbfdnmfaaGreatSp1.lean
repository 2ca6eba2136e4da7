import Derived.Test.YtgljlakbfdnmfaaGreatHp
set_option linter.all false
open Go.IntKind renaming i64->zXq
set_option maxRecDepth 100000
namespace Go.Ab
open Go.Proofs.Tryz
noncomputable section
def Ll (x:List A6×Int×Unit):Option (Int×Unit):=bif decide (zXq.wrap (x.2.1-(x.1.length:Int))<0)then some (-1,())else some (zXq.wrap (x.2.1-(x.1.length:Int)),())
def A5m:Ent:=⟨9,⟨(.slot (.slice YOp) (.slot .i .nil)),.nil⟩,⟨(.slot .i .nil),.nil⟩,Ll⟩
theorem Ane:Aj prog A5m:=okA (hcA 0 all_nil) func9
abbrev Aip:=List (List A6)×Unit
abbrev Aim:=Int×Int×Unit
abbrev Ain:=Int×Unit ⊕ Int×Unit
def Kb (i:Aip)(v:Aim)(R:Type)(K:Aim ⊕ Ain->Option R):Option R:=bif decide (v.2.1<(i.1.length:Int))then(lAt i.1 v.2.1).bind fun a=>(Ll (a,v.1,())).bind fun b=>bif decide (b.1<0)then K (.inr (.inl (b.1,())))else K (.inl (b.1,zXq.wrap (v.2.1+1),()))else K (.inr (.inr (v.1,())))
theorem PY:AW Kb:=fun i v R K=>Ad (Ac fun _=>Ac fun _=>Ad (Aa) (Aa)) (Aa)
def A1s:Tmpl:=⟨(.slot (.slice (.slice YOp)) (.slot .i (jk 3 (.slot .i (jk 21 .nil))))),.nil⟩
def Ail:Exs Aip Ain:=xs .ret (fun i p=>⟨jn 1 (.n (p.1)::jn 2 (.n (-1)::jn 22 ([]))),[]⟩)<|x1 (.exit 0) fun i p=>⟨jn 1 (.n (p.1)::jn 25 ([])),[]⟩
def Aio:=((.i (.v (.v .n))):Pk A1s.ty _ _)
def Anb:Cfg:={ti:=Az,ents:=[A5m],ann:=[(5,Ao A1s 0 (spP Aio) Kb Ail.E)],lent:=0}
def Mf (x:List (List A6)×Int×Unit):Option (Int×Unit):=bif decide (zXq.wrap (x.2.1-(x.1.length:Int))<0)then some (-1,())else(Au (fun v=>Kb (x.1,()) v _ some) (zXq.wrap (x.2.1-(x.1.length:Int)),0,())).bind fun p=>Ap p (fun p=>some (-1,())) fun p=>some (p.1,())
def Al3:Ent:=⟨4,⟨(.slot (.slice (.slice YOp)) (.slot .i .nil)),.nil⟩,⟨(.slot .i .nil),.nil⟩,Mf⟩
theorem Aiq:CfgOK prog Anb:=hcB (all_cons Ane all_nil)
theorem Al2:AN prog Anb (lpc f4 0):=lkA Aiq A1s Aio Kb Ail [1,4] PY
theorem Ana:Aj prog Al3:=okB Aiq func4 Al2
def Ow (x:A6×Unit):Option A6:=some (x.1.1,x.1.2.1,x.1.2.2.1,x.1.2.2.2.1,x.1.2.2.2.2.1,x.1.2.2.2.2.2.1,())
def zd:Ent:=⟨36,⟨(.slot YOp .nil),.nil⟩,⟨(.agg (si 6 .nil) .nil),.nil⟩,Ow⟩
theorem An9:Aj prog zd:=okA (hcA 0 all_nil) func36
abbrev Aia:=List A6×Unit
abbrev Ai7:=Int×List A6×Unit
abbrev Ai8:=List A6×Unit
def Iq (i:Aia)(v:Ai7)(R:Type)(K:Ai7 ⊕ Ai8->Option R):Option R:=bif decide (v.1<(i.1.length:Int))then(lAt i.1 v.1).bind fun a=>(Ow ((a.1,a.2.1,a.2.2.1,a.2.2.2.1,a.2.2.2.2.1,a.2.2.2.2.2.1,()),())).bind fun b=>if 0<=v.1/\v.1<(v.2.1.length:Int)then v.2.1[0+v.1.toNat]?.bind fun c=>K (.inl (zXq.wrap (v.1+1),v.2.1.set (0+v.1.toNat) (b.1,b.2.1,b.2.2.1,b.2.2.2.1,b.2.2.2.2.1,b.2.2.2.2.2.1,()),()))else none else K (.inr (v.2.1,()))
theorem Qs:AW Iq:=fun i v R K=>Ad (Ac fun _=>Ac fun _=>Ar (Ac fun _=>Aa)) (Aa)
def yw:Tmpl:=⟨(.slot (.slice YOp) (jk 2 (.own 0 (.slot .i (jk 18 .nil))))),(.lst false YOp .nil)⟩
def Ai6:Exs Aia Ai8:=x1 (.exit 0) fun i p=>⟨jn 3 (AV.own 0 none none::jn 19 ([])),[some (Cont.lst false YOp p.1)]⟩
def Ai9:=((.i (.v (.v .n))):Pk yw.ty _ _)
def An8:Cfg:={ti:=Az,ents:=[zd],ann:=[(3,Ao yw 0 (spP Ai9) Iq Ai6.E)],lent:=0}
def Lk (x:List A6×Unit):Option (List A6×Unit):=if 0<=(x.1.length:Int)/\(x.1.length:Int)<=(x.1.length:Int)/\(x.1.length:Int)<=(↑733007751850:Int)then(Au (fun v=>Iq (x.1,()) v _ some) (0,List.replicate ((x.1.length:Int).toNat) (0,0,0,0,0,0,()),())).bind fun p=>some (p.1,())else none
def yx:Ent:=⟨16,⟨(.slot (.slice YOp) .nil),.nil⟩,⟨(.own 0 .nil),(.lst false YOp .nil)⟩,Lk⟩
theorem Aib:CfgOK prog An8:=hcB (all_cons An9 all_nil)
theorem Akq:AN prog An8 (lpc f16 0):=lkA Aib yw Ai9 Iq Ai6 [3] Qs
theorem An7:Aj prog yx:=okB Aib func16 Akq
abbrev Ahz:=List (List A6)×Unit
abbrev Ahw:=Int×List (List A6)×Unit
abbrev Ahx:=List (List A6)×Unit
def Hs (i:Ahz)(v:Ahw)(R:Type)(K:Ahw ⊕ Ahx->Option R):Option R:=bif decide (v.1<(i.1.length:Int))then(lAt i.1 v.1).bind fun a=>(Lk (a,())).bind fun b=>if 0<=v.1/\v.1<(v.2.1.length:Int)then v.2.1[0+v.1.toNat]?.bind fun c=>K (.inl (zXq.wrap (v.1+1),v.2.1.set (0+v.1.toNat) b.1,()))else none else K (.inr (v.2.1,()))
theorem PX:AW Hs:=fun i v R K=>Ad (Ac fun _=>Ac fun _=>Ar (Ac fun _=>Aa)) (Aa)
def xC:Tmpl:=⟨(.slot (.slice (.slice YOp)) (jk 2 (.own 0 (.slot .i (jk 18 .nil))))),(.tree false 1 (.slice YOp) .nil)⟩
def Ahv:Exs Ahz Ahx:=x1 (.exit 0) fun i p=>⟨jn 3 (AV.own 0 none none::jn 19 ([])),[some (Cont.tree false 1 (.slice YOp) p.1 none)]⟩
def Ahy:=((.i (.v (.v .n))):Pk xC.ty _ _)
def An5:Cfg:={ti:=Az,ents:=[yx],ann:=[(3,Ao xC 0 (spP Ahy) Hs Ahv.E)],lent:=0}
def Ir (x:List (List A6)×Unit):Option (List (List A6)×Unit):=if 0<=(x.1.length:Int)/\(x.1.length:Int)<=(x.1.length:Int)/\(x.1.length:Int)<=(↑1466015503701:Int)then(Au (fun v=>Hs (x.1,()) v _ some) (0,List.replicate ((x.1.length:Int).toNat) [],())).bind fun p=>some (p.1,())else none
def Aki:Ent:=⟨6,⟨(.slot (.slice (.slice YOp)) .nil),.nil⟩,⟨(.own 0 .nil),(.tree false 1 (.slice YOp) .nil)⟩,Ir⟩
theorem Ai0:CfgOK prog An5:=hcB (all_cons An7 all_nil)
theorem Akh:AN prog An5 (lpc f6 0):=lkA Ai0 xC Ahy Hs Ahv [3] PX
theorem An4:Aj prog Aki:=okB Ai0 func6 Akh
def Al (x:B3):Option (Bool×Unit):=bif decide (x.1>=x.2.1)then some (decide (x.1<=x.2.2.1),())else some (false,())
def N3:Ent:=⟨51,⟨(si 3 .nil),.nil⟩,⟨(.slot .bool .nil),.nil⟩,Al⟩
theorem Lb:Aj prog N3:=okA (hcA 0 all_nil) func51
def Eu (x:A6×Unit):Option (Bool×Unit):=bif x.1.1==1 then bif !(x.1.1==x.1.1&&(x.1.2.1==x.1.2.1&&(x.1.2.2.1==x.1.2.2.1&&(0==x.1.2.2.2.1&&(0==x.1.2.2.2.2.1&&(0==x.1.2.2.2.2.2.1&&true))))))then some (false,())else(Al (x.1.2.1,1,9,())).bind fun v=>bif !v.1 then some (false,())else(Al (x.1.2.2.2.1,0,5,())).bind fun v=>bif !v.1 then some (false,())else(Al (x.1.2.2.2.2.2.1,-1,99,())).bind fun v=>bif !v.1 then some (false,())else bif x.1.1 != 1 then bif x.1.1 != 4 then some (true,())else(Al (x.1.2.2.2.2.1,x.1.2.2.2.1,5,())).bind fun v=>some (v.1,())else(Al (x.1.2.2.1,1,4,())).bind fun v=>bif v.1 then bif x.1.1 != 4 then some (true,())else(Al (x.1.2.2.2.2.1,x.1.2.2.2.1,5,())).bind fun v=>some (v.1,())else some (false,())else bif x.1.1==2 then bif !(x.1.1==x.1.1&&(x.1.2.1==x.1.2.1&&(0==x.1.2.2.1&&(x.1.2.2.2.1==x.1.2.2.2.1&&(0==x.1.2.2.2.2.1&&(0==x.1.2.2.2.2.2.1&&true))))))then some (false,())else(Al (x.1.2.1,1,9,())).bind fun v=>bif !v.1 then some (false,())else(Al (x.1.2.2.2.1,0,5,())).bind fun v=>bif !v.1 then some (false,())else(Al (x.1.2.2.2.2.2.1,-1,99,())).bind fun v=>bif !v.1 then some (false,())else bif x.1.1 != 1 then bif x.1.1 != 4 then some (true,())else(Al (x.1.2.2.2.2.1,x.1.2.2.2.1,5,())).bind fun v=>some (v.1,())else(Al (x.1.2.2.1,1,4,())).bind fun v=>bif v.1 then bif x.1.1 != 4 then some (true,())else(Al (x.1.2.2.2.2.1,x.1.2.2.2.1,5,())).bind fun v=>some (v.1,())else some (false,())else bif x.1.1==3 then bif !(x.1.1==x.1.1&&(x.1.2.1==x.1.2.1&&(0==x.1.2.2.1&&(x.1.2.2.2.1==x.1.2.2.2.1&&(0==x.1.2.2.2.2.1&&(x.1.2.2.2.2.2.1==x.1.2.2.2.2.2.1&&true))))))then some (false,())else(Al (x.1.2.1,1,9,())).bind fun v=>bif !v.1 then some (false,())else(Al (x.1.2.2.2.1,0,5,())).bind fun v=>bif !v.1 then some (false,())else(Al (x.1.2.2.2.2.2.1,-1,99,())).bind fun v=>bif !v.1 then some (false,())else bif x.1.1 != 1 then bif x.1.1 != 4 then some (true,())else(Al (x.1.2.2.2.2.1,x.1.2.2.2.1,5,())).bind fun v=>some (v.1,())else(Al (x.1.2.2.1,1,4,())).bind fun v=>bif v.1 then bif x.1.1 != 4 then some (true,())else(Al (x.1.2.2.2.2.1,x.1.2.2.2.1,5,())).bind fun v=>some (v.1,())else some (false,())else bif x.1.1==4 then bif !(x.1.1==x.1.1&&(x.1.2.1==x.1.2.1&&(0==x.1.2.2.1&&(x.1.2.2.2.1==x.1.2.2.2.1&&(x.1.2.2.2.2.1==x.1.2.2.2.2.1&&(0==x.1.2.2.2.2.2.1&&true))))))then some (false,())else(Al (x.1.2.1,1,9,())).bind fun v=>bif !v.1 then some (false,())else(Al (x.1.2.2.2.1,0,5,())).bind fun v=>bif !v.1 then some (false,())else(Al (x.1.2.2.2.2.2.1,-1,99,())).bind fun v=>bif !v.1 then some (false,())else bif x.1.1 != 1 then bif x.1.1 != 4 then some (true,())else(Al (x.1.2.2.2.2.1,x.1.2.2.2.1,5,())).bind fun v=>some (v.1,())else(Al (x.1.2.2.1,1,4,())).bind fun v=>bif v.1 then bif x.1.1 != 4 then some (true,())else(Al (x.1.2.2.2.2.1,x.1.2.2.2.1,5,())).bind fun v=>some (v.1,())else some (false,())else bif x.1.1==5 then bif x.1.1==5 then bif !(x.1.1==x.1.1&&(x.1.2.1==x.1.2.1&&(0==x.1.2.2.1&&(0==x.1.2.2.2.1&&(0==x.1.2.2.2.2.1&&(0==x.1.2.2.2.2.2.1&&true))))))then some (false,())else(Al (x.1.2.1,1,9,())).bind fun v=>bif !v.1 then some (false,())else(Al (x.1.2.2.2.1,0,5,())).bind fun v=>bif !v.1 then some (false,())else(Al (x.1.2.2.2.2.2.1,-1,99,())).bind fun v=>bif !v.1 then some (false,())else bif x.1.1 != 1 then bif x.1.1 != 4 then some (true,())else(Al (x.1.2.2.2.2.1,x.1.2.2.2.1,5,())).bind fun v=>some (v.1,())else(Al (x.1.2.2.1,1,4,())).bind fun v=>bif v.1 then bif x.1.1 != 4 then some (true,())else(Al (x.1.2.2.2.2.1,x.1.2.2.2.1,5,())).bind fun v=>some (v.1,())else some (false,())else some (false,())else bif x.1.1==6 then bif !(x.1.1==x.1.1&&(x.1.2.1==x.1.2.1&&(0==x.1.2.2.1&&(0==x.1.2.2.2.1&&(0==x.1.2.2.2.2.1&&(0==x.1.2.2.2.2.2.1&&true))))))then some (false,())else(Al (x.1.2.1,1,9,())).bind fun v=>bif !v.1 then some (false,())else(Al (x.1.2.2.2.1,0,5,())).bind fun v=>bif !v.1 then some (false,())else(Al (x.1.2.2.2.2.2.1,-1,99,())).bind fun v=>bif !v.1 then some (false,())else bif x.1.1 != 1 then bif x.1.1 != 4 then some (true,())else(Al (x.1.2.2.2.2.1,x.1.2.2.2.1,5,())).bind fun v=>some (v.1,())else(Al (x.1.2.2.1,1,4,())).bind fun v=>bif v.1 then bif x.1.1 != 4 then some (true,())else(Al (x.1.2.2.2.2.1,x.1.2.2.2.1,5,())).bind fun v=>some (v.1,())else some (false,())else some (false,())
def bF:Ent:=⟨50,⟨(.slot YOp .nil),.nil⟩,⟨(.slot .bool .nil),.nil⟩,Eu⟩
theorem Ahn:Aj prog bF:=okA (hcA 0 (all_cons Lb all_nil)) func50
abbrev Ahi:=List A6×Unit
abbrev Ahf:=Int×Unit
abbrev Ahg:=Unit ⊕ Unit ⊕ Unit ⊕ Unit ⊕ Unit ⊕ Unit ⊕ Unit ⊕ Unit ⊕ Unit
def EM (i:Ahi)(v:Ahf)(R:Type)(K:Ahf ⊕ Ahg->Option R):Option R:=bif decide (v.1<(i.1.length:Int))then(lAt i.1 v.1).bind fun a=>bif a.1==5 then(lAt i.1 v.1).bind fun b=>(Eu ((b.1,b.2.1,b.2.2.1,b.2.2.2.1,b.2.2.2.2.1,b.2.2.2.2.2.1,()),())).bind fun c=>bif !c.1 then K (.inr (.inl ()))else(lAt i.1 v.1).bind fun d=>(lAt i.1 0).bind fun e=>bif d.2.1 != e.2.1 then K (.inr (.inr (.inl ())))else(lAt i.1 v.1).bind fun f=>bif !(f.1==1)==(v.1==0)then K (.inr (.inr (.inr (.inl ()))))else bif !true==(v.1==zXq.wrap ((i.1.length:Int)-1))then K (.inr (.inr (.inr (.inr (.inl ())))))else K (.inl (zXq.wrap (v.1+1),()))else(lAt i.1 v.1).bind fun b=>(lAt i.1 v.1).bind fun c=>(Eu ((c.1,c.2.1,c.2.2.1,c.2.2.2.1,c.2.2.2.2.1,c.2.2.2.2.2.1,()),())).bind fun d=>bif !d.1 then K (.inr (.inr (.inr (.inr (.inr (.inl ()))))))else(lAt i.1 v.1).bind fun e=>(lAt i.1 0).bind fun f=>bif e.2.1 != f.2.1 then K (.inr (.inr (.inr (.inr (.inr (.inr (.inl ())))))))else(lAt i.1 v.1).bind fun g=>bif !(g.1==1)==(v.1==0)then K (.inr (.inr (.inr (.inr (.inr (.inr (.inr (.inl ()))))))))else bif !(b.1==6)==(v.1==zXq.wrap ((i.1.length:Int)-1))then K (.inr (.inr (.inr (.inr (.inr (.inr (.inr (.inr (.inl ())))))))))else K (.inl (zXq.wrap (v.1+1),()))else K (.inr (.inr (.inr (.inr (.inr (.inr (.inr (.inr (.inr ())))))))))
theorem NJ:AW EM:=fun i v R K=>Ad (Ac fun _=>Ad (Ac fun _=>Ac fun _=>Ad (Aa) (Ac fun _=>Ac fun _=>Ad (Aa) (Ac fun _=>Ad (Aa) (Ad (Aa) (Aa))))) (Ac fun _=>Ac fun _=>Ac fun _=>Ad (Aa) (Ac fun _=>Ac fun _=>Ad (Aa) (Ac fun _=>Ad (Aa) (Ad (Aa) (Aa)))))) (Aa)
def ui:Tmpl:=⟨(.slot (.slice YOp) (jk 2 (.slot .i (jk 62 .nil)))),.nil⟩
def Ahe:Exs Ahi Ahg:=xs .ret (fun i p=>⟨AV.pv (.slice YOp) i.1::jn 1 (.b (false)::jn 63 ([])),[]⟩)<|xs .ret (fun i p=>⟨AV.pv (.slice YOp) i.1::jn 1 (.b (false)::jn 63 ([])),[]⟩)<|xs .ret (fun i p=>⟨AV.pv (.slice YOp) i.1::jn 1 (.b (false)::jn 63 ([])),[]⟩)<|xs .ret (fun i p=>⟨AV.pv (.slice YOp) i.1::jn 1 (.b (false)::jn 63 ([])),[]⟩)<|xs .ret (fun i p=>⟨AV.pv (.slice YOp) i.1::jn 1 (.b (false)::jn 63 ([])),[]⟩)<|xs .ret (fun i p=>⟨AV.pv (.slice YOp) i.1::jn 1 (.b (false)::jn 63 ([])),[]⟩)<|xs .ret (fun i p=>⟨AV.pv (.slice YOp) i.1::jn 1 (.b (false)::jn 63 ([])),[]⟩)<|xs .ret (fun i p=>⟨AV.pv (.slice YOp) i.1::jn 1 (.b (false)::jn 63 ([])),[]⟩)<|x1 (.exit 0) fun i p=>⟨AV.pv (.slice YOp) i.1::jn 65 ([]),[]⟩
def Ahh:=((.i (.v .n)):Pk ui.ty _ _)
def Amz:Cfg:={ti:=Az,ents:=[bF,N3],ann:=[(2,Ao ui 0 (spP Ahh) EM Ahe.E)],lent:=0}
def Jc (x:List A6×Unit):Option (Bool×Unit):=(Au (fun v=>EM (x.1,()) v _ some) (0,())).bind fun p=>Ap p (fun p=>some (false,())) fun p=>Ap p (fun p=>some (false,())) fun p=>Ap p (fun p=>some (false,())) fun p=>Ap p (fun p=>some (false,())) fun p=>Ap p (fun p=>some (false,())) fun p=>Ap p (fun p=>some (false,())) fun p=>Ap p (fun p=>some (false,())) fun p=>Ap p (fun p=>some (false,())) fun p=>(Al ((x.1.length:Int),2,12,())).bind fun v=>some (v.1,())
def uj:Ent:=⟨25,⟨(.slot (.slice YOp) .nil),.nil⟩,⟨(.slot .bool .nil),.nil⟩,Jc⟩
theorem Ahj:CfgOK prog Amz:=hcB (all_cons Ahn (all_cons Lb all_nil))
theorem Aju:AN prog Amz (lpc f25 0):=lkA Ahj ui Ahh EM Ahe [0,2] NJ
theorem Amy:Aj prog uj:=okB Ahj func25 Aju
abbrev Ahb:=List (List A6)×Int×Unit
abbrev Ah4:=Int×Unit
abbrev Ah6:=Unit ⊕ Unit
def E6 (i:Ahb)(v:Ah4)(R:Type)(K:Ah4 ⊕ Ah6->Option R):Option R:=bif decide (v.1<i.2.1)then(lAt i.1 v.1).bind fun a=>(lAt a 0).bind fun b=>(lAt i.1 i.2.1).bind fun c=>(lAt c 0).bind fun d=>bif b.2.1==d.2.1 then K (.inr (.inl ()))else K (.inl (zXq.wrap (v.1+1),()))else K (.inr (.inr ()))
theorem Mn:AW E6:=fun i v R K=>Ad (Ac fun _=>Ac fun _=>Ac fun _=>Ac fun _=>Ad (Aa) (Aa)) (Aa)
def tR:Tmpl:=⟨(.slot (.slice (.slice YOp)) (jk 2 (si 2 (jk 35 .nil)))),.nil⟩
def Ah2:Exs Ahb Ah6:=xs .ret (fun i p=>⟨AV.pv (.slice (.slice YOp)) i.1::jn 1 (.b (false)::.n (i.2.1)::jn 36 ([])),[]⟩)<|x1 (.exit 2) fun i p=>⟨AV.pv (.slice (.slice YOp)) i.1::jn 2 (.n (i.2.1)::jn 36 ([])),[]⟩
def Ah8:=((.i (.i (.v .n))):Pk tR.ty _ _)
abbrev Ahc:=List (List A6)×Unit
abbrev Ah5:=Int×Unit
abbrev Ah7:=Unit ⊕ Unit ⊕ Unit
def C9 (i:Ahc)(v:Ah5)(R:Type)(K:Ah5 ⊕ Ah7->Option R):Option R:=bif decide (v.1<(i.1.length:Int))then(lAt i.1 v.1).bind fun a=>(Jc (a,())).bind fun b=>bif !b.1 then K (.inr (.inl ()))else(Au (fun c=>E6 (i.1,v.1,()) c _ some) (0,())).bind fun p=>Ap p (fun p=>K (.inr (.inr (.inl ())))) fun p=>K (.inl (zXq.wrap (v.1+1),()))else K (.inr (.inr (.inr ())))
theorem Mo:AW C9:=fun i v R K=>Ad (Ac fun _=>Ac fun _=>Ad (Aa) (Ac fun _=>KH (fun _=>Aa) (fun _=>Aa))) (Aa)
def tS:Tmpl:=⟨(.slot (.slice (.slice YOp)) (jk 2 (.slot .i (jk 36 .nil)))),.nil⟩
def Ah3:Exs Ahc Ah7:=xs .ret (fun i p=>⟨AV.pv (.slice (.slice YOp)) i.1::jn 1 (.b (false)::jn 37 ([])),[]⟩)<|xs .ret (fun i p=>⟨AV.pv (.slice (.slice YOp)) i.1::jn 1 (.b (false)::jn 37 ([])),[]⟩)<|x1 (.exit 0) fun i p=>⟨AV.pv (.slice (.slice YOp)) i.1::jn 39 ([]),[]⟩
def Ah9:=((.i (.v .n)):Pk tS.ty _ _)
def Ajo:Cfg:={ti:=Az,ents:=[uj],ann:=[(7,Ao tR 0 (spP Ah8) E6 Ah2.E),(2,Ao tS 0 (spP Ah9) C9 Ah3.E)],lent:=0}
def FL (x:List (List A6)×Unit):Option (Bool×Unit):=(Au (fun v=>C9 (x.1,()) v _ some) (0,())).bind fun p=>Ap p (fun p=>some (false,())) fun p=>Ap p (fun p=>some (false,())) fun p=>some (decide ((x.1.length:Int)<=6),())
def tU:Ent:=⟨10,⟨(.slot (.slice (.slice YOp)) .nil),.nil⟩,⟨(.slot .bool .nil),.nil⟩,FL⟩
theorem tT:CfgOK prog Ajo:=hcB (all_cons Amy all_nil)
theorem tQ:AN prog Ajo (lpc f10 1):=lkA tT tR Ah8 E6 Ah2 [0,2,3] Mn
theorem Ajn:AN prog Ajo (lpc f10 0):=lkB tT tS Ah9 C9 Ah3 [0,2] Mo tQ
theorem Aha:Aj prog tU:=okC tT func10 Ajn tQ
abbrev Agx:=Unit
abbrev Agu:=Int×List (List A2)×Unit
abbrev Agv:=List (List A2)×Unit
def Hj (i:Agx)(v:Agu)(R:Type)(K:Agu ⊕ Agv->Option R):Option R:=bif decide (v.1<6)then if(v.2.1++[[(0,-1,0,0,1000,())]]).length<=1466015503701 then K (.inl (zXq.wrap (v.1+1),v.2.1++[[(0,-1,0,0,1000,())]],()))else none else K (.inr (v.2.1,()))
theorem Oa:AW Hj:=fun i v R K=>Ad (Ar (Aa)) (Aa)
def tn:Tmpl:=⟨(.ptr 0 0 0 (.ptr 1 0 0 (.slot .i (jk 13 .nil)))),(.cells 1 (.const (AV.nils) .nil) (.cells 1 (.own 2 .nil) (.tree false 0 (.slice Af) .nil)))⟩
def Agt:Exs Agx Agv:=x1 (.exit 0) fun i p=>⟨AV.ptr 0 none 0 0::AV.ptr 1 none 0 0::jn 14 ([]),[some (Cont.cells 1 [[AV.nils]]),some (Cont.cells 1 [[AV.own 2 none none]]),some (Cont.tree false 0 (.slice Af) p.1 none)]⟩
def Agw:=((.v (.v .n)):Pk tn.ty _ _)
def Amx:Cfg:={ti:=Az,ents:=[],ann:=[(3,Ao tn 0 (spP Agw) Hj Agt.E)],lent:=0}
def JF (x:Unit):Option A4:=(Au (fun v=>Hj () v _ some) (0,[],())).bind fun p=>some (p.1,())
def Ajf:Ent:=⟨52,⟨.nil,.nil⟩,⟨(.agg (.own 0 .nil) .nil),(.tree false 0 (.slice Af) .nil)⟩,JF⟩
theorem Agy:CfgOK prog Amx:=hcB all_nil
theorem Aje:AN prog Amx (lpc f52 0):=lkA Agy tn Agw Hj Agt [0,1] Oa
theorem Amw:Aj prog Ajf:=okB Agy func52 Aje
def Jb (x:Bool×Unit):Option (Bool×Int×List (List A2)×Unit):=(JF ()).bind fun v=>some (x.1,0,v.1,())
def pS:Ent:=⟨26,⟨(.slot .bool .nil),.nil⟩,⟨(.agg (.slot .bool (.own 0 (.const (AV.nils) (.const (AV.nils) (.const (AV.nils) (.slot .i .nil)))))) .nil),(.tree false 0 (.slice Af) .nil)⟩,Jb⟩
theorem Alh:Aj prog pS:=okA (hcA 0 (all_cons Amw all_nil)) func26
def M0 (x:List A2×Unit):Option (List A2×Unit):=if x.1.length<=879609302220 then some (x.1,())else none
def pp:Ent:=⟨175,⟨(.slot (.slice Af) .nil),.nil⟩,⟨(.own 0 .nil),(.lst false Af .nil)⟩,M0⟩
theorem Alg:Aj prog pp:=okA (hcA 0 all_nil) func175
abbrev A4n:=List (List A2)×Unit
abbrev A4j:=Int×List (List A2)×Unit
abbrev A4k:=List (List A2)×Unit
def Hb (i:A4n)(v:A4j)(R:Type)(K:A4j ⊕ A4k->Option R):Option R:=bif decide (v.1<(i.1.length:Int))then(lAt i.1 v.1).bind fun a=>(M0 (a,())).bind fun b=>if(v.2.1++[b.1]).length<=1466015503701 then K (.inl (zXq.wrap (v.1+1),v.2.1++[b.1],()))else none else K (.inr (v.2.1,()))
theorem PD:AW Hb:=fun i v R K=>Ad (Ac fun _=>Ac fun _=>Ar (Aa)) (Aa)
def cS:Tmpl:=⟨(.junk (.ptr 0 0 0 (.ptr 1 0 0 (.ptr 2 0 0 (.slot .i (jk 20 .nil)))))),(.cells 1 (.slot (.slice (.slice Af)) .nil) (.cells 1 (.const (AV.nils) .nil) (.cells 1 (.own 3 .nil) (.tree false 0 (.slice Af) .nil))))⟩
def A4i:Exs A4n A4k:=x1 (.exit 0) fun i p=>⟨jn 2 (AV.ptr 1 none 0 0::AV.ptr 2 none 0 0::jn 21 ([])),[some (Cont.cells 1 [[AV.pv (.slice (.slice Af)) i.1]]),some (Cont.cells 1 [[AV.nils]]),some (Cont.cells 1 [[AV.own 3 none none]]),some (Cont.tree false 0 (.slice Af) p.1 none)]⟩
def A4l:=((.v (.i (.v .n))):Pk cS.ty _ _)
def Aiv:Cfg:={ti:=Az,ents:=[pp],ann:=[(3,Ao cS 0 (spP A4l) Hb A4i.E)],lent:=0}
def Jy (x:A4×Unit):Option A4:=(Au (fun v=>Hb (x.1.1,()) v _ some) (0,[],())).bind fun p=>some (p.1,())
def VR:Ent:=⟨113,⟨(.slot BW .nil),.nil⟩,⟨(.agg (.own 0 .nil) .nil),(.tree false 0 (.slice Af) .nil)⟩,Jy⟩
theorem A4o:CfgOK prog Aiv:=hcB (all_cons Alg all_nil)
theorem Ae3:AN prog Aiv (lpc f113 0):=lkA A4o cS A4l Hb A4i [2,3] PD
theorem A4m:Aj prog VR:=okB A4o func113 Ae3
def Hi (x:List A1×Unit):Option (List A1×Unit):=if x.1.length<=2199023255552 then some (x.1,())else none
def VN:Ent:=⟨114,⟨(.slot (.slice A0) .nil),.nil⟩,⟨(.own 0 .nil),(.lst false A0 .nil)⟩,Hi⟩
theorem A4a:Aj prog VN:=okA (hcA 0 all_nil) func114
def Ft (x:A3×Unit):Option A3:=if x.1.2.2.2.2.2.2.2.1.length<=2199023255552 then if x.1.2.2.2.2.2.2.2.2.1.length<=2199023255552 then some (x.1.1,x.1.2.1,x.1.2.2.1,x.1.2.2.2.1,x.1.2.2.2.2.1,x.1.2.2.2.2.2.1,x.1.2.2.2.2.2.2.1,x.1.2.2.2.2.2.2.2.1,x.1.2.2.2.2.2.2.2.2.1,())else none else none
def VG:Ent:=⟨115,⟨(.slot Ae .nil),.nil⟩,⟨(.agg (si 7 (.own 0 (.own 1 .nil))) .nil),(.lst false A0 (.lst false A0 .nil))⟩,Ft⟩
theorem VF:Aj prog VG:=okA (hcA 0 all_nil) func115
abbrev A3n:=Bool×List (List A2)×List A3×List A1×List A1×Int×Bool×Int×Bool×Int×List (List A2)×A9
abbrev A3k:=Int×List A3×Unit
abbrev A3l:=List A3×Unit
def Gf (i:A3n)(v:A3k)(R:Type)(K:A3k ⊕ A3l->Option R):Option R:=bif decide (v.1<(i.2.2.1.length:Int))then(lAt i.2.2.1 v.1).bind fun a=>(Ft ((a.1,a.2.1,a.2.2.1,a.2.2.2.1,a.2.2.2.2.1,a.2.2.2.2.2.1,a.2.2.2.2.2.2.1,a.2.2.2.2.2.2.2.1,a.2.2.2.2.2.2.2.2.1,()),())).bind fun b=>if(v.2.1++[(b.1,b.2.1,b.2.2.1,b.2.2.2.1,b.2.2.2.2.1,b.2.2.2.2.2.1,b.2.2.2.2.2.2.1,b.2.2.2.2.2.2.2.1,b.2.2.2.2.2.2.2.2.1,())]).length<=338311270084 then K (.inl (zXq.wrap (v.1+1),v.2.1++[(b.1,b.2.1,b.2.2.1,b.2.2.2.1,b.2.2.2.2.1,b.2.2.2.2.2.1,b.2.2.2.2.2.2.1,b.2.2.2.2.2.2.2.1,b.2.2.2.2.2.2.2.2.1,())],()))else none else K (.inr (v.2.1,()))
theorem Pl:AW Gf:=fun i v R K=>Ad (Ac fun _=>Ac fun _=>Ar (Aa)) (Aa)
def cR:Tmpl:=⟨(.junk (.ptr 0 0 0 (.ptr 1 0 0 (.ptr 2 0 0 (.slot .i (jk 36 .nil)))))),(.cells 6 (.slot .bool (.slot (.slice (.slice Af)) (.slot (.slice Ae) (.slot (.slice A0) (.slot (.slice A0) (.slot .i .nil)))))) (.cells 6 (.slot .bool (.const (AV.nils) (.const (AV.nils) (.const (AV.nils) (.const (AV.nils) (.slot .i .nil)))))) (.cells 6 (.slot .bool (.own 3 (.own 6 (.own 4 (.own 5 (.slot .i .nil)))))) (.tree false 0 (.slice Af) (.lst false A0 (.lst false A0 (.tree false 0 Ae .nil)))))))⟩
def A3j:Exs A3n A3l:=x1 (.exit 0) fun i p=>⟨jn 2 (AV.ptr 1 none 0 0::AV.ptr 2 none 0 0::jn 37 ([])),[some (Cont.cells 6 [[AV.pv .bool i.1,AV.pv (.slice (.slice Af)) i.2.1,AV.pv (.slice Ae) i.2.2.1,AV.pv (.slice A0) i.2.2.2.1,AV.pv (.slice A0) i.2.2.2.2.1,AV.pv (Ty.int zXq) i.2.2.2.2.2.1]]),some (Cont.cells 6 [[AV.pv .bool i.2.2.2.2.2.2.1,AV.nils,AV.nils,AV.nils,AV.nils,AV.pv .i i.2.2.2.2.2.2.2.1]]),some (Cont.cells 6 [[AV.pv .bool i.2.2.2.2.2.2.2.2.1,AV.own 3 none none,AV.own 6 none none,AV.own 4 none none,AV.own 5 none none,AV.pv .i i.2.2.2.2.2.2.2.2.2.1]]),some (Cont.tree false 0 (.slice Af) i.2.2.2.2.2.2.2.2.2.2.1 none),some (Cont.lst false A0 i.2.2.2.2.2.2.2.2.2.2.2.1),some (Cont.lst false A0 i.2.2.2.2.2.2.2.2.2.2.2.2.1),some (Cont.tree false 0 Ae p.1 none)]⟩
def A3m:=((.v (.i (.i (.i (.i (.i (.i (.i (.i (.i (.i (.i (.i (.i (.v .n))))))))))))))):Pk cR.ty _ _)
def Aiu:Cfg:={ti:=Az,ents:=[VR,VN,VG],ann:=[(3,Ao cR 0 (spP A3m) Gf A3j.E)],lent:=0}
def K5 (x:A5×Unit):Option (Bool×Int×A7):=(Jy ((x.1.2.1.1,()),())).bind fun v=>(Hi (x.1.2.2.2.1,())).bind fun a=>if x.1.2.2.2.2.1.length<=2199023255552 then(Au (fun b=>Gf (x.1.1,x.1.2.1.1,x.1.2.2.1,x.1.2.2.2.1,x.1.2.2.2.2.1,x.1.2.2.2.2.2.1,false,0,x.1.1,x.1.2.2.2.2.2.1,v.1,a.1,x.1.2.2.2.2.1,()) b _ some) (0,[],())).bind fun p=>some (x.1.1,x.1.2.2.2.2.2.1,v.1,p.1,a.1,x.1.2.2.2.2.1,())else none
def np:Ent:=⟨53,⟨(.slot Dh .nil),.nil⟩,⟨(.agg (.slot .bool (.own 0 (.own 1 (.own 2 (.own 3 (.slot .i .nil)))))) .nil),(.tree false 0 (.slice Af) (.tree false 0 Ae (.lst false A0 (.lst false A0 .nil))))⟩,K5⟩
theorem A3o:CfgOK prog Aiu:=hcB (all_cons A4m (all_cons A4a (all_cons VF all_nil)))
theorem Adh:AN prog Aiu (lpc f53 0):=lkA A3o cR A3m Gf A3j [2,3] Pl
theorem Al9:Aj prog np:=okB A3o func53 Adh
abbrev A3b:=Int×Bool×List (List A2)×List A3×List A1×List A1×Int×Unit
abbrev A37:=Int×Unit
abbrev A38:=Int×Unit ⊕ Unit
def CR (i:A3b)(v:A37)(R:Type)(K:A37 ⊕ A38->Option R):Option R:=bif decide (v.1<(i.2.2.2.1.length:Int))then(lAt i.2.2.2.1 v.1).bind fun a=>bif a.1==i.1 then K (.inr (.inl (v.1,())))else K (.inl (zXq.wrap (v.1+1),()))else K (.inr (.inr ()))
theorem Le:AW CR:=fun i v R K=>Ad (Ac fun _=>Ad (Aa) (Aa)) (Aa)
def cQ:Tmpl:=⟨(.junk (.slot .i (.ptr 0 0 0 (jk 2 (.slot .i (jk 16 .nil)))))),(.cells 6 (.slot .bool (.slot (.slice (.slice Af)) (.slot (.slice Ae) (.slot (.slice A0) (.slot (.slice A0) (.slot .i .nil)))))) .nil)⟩
def A36:Exs A3b A38:=xs .ret (fun i p=>⟨jn 4 (.n (p.1)::jn 17 ([])),[some (Cont.cells 6 [[AV.pv .bool i.2.1,AV.pv (.slice (.slice Af)) i.2.2.1,AV.pv (.slice Ae) i.2.2.2.1,AV.pv (.slice A0) i.2.2.2.2.1,AV.pv (.slice A0) i.2.2.2.2.2.1,AV.pv .i i.2.2.2.2.2.2.1]])]⟩)<|x1 (.exit 0) fun i p=>⟨jn 22 ([]),[some (Cont.cells 6 [[AV.pv .bool i.2.1,AV.pv (.slice (.slice Af)) i.2.2.1,AV.pv (.slice Ae) i.2.2.2.1,AV.pv (.slice A0) i.2.2.2.2.1,AV.pv (.slice A0) i.2.2.2.2.2.1,AV.pv .i i.2.2.2.2.2.2.1]])]⟩
def A39:=((.i (.v (.i (.i (.i (.i (.i (.i .n)))))))):Pk cQ.ty _ _)
def Ait:Cfg:={ti:=Az,ents:=[],ann:=[(2,Ao cQ 0 (spP A39) CR A36.E)],lent:=0}
def DT (x:A5×Int×Unit):Option (Int×Unit):=(Au (fun v=>CR (x.2.1,x.1.1,x.1.2.1.1,x.1.2.2.1,x.1.2.2.2.1,x.1.2.2.2.2.1,x.1.2.2.2.2.2.1,()) v _ some) (0,())).bind fun p=>Ap p (fun p=>some (p.1,())) fun p=>some (-1,())
def mW:Ent:=⟨54,⟨(.slot Dh (.slot .i .nil)),.nil⟩,⟨(.slot .i .nil),.nil⟩,DT⟩
theorem A3c:CfgOK prog Ait:=hcB all_nil
theorem Ad8:AN prog Ait (lpc f54 0):=lkA A3c cQ A39 CR A36 [4] Le
theorem A3a:Aj prog mW:=okB A3c func54 Ad8
def Ej (x:A2×Unit):Option (Bool×Unit):=(Al (x.1.2.1,-1,99,())).bind fun v=>bif !v.1 then some (false,())else(Al (x.1.2.2.1,0,999,())).bind fun v=>bif !v.1 then some (false,())else(Al (x.1.2.2.2.1,x.1.2.2.1,999,())).bind fun v=>bif !v.1 then some (false,())else(Al (x.1.2.2.2.2.1,1,1000,())).bind fun v=>bif !v.1 then some (false,())else bif x.1.2.2.1==0 then bif x.1.1==0 then some (x.1.2.1==-1,())else some (false,())else(Al (x.1.1,1,9,())).bind fun v=>some (v.1,())
def mm:Ent:=⟨179,⟨(.slot Af .nil),.nil⟩,⟨(.slot .bool .nil),.nil⟩,Ej⟩
theorem A2s:Aj prog mm:=okA (hcA 0 (all_cons Lb all_nil)) func179
abbrev A2h:=List A2×Unit
abbrev A2e:=Int×Unit
abbrev A2f:=Unit ⊕ Unit ⊕ Unit ⊕ Unit
def DE (i:A2h)(v:A2e)(R:Type)(K:A2e ⊕ A2f->Option R):Option R:=bif decide (v.1<(i.1.length:Int))then(lAt i.1 v.1).bind fun a=>(Ej ((a.1,a.2.1,a.2.2.1,a.2.2.2.1,a.2.2.2.2.1,()),())).bind fun b=>bif !b.1 then K (.inr (.inl ()))else bif decide (zXq.wrap (v.1+1)<(i.1.length:Int))then(lAt i.1 v.1).bind fun c=>(lAt i.1 (zXq.wrap (v.1+1))).bind fun d=>bif decide (c.2.2.1>=d.2.2.1)then K (.inr (.inr (.inl ())))else(lAt i.1 v.1).bind fun e=>(lAt i.1 (zXq.wrap (v.1+1))).bind fun f=>bif decide (e.2.2.2.2.1>f.2.2.1)then K (.inr (.inr (.inr (.inl ()))))else K (.inl (zXq.wrap (v.1+1),()))else K (.inl (zXq.wrap (v.1+1),()))else K (.inr (.inr (.inr (.inr ()))))
theorem M4:AW DE:=fun i v R K=>Ad (Ac fun _=>Ac fun _=>Ad (Aa) (Ad (Ac fun _=>Ac fun _=>Ad (Aa) (Ac fun _=>Ac fun _=>Ad (Aa) (Aa))) (Aa))) (Aa)
def cL:Tmpl:=⟨(.slot (.slice Af) (jk 2 (.slot .i (jk 58 .nil)))),.nil⟩
def A2d:Exs A2h A2f:=xs .ret (fun i p=>⟨AV.pv (.slice Af) i.1::jn 1 (.b (false)::jn 59 ([])),[]⟩)<|xs .ret (fun i p=>⟨AV.pv (.slice Af) i.1::jn 1 (.b (false)::jn 59 ([])),[]⟩)<|xs .ret (fun i p=>⟨AV.pv (.slice Af) i.1::jn 1 (.b (false)::jn 59 ([])),[]⟩)<|x1 (.exit 0) fun i p=>⟨AV.pv (.slice Af) i.1::jn 61 ([]),[]⟩
def A2g:=((.i (.v .n)):Pk cL.ty _ _)
def Ais:Cfg:={ti:=Az,ents:=[mm],ann:=[(2,Ao cL 0 (spP A2g) DE A2d.E)],lent:=0}
def D9 (x:List A2×Unit):Option (Bool×Unit):=(Au (fun v=>DE (x.1,()) v _ some) (0,())).bind fun p=>Ap p (fun p=>some (false,())) fun p=>Ap p (fun p=>some (false,())) fun p=>Ap p (fun p=>some (false,())) fun p=>bif decide ((x.1.length:Int)>0)then(lAt x.1 (zXq.wrap ((x.1.length:Int)-1))).bind fun v=>some (v.2.2.2.2.1==1000,())else some (false,())
def Vl:Ent:=⟨131,⟨(.slot (.slice Af) .nil),.nil⟩,⟨(.slot .bool .nil),.nil⟩,D9⟩
theorem A2i:CfgOK prog Ais:=hcB (all_cons A2s all_nil)
theorem Acp:AN prog Ais (lpc f131 0):=lkA A2i cL A2g DE A2d [0,2] M4
theorem cM:Aj prog Vl:=okB A2i func131 Acp
abbrev A1x:=List (List A2)×Unit
abbrev A1u:=Int×Unit
abbrev A1v:=Unit ⊕ Unit ⊕ Unit ⊕ Unit ⊕ Unit
def DD (i:A1x)(v:A1u)(R:Type)(K:A1u ⊕ A1v->Option R):Option R:=bif decide (v.1<(i.1.length:Int))then(lAt i.1 v.1).bind fun a=>(D9 (a,())).bind fun b=>bif !b.1 then K (.inr (.inl ()))else(lAt i.1 v.1).bind fun c=>(lAt c 0).bind fun d=>bif decide (d.2.2.1>0)then(lAt i.1 v.1).bind fun e=>bif decide ((e.length:Int)>50)then K (.inr (.inr (.inl ())))else(lAt i.1 v.1).bind fun f=>bif decide ((f.length:Int)>50)then K (.inr (.inr (.inr (.inl ()))))else K (.inl (zXq.wrap (v.1+1),()))else(lAt i.1 v.1).bind fun e=>bif decide ((e.length:Int)>50)then K (.inr (.inr (.inr (.inr (.inl ())))))else K (.inl (zXq.wrap (v.1+1),()))else K (.inr (.inr (.inr (.inr (.inr ())))))
theorem M3:AW DD:=fun i v R K=>Ad (Ac fun _=>Ac fun _=>Ad (Aa) (Ac fun _=>Ac fun _=>Ad (Ac fun _=>Ad (Aa) (Ac fun _=>Ad (Aa) (Aa))) (Ac fun _=>Ad (Aa) (Aa)))) (Aa)
def cJ:Tmpl:=⟨(.junk (.ptr 0 0 0 (.junk (.slot .i (jk 47 .nil))))),(.cells 1 (.slot (.slice (.slice Af)) .nil) .nil)⟩
def A1t:Exs A1x A1v:=xs .ret (fun i p=>⟨jn 1 (AV.ptr 0 none 0 0::.b (false)::jn 48 ([])),[some (Cont.cells 1 [[AV.pv (.slice (.slice Af)) i.1]])]⟩)<|xs .ret (fun i p=>⟨jn 1 (AV.ptr 0 none 0 0::.b (false)::jn 48 ([])),[some (Cont.cells 1 [[AV.pv (.slice (.slice Af)) i.1]])]⟩)<|xs .ret (fun i p=>⟨jn 1 (AV.ptr 0 none 0 0::.b (false)::jn 48 ([])),[some (Cont.cells 1 [[AV.pv (.slice (.slice Af)) i.1]])]⟩)<|xs .ret (fun i p=>⟨jn 1 (AV.ptr 0 none 0 0::.b (false)::jn 48 ([])),[some (Cont.cells 1 [[AV.pv (.slice (.slice Af)) i.1]])]⟩)<|x1 (.exit 0) fun i p=>⟨jn 1 (AV.ptr 0 none 0 0::jn 49 ([])),[some (Cont.cells 1 [[AV.pv (.slice (.slice Af)) i.1]])]⟩
def A1w:=((.v (.i .n)):Pk cJ.ty _ _)
def Air:Cfg:={ti:=Az,ents:=[Vl],ann:=[(2,Ao cJ 0 (spP A1w) DD A1t.E)],lent:=0}
def BF (x:A4×Unit):Option (Bool×Unit):=(Au (fun v=>DD (x.1.1,()) v _ some) (0,())).bind fun p=>Ap p (fun p=>some (false,())) fun p=>Ap p (fun p=>some (false,())) fun p=>Ap p (fun p=>some (false,())) fun p=>Ap p (fun p=>some (false,())) fun p=>some ((x.1.1.length:Int)==6,())
def Qj:Ent:=⟨69,⟨(.slot BW .nil),.nil⟩,⟨(.slot .bool .nil),.nil⟩,BF⟩
theorem A1y:CfgOK prog Air:=hcB (all_cons cM all_nil)
theorem Ace:AN prog Air (lpc f69 0):=lkA A1y cJ A1w DD A1t [1,2] M3
theorem PR:Aj prog Qj:=okB A1y func69 Ace
abbrev A1f:=List A1×Unit
abbrev A1c:=Int×Unit
abbrev A1d:=Unit ⊕ Unit ⊕ Unit ⊕ Unit
def Fy (i:A1f)(v:A1c)(R:Type)(K:A1c ⊕ A1d->Option R):Option R:=bif decide (v.1<(i.1.length:Int))then(lAt i.1 v.1).bind fun a=>(Al (a.1,0,5,())).bind fun b=>bif !b.1 then K (.inr (.inl ()))else(lAt i.1 v.1).bind fun c=>(Al (c.2.1,1,9,())).bind fun d=>bif !d.1 then K (.inr (.inr (.inl ())))else bif decide (v.1>0)then(lAt i.1 (zXq.wrap (v.1-1))).bind fun e=>(lAt i.1 v.1).bind fun f=>bif decide (e.1>=f.1)then K (.inr (.inr (.inr (.inl ()))))else K (.inl (zXq.wrap (v.1+1),()))else K (.inl (zXq.wrap (v.1+1),()))else K (.inr (.inr (.inr (.inr ()))))
theorem Oc:AW Fy:=fun i v R K=>Ad (Ac fun _=>Ac fun _=>Ad (Aa) (Ac fun _=>Ac fun _=>Ad (Aa) (Ad (Ac fun _=>Ac fun _=>Ad (Aa) (Aa)) (Aa)))) (Aa)
def cH:Tmpl:=⟨(.slot (.slice A0) (jk 2 (.slot .i (jk 40 .nil)))),.nil⟩
def A1b:Exs A1f A1d:=xs .ret (fun i p=>⟨jn 2 (.b (false)::jn 41 ([])),[]⟩)<|xs .ret (fun i p=>⟨jn 2 (.b (false)::jn 41 ([])),[]⟩)<|xs .ret (fun i p=>⟨jn 2 (.b (false)::jn 41 ([])),[]⟩)<|x1 (.exit 0) fun i p=>⟨jn 44 ([]),[]⟩
def A1e:=((.i (.v .n)):Pk cH.ty _ _)
def Aik:Cfg:={ti:=Az,ents:=[N3],ann:=[(2,Ao cH 0 (spP A1e) Fy A1b.E)],lent:=0}
def Fb (x:List A1×Unit):Option (Bool×Unit):=(Au (fun v=>Fy (x.1,()) v _ some) (0,())).bind fun p=>Ap p (fun p=>some (false,())) fun p=>Ap p (fun p=>some (false,())) fun p=>Ap p (fun p=>some (false,())) fun p=>some (true,())
def Vb:Ent:=⟨70,⟨(.slot (.slice A0) .nil),.nil⟩,⟨(.slot .bool .nil),.nil⟩,Fb⟩
theorem A1g:CfgOK prog Aik:=hcB (all_cons Lb all_nil)
theorem Ac3:AN prog Aik (lpc f70 0):=lkA A1g cH A1e Fy A1b [2] Oc
theorem cI:Aj prog Vb:=okB A1g func70 Ac3
abbrev A0w:=List A1×Unit
abbrev A0t:=Int×Unit
abbrev A0u:=Unit ⊕ Unit ⊕ Unit ⊕ Unit ⊕ Unit
def Fx (i:A0w)(v:A0t)(R:Type)(K:A0t ⊕ A0u->Option R):Option R:=bif decide (v.1<(i.1.length:Int))then(lAt i.1 v.1).bind fun a=>(Al (a.1,1,9,())).bind fun b=>bif !b.1 then K (.inr (.inl ()))else(lAt i.1 v.1).bind fun c=>(Al (c.2.1,1,9,())).bind fun d=>bif !d.1 then K (.inr (.inr (.inl ())))else(lAt i.1 v.1).bind fun e=>(lAt i.1 v.1).bind fun f=>bif e.1==f.2.1 then K (.inr (.inr (.inr (.inl ()))))else bif decide (v.1>0)then(lAt i.1 (zXq.wrap (v.1-1))).bind fun g=>(lAt i.1 v.1).bind fun h=>bif decide (g.1>=h.1)then K (.inr (.inr (.inr (.inr (.inl ())))))else K (.inl (zXq.wrap (v.1+1),()))else K (.inl (zXq.wrap (v.1+1),()))else K (.inr (.inr (.inr (.inr (.inr ())))))
theorem Ob:AW Fx:=fun i v R K=>Ad (Ac fun _=>Ac fun _=>Ad (Aa) (Ac fun _=>Ac fun _=>Ad (Aa) (Ac fun _=>Ac fun _=>Ad (Aa) (Ad (Ac fun _=>Ac fun _=>Ad (Aa) (Aa)) (Aa))))) (Aa)
def cE:Tmpl:=⟨(.slot (.slice A0) (jk 2 (.slot .i (jk 53 .nil)))),.nil⟩
def A0s:Exs A0w A0u:=xs .ret (fun i p=>⟨jn 2 (.b (false)::jn 54 ([])),[]⟩)<|xs .ret (fun i p=>⟨jn 2 (.b (false)::jn 54 ([])),[]⟩)<|xs .ret (fun i p=>⟨jn 2 (.b (false)::jn 54 ([])),[]⟩)<|xs .ret (fun i p=>⟨jn 2 (.b (false)::jn 54 ([])),[]⟩)<|x1 (.exit 0) fun i p=>⟨jn 57 ([]),[]⟩
def A0v:=((.i (.v .n)):Pk cE.ty _ _)
def Aij:Cfg:={ti:=Az,ents:=[N3],ann:=[(2,Ao cE 0 (spP A0v) Fx A0s.E)],lent:=0}
def Fa (x:List A1×Unit):Option (Bool×Unit):=(Au (fun v=>Fx (x.1,()) v _ some) (0,())).bind fun p=>Ap p (fun p=>some (false,())) fun p=>Ap p (fun p=>some (false,())) fun p=>Ap p (fun p=>some (false,())) fun p=>Ap p (fun p=>some (false,())) fun p=>some (true,())
def RN:Ent:=⟨71,⟨(.slot (.slice A0) .nil),.nil⟩,⟨(.slot .bool .nil),.nil⟩,Fa⟩
theorem A0x:CfgOK prog Aij:=hcB (all_cons Lb all_nil)
theorem Abs:AN prog Aij (lpc f71 0):=lkA A0x cE A0v Fx A0s [2] Ob
theorem cF:Aj prog RN:=okB A0x func71 Abs
abbrev A0e:=Int×List (List A2)×Unit
abbrev A07:=Int×Int×Unit
abbrev A09:=Int×Unit
def EK (i:A0e)(v:A07)(R:Type)(K:A07 ⊕ A09->Option R):Option R:=(lAt i.2.1 i.1).bind fun a=>bif decide (v.2.1<(a.length:Int))then(lAt i.2.1 i.1).bind fun b=>(lAt b v.2.1).bind fun c=>(lAt i.2.1 i.1).bind fun d=>(lAt d v.2.1).bind fun e=>K (.inl (mx (mx v.1 c.2.2.1) e.2.2.2.1,zXq.wrap (v.2.1+1),()))else K (.inr (v.1,()))
theorem NH:AW EK:=fun i v R K=>Ac fun _=>Ad (Ac fun _=>Ac fun _=>Ac fun _=>Ac fun _=>Aa) (Aa)
def cA:Tmpl:=⟨(.junk (.ptr 0 0 0 (.junk (si 3 (jk 42 .nil))))),(.cells 1 (.slot (.slice (.slice Af)) .nil) .nil)⟩
def A05:Exs A0e A09:=x1 (.exit 2) fun i p=>⟨jn 1 (AV.ptr 0 none 0 0::jn 1 (.n (p.1)::.n (i.1)::jn 43 ([]))),[some (Cont.cells 1 [[AV.pv (.slice (.slice Af)) i.2.1]])]⟩
def A0b:=((.v (.i (.v (.i .n)))):Pk cA.ty _ _)
abbrev A0f:=List (List A2)×Unit
abbrev A08:=Int×Int×Unit
abbrev A0a:=Int×Unit ⊕ Int×Unit
def EL (i:A0f)(v:A08)(R:Type)(K:A08 ⊕ A0a->Option R):Option R:=bif decide (v.2.1<(i.1.length:Int))then(BF ((i.1,()),())).bind fun a=>bif a.1 then(Au (fun b=>EK (v.2.1,i.1,()) b _ some) (v.1,0,())).bind fun p=>K (.inl (p.1,zXq.wrap (v.2.1+1),()))else K (.inr (.inl (v.1,())))else K (.inr (.inr (v.1,())))
theorem NI:AW EL:=fun i v R K=>Ad (Ac fun _=>Ad (Ac fun _=>Aa) (Aa)) (Aa)
def cB:Tmpl:=⟨(.junk (.ptr 0 0 0 (.junk (si 2 (jk 43 .nil))))),(.cells 1 (.slot (.slice (.slice Af)) .nil) .nil)⟩
def A06:Exs A0f A0a:=xs (.exit 0) (fun i p=>⟨jn 3 (.n (p.1)::jn 44 ([])),[some (Cont.cells 1 [[AV.pv (.slice (.slice Af)) i.1]])]⟩)<|x1 (.exit 0) fun i p=>⟨jn 3 (.n (p.1)::jn 44 ([])),[some (Cont.cells 1 [[AV.pv (.slice (.slice Af)) i.1]])]⟩
def A0c:=((.v (.v (.i .n))):Pk cB.ty _ _)
def A0g:Cfg:={ti:=Az,ents:=[Qj],ann:=[(6,Ao cA 0 (spP A0b) EK A05.E),(3,Ao cB 0 (spP A0c) EL A06.E)],lent:=0}
def Hk (x:A4×Unit):Option (Int×Unit):=(Au (fun v=>EL (x.1.1,()) v _ some) (0,0,())).bind fun p=>Ap p (fun p=>some (p.1,())) fun p=>some (p.1,())
def iO:Ent:=⟨72,⟨(.slot BW .nil),.nil⟩,⟨(.slot .i .nil),.nil⟩,Hk⟩
theorem cC:CfgOK prog A0g:=hcB (all_cons PR all_nil)
theorem iM:AN prog A0g (lpc f72 1):=lkA cC cA A0b EK A05 [1,3,4] NH
theorem Abk:AN prog A0g (lpc f72 0):=lkB cC cB A0c EL A06 [3] NI iM
theorem A0d:Aj prog iO:=okC cC func72 Abk iM
def Ia (x:A1×A1×Unit):Option (Bool×Unit):=bif decide (x.1.1<x.2.1.1)then some (true,())else bif x.1.1==x.2.1.1 then some (decide (x.1.2.1<x.2.1.2.1),())else some (false,())
def UJ:Ent:=⟨130,⟨(.slot A0 (.slot A0 .nil)),.nil⟩,⟨(.slot .bool .nil),.nil⟩,Ia⟩
theorem zR:Aj prog UJ:=okA (hcA 0 all_nil) func130
abbrev zK:=A3
abbrev zD:=Int×Unit
abbrev zG:=Int×Int×Unit ⊕ Int×Int×Unit ⊕ Int×Int×Unit ⊕ Unit
def Cj (i:zK)(v:zD)(R:Type)(K:zD ⊕ zG->Option R):Option R:=bif decide (v.1<(i.2.2.2.2.2.2.2.1.length:Int))then(lAt i.2.2.2.2.2.2.2.1 v.1).bind fun a=>(Al (a.1,0,5,())).bind fun b=>bif !b.1 then K (.inr (.inl (a.1,a.2.1,())))else(Al (a.2.1,0,999,())).bind fun c=>bif !c.1 then K (.inr (.inr (.inl (a.1,a.2.1,()))))else bif decide (v.1>0)then(lAt i.2.2.2.2.2.2.2.1 (zXq.wrap (v.1-1))).bind fun d=>(Ia ((d.1,d.2.1,()),(a.1,a.2.1,()),())).bind fun e=>bif !e.1 then K (.inr (.inr (.inr (.inl (a.1,a.2.1,())))))else K (.inl (zXq.wrap (v.1+1),()))else K (.inl (zXq.wrap (v.1+1),()))else K (.inr (.inr (.inr (.inr ()))))
theorem Kw:AW Cj:=fun i v R K=>Ad (Ac fun _=>Ac fun _=>Ad (Aa) (Ac fun _=>Ad (Aa) (Ad (Ac fun _=>Ac fun _=>Ad (Aa) (Aa)) (Aa)))) (Aa)
def cx:Tmpl:=⟨(.junk (.ptr 0 0 0 (.junk (.slot .i (jk 127 .nil))))),(.cells 9 (si 7 (.slot (.slice A0) (.slot (.slice A0) .nil))) .nil)⟩
def zB:Exs zK zG:=xs .ret (fun i p=>⟨jn 1 (AV.ptr 0 none 0 0::.b (false)::jn 128 ([])),[some (Cont.cells 9 [[AV.pv .i i.1,AV.pv .i i.2.1,AV.pv .i i.2.2.1,AV.pv .i i.2.2.2.1,AV.pv (Ty.int zXq) i.2.2.2.2.1,AV.pv .i i.2.2.2.2.2.1,AV.pv .i i.2.2.2.2.2.2.1,AV.pv (.slice A0) i.2.2.2.2.2.2.2.1,AV.pv (.slice A0) i.2.2.2.2.2.2.2.2.1]]),some (Cont.cells 2 [[AV.pv .i p.1,AV.pv .i p.2.1]])]⟩)<|xs .ret (fun i p=>⟨jn 1 (AV.ptr 0 none 0 0::.b (false)::jn 128 ([])),[some (Cont.cells 9 [[AV.pv .i i.1,AV.pv .i i.2.1,AV.pv .i i.2.2.1,AV.pv .i i.2.2.2.1,AV.pv (Ty.int zXq) i.2.2.2.2.1,AV.pv .i i.2.2.2.2.2.1,AV.pv .i i.2.2.2.2.2.2.1,AV.pv (.slice A0) i.2.2.2.2.2.2.2.1,AV.pv (.slice A0) i.2.2.2.2.2.2.2.2.1]]),some (Cont.cells 2 [[AV.pv .i p.1,AV.pv .i p.2.1]])]⟩)<|xs .ret (fun i p=>⟨jn 1 (AV.ptr 0 none 0 0::.b (false)::jn 128 ([])),[some (Cont.cells 9 [[AV.pv .i i.1,AV.pv .i i.2.1,AV.pv .i i.2.2.1,AV.pv .i i.2.2.2.1,AV.pv (Ty.int zXq) i.2.2.2.2.1,AV.pv .i i.2.2.2.2.2.1,AV.pv .i i.2.2.2.2.2.2.1,AV.pv (.slice A0) i.2.2.2.2.2.2.2.1,AV.pv (.slice A0) i.2.2.2.2.2.2.2.2.1]]),some (Cont.cells 2 [[AV.pv .i p.1,AV.pv .i p.2.1]])]⟩)<|x1 (.exit 0) fun i p=>⟨jn 1 (AV.ptr 0 none 0 0::jn 129 ([])),[some (Cont.cells 9 [[AV.pv .i i.1,AV.pv .i i.2.1,AV.pv .i i.2.2.1,AV.pv .i i.2.2.2.1,AV.pv .i i.2.2.2.2.1,AV.pv .i i.2.2.2.2.2.1,AV.pv .i i.2.2.2.2.2.2.1,AV.pv (.slice A0) i.2.2.2.2.2.2.2.1,AV.pv (.slice A0) i.2.2.2.2.2.2.2.2.1]])]⟩
def zI:=((.v (.i (.i (.i (.i (.i (.i (.i (.i (.i .n)))))))))):Pk cx.ty _ _)
abbrev zJ:=A3
abbrev zC:=Int×Unit
abbrev zF:=Int×Int×Unit ⊕ Int×Int×Unit ⊕ Int×Int×Unit ⊕ Unit
def Ci (i:zJ)(v:zC)(R:Type)(K:zC ⊕ zF->Option R):Option R:=bif decide (v.1<(i.2.2.2.2.2.2.2.2.1.length:Int))then(lAt i.2.2.2.2.2.2.2.2.1 v.1).bind fun a=>(Al (a.1,0,5,())).bind fun b=>bif !b.1 then K (.inr (.inl (a.1,a.2.1,())))else(Al (a.2.1,-1,99,())).bind fun c=>bif !c.1 then K (.inr (.inr (.inl (a.1,a.2.1,()))))else bif decide (v.1>0)then(lAt i.2.2.2.2.2.2.2.2.1 (zXq.wrap (v.1-1))).bind fun d=>bif decide (d.1>=a.1)then K (.inr (.inr (.inr (.inl (a.1,a.2.1,())))))else K (.inl (zXq.wrap (v.1+1),()))else K (.inl (zXq.wrap (v.1+1),()))else K (.inr (.inr (.inr (.inr ()))))
theorem Kv:AW Ci:=fun i v R K=>Ad (Ac fun _=>Ac fun _=>Ad (Aa) (Ac fun _=>Ad (Aa) (Ad (Ac fun _=>Ad (Aa) (Aa)) (Aa)))) (Aa)
def cw:Tmpl:=⟨(.junk (.ptr 0 0 0 (jk 3 (.slot .i (jk 125 .nil))))),(.cells 9 (si 7 (.slot (.slice A0) (.slot (.slice A0) .nil))) .nil)⟩
def zA:Exs zJ zF:=xs .ret (fun i p=>⟨jn 1 (AV.ptr 0 none 0 0::.b (false)::jn 128 ([])),[some (Cont.cells 9 [[AV.pv .i i.1,AV.pv .i i.2.1,AV.pv .i i.2.2.1,AV.pv .i i.2.2.2.1,AV.pv (Ty.int zXq) i.2.2.2.2.1,AV.pv .i i.2.2.2.2.2.1,AV.pv .i i.2.2.2.2.2.2.1,AV.pv (.slice A0) i.2.2.2.2.2.2.2.1,AV.pv (.slice A0) i.2.2.2.2.2.2.2.2.1]]),some (Cont.cells 2 [[AV.pv .i p.1,AV.pv .i p.2.1]])]⟩)<|xs .ret (fun i p=>⟨jn 1 (AV.ptr 0 none 0 0::.b (false)::jn 128 ([])),[some (Cont.cells 9 [[AV.pv .i i.1,AV.pv .i i.2.1,AV.pv .i i.2.2.1,AV.pv .i i.2.2.2.1,AV.pv (Ty.int zXq) i.2.2.2.2.1,AV.pv .i i.2.2.2.2.2.1,AV.pv .i i.2.2.2.2.2.2.1,AV.pv (.slice A0) i.2.2.2.2.2.2.2.1,AV.pv (.slice A0) i.2.2.2.2.2.2.2.2.1]]),some (Cont.cells 2 [[AV.pv .i p.1,AV.pv .i p.2.1]])]⟩)<|xs .ret (fun i p=>⟨jn 1 (AV.ptr 0 none 0 0::.b (false)::jn 128 ([])),[some (Cont.cells 9 [[AV.pv .i i.1,AV.pv .i i.2.1,AV.pv .i i.2.2.1,AV.pv .i i.2.2.2.1,AV.pv (Ty.int zXq) i.2.2.2.2.1,AV.pv .i i.2.2.2.2.2.1,AV.pv .i i.2.2.2.2.2.2.1,AV.pv (.slice A0) i.2.2.2.2.2.2.2.1,AV.pv (.slice A0) i.2.2.2.2.2.2.2.2.1]]),some (Cont.cells 2 [[AV.pv .i p.1,AV.pv .i p.2.1]])]⟩)<|x1 (.exit 2) fun i p=>⟨jn 1 (AV.ptr 0 none 0 0::jn 129 ([])),[some (Cont.cells 9 [[AV.pv .i i.1,AV.pv .i i.2.1,AV.pv .i i.2.2.1,AV.pv .i i.2.2.2.1,AV.pv .i i.2.2.2.2.1,AV.pv .i i.2.2.2.2.2.1,AV.pv .i i.2.2.2.2.2.2.1,AV.pv (.slice A0) i.2.2.2.2.2.2.2.1,AV.pv (.slice A0) i.2.2.2.2.2.2.2.2.1]])]⟩
def zH:=((.v (.i (.i (.i (.i (.i (.i (.i (.i (.i .n)))))))))):Pk cw.ty _ _)
def zL:Cfg:={ti:=Az,ents:=[N3,UJ],ann:=[(2,Ao cx 0 (spP zI) Cj zB.E),(8,Ao cw 0 (spP zH) Ci zA.E)],lent:=0}
def AR (x:A3×Unit):Option (Bool×Unit):=(Au (fun v=>Cj (x.1.1,x.1.2.1,x.1.2.2.1,x.1.2.2.2.1,x.1.2.2.2.2.1,x.1.2.2.2.2.2.1,x.1.2.2.2.2.2.2.1,x.1.2.2.2.2.2.2.2.1,x.1.2.2.2.2.2.2.2.2.1,()) v _ some) (0,())).bind fun p=>Ap p (fun p=>some (false,())) fun p=>Ap p (fun p=>some (false,())) fun p=>Ap p (fun p=>some (false,())) fun p=>(Au (fun v=>Ci (x.1.1,x.1.2.1,x.1.2.2.1,x.1.2.2.2.1,x.1.2.2.2.2.1,x.1.2.2.2.2.2.1,x.1.2.2.2.2.2.2.1,x.1.2.2.2.2.2.2.2.1,x.1.2.2.2.2.2.2.2.2.1,()) v _ some) (0,())).bind fun p=>Ap p (fun p=>some (false,())) fun p=>Ap p (fun p=>some (false,())) fun p=>Ap p (fun p=>some (false,())) fun p=>(Al (x.1.1,1,9,())).bind fun v=>bif !v.1 then some (false,())else(Al (x.1.2.1,1,4,())).bind fun v=>bif !v.1 then some (false,())else(Al (x.1.2.2.2.1,0,999,())).bind fun v=>bif !v.1 then some (false,())else(Al (x.1.2.2.1,1,3,())).bind fun v=>bif v.1 then(Al (x.1.2.2.2.2.1,0,999,())).bind fun v=>bif v.1 then(Al (x.1.2.2.2.2.2.1,1,1000,())).bind fun v=>bif v.1 then bif (x.1.2.2.1==2)==decide (x.1.2.2.2.2.2.2.1>0)then(Al (x.1.2.2.2.2.2.2.1,0,999,())).bind fun v=>bif v.1 then some (decide ((x.1.2.2.2.2.2.2.2.1.length:Int)<=60),())else some (false,())else some (false,())else some (false,())else some (false,())else some (false,())
def Qi:Ent:=⟨66,⟨(.slot Ae .nil),.nil⟩,⟨(.slot .bool .nil),.nil⟩,AR⟩
theorem cy:CfgOK prog zL:=hcB (all_cons Lb (all_cons zR all_nil))
theorem Ab5:AN prog zL (lpc f66 1):=lkA cy cw zH Ci zA [1,2] Kv
theorem Ab6:AN prog zL (lpc f66 0):=lkA cy cx zI Cj zB [1,2] Kw
theorem Oh:Aj prog Qi:=okC cy func66 Ab6 Ab5
abbrev zy:=List A2×Int×Unit
abbrev zu:=Int×Unit
abbrev zw:=Int×Unit ⊕ Unit
def E9 (i:zy)(v:zu)(R:Type)(K:zu ⊕ zw->Option R):Option R:=bif decide (v.1<(i.1.length:Int))then(lAt i.1 v.1).bind fun a=>bif a.2.2.1==i.2.1 then K (.inr (.inl (v.1,())))else K (.inl (zXq.wrap (v.1+1),()))else K (.inr (.inr ()))
theorem Mr:AW E9:=fun i v R K=>Ad (Ac fun _=>Ad (Aa) (Aa)) (Aa)
def cu:Tmpl:=⟨(.slot (.slice Af) (.slot .i (jk 3 (.slot .i (jk 14 .nil))))),.nil⟩
def zt:Exs zy zw:=xs .ret (fun i p=>⟨jn 4 (.n (p.1)::jn 15 ([])),[]⟩)<|x1 (.exit 0) fun i p=>⟨jn 20 ([]),[]⟩
def zx:=((.i (.i (.v .n))):Pk cu.ty _ _)
def Aii:Cfg:={ti:=Az,ents:=[],ann:=[(2,Ao cu 0 (spP zx) E9 zt.E)],lent:=0}
def Ev (x:List A2×Int×Unit):Option (Int×Unit):=(Au (fun v=>E9 (x.1,x.2.1,()) v _ some) (0,())).bind fun p=>Ap p (fun p=>some (p.1,())) fun p=>some (-1,())
def RI:Ent:=⟨132,⟨(.slot (.slice Af) (.slot .i .nil)),.nil⟩,⟨(.slot .i .nil),.nil⟩,Ev⟩
theorem zz:CfgOK prog Aii:=hcB all_nil
theorem Ab4:AN prog Aii (lpc f132 0):=lkA zz cu zx E9 zt [4] Mr
theorem cv:Aj prog RI:=okB zz func132 Ab4
abbrev zq:=List (List A2)×A3
abbrev zn:=Int×Unit
abbrev zo:=Unit ⊕ Unit
def Et (i:zq)(v:zn)(R:Type)(K:zn ⊕ zo->Option R):Option R:=bif decide (v.1<(i.2.2.2.2.2.2.2.2.1.length:Int))then(lAt i.2.2.2.2.2.2.2.2.1 v.1).bind fun a=>(lAt i.1 a.1).bind fun b=>(lAt i.2.2.2.2.2.2.2.2.1 v.1).bind fun c=>(Ev (b,c.2.1,())).bind fun d=>bif decide (d.1<0)then K (.inr (.inl ()))else K (.inl (zXq.wrap (v.1+1),()))else K (.inr (.inr ()))
theorem MU:AW Et:=fun i v R K=>Ad (Ac fun _=>Ac fun _=>Ac fun _=>Ac fun _=>Ad (Aa) (Aa)) (Aa)
def cq:Tmpl:=⟨(jk 2 (.ptr 0 0 0 (.ptr 1 0 0 (.junk (.slot .i (jk 33 .nil)))))),(.cells 1 (.slot (.slice (.slice Af)) .nil) (.cells 9 (si 7 (.slot (.slice A0) (.slot (.slice A0) .nil))) .nil))⟩
def zm:Exs zq zo:=xs .ret (fun i p=>⟨jn 4 (.b (false)::jn 34 ([])),[some (Cont.cells 1 [[AV.pv (.slice (.slice Af)) i.1]]),some (Cont.cells 9 [[AV.pv .i i.2.1,AV.pv .i i.2.2.1,AV.pv .i i.2.2.2.1,AV.pv .i i.2.2.2.2.1,AV.pv .i i.2.2.2.2.2.1,AV.pv .i i.2.2.2.2.2.2.1,AV.pv .i i.2.2.2.2.2.2.2.1,AV.pv (.slice A0) i.2.2.2.2.2.2.2.2.1,AV.pv (.slice A0) i.2.2.2.2.2.2.2.2.2.1]])]⟩)<|x1 (.exit 0) fun i p=>⟨jn 39 ([]),[some (Cont.cells 1 [[AV.pv (.slice (.slice Af)) i.1]]),some (Cont.cells 9 [[AV.pv .i i.2.1,AV.pv .i i.2.2.1,AV.pv .i i.2.2.2.1,AV.pv .i i.2.2.2.2.1,AV.pv .i i.2.2.2.2.2.1,AV.pv .i i.2.2.2.2.2.2.1,AV.pv .i i.2.2.2.2.2.2.2.1,AV.pv (.slice A0) i.2.2.2.2.2.2.2.2.1,AV.pv (.slice A0) i.2.2.2.2.2.2.2.2.2.1]])]⟩
def zp:=((.v (.i (.i (.i (.i (.i (.i (.i (.i (.i (.i .n))))))))))):Pk cq.ty _ _)
def Aih:Cfg:={ti:=Az,ents:=[Qj,Qi,RI],ann:=[(4,Ao cq 0 (spP zp) Et zm.E)],lent:=0}
def DP (x:A4×A3×Unit):Option (Bool×Unit):=(BF ((x.1.1,()),())).bind fun v=>bif !v.1 then some (false,())else(AR ((x.2.1.1,x.2.1.2.1,x.2.1.2.2.1,x.2.1.2.2.2.1,x.2.1.2.2.2.2.1,x.2.1.2.2.2.2.2.1,x.2.1.2.2.2.2.2.2.1,x.2.1.2.2.2.2.2.2.2.1,x.2.1.2.2.2.2.2.2.2.2.1,()),())).bind fun v=>bif !v.1 then some (false,())else(Au (fun v=>Et (x.1.1,x.2.1.1,x.2.1.2.1,x.2.1.2.2.1,x.2.1.2.2.2.1,x.2.1.2.2.2.2.1,x.2.1.2.2.2.2.2.1,x.2.1.2.2.2.2.2.2.1,x.2.1.2.2.2.2.2.2.2.1,x.2.1.2.2.2.2.2.2.2.2.1,()) v _ some) (0,())).bind fun p=>Ap p (fun p=>some (false,())) fun p=>some (true,())
def UG:Ent:=⟨73,⟨(.slot BW (.slot Ae .nil)),.nil⟩,⟨(.slot .bool .nil),.nil⟩,DP⟩
theorem zr:CfgOK prog Aih:=hcB (all_cons PR (all_cons Oh (all_cons cv all_nil)))
theorem Ab3:AN prog Aih (lpc f73 0):=lkA zr cq zp Et zm [4] MU
theorem ct:Aj prog UG:=okB zr func73 Ab3
def Fv (x:A5×Int×Unit):Option (Bool×Unit):=(DT ((x.1.1,(x.1.2.1.1,()),x.1.2.2.1,x.1.2.2.2.1,x.1.2.2.2.2.1,x.1.2.2.2.2.2.1,()),x.2.1,())).bind fun v=>bif decide (v.1>=0)then(lAt x.1.2.2.1 v.1).bind fun v=>some (v.2.2.1==1,())else some (false,())
def gQ:Ent:=⟨74,⟨(.slot Dh (.slot .i .nil)),.nil⟩,⟨(.slot .bool .nil),.nil⟩,Fv⟩
theorem Akz:Aj prog gQ:=okA (hcA 0 (all_cons A3a all_nil)) func74
abbrev zl:=Bool×List (List A2)×List A3×List A1×List A1×Int×Unit
abbrev zh:=Int×Unit
abbrev zi:=A3 ⊕ A3 ⊕ A3 ⊕ A3 ⊕ A3 ⊕ A3 ⊕ A3 ⊕ A3 ⊕ Unit
def CJ (i:zl)(v:zh)(R:Type)(K:zh ⊕ zi->Option R):Option R:=bif decide (v.1<(i.2.2.1.length:Int))then(lAt i.2.2.1 v.1).bind fun a=>(AR ((a.1,a.2.1,a.2.2.1,a.2.2.2.1,a.2.2.2.2.1,a.2.2.2.2.2.1,a.2.2.2.2.2.2.1,a.2.2.2.2.2.2.2.1,a.2.2.2.2.2.2.2.2.1,()),())).bind fun b=>bif !b.1 then K (.inr (.inl (a.1,a.2.1,a.2.2.1,a.2.2.2.1,a.2.2.2.2.1,a.2.2.2.2.2.1,a.2.2.2.2.2.2.1,a.2.2.2.2.2.2.2.1,a.2.2.2.2.2.2.2.2.1,())))else bif decide (v.1>0)then(lAt i.2.2.1 (zXq.wrap (v.1-1))).bind fun c=>bif decide (c.1>=a.1)then K (.inr (.inr (.inl (a.1,a.2.1,a.2.2.1,a.2.2.2.1,a.2.2.2.2.1,a.2.2.2.2.2.1,a.2.2.2.2.2.2.1,a.2.2.2.2.2.2.2.1,a.2.2.2.2.2.2.2.2.1,()))))else bif decide (a.2.2.2.1>i.2.2.2.2.2.1)then K (.inr (.inr (.inr (.inl (a.1,a.2.1,a.2.2.1,a.2.2.2.1,a.2.2.2.2.1,a.2.2.2.2.2.1,a.2.2.2.2.2.2.1,a.2.2.2.2.2.2.2.1,a.2.2.2.2.2.2.2.2.1,())))))else bif decide (a.2.2.2.2.2.2.1>i.2.2.2.2.2.1)then K (.inr (.inr (.inr (.inr (.inl (a.1,a.2.1,a.2.2.1,a.2.2.2.1,a.2.2.2.2.1,a.2.2.2.2.2.1,a.2.2.2.2.2.2.1,a.2.2.2.2.2.2.2.1,a.2.2.2.2.2.2.2.2.1,()))))))else bif a.2.2.1==1 then(DP ((i.2.1,()),(a.1,a.2.1,a.2.2.1,a.2.2.2.1,a.2.2.2.2.1,a.2.2.2.2.2.1,a.2.2.2.2.2.2.1,a.2.2.2.2.2.2.2.1,a.2.2.2.2.2.2.2.2.1,()),())).bind fun d=>bif !d.1 then K (.inr (.inr (.inr (.inr (.inr (.inl (a.1,a.2.1,a.2.2.1,a.2.2.2.1,a.2.2.2.2.1,a.2.2.2.2.2.1,a.2.2.2.2.2.2.1,a.2.2.2.2.2.2.2.1,a.2.2.2.2.2.2.2.2.1,())))))))else K (.inl (zXq.wrap (v.1+1),()))else K (.inl (zXq.wrap (v.1+1),()))else bif decide (a.2.2.2.1>i.2.2.2.2.2.1)then K (.inr (.inr (.inr (.inr (.inr (.inr (.inl (a.1,a.2.1,a.2.2.1,a.2.2.2.1,a.2.2.2.2.1,a.2.2.2.2.2.1,a.2.2.2.2.2.2.1,a.2.2.2.2.2.2.2.1,a.2.2.2.2.2.2.2.2.1,()))))))))else bif decide (a.2.2.2.2.2.2.1>i.2.2.2.2.2.1)then K (.inr (.inr (.inr (.inr (.inr (.inr (.inr (.inl (a.1,a.2.1,a.2.2.1,a.2.2.2.1,a.2.2.2.2.1,a.2.2.2.2.2.1,a.2.2.2.2.2.2.1,a.2.2.2.2.2.2.2.1,a.2.2.2.2.2.2.2.2.1,())))))))))else bif a.2.2.1==1 then(DP ((i.2.1,()),(a.1,a.2.1,a.2.2.1,a.2.2.2.1,a.2.2.2.2.1,a.2.2.2.2.2.1,a.2.2.2.2.2.2.1,a.2.2.2.2.2.2.2.1,a.2.2.2.2.2.2.2.2.1,()),())).bind fun c=>bif !c.1 then K (.inr (.inr (.inr (.inr (.inr (.inr (.inr (.inr (.inl (a.1,a.2.1,a.2.2.1,a.2.2.2.1,a.2.2.2.2.1,a.2.2.2.2.2.1,a.2.2.2.2.2.2.1,a.2.2.2.2.2.2.2.1,a.2.2.2.2.2.2.2.2.1,()))))))))))else K (.inl (zXq.wrap (v.1+1),()))else K (.inl (zXq.wrap (v.1+1),()))else K (.inr (.inr (.inr (.inr (.inr (.inr (.inr (.inr (.inr ())))))))))
theorem LP:AW CJ:=fun i v R K=>Ad (Ac fun _=>Ac fun _=>Ad (Aa) (Ad (Ac fun _=>Ad (Aa) (Ad (Aa) (Ad (Aa) (Ad (Ac fun _=>Ad (Aa) (Aa)) (Aa))))) (Ad (Aa) (Ad (Aa) (Ad (Ac fun _=>Ad (Aa) (Aa)) (Aa)))))) (Aa)
def cp:Tmpl:=⟨(.junk (.ptr 0 0 0 (.junk (.slot .i (jk 134 .nil))))),(.cells 6 (.slot .bool (.slot (.slice (.slice Af)) (.slot (.slice Ae) (.slot (.slice A0) (.slot (.slice A0) (.slot .i .nil)))))) .nil)⟩
def zg:Exs zl zi:=xs .ret (fun i p=>⟨jn 1 (AV.ptr 0 none 0 0::.b (false)::jn 135 ([])),[some (Cont.cells 6 [[AV.pv .bool i.1,AV.pv (.slice (.slice Af)) i.2.1,AV.pv (.slice Ae) i.2.2.1,AV.pv (.slice A0) i.2.2.2.1,AV.pv (.slice A0) i.2.2.2.2.1,AV.pv (Ty.int zXq) i.2.2.2.2.2.1]]),some (Cont.cells 9 [[AV.pv .i p.1,AV.pv .i p.2.1,AV.pv .i p.2.2.1,AV.pv .i p.2.2.2.1,AV.pv .i p.2.2.2.2.1,AV.pv .i p.2.2.2.2.2.1,AV.pv .i p.2.2.2.2.2.2.1,AV.pv (.slice A0) p.2.2.2.2.2.2.2.1,AV.pv (.slice A0) p.2.2.2.2.2.2.2.2.1]])]⟩)<|xs .ret (fun i p=>⟨jn 1 (AV.ptr 0 none 0 0::.b (false)::jn 135 ([])),[some (Cont.cells 6 [[AV.pv .bool i.1,AV.pv (.slice (.slice Af)) i.2.1,AV.pv (.slice Ae) i.2.2.1,AV.pv (.slice A0) i.2.2.2.1,AV.pv (.slice A0) i.2.2.2.2.1,AV.pv (Ty.int zXq) i.2.2.2.2.2.1]]),some (Cont.cells 9 [[AV.pv .i p.1,AV.pv .i p.2.1,AV.pv .i p.2.2.1,AV.pv .i p.2.2.2.1,AV.pv .i p.2.2.2.2.1,AV.pv .i p.2.2.2.2.2.1,AV.pv .i p.2.2.2.2.2.2.1,AV.pv (.slice A0) p.2.2.2.2.2.2.2.1,AV.pv (.slice A0) p.2.2.2.2.2.2.2.2.1]])]⟩)<|xs .ret (fun i p=>⟨jn 1 (AV.ptr 0 none 0 0::.b (false)::jn 135 ([])),[some (Cont.cells 6 [[AV.pv .bool i.1,AV.pv (.slice (.slice Af)) i.2.1,AV.pv (.slice Ae) i.2.2.1,AV.pv (.slice A0) i.2.2.2.1,AV.pv (.slice A0) i.2.2.2.2.1,AV.pv (Ty.int zXq) i.2.2.2.2.2.1]]),some (Cont.cells 9 [[AV.pv .i p.1,AV.pv .i p.2.1,AV.pv .i p.2.2.1,AV.pv .i p.2.2.2.1,AV.pv .i p.2.2.2.2.1,AV.pv .i p.2.2.2.2.2.1,AV.pv .i p.2.2.2.2.2.2.1,AV.pv (.slice A0) p.2.2.2.2.2.2.2.1,AV.pv (.slice A0) p.2.2.2.2.2.2.2.2.1]])]⟩)<|xs .ret (fun i p=>⟨jn 1 (AV.ptr 0 none 0 0::.b (false)::jn 135 ([])),[some (Cont.cells 6 [[AV.pv .bool i.1,AV.pv (.slice (.slice Af)) i.2.1,AV.pv (.slice Ae) i.2.2.1,AV.pv (.slice A0) i.2.2.2.1,AV.pv (.slice A0) i.2.2.2.2.1,AV.pv (Ty.int zXq) i.2.2.2.2.2.1]]),some (Cont.cells 9 [[AV.pv .i p.1,AV.pv .i p.2.1,AV.pv .i p.2.2.1,AV.pv .i p.2.2.2.1,AV.pv .i p.2.2.2.2.1,AV.pv .i p.2.2.2.2.2.1,AV.pv .i p.2.2.2.2.2.2.1,AV.pv (.slice A0) p.2.2.2.2.2.2.2.1,AV.pv (.slice A0) p.2.2.2.2.2.2.2.2.1]])]⟩)<|xs .ret (fun i p=>⟨jn 1 (AV.ptr 0 none 0 0::.b (false)::jn 135 ([])),[some (Cont.cells 6 [[AV.pv .bool i.1,AV.pv (.slice (.slice Af)) i.2.1,AV.pv (.slice Ae) i.2.2.1,AV.pv (.slice A0) i.2.2.2.1,AV.pv (.slice A0) i.2.2.2.2.1,AV.pv (Ty.int zXq) i.2.2.2.2.2.1]]),some (Cont.cells 9 [[AV.pv .i p.1,AV.pv .i p.2.1,AV.pv .i p.2.2.1,AV.pv .i p.2.2.2.1,AV.pv .i p.2.2.2.2.1,AV.pv .i p.2.2.2.2.2.1,AV.pv .i p.2.2.2.2.2.2.1,AV.pv (.slice A0) p.2.2.2.2.2.2.2.1,AV.pv (.slice A0) p.2.2.2.2.2.2.2.2.1]])]⟩)<|xs .ret (fun i p=>⟨jn 1 (AV.ptr 0 none 0 0::.b (false)::jn 135 ([])),[some (Cont.cells 6 [[AV.pv .bool i.1,AV.pv (.slice (.slice Af)) i.2.1,AV.pv (.slice Ae) i.2.2.1,AV.pv (.slice A0) i.2.2.2.1,AV.pv (.slice A0) i.2.2.2.2.1,AV.pv (Ty.int zXq) i.2.2.2.2.2.1]]),some (Cont.cells 9 [[AV.pv .i p.1,AV.pv .i p.2.1,AV.pv .i p.2.2.1,AV.pv .i p.2.2.2.1,AV.pv .i p.2.2.2.2.1,AV.pv .i p.2.2.2.2.2.1,AV.pv .i p.2.2.2.2.2.2.1,AV.pv (.slice A0) p.2.2.2.2.2.2.2.1,AV.pv (.slice A0) p.2.2.2.2.2.2.2.2.1]])]⟩)<|xs .ret (fun i p=>⟨jn 1 (AV.ptr 0 none 0 0::.b (false)::jn 135 ([])),[some (Cont.cells 6 [[AV.pv .bool i.1,AV.pv (.slice (.slice Af)) i.2.1,AV.pv (.slice Ae) i.2.2.1,AV.pv (.slice A0) i.2.2.2.1,AV.pv (.slice A0) i.2.2.2.2.1,AV.pv (Ty.int zXq) i.2.2.2.2.2.1]]),some (Cont.cells 9 [[AV.pv .i p.1,AV.pv .i p.2.1,AV.pv .i p.2.2.1,AV.pv .i p.2.2.2.1,AV.pv .i p.2.2.2.2.1,AV.pv .i p.2.2.2.2.2.1,AV.pv .i p.2.2.2.2.2.2.1,AV.pv (.slice A0) p.2.2.2.2.2.2.2.1,AV.pv (.slice A0) p.2.2.2.2.2.2.2.2.1]])]⟩)<|xs .ret (fun i p=>⟨jn 1 (AV.ptr 0 none 0 0::.b (false)::jn 135 ([])),[some (Cont.cells 6 [[AV.pv .bool i.1,AV.pv (.slice (.slice Af)) i.2.1,AV.pv (.slice Ae) i.2.2.1,AV.pv (.slice A0) i.2.2.2.1,AV.pv (.slice A0) i.2.2.2.2.1,AV.pv (Ty.int zXq) i.2.2.2.2.2.1]]),some (Cont.cells 9 [[AV.pv .i p.1,AV.pv .i p.2.1,AV.pv .i p.2.2.1,AV.pv .i p.2.2.2.1,AV.pv .i p.2.2.2.2.1,AV.pv .i p.2.2.2.2.2.1,AV.pv .i p.2.2.2.2.2.2.1,AV.pv (.slice A0) p.2.2.2.2.2.2.2.1,AV.pv (.slice A0) p.2.2.2.2.2.2.2.2.1]])]⟩)<|x1 (.exit 0) fun i p=>⟨jn 1 (AV.ptr 0 none 0 0::jn 136 ([])),[some (Cont.cells 6 [[AV.pv .bool i.1,AV.pv (.slice (.slice Af)) i.2.1,AV.pv (.slice Ae) i.2.2.1,AV.pv (.slice A0) i.2.2.2.1,AV.pv (.slice A0) i.2.2.2.2.1,AV.pv .i i.2.2.2.2.2.1]])]⟩
def zj:=((.v (.i (.i (.i (.i (.i (.i .n))))))):Pk cp.ty _ _)
abbrev gO:=Bool×List (List A2)×List A3×List A1×List A1×Int×Unit
abbrev gI:=Int×Unit
abbrev gK:=Unit ⊕ Unit
def Cq (i:gO)(v:gI)(R:Type)(K:gI ⊕ gK->Option R):Option R:=bif decide (v.1<(i.2.2.2.1.length:Int))then(lAt i.2.2.2.1 v.1).bind fun a=>(Fv ((i.1,(i.2.1,()),i.2.2.1,i.2.2.2.1,i.2.2.2.2.1,i.2.2.2.2.2.1,()),a.2.1,())).bind fun b=>bif !b.1 then K (.inr (.inl ()))else K (.inl (zXq.wrap (v.1+1),()))else K (.inr (.inr ()))
theorem Ly:AW Cq:=fun i v R K=>Ad (Ac fun _=>Ac fun _=>Ad (Aa) (Aa)) (Aa)
def UD:Tmpl:=⟨(.junk (.ptr 0 0 0 (jk 3 (.slot .i (jk 132 .nil))))),(.cells 6 (.slot .bool (.slot (.slice (.slice Af)) (.slot (.slice Ae) (.slot (.slice A0) (.slot (.slice A0) (.slot .i .nil)))))) .nil)⟩
def gG:Exs gO gK:=xs .ret (fun i p=>⟨jn 1 (AV.ptr 0 none 0 0::.b (false)::jn 135 ([])),[some (Cont.cells 6 [[AV.pv .bool i.1,AV.pv (.slice (.slice Af)) i.2.1,AV.pv (.slice Ae) i.2.2.1,AV.pv (.slice A0) i.2.2.2.1,AV.pv (.slice A0) i.2.2.2.2.1,AV.pv (Ty.int zXq) i.2.2.2.2.2.1]])]⟩)<|x1 (.exit 2) fun i p=>⟨jn 1 (AV.ptr 0 none 0 0::jn 136 ([])),[some (Cont.cells 6 [[AV.pv .bool i.1,AV.pv (.slice (.slice Af)) i.2.1,AV.pv (.slice Ae) i.2.2.1,AV.pv (.slice A0) i.2.2.2.1,AV.pv (.slice A0) i.2.2.2.2.1,AV.pv .i i.2.2.2.2.2.1]])]⟩
def gM:=((.v (.i (.i (.i (.i (.i (.i .n))))))):Pk UD.ty _ _)
abbrev gN:=Bool×List (List A2)×List A3×List A1×List A1×Int×Unit
abbrev gH:=Int×Unit
abbrev gJ:=Unit ⊕ Unit ⊕ Unit
def Cp (i:gN)(v:gH)(R:Type)(K:gH ⊕ gJ->Option R):Option R:=bif decide (v.1<(i.2.2.2.2.1.length:Int))then(lAt i.2.2.2.2.1 v.1).bind fun a=>(Fv ((i.1,(i.2.1,()),i.2.2.1,i.2.2.2.1,i.2.2.2.2.1,i.2.2.2.2.2.1,()),a.1,())).bind fun b=>bif !b.1 then K (.inr (.inl ()))else(lAt i.2.2.2.2.1 v.1).bind fun c=>(Fv ((i.1,(i.2.1,()),i.2.2.1,i.2.2.2.1,i.2.2.2.2.1,i.2.2.2.2.2.1,()),c.2.1,())).bind fun d=>bif !d.1 then K (.inr (.inr (.inl ())))else K (.inl (zXq.wrap (v.1+1),()))else K (.inr (.inr (.inr ())))
theorem Lx:AW Cp:=fun i v R K=>Ad (Ac fun _=>Ac fun _=>Ad (Aa) (Ac fun _=>Ac fun _=>Ad (Aa) (Aa))) (Aa)
def UC:Tmpl:=⟨(.junk (.ptr 0 0 0 (jk 4 (.slot .i (jk 131 .nil))))),(.cells 6 (.slot .bool (.slot (.slice (.slice Af)) (.slot (.slice Ae) (.slot (.slice A0) (.slot (.slice A0) (.slot .i .nil)))))) .nil)⟩
def gF:Exs gN gJ:=xs .ret (fun i p=>⟨jn 2 (.b (false)::jn 135 ([])),[some (Cont.cells 6 [[AV.pv .bool i.1,AV.pv (.slice (.slice Af)) i.2.1,AV.pv (.slice Ae) i.2.2.1,AV.pv (.slice A0) i.2.2.2.1,AV.pv (.slice A0) i.2.2.2.2.1,AV.pv .i i.2.2.2.2.2.1]])]⟩)<|xs .ret (fun i p=>⟨jn 2 (.b (false)::jn 135 ([])),[some (Cont.cells 6 [[AV.pv .bool i.1,AV.pv (.slice (.slice Af)) i.2.1,AV.pv (.slice Ae) i.2.2.1,AV.pv (.slice A0) i.2.2.2.1,AV.pv (.slice A0) i.2.2.2.2.1,AV.pv .i i.2.2.2.2.2.1]])]⟩)<|x1 (.exit 4) fun i p=>⟨jn 138 ([]),[some (Cont.cells 6 [[AV.pv .bool i.1,AV.pv (.slice (.slice Af)) i.2.1,AV.pv (.slice Ae) i.2.2.1,AV.pv (.slice A0) i.2.2.2.1,AV.pv (.slice A0) i.2.2.2.2.1,AV.pv .i i.2.2.2.2.2.1]])]⟩
def gL:=((.v (.i (.i (.i (.i (.i (.i .n))))))):Pk UC.ty _ _)
def gP:Cfg:={ti:=Az,ents:=[Qj,Vb,RN,iO,N3,Qi,UG,gQ],ann:=[(4,Ao cp 0 (spP zj) CJ zg.E),(10,Ao UD 0 (spP gM) Cq gG.E),(15,Ao UC 0 (spP gL) Cp gF.E)],lent:=0}
def ED (x:A5×Unit):Option (Bool×Unit):=(BF ((x.1.2.1.1,()),())).bind fun v=>bif !v.1 then some (false,())else(Fb (x.1.2.2.2.1,())).bind fun v=>bif !v.1 then some (false,())else(Fa (x.1.2.2.2.2.1,())).bind fun v=>bif !v.1 then some (false,())else(Hk ((x.1.2.1.1,()),())).bind fun v=>(Al (x.1.2.2.2.2.2.1,v.1,999,())).bind fun v=>bif !v.1 then some (false,())else bif decide ((x.1.2.2.1.length:Int)>6)then some (false,())else(Au (fun v=>CJ (x.1.1,x.1.2.1.1,x.1.2.2.1,x.1.2.2.2.1,x.1.2.2.2.2.1,x.1.2.2.2.2.2.1,()) v _ some) (0,())).bind fun p=>Ap p (fun p=>some (false,())) fun p=>Ap p (fun p=>some (false,())) fun p=>Ap p (fun p=>some (false,())) fun p=>Ap p (fun p=>some (false,())) fun p=>Ap p (fun p=>some (false,())) fun p=>Ap p (fun p=>some (false,())) fun p=>Ap p (fun p=>some (false,())) fun p=>Ap p (fun p=>some (false,())) fun p=>(Au (fun v=>Cq (x.1.1,x.1.2.1.1,x.1.2.2.1,x.1.2.2.2.1,x.1.2.2.2.2.1,x.1.2.2.2.2.2.1,()) v _ some) (0,())).bind fun p=>Ap p (fun p=>some (false,())) fun p=>(Au (fun v=>Cp (x.1.1,x.1.2.1.1,x.1.2.2.1,x.1.2.2.2.1,x.1.2.2.2.2.1,x.1.2.2.2.2.2.1,()) v _ some) (0,())).bind fun p=>Ap p (fun p=>some (false,())) fun p=>Ap p (fun p=>some (false,())) fun p=>some (true,())
def UF:Ent:=⟨34,⟨(.slot Dh .nil),.nil⟩,⟨(.slot .bool .nil),.nil⟩,ED⟩
theorem UE:CfgOK prog gP:=hcB (all_cons PR (all_cons cI (all_cons cF (all_cons A0d (all_cons Lb (all_cons Oh (all_cons ct (all_cons Akz all_nil))))))))
theorem ze:AN prog gP (lpc f34 2):=lkA UE UC gL Cp gF [2] Lx
theorem zf:AN prog gP (lpc f34 1):=lkA UE UD gM Cq gG [1,2] Ly
theorem Ab2:AN prog gP (lpc f34 0):=lkA UE cp zj CJ zg [1,2] LP
theorem zk:Aj prog UF:=ME UE func34 3 (by kernel_rfl) (fun k hk=>match k,hk with|0,_=>Ab2|1,_=>zf|2,_=>ze) (by kernel_rfl) (by kernel_rfl) (fun x=>by kernel_rfl)
def FY (x:B3):Option (Int×Int×Int×Int×Int×Int×Int×Bool×Unit):=(AR ((x.1,x.2.1,1,x.2.2.1,0,1000,0,[],[],()),())).bind fun v=>bif !v.1 then some (0,0,0,0,0,0,0,false,())else some (x.1,x.2.1,1,x.2.2.1,0,1000,0,true,())
def gE:Ent:=⟨55,⟨(si 3 .nil),.nil⟩,⟨(.agg (si 7 (.const (AV.nils) (.const (AV.nils) .nil))) (.slot .bool .nil)),.nil⟩,FY⟩
theorem Aky:Aj prog gE:=okA (hcA 0 (all_cons Oh all_nil)) func55
abbrev zb:=List A1×Int×Unit
abbrev yY:=Int×List A1×Unit
abbrev yZ:=List A1×Unit
def Ge (i:zb)(v:yY)(R:Type)(K:yY ⊕ yZ->Option R):Option R:=bif decide (v.1<(i.1.length:Int))then(lAt i.1 v.1).bind fun a=>bif a.1 != i.2.1 then(lAt i.1 v.1).bind fun b=>if(v.2.1++[(b.1,b.2.1,())]).length<=2199023255552 then K (.inl (zXq.wrap (v.1+1),v.2.1++[(b.1,b.2.1,())],()))else none else K (.inl (zXq.wrap (v.1+1),v.2.1,()))else K (.inr (v.2.1,()))
theorem Pj:AW Ge:=fun i v R K=>Ad (Ac fun _=>Ad (Ac fun _=>Ar (Aa)) (Aa)) (Aa)
def cn:Tmpl:=⟨(.slot (.slice A0) (.slot .i (jk 3 (.own 0 (.slot .i (jk 22 .nil)))))),(.lst false A0 .nil)⟩
def yX:Exs zb yZ:=x1 (.exit 0) fun i p=>⟨jn 5 (AV.own 0 none none::jn 23 ([])),[some (Cont.lst false A0 p.1)]⟩
def za:=((.i (.i (.v (.v .n)))):Pk cn.ty _ _)
def Aig:Cfg:={ti:=Az,ents:=[],ann:=[(3,Ao cn 0 (spP za) Ge yX.E)],lent:=0}
def K4 (x:List A1×Int×Unit):Option (List A1×Unit):=(Au (fun v=>Ge (x.1,x.2.1,()) v _ some) (0,[],())).bind fun p=>some (p.1,())
def gD:Ent:=⟨56,⟨(.slot (.slice A0) (.slot .i .nil)),.nil⟩,⟨(.own 0 .nil),(.lst false A0 .nil)⟩,K4⟩
theorem zc:CfgOK prog Aig:=hcB all_nil
theorem Ab1:AN prog Aig (lpc f56 0):=lkA zc cn za Ge yX [5] Pj
theorem Akx:Aj prog gD:=okB zc func56 Ab1
abbrev yV:=Int×A3
abbrev yS:=Int×Unit
abbrev yT:=Int×Unit ⊕ Unit
def ES (i:yV)(v:yS)(R:Type)(K:yS ⊕ yT->Option R):Option R:=bif decide (v.1<(i.2.2.2.2.2.2.2.2.2.1.length:Int))then(lAt i.2.2.2.2.2.2.2.2.2.1 v.1).bind fun a=>bif a.1==i.1 then K (.inr (.inl (v.1,())))else K (.inl (zXq.wrap (v.1+1),()))else K (.inr (.inr ()))
theorem NO:AW ES:=fun i v R K=>Ad (Ac fun _=>Ad (Aa) (Aa)) (Aa)
def cm:Tmpl:=⟨(.junk (.slot .i (.ptr 0 0 0 (jk 2 (.slot .i (jk 16 .nil)))))),(.cells 9 (si 7 (.slot (.slice A0) (.slot (.slice A0) .nil))) .nil)⟩
def yR:Exs yV yT:=xs .ret (fun i p=>⟨jn 4 (.n (p.1)::jn 17 ([])),[some (Cont.cells 9 [[AV.pv .i i.2.1,AV.pv .i i.2.2.1,AV.pv .i i.2.2.2.1,AV.pv .i i.2.2.2.2.1,AV.pv .i i.2.2.2.2.2.1,AV.pv .i i.2.2.2.2.2.2.1,AV.pv .i i.2.2.2.2.2.2.2.1,AV.pv (.slice A0) i.2.2.2.2.2.2.2.2.1,AV.pv (.slice A0) i.2.2.2.2.2.2.2.2.2.1]])]⟩)<|x1 (.exit 0) fun i p=>⟨jn 22 ([]),[some (Cont.cells 9 [[AV.pv .i i.2.1,AV.pv .i i.2.2.1,AV.pv .i i.2.2.2.1,AV.pv .i i.2.2.2.2.1,AV.pv .i i.2.2.2.2.2.1,AV.pv (Ty.int zXq) i.2.2.2.2.2.2.1,AV.pv .i i.2.2.2.2.2.2.2.1,AV.pv (.slice A0) i.2.2.2.2.2.2.2.2.1,AV.pv (.slice A0) i.2.2.2.2.2.2.2.2.2.1]])]⟩
def yU:=((.i (.v (.i (.i (.i (.i (.i (.i (.i (.i (.i .n))))))))))):Pk cm.ty _ _)
def Aif:Cfg:={ti:=Az,ents:=[],ann:=[(2,Ao cm 0 (spP yU) ES yR.E)],lent:=0}
def Jg (x:A3×Int×Unit):Option (Int×Unit):=(Au (fun v=>ES (x.2.1,x.1.1,x.1.2.1,x.1.2.2.1,x.1.2.2.2.1,x.1.2.2.2.2.1,x.1.2.2.2.2.2.1,x.1.2.2.2.2.2.2.1,x.1.2.2.2.2.2.2.2.1,x.1.2.2.2.2.2.2.2.2.1,()) v _ some) (0,())).bind fun p=>Ap p (fun p=>some (p.1,())) fun p=>some (-1,())
def gC:Ent:=⟨116,⟨(.slot Ae (.slot .i .nil)),.nil⟩,⟨(.slot .i .nil),.nil⟩,Jg⟩
theorem yW:CfgOK prog Aif:=hcB all_nil
theorem Ab0:AN prog Aif (lpc f116 0):=lkA yW cm yU ES yR [4] NO
theorem Akw:Aj prog gC:=okB yW func116 Ab0
def Hg (x:A4×A3×Int×Unit):Option (Bool×Unit):=(BF ((x.1.1,()),())).bind fun v=>bif v.1 then(AR ((x.2.1.1,x.2.1.2.1,x.2.1.2.2.1,x.2.1.2.2.2.1,x.2.1.2.2.2.2.1,x.2.1.2.2.2.2.2.1,x.2.1.2.2.2.2.2.2.1,x.2.1.2.2.2.2.2.2.2.1,x.2.1.2.2.2.2.2.2.2.2.1,()),())).bind fun v=>bif v.1 then bif x.2.1.2.2.1==1 then(Al (x.2.2.1,0,5,())).bind fun v=>some (v.1,())else some (false,())else some (false,())else some (false,())
def gB:Ent:=⟨176,⟨(.slot BW (.slot Ae (.slot .i .nil))),.nil⟩,⟨(.slot .bool .nil),.nil⟩,Hg⟩
theorem cl:Aj prog gB:=okA (hcA 0 (all_cons PR (all_cons Oh (all_cons Lb all_nil)))) func176
def BS (x:List A2×Unit):Option A2:=(D9 (x.1,())).bind fun v=>bif !v.1 then some (0,0,0,0,0,())else(lAt x.1 (zXq.wrap ((x.1.length:Int)-1))).bind fun v=>some (v.1,v.2.1,v.2.2.1,v.2.2.2.1,v.2.2.2.2.1,())
def UB:Ent:=⟨177,⟨(.slot (.slice Af) .nil),.nil⟩,⟨(.agg (si 5 .nil) .nil),.nil⟩,BS⟩
theorem S8:Aj prog UB:=okA (hcA 0 (all_cons cM all_nil)) func177
abbrev yP:=List A2×Int×Unit
abbrev yM:=Int×Int×Unit
abbrev yN:=Int×Unit ⊕ Int×Unit
def EJ (i:yP)(v:yM)(R:Type)(K:yM ⊕ yN->Option R):Option R:=bif decide (v.2.1<(i.1.length:Int))then(D9 (i.1,())).bind fun a=>bif a.1 then(lAt i.1 v.2.1).bind fun b=>bif decide (b.2.2.1<=i.2.1)then K (.inl (v.2.1,zXq.wrap (v.2.1+1),()))else K (.inl (v.1,zXq.wrap (v.2.1+1),()))else K (.inr (.inl (v.1,())))else K (.inr (.inr (v.1,())))
theorem NF:AW EJ:=fun i v R K=>Ad (Ac fun _=>Ad (Ac fun _=>Ad (Aa) (Aa)) (Aa)) (Aa)
def ck:Tmpl:=⟨(.slot (.slice Af) (.slot .i (jk 3 (si 2 (jk 19 .nil))))),.nil⟩
def yL:Exs yP yN:=xs (.exit 0) (fun i p=>⟨jn 5 (.n (p.1)::jn 20 ([])),[]⟩)<|x1 (.exit 0) fun i p=>⟨jn 5 (.n (p.1)::jn 20 ([])),[]⟩
def yO:=((.i (.i (.v (.v .n)))):Pk ck.ty _ _)
def Aie:Cfg:={ti:=Az,ents:=[Vl],ann:=[(3,Ao ck 0 (spP yO) EJ yL.E)],lent:=0}
def J9 (x:List A2×Int×Unit):Option (Int×Unit):=(Au (fun v=>EJ (x.1,x.2.1,()) v _ some) (-1,0,())).bind fun p=>Ap p (fun p=>some (p.1,())) fun p=>some (p.1,())
def Aaz:Ent:=⟨231,⟨(.slot (.slice Af) (.slot .i .nil)),.nil⟩,⟨(.slot .i .nil),.nil⟩,J9⟩
theorem yQ:CfgOK prog Aie:=hcB (all_cons cM all_nil)
theorem Aay:AN prog Aie (lpc f231 0):=lkA yQ ck yO EJ yL [5] NF
theorem Akv:Aj prog Aaz:=okB yQ func231 Aay
def M2 (x:A4×Int×Int×Unit):Option (Int×Int×Int×Int×Int×Bool×Unit):=(BF ((x.1.1,()),())).bind fun v=>bif !v.1 then some (0,0,0,0,0,false,())else(Al (x.2.1,0,5,())).bind fun v=>bif !v.1 then some (0,0,0,0,0,false,())else(lAt x.1.1 x.2.1).bind fun v=>(J9 (v,x.2.2.1,())).bind fun v=>bif decide (v.1<0)then some (0,0,0,0,0,false,())else(lAt x.1.1 x.2.1).bind fun a=>(lAt a v.1).bind fun v=>some (v.1,v.2.1,v.2.2.1,v.2.2.2.1,v.2.2.2.2.1,true,())
def Aax:Ent:=⟨178,⟨(.slot BW (si 2 .nil)),.nil⟩,⟨(.agg (si 5 .nil) (.slot .bool .nil)),.nil⟩,M2⟩
theorem Aku:Aj prog Aax:=okA (hcA 0 (all_cons PR (all_cons Lb (all_cons Akv all_nil)))) func178
def Gs (x:A4×A3×Int×Unit):Option A6:=(Hg ((x.1.1,()),(x.2.1.1,x.2.1.2.1,x.2.1.2.2.1,x.2.1.2.2.2.1,x.2.1.2.2.2.2.1,x.2.1.2.2.2.2.2.1,x.2.1.2.2.2.2.2.2.1,x.2.1.2.2.2.2.2.2.2.1,x.2.1.2.2.2.2.2.2.2.2.1,()),x.2.2.1,())).bind fun v=>bif !v.1 then some (0,0,0,0,0,6,())else(lAt x.1.1 x.2.2.1).bind fun v=>(BS (v,())).bind fun v=>bif x.2.1.2.1==2 then(M2 ((x.1.1,()),x.2.2.1,x.2.1.2.2.2.1,())).bind fun v=>bif !v.2.2.2.2.2.1 then some (0,0,0,0,0,3,())else some (v.1,v.2.1,v.2.2.1,v.2.2.2.1,v.2.2.2.2.1,0,())else bif x.2.1.2.1==4 then bif decide (v.2.2.1>x.2.1.2.2.2.1)then some (0,0,0,0,0,3,())else some (v.1,v.2.1,v.2.2.1,v.2.2.2.1,v.2.2.2.2.1,0,())else some (v.1,v.2.1,v.2.2.1,v.2.2.2.1,v.2.2.2.2.1,0,())
def gz:Ent:=⟨117,⟨(.slot BW (.slot Ae (.slot .i .nil))),.nil⟩,⟨(.agg (si 5 .nil) (.slot .i .nil)),.nil⟩,Gs⟩
theorem Akt:Aj prog gz:=okA (hcA 0 (all_cons cl (all_cons S8 (all_cons Aku all_nil)))) func117
abbrev yJ:=List A1×Int×Unit
abbrev yG:=Int×List A1×Unit
abbrev yH:=List A1×Unit
def DC (i:yJ)(v:yG)(R:Type)(K:yG ⊕ yH->Option R):Option R:=bif decide (v.1<(i.1.length:Int))then(lAt i.1 v.1).bind fun a=>bif a.2.1 != i.2.1 then(lAt i.1 v.1).bind fun b=>if(v.2.1++[(b.1,b.2.1,())]).length<=2199023255552 then K (.inl (zXq.wrap (v.1+1),v.2.1++[(b.1,b.2.1,())],()))else none else K (.inl (zXq.wrap (v.1+1),v.2.1,()))else K (.inr (v.2.1,()))
theorem M1:AW DC:=fun i v R K=>Ad (Ac fun _=>Ad (Ac fun _=>Ar (Aa)) (Aa)) (Aa)
def cj:Tmpl:=⟨(.slot (.slice A0) (.slot .i (jk 3 (.own 0 (.slot .i (jk 22 .nil)))))),(.lst false A0 .nil)⟩
def yF:Exs yJ yH:=x1 (.exit 0) fun i p=>⟨jn 5 (AV.own 0 none none::jn 23 ([])),[some (Cont.lst false A0 p.1)]⟩
def yI:=((.i (.i (.v (.v .n)))):Pk cj.ty _ _)
def Aid:Cfg:={ti:=Az,ents:=[],ann:=[(3,Ao cj 0 (spP yI) DC yF.E)],lent:=0}
def Fe (x:List A1×Int×Unit):Option (List A1×Unit):=(Au (fun v=>DC (x.1,x.2.1,()) v _ some) (0,[],())).bind fun p=>some (p.1,())
def Aaw:Ent:=⟨128,⟨(.slot (.slice A0) (.slot .i .nil)),.nil⟩,⟨(.own 0 .nil),(.lst false A0 .nil)⟩,Fe⟩
theorem yK:CfgOK prog Aid:=hcB all_nil
theorem Aav:AN prog Aid (lpc f128 0):=lkA yK cj yI DC yF [5] M1
theorem Aks:Aj prog Aaw:=okB yK func128 Aav
abbrev yD:=List A1×Int×Unit
abbrev yA:=Int×List A1×Unit
abbrev yB:=List A1×Unit
def Ew (i:yD)(v:yA)(R:Type)(K:yA ⊕ yB->Option R):Option R:=bif decide (v.1<(i.1.length:Int))then(lAt i.1 v.1).bind fun a=>bif a.1 != i.2.1 then(lAt i.1 v.1).bind fun b=>bif b.2.1 != i.2.1 then(lAt i.1 v.1).bind fun c=>if(v.2.1++[(c.1,c.2.1,())]).length<=2199023255552 then K (.inl (zXq.wrap (v.1+1),v.2.1++[(c.1,c.2.1,())],()))else none else K (.inl (zXq.wrap (v.1+1),v.2.1,()))else K (.inl (zXq.wrap (v.1+1),v.2.1,()))else K (.inr (v.2.1,()))
theorem MZ:AW Ew:=fun i v R K=>Ad (Ac fun _=>Ad (Ac fun _=>Ad (Ac fun _=>Ar (Aa)) (Aa)) (Aa)) (Aa)
def ci:Tmpl:=⟨(.slot (.slice A0) (.slot .i (jk 3 (.own 0 (.slot .i (jk 31 .nil)))))),(.lst false A0 .nil)⟩
def yz:Exs yD yB:=x1 (.exit 0) fun i p=>⟨jn 5 (AV.own 0 none none::jn 32 ([])),[some (Cont.lst false A0 p.1)]⟩
def yC:=((.i (.i (.v (.v .n)))):Pk ci.ty _ _)
def Aic:Cfg:={ti:=Az,ents:=[],ann:=[(3,Ao ci 0 (spP yC) Ew yz.E)],lent:=0}
def Gr (x:List A1×Int×Unit):Option (List A1×Unit):=(Au (fun v=>Ew (x.1,x.2.1,()) v _ some) (0,[],())).bind fun p=>some (p.1,())
def Aau:Ent:=⟨129,⟨(.slot (.slice A0) (.slot .i .nil)),.nil⟩,⟨(.own 0 .nil),(.lst false A0 .nil)⟩,Gr⟩
theorem yE:CfgOK prog Aic:=hcB all_nil
theorem Aat:AN prog Aic (lpc f129 0):=lkA yE ci yC Ew yz [5] MZ
theorem Akr:Aj prog Aau:=okB yE func129 Aat
def Bv (x:Int×Bool×Int×A7):Option (Bool×Int×List (List A2)×List A3×List A1×List A1×A9):=if 0<=x.1/\x.1<(x.2.2.2.2.1.length:Int)then x.2.2.2.2.1[0+x.1.toNat]?.bind fun v=>if 0<=x.1/\x.1<(x.2.2.2.2.1.length:Int)then x.2.2.2.2.1[0+x.1.toNat]?.bind fun a=>bif a.2.2.1==1 then if 0<=x.1/\x.1<(x.2.2.2.2.1.length:Int)then x.2.2.2.2.1[0+x.1.toNat]?.bind fun b=>(Fe (x.2.2.2.2.2.1,v.1,())).bind fun c=>(Gr (x.2.2.2.2.2.2.1,v.1,())).bind fun v=>some (x.2.1,x.2.2.1,x.2.2.2.1,x.2.2.2.2.1.set (0+x.1.toNat) (b.1,b.2.1,3,b.2.2.2.1,b.2.2.2.2.1,b.2.2.2.2.2.1,b.2.2.2.2.2.2.1,b.2.2.2.2.2.2.2.1,b.2.2.2.2.2.2.2.2.1,()),x.2.2.2.2.2.1,x.2.2.2.2.2.2.1,c.1,v.1,())else none else(Fe (x.2.2.2.2.2.1,v.1,())).bind fun b=>(Gr (x.2.2.2.2.2.2.1,v.1,())).bind fun v=>some (x.2.1,x.2.2.1,x.2.2.2.1,x.2.2.2.2.1,x.2.2.2.2.2.1,x.2.2.2.2.2.2.1,b.1,v.1,())else none else none
def Qh:Ent:=⟨61,⟨(.ptr 0 0 0 (.slot .i .nil)),(.cells 6 (.slot .bool (.own 1 (.own 2 (.own 3 (.own 4 (.slot .i .nil)))))) (.tree false 0 (.slice Af) (.tree false 0 Ae (.lst false A0 (.lst false A0 .nil)))))⟩,⟨.nil,(.cells 6 (.slot .bool (.own 1 (.own 2 (.own 5 (.own 6 (.slot .i .nil)))))) (.tree false 0 (.slice Af) (.tree false 1 Ae (.lst false A0 (.lst false A0 (.lst false A0 (.lst false A0 .nil)))))))⟩,Bv⟩
theorem UA:Aj prog Qh:=okA (hcA 5 (all_cons Aks (all_cons Akr all_nil))) func61
abbrev yu:=List A1×Int×Int×Unit
abbrev yq:=Int×Unit
abbrev yr:=Int×Unit ⊕ Int×Unit
def EI (i:yu)(v:yq)(R:Type)(K:yq ⊕ yr->Option R):Option R:=bif decide (v.1<(i.1.length:Int))then(lAt i.1 v.1).bind fun a=>(Ia ((a.1,a.2.1,()),(i.2.1,i.2.2.1,()),())).bind fun b=>bif b.1 then K (.inl (zXq.wrap (v.1+1),()))else K (.inr (.inl (v.1,())))else K (.inr (.inr (v.1,())))
theorem NB:AW EI:=fun i v R K=>Ad (Ac fun _=>Ac fun _=>Ad (Aa) (Aa)) (Aa)
def ch:Tmpl:=⟨(.slot (.slice A0) (jk 2 (.ptr 0 0 0 (.junk (.slot .i (jk 41 .nil)))))),(.cells 2 (si 2 .nil) .nil)⟩
def yp:Exs yu yr:=xs (.exit 0) (fun i p=>⟨AV.pv (.slice A0) i.1::jn 2 (AV.ptr 0 none 0 0::jn 1 (.n (p.1)::jn 41 ([]))),[some (Cont.cells 2 [[AV.pv .i i.2.1,AV.pv .i i.2.2.1]])]⟩)<|x1 (.exit 0) fun i p=>⟨AV.pv (.slice A0) i.1::jn 2 (AV.ptr 0 none 0 0::jn 1 (.n (p.1)::jn 41 ([]))),[some (Cont.cells 2 [[AV.pv .i i.2.1,AV.pv .i i.2.2.1]])]⟩
def yt:=((.i (.v (.i (.i .n)))):Pk ch.ty _ _)
def Ai5:Cfg:={ti:=Az,ents:=[UJ],ann:=[(2,Ao ch 0 (spP yt) EI yp.E)],lent:=0}
def J7 (x:List A1×A1×Unit):Option (List A1×Unit):=(Au (fun v=>EI (x.1,x.2.1.1,x.2.1.2.1,()) v _ some) (0,())).bind fun p=>Ap p (fun p=>bif decide (p.1<(x.1.length:Int))then(lAt x.1 p.1).bind fun v=>bif v.1==x.2.1.1&&(v.2.1==x.2.1.2.1&&true)then if x.1.length<=2199023255552 then some (x.1,())else none else(GM x.1 0 p.1).bind fun v=>if v.length<=2199023255552 then if(v++[(x.2.1.1,x.2.1.2.1,())]).length<=2199023255552 then(GM x.1 p.1 (x.1.length:Int)).bind fun a=>if(v++[(x.2.1.1,x.2.1.2.1,())]++a).length<=2199023255552 then some (v++[(x.2.1.1,x.2.1.2.1,())]++a,())else none else none else none else(GM x.1 0 p.1).bind fun v=>if v.length<=2199023255552 then if(v++[(x.2.1.1,x.2.1.2.1,())]).length<=2199023255552 then(GM x.1 p.1 (x.1.length:Int)).bind fun a=>if(v++[(x.2.1.1,x.2.1.2.1,())]++a).length<=2199023255552 then some (v++[(x.2.1.1,x.2.1.2.1,())]++a,())else none else none else none) fun p=>bif decide (p.1<(x.1.length:Int))then(lAt x.1 p.1).bind fun v=>bif v.1==x.2.1.1&&(v.2.1==x.2.1.2.1&&true)then if x.1.length<=2199023255552 then some (x.1,())else none else(GM x.1 0 p.1).bind fun v=>if v.length<=2199023255552 then if(v++[(x.2.1.1,x.2.1.2.1,())]).length<=2199023255552 then(GM x.1 p.1 (x.1.length:Int)).bind fun a=>if(v++[(x.2.1.1,x.2.1.2.1,())]++a).length<=2199023255552 then some (v++[(x.2.1.1,x.2.1.2.1,())]++a,())else none else none else none else(GM x.1 0 p.1).bind fun v=>if v.length<=2199023255552 then if(v++[(x.2.1.1,x.2.1.2.1,())]).length<=2199023255552 then(GM x.1 p.1 (x.1.length:Int)).bind fun a=>if(v++[(x.2.1.1,x.2.1.2.1,())]++a).length<=2199023255552 then some (v++[(x.2.1.1,x.2.1.2.1,())]++a,())else none else none else none
def Aas:Ent:=⟨180,⟨(.slot (.slice A0) (.slot A0 .nil)),.nil⟩,⟨(.own 0 .nil),(.lst false A0 .nil)⟩,J7⟩
theorem yv:CfgOK prog Ai5:=hcB (all_cons zR all_nil)
theorem Aar:AN prog Ai5 (lpc f180 0):=lkA yv ch yt EI yp [0,3,5] NB
theorem Akp:Aj prog Aas:=okB yv func180 Aar
def Ja (x:A3×Int×A2×Unit):Option (Int×Int×Int×Int×Int×Int×Int×Bool×A9):=(Ft ((x.1.1,x.1.2.1,x.1.2.2.1,x.1.2.2.2.1,x.1.2.2.2.2.1,x.1.2.2.2.2.2.1,x.1.2.2.2.2.2.2.1,x.1.2.2.2.2.2.2.2.1,x.1.2.2.2.2.2.2.2.2.1,()),())).bind fun v=>(AR ((x.1.1,x.1.2.1,x.1.2.2.1,x.1.2.2.2.1,x.1.2.2.2.2.1,x.1.2.2.2.2.2.1,x.1.2.2.2.2.2.2.1,x.1.2.2.2.2.2.2.2.1,x.1.2.2.2.2.2.2.2.2.1,()),())).bind fun a=>bif !a.1 then some (v.1,v.2.1,v.2.2.1,v.2.2.2.1,v.2.2.2.2.1,v.2.2.2.2.2.1,v.2.2.2.2.2.2.1,false,v.2.2.2.2.2.2.2.1,v.2.2.2.2.2.2.2.2.1,())else bif x.1.2.2.1 != 1 then some (v.1,v.2.1,v.2.2.1,v.2.2.2.1,v.2.2.2.2.1,v.2.2.2.2.2.1,v.2.2.2.2.2.2.1,false,v.2.2.2.2.2.2.2.1,v.2.2.2.2.2.2.2.2.1,())else(Al (x.2.1,0,5,())).bind fun b=>bif !b.1 then some (v.1,v.2.1,v.2.2.1,v.2.2.2.1,v.2.2.2.2.1,v.2.2.2.2.2.1,v.2.2.2.2.2.2.1,false,v.2.2.2.2.2.2.2.1,v.2.2.2.2.2.2.2.2.1,())else(Ej ((x.2.2.1.1,x.2.2.1.2.1,x.2.2.1.2.2.1,x.2.2.1.2.2.2.1,x.2.2.1.2.2.2.2.1,()),())).bind fun c=>bif !c.1 then some (v.1,v.2.1,v.2.2.1,v.2.2.2.1,v.2.2.2.2.1,v.2.2.2.2.2.1,v.2.2.2.2.2.2.1,false,v.2.2.2.2.2.2.2.1,v.2.2.2.2.2.2.2.2.1,())else bif (x.1.2.2.2.2.2.2.2.1.length:Int)==60 then some (v.1,v.2.1,v.2.2.1,v.2.2.2.1,v.2.2.2.2.1,v.2.2.2.2.2.1,v.2.2.2.2.2.2.1,false,v.2.2.2.2.2.2.2.1,v.2.2.2.2.2.2.2.2.1,())else(J7 (x.1.2.2.2.2.2.2.2.1,(x.2.1,x.2.2.1.2.2.1,()),())).bind fun d=>some (v.1,v.2.1,v.2.2.1,v.2.2.2.1,mx x.1.2.2.2.2.1 x.2.2.1.2.2.1,mn x.1.2.2.2.2.2.1 x.2.2.1.2.2.2.2.1,v.2.2.2.2.2.2.1,true,d.1,v.2.2.2.2.2.2.2.2.1,())
def gy:Ent:=⟨118,⟨(.slot Ae (.slot .i (.slot Af .nil))),.nil⟩,⟨(.agg (si 7 (.own 0 (.own 1 .nil))) (.slot .bool .nil)),(.lst false A0 (.lst false A0 .nil))⟩,Ja⟩
theorem Ako:Aj prog gy:=okA (hcA 0 (all_cons VF (all_cons Oh (all_cons Lb (all_cons A2s (all_cons Akp all_nil)))))) func118
def An6:Cfg:={ti:=Az,ents:=[Qh,gC,gz,gy],ann:=[],lent:=5,pre:=[(some (0,3)),(some (0,4))]}
def Hf (x:Int×Int×Bool×Int×A7):Option (Int×Int×Bool×Int×A7):=if 0<=x.1/\x.1<(x.2.2.2.2.2.1.length:Int)then x.2.2.2.2.2.1[0+x.1.toNat]?.bind fun v=>x.2.2.2.2.2.1[0+x.1.toNat]?.bind fun a=>x.2.2.2.2.2.1[0+x.1.toNat]?.bind fun b=>(Jg ((v.1,v.2.1,v.2.2.1,v.2.2.2.1,v.2.2.2.2.1,v.2.2.2.2.2.1,v.2.2.2.2.2.2.1,a.2.2.2.2.2.2.2.1,b.2.2.2.2.2.2.2.2.1,()),x.2.1,())).bind fun c=>bif decide (c.1>=0)then x.2.2.2.2.2.1[0+x.1.toNat]?.bind fun v=>if 0<=c.1/\c.1<(v.2.2.2.2.2.2.2.2.1.length:Int)then x.2.2.2.2.2.1[0+x.1.toNat]?.bind fun v=>v.2.2.2.2.2.2.2.2.1[0+c.1.toNat]?.bind fun v=>some (v.2.1,0,x.2.2.1,x.2.2.2.1,x.2.2.2.2.1,x.2.2.2.2.2.1,x.2.2.2.2.2.2.1,x.2.2.2.2.2.2.2.1,())else none else x.2.2.2.2.2.1[0+x.1.toNat]?.bind fun d=>x.2.2.2.2.2.1[0+x.1.toNat]?.bind fun e=>(Gs ((x.2.2.2.2.1,()),(v.1,v.2.1,v.2.2.1,v.2.2.2.1,v.2.2.2.2.1,v.2.2.2.2.2.1,v.2.2.2.2.2.2.1,d.2.2.2.2.2.2.2.1,e.2.2.2.2.2.2.2.2.1,()),x.2.1,())).bind fun f=>bif f.2.2.2.2.2.1 != 0 then(Bv (x.1,x.2.2.1,x.2.2.2.1,x.2.2.2.2.1,x.2.2.2.2.2.1,x.2.2.2.2.2.2.1,x.2.2.2.2.2.2.2.1,())).bind fun v=>some (0,f.2.2.2.2.2.1,v.1,v.2.1,v.2.2.1,v.2.2.2.1,v.2.2.2.2.2.2.1,v.2.2.2.2.2.2.2.1,())else x.2.2.2.2.2.1[0+x.1.toNat]?.bind fun g=>x.2.2.2.2.2.1[0+x.1.toNat]?.bind fun h=>(Ja ((v.1,v.2.1,v.2.2.1,v.2.2.2.1,v.2.2.2.2.1,v.2.2.2.2.2.1,v.2.2.2.2.2.2.1,g.2.2.2.2.2.2.2.1,h.2.2.2.2.2.2.2.2.1,()),x.2.1,(f.1,f.2.1,f.2.2.1,f.2.2.2.1,f.2.2.2.2.1,()),())).bind fun v=>bif !v.2.2.2.2.2.2.2.1 then some (0,6,x.2.2.1,x.2.2.2.1,x.2.2.2.2.1,x.2.2.2.2.2.1,x.2.2.2.2.2.2.1,x.2.2.2.2.2.2.2.1,())else if 0<=x.1/\x.1<(x.2.2.2.2.2.1.length:Int)then x.2.2.2.2.2.1[0+x.1.toNat]?.bind fun j=>some (f.2.1,0,x.2.2.1,x.2.2.2.1,x.2.2.2.2.1,x.2.2.2.2.2.1.set (0+x.1.toNat) (v.1,v.2.1,v.2.2.1,v.2.2.2.1,v.2.2.2.2.1,v.2.2.2.2.2.1,v.2.2.2.2.2.2.1,v.2.2.2.2.2.2.2.2.1,v.2.2.2.2.2.2.2.2.2.1,()),x.2.2.2.2.2.2.1,x.2.2.2.2.2.2.2.1,())else none else none
def Uz:Ent:=⟨57,⟨(.ptr 0 0 0 (si 2 .nil)),(.cells 6 (.slot .bool (.own 1 (.own 2 (.own 3 (.own 4 (.slot .i .nil)))))) (.tree false 0 (.slice Af) (.tree false 0 Ae (.lst false A0 (.lst false A0 .nil)))))⟩,⟨(si 2 .nil),(.cells 6 (.slot .bool (.own 1 (.own 2 (.own 5 (.own 6 (.slot .i .nil)))))) (.tree false 0 (.slice Af) (.tree false 1 Ae (.gone (.gone (.lst false A0 (.lst false A0 .nil)))))))⟩,Hf⟩
theorem yn:Aj prog Uz:=okA (C:=An6) (hcB (all_cons UA (all_cons Akw (all_cons Akt (all_cons Ako all_nil))))) func57
abbrev yl:=B3
abbrev yi:=Int×Bool×Int×List (List A2)×List A3×List A1×List A1×List Int×Unit
abbrev yj:=Bool×Int×List (List A2)×List A3×Int×List Int×A9 ⊕ Bool×Int×List (List A2)×List A3×List A1×List A1×List Int×Unit
def DN (i:yl)(v:yi)(R:Type)(K:yi ⊕ yj->Option R):Option R:=bif decide (v.1<=i.2.1)then(Hf (i.1,v.1,v.2.1,v.2.2.1,v.2.2.2.1,v.2.2.2.2.1,v.2.2.2.2.2.1,v.2.2.2.2.2.2.1,())).bind fun a=>bif a.2.1 != 0 then K (.inr (.inl (a.2.2.1,a.2.2.2.1,a.2.2.2.2.1,a.2.2.2.2.2.1,a.2.1,v.2.2.2.2.2.2.2.1,a.2.2.2.2.2.2.1,a.2.2.2.2.2.2.2.1,())))else if(v.2.2.2.2.2.2.2.1++[a.1]).length<=4398046511104 then K (.inl (zXq.wrap (v.1+1),a.2.2.1,a.2.2.2.1,a.2.2.2.2.1,a.2.2.2.2.2.1,a.2.2.2.2.2.2.1,a.2.2.2.2.2.2.2.1,v.2.2.2.2.2.2.2.1++[a.1],()))else none else K (.inr (.inr (v.2.1,v.2.2.1,v.2.2.2.1,v.2.2.2.2.1,v.2.2.2.2.2.1,v.2.2.2.2.2.2.1,v.2.2.2.2.2.2.2.1,())))
theorem NC:AW DN:=fun i v R K=>Ad (Ac fun _=>Ad (Aa) (Ar (Aa))) (Aa)
def cg:Tmpl:=⟨(.ptr 0 0 0 (.slot .i (.junk (.slot .i (jk 4 (.ptr 7 0 0 (.own 8 (.slot .i (jk 26 .nil))))))))),(.cells 6 (.slot .bool (.own 1 (.own 2 (.own 5 (.own 6 (.slot .i .nil)))))) (.tree false 0 (.slice Af) (.tree false 1 Ae (.gone (.gone (.lst false A0 (.lst false A0 (.cells 2 (.slot .i (.const (AV.nils) .nil)) (.lst false .i .nil)))))))))⟩
def yh:Exs yl yj:=xs .ret (fun i p=>⟨jn 8 (AV.ptr 7 none 0 0::AV.own 8 none none::jn 27 ([])),[some (Cont.cells 6 [[AV.pv .bool p.1,AV.own 1 none none,AV.own 2 none none,AV.own 14 none none,AV.own 15 none none,AV.pv .i p.2.1]]),some (Cont.tree false 0 (.slice Af) p.2.2.1 none),some (Cont.tree false 2 Ae p.2.2.2.1 none),some Cont.dead,some Cont.dead,some Cont.dead,some Cont.dead,some (Cont.cells 2 [[AV.pv .i p.2.2.2.2.1,AV.nils]]),some (Cont.lst false .i p.2.2.2.2.2.1),none,none,none,none,none,some (Cont.lst false A0 p.2.2.2.2.2.2.1),some (Cont.lst false A0 p.2.2.2.2.2.2.2.1)]⟩)<|x1 (.exit 0) fun i p=>⟨jn 8 (AV.ptr 7 none 0 0::AV.own 8 none none::jn 27 ([])),[some (Cont.cells 6 [[AV.pv .bool p.1,AV.own 1 none none,AV.own 2 none none,AV.own 5 none none,AV.own 6 none none,AV.pv .i p.2.1]]),some (Cont.tree false 0 (.slice Af) p.2.2.1 none),some (Cont.tree false 1 Ae p.2.2.2.1 none),some Cont.dead,some Cont.dead,some (Cont.lst false A0 p.2.2.2.2.1),some (Cont.lst false A0 p.2.2.2.2.2.1),some (Cont.cells 2 [[AV.pv .i i.2.2.1,AV.nils]]),some (Cont.lst false .i p.2.2.2.2.2.2.1)]⟩
def yk:=((.i (.i (.v (.v (.v (.v (.v (.v (.v (.i (.v .n))))))))))):Pk cg.ty _ _)
def Ai4:Cfg:={ti:=Az,ents:=[Uz],ann:=[(3,Ao cg 5 (spP yk) DN yh.E)],lent:=5,pre:=[(some (0,3)),(some (0,4))]}
def Kt (x:Int×Int×Int×Bool×Int×A7):Option (Int×Bool×Int×List (List A2)×List A3×List A1×List A1×List Int×Unit):=(Au (fun v=>DN (x.1,x.2.2.1,0,()) v _ some) (x.2.1,x.2.2.2.1,x.2.2.2.2.1,x.2.2.2.2.2.1,x.2.2.2.2.2.2.1,x.2.2.2.2.2.2.2.1,x.2.2.2.2.2.2.2.2.1,[],())).bind fun p=>Ap p (fun p=>some (p.2.2.2.2.1,p.1,p.2.1,p.2.2.1,p.2.2.2.1,p.2.2.2.2.2.2.1,p.2.2.2.2.2.2.2.1,[],())) fun p=>some (0,p.1,p.2.1,p.2.2.1,p.2.2.2.1,p.2.2.2.2.1,p.2.2.2.2.2.1,p.2.2.2.2.2.2.1,())
def gx:Ent:=⟨58,⟨(.ptr 0 0 0 (si 3 .nil)),(.cells 6 (.slot .bool (.own 1 (.own 2 (.own 3 (.own 4 (.slot .i .nil)))))) (.tree false 0 (.slice Af) (.tree false 0 Ae (.lst false A0 (.lst false A0 .nil)))))⟩,⟨(.agg (.slot .i (.own 7 .nil)) .nil),(.cells 6 (.slot .bool (.own 1 (.own 2 (.own 5 (.own 6 (.slot .i .nil)))))) (.tree false 0 (.slice Af) (.tree false 1 Ae (.gone (.gone (.lst false A0 (.lst false A0 (.lst false .i .nil))))))))⟩,Kt⟩
theorem ym:CfgOK prog Ai4:=hcB (all_cons yn all_nil)
theorem Aaq:AN prog Ai4 (lpc f58 0):=lkA ym cg yk DN yh [8,9] NC
theorem Akn:Aj prog gx:=okB ym func58 Aaq
abbrev yf:=List A1×Int×Unit
abbrev yc:=Int×Unit
abbrev yd:=Int×Unit ⊕ Unit
def DQ (i:yf)(v:yc)(R:Type)(K:yc ⊕ yd->Option R):Option R:=bif decide (v.1<(i.1.length:Int))then(lAt i.1 v.1).bind fun a=>bif a.1==i.2.1 then(lAt i.1 v.1).bind fun v=>K (.inr (.inl (v.2.1,())))else K (.inl (zXq.wrap (v.1+1),()))else K (.inr (.inr ()))
theorem NG:AW DQ:=fun i v R K=>Ad (Ac fun _=>Ad (Ac fun _=>Aa) (Aa)) (Aa)
def cd:Tmpl:=⟨(.slot (.slice A0) (.slot .i (jk 3 (.slot .i (jk 18 .nil))))),.nil⟩
def yb:Exs yf yd:=xs .ret (fun i p=>⟨jn 4 (.n (p.1)::jn 19 ([])),[]⟩)<|x1 (.exit 0) fun i p=>⟨jn 24 ([]),[]⟩
def ye:=((.i (.i (.v .n))):Pk cd.ty _ _)
def Ai3:Cfg:={ti:=Az,ents:=[],ann:=[(2,Ao cd 0 (spP ye) DQ yb.E)],lent:=0}
def Fw (x:List A1×Int×Unit):Option (Int×Unit):=(Au (fun v=>DQ (x.1,x.2.1,()) v _ some) (0,())).bind fun p=>Ap p (fun p=>some (p.1,())) fun p=>some (0,())
def Uy:Ent:=⟨120,⟨(.slot (.slice A0) (.slot .i .nil)),.nil⟩,⟨(.slot .i .nil),.nil⟩,Fw⟩
theorem yg:CfgOK prog Ai3:=hcB all_nil
theorem Aap:AN prog Ai3 (lpc f120 0):=lkA yg cd ye DQ yb [4] NG
theorem cf:Aj prog Uy:=okB yg func120 Aap
def J8 (x:A4×List A1×A3×Int×Unit):Option (Int×Unit):=(Hg ((x.1.1,()),(x.2.2.1.1,x.2.2.1.2.1,x.2.2.1.2.2.1,x.2.2.1.2.2.2.1,x.2.2.1.2.2.2.2.1,x.2.2.1.2.2.2.2.2.1,x.2.2.1.2.2.2.2.2.2.1,x.2.2.1.2.2.2.2.2.2.2.1,x.2.2.1.2.2.2.2.2.2.2.2.1,()),x.2.2.2.1,())).bind fun v=>bif !v.1 then some (6,())else(Fb (x.2.1,())).bind fun v=>bif !v.1 then some (6,())else(Fw (x.2.1,x.2.2.2.1,())).bind fun v=>bif v.1 != 0 then(lAt x.1.1 x.2.2.2.1).bind fun a=>(BS (a,())).bind fun b=>bif x.2.2.1.2.1==1 then bif v.1 != x.2.2.1.1 then some (1,())else bif x.2.2.1.2.1==2 then bif v.1 != x.2.2.1.1 then some (2,())else bif decide (b.2.2.1>x.2.2.1.2.2.2.1)then some (2,())else bif x.2.2.1.2.1==4 then bif decide (b.2.2.1>x.2.2.1.2.2.2.1)then some (3,())else bif decide (b.2.2.2.1>x.2.2.1.2.2.2.1)then some (3,())else some (0,())else some (0,())else bif x.2.2.1.2.1==4 then bif decide (b.2.2.1>x.2.2.1.2.2.2.1)then some (3,())else bif decide (b.2.2.2.1>x.2.2.1.2.2.2.1)then some (3,())else some (0,())else some (0,())else bif x.2.2.1.2.1==2 then bif v.1 != x.2.2.1.1 then some (2,())else bif decide (b.2.2.1>x.2.2.1.2.2.2.1)then some (2,())else bif x.2.2.1.2.1==4 then bif decide (b.2.2.1>x.2.2.1.2.2.2.1)then some (3,())else bif decide (b.2.2.2.1>x.2.2.1.2.2.2.1)then some (3,())else some (0,())else some (0,())else bif x.2.2.1.2.1==4 then bif decide (b.2.2.1>x.2.2.1.2.2.2.1)then some (3,())else bif decide (b.2.2.2.1>x.2.2.1.2.2.2.1)then some (3,())else some (0,())else some (0,())else(lAt x.1.1 x.2.2.2.1).bind fun v=>(BS (v,())).bind fun v=>bif x.2.2.1.2.1==1 then bif x.2.2.1.2.1==2 then bif decide (v.2.2.1>x.2.2.1.2.2.2.1)then some (2,())else bif x.2.2.1.2.1==4 then bif decide (v.2.2.1>x.2.2.1.2.2.2.1)then some (3,())else bif decide (v.2.2.2.1>x.2.2.1.2.2.2.1)then some (3,())else some (0,())else some (0,())else bif x.2.2.1.2.1==4 then bif decide (v.2.2.1>x.2.2.1.2.2.2.1)then some (3,())else bif decide (v.2.2.2.1>x.2.2.1.2.2.2.1)then some (3,())else some (0,())else some (0,())else bif x.2.2.1.2.1==2 then bif decide (v.2.2.1>x.2.2.1.2.2.2.1)then some (2,())else bif x.2.2.1.2.1==4 then bif decide (v.2.2.1>x.2.2.1.2.2.2.1)then some (3,())else bif decide (v.2.2.2.1>x.2.2.1.2.2.2.1)then some (3,())else some (0,())else some (0,())else bif x.2.2.1.2.1==4 then bif decide (v.2.2.1>x.2.2.1.2.2.2.1)then some (3,())else bif decide (v.2.2.2.1>x.2.2.1.2.2.2.1)then some (3,())else some (0,())else some (0,())
def gu:Ent:=⟨119,⟨(.slot BW (.slot (.slice A0) (.slot Ae (.slot .i .nil)))),.nil⟩,⟨(.slot .i .nil),.nil⟩,J8⟩
theorem Akm:Aj prog gu:=okA (hcA 0 (all_cons cl (all_cons cI (all_cons cf (all_cons S8 all_nil))))) func119
abbrev xZ:=List A1×Int×Int×Unit
abbrev xV:=Int×Unit
abbrev xW:=Int×Unit ⊕ Int×Unit
def Gg (i:xZ)(v:xV)(R:Type)(K:xV ⊕ xW->Option R):Option R:=bif decide (v.1<(i.1.length:Int))then(lAt i.1 v.1).bind fun a=>bif decide (a.1<i.2.1)then K (.inl (zXq.wrap (v.1+1),()))else K (.inr (.inl (v.1,())))else K (.inr (.inr (v.1,())))
theorem Pm:AW Gg:=fun i v R K=>Ad (Ac fun _=>Ad (Aa) (Aa)) (Aa)
def cc:Tmpl:=⟨(.slot (.slice A0) (si 2 (jk 5 (.slot .i (jk 67 .nil))))),.nil⟩
def xU:Exs xZ xW:=xs (.exit 0) (fun i p=>⟨AV.pv (.slice A0) i.1::.n (i.2.1)::.n (i.2.2.1)::jn 5 (.n (p.1)::jn 67 ([])),[]⟩)<|x1 (.exit 0) fun i p=>⟨AV.pv (.slice A0) i.1::.n (i.2.1)::.n (i.2.2.1)::jn 5 (.n (p.1)::jn 67 ([])),[]⟩
def xX:=((.i (.i (.i (.v .n)))):Pk cc.ty _ _)
def Ai2:Cfg:={ti:=Az,ents:=[RN,N3],ann:=[(4,Ao cc 0 (spP xX) Gg xU.E)],lent:=0}
def IT (x:List A1×Int×Int×Unit):Option (Bool×List A1×Unit):=(Fa (x.1,())).bind fun v=>bif !v.1 then if x.1.length<=2199023255552 then some (false,x.1,())else none else(Al (x.2.1,1,9,())).bind fun v=>bif !v.1 then if x.1.length<=2199023255552 then some (false,x.1,())else none else(Al (x.2.2.1,1,9,())).bind fun v=>bif !v.1 then if x.1.length<=2199023255552 then some (false,x.1,())else none else bif x.2.1==x.2.2.1 then if x.1.length<=2199023255552 then some (false,x.1,())else none else(Au (fun v=>Gg (x.1,x.2.1,x.2.2.1,()) v _ some) (0,())).bind fun p=>Ap p (fun p=>(GM x.1 0 p.1).bind fun v=>if v.length<=2199023255552 then if(v++[(x.2.1,x.2.2.1,())]).length<=2199023255552 then bif decide (p.1<(x.1.length:Int))then(lAt x.1 p.1).bind fun a=>bif a.1==x.2.1 then(GM x.1 (zXq.wrap (p.1+1)) (x.1.length:Int)).bind fun b=>if(v++[(x.2.1,x.2.2.1,())]++b).length<=2199023255552 then some (true,v++[(x.2.1,x.2.2.1,())]++b,())else none else(GM x.1 p.1 (x.1.length:Int)).bind fun b=>if(v++[(x.2.1,x.2.2.1,())]++b).length<=2199023255552 then some (true,v++[(x.2.1,x.2.2.1,())]++b,())else none else(GM x.1 p.1 (x.1.length:Int)).bind fun a=>if(v++[(x.2.1,x.2.2.1,())]++a).length<=2199023255552 then some (true,v++[(x.2.1,x.2.2.1,())]++a,())else none else none else none) fun p=>(GM x.1 0 p.1).bind fun v=>if v.length<=2199023255552 then if(v++[(x.2.1,x.2.2.1,())]).length<=2199023255552 then bif decide (p.1<(x.1.length:Int))then(lAt x.1 p.1).bind fun a=>bif a.1==x.2.1 then(GM x.1 (zXq.wrap (p.1+1)) (x.1.length:Int)).bind fun b=>if(v++[(x.2.1,x.2.2.1,())]++b).length<=2199023255552 then some (true,v++[(x.2.1,x.2.2.1,())]++b,())else none else(GM x.1 p.1 (x.1.length:Int)).bind fun b=>if(v++[(x.2.1,x.2.2.1,())]++b).length<=2199023255552 then some (true,v++[(x.2.1,x.2.2.1,())]++b,())else none else(GM x.1 p.1 (x.1.length:Int)).bind fun a=>if(v++[(x.2.1,x.2.2.1,())]++a).length<=2199023255552 then some (true,v++[(x.2.1,x.2.2.1,())]++a,())else none else none else none
def gt:Ent:=⟨122,⟨(.slot (.slice A0) (si 2 .nil)),.nil⟩,⟨(.own 0 (.slot .bool .nil)),(.lst false A0 .nil)⟩,IT⟩
theorem ya:CfgOK prog Ai2:=hcB (all_cons cF (all_cons Lb all_nil))
theorem Aao:AN prog Ai2 (lpc f122 0):=lkA ya cc xX Gg xU [0,1,2,8] Pm
theorem xY:Aj prog gt:=okB ya func122 Aao
abbrev xS:=List A1×Int×Unit
abbrev xP:=Int×Unit
abbrev xQ:=Int×Unit ⊕ Unit
def FM (i:xS)(v:xP)(R:Type)(K:xP ⊕ xQ->Option R):Option R:=bif decide (v.1<(i.1.length:Int))then(lAt i.1 v.1).bind fun a=>bif a.1==i.2.1 then(lAt i.1 v.1).bind fun v=>K (.inr (.inl (v.2.1,())))else K (.inl (zXq.wrap (v.1+1),()))else K (.inr (.inr ()))
theorem PH:AW FM:=fun i v R K=>Ad (Ac fun _=>Ad (Ac fun _=>Aa) (Aa)) (Aa)
def ca:Tmpl:=⟨(.slot (.slice A0) (.slot .i (jk 3 (.slot .i (jk 18 .nil))))),.nil⟩
def xO:Exs xS xQ:=xs .ret (fun i p=>⟨jn 4 (.n (p.1)::jn 19 ([])),[]⟩)<|x1 (.exit 0) fun i p=>⟨jn 24 ([]),[]⟩
def xR:=((.i (.i (.v .n))):Pk ca.ty _ _)
def Ai1:Cfg:={ti:=Az,ents:=[],ann:=[(2,Ao ca 0 (spP xR) FM xO.E)],lent:=0}
def KF (x:List A1×Int×Unit):Option (Int×Unit):=(Au (fun v=>FM (x.1,x.2.1,()) v _ some) (0,())).bind fun p=>Ap p (fun p=>some (p.1,())) fun p=>some (0,())
def gr:Ent:=⟨232,⟨(.slot (.slice A0) (.slot .i .nil)),.nil⟩,⟨(.slot .i .nil),.nil⟩,KF⟩
theorem xT:CfgOK prog Ai1:=hcB all_nil
theorem Aan:AN prog Ai1 (lpc f232 0):=lkA xT ca xR FM xO [4] PH
theorem Akl:Aj prog gr:=okB xT func232 Aan
abbrev xL:=List A1×Int×List Int×Unit
abbrev xF:=Int×Unit
abbrev xH:=List Int×List Int×Unit ⊕ Unit
def Dc (i:xL)(v:xF)(R:Type)(K:xF ⊕ xH->Option R):Option R:=bif decide (v.1<(i.2.2.1.length:Int))then if 0<=v.1/\v.1<(i.2.2.1.length:Int)then i.2.2.1[0+v.1.toNat]?.bind fun a=>bif a==i.2.1 then if(i.2.2.1++[i.2.1]).length<=4398046511104 then K (.inr (.inl ([i.2.1],i.2.2.1++[i.2.1],())))else none else K (.inl (zXq.wrap (v.1+1),()))else none else K (.inr (.inr ()))
theorem ND:AW Dc:=fun i v R K=>Ad (Ar (Ac fun _=>Ad (Ar (Aa)) (Aa))) (Aa)
def bW:Tmpl:=⟨(.slot (.slice A0) (jk 4 (.own 0 (si 2 (jk 36 .nil))))),(.lst false .i .nil)⟩
def xD:Exs xL xH:=xs .ret (fun i p=>⟨AV.pv (.slice A0) i.1::jn 3 (AV.own 2 none none::AV.own 0 none none::.n (i.2.1)::jn 37 ([])),[some Cont.dead,some (Cont.lst false .i p.1),some (Cont.lst false .i p.2.1)]⟩)<|x1 (.exit 2) fun i p=>⟨AV.pv (.slice A0) i.1::jn 4 (AV.own 0 none none::.n (i.2.1)::jn 37 ([])),[some (Cont.lst false .i i.2.2.1)]⟩
def xJ:=((.i (.i (.v (.i .n)))):Pk bW.ty _ _)
abbrev xM:=List A1×Unit
abbrev xG:=Int×List Int×Unit
abbrev xI:=List Int×List Int×Unit ⊕ List Int×Unit ⊕ List Int×Unit ⊕ List Int×Unit
def Dd (i:xM)(v:xG)(R:Type)(K:xG ⊕ xI->Option R):Option R:=bif decide (v.1>0)then(Fa (i.1,())).bind fun a=>bif a.1 then bif decide (v.1<=9)then(Au (fun b=>Dc (i.1,v.1,v.2.1,()) b _ some) (0,())).bind fun p=>Ap p (fun p=>K (.inr (.inl (p.1,p.2.1,())))) fun p=>if(v.2.1++[v.1]).length<=4398046511104 then(KF (i.1,v.1,())).bind fun b=>K (.inl (b.1,v.2.1++[v.1],()))else none else K (.inr (.inr (.inl (v.2.1,()))))else K (.inr (.inr (.inr (.inl (v.2.1,())))))else K (.inr (.inr (.inr (.inr (v.2.1,())))))
theorem NE:AW Dd:=fun i v R K=>Ad (Ac fun _=>Ad (Ad (Ac fun _=>KH (fun _=>Aa) (fun _=>Ar (Ac fun _=>Aa))) (Aa)) (Aa)) (Aa)
def bX:Tmpl:=⟨(.slot (.slice A0) (jk 4 (.own 0 (.slot .i (jk 37 .nil))))),(.lst false .i .nil)⟩
def xE:Exs xM xI:=xs .ret (fun i p=>⟨jn 4 (AV.own 2 none none::AV.own 0 none none::jn 38 ([])),[some Cont.dead,some (Cont.lst false .i p.1),some (Cont.lst false .i p.2.1)]⟩)<|xs (.exit 0) (fun i p=>⟨jn 5 (AV.own 0 none none::jn 38 ([])),[some (Cont.lst false .i p.1)]⟩)<|xs (.exit 0) (fun i p=>⟨jn 5 (AV.own 0 none none::jn 38 ([])),[some (Cont.lst false .i p.1)]⟩)<|x1 (.exit 0) fun i p=>⟨jn 5 (AV.own 0 none none::jn 38 ([])),[some (Cont.lst false .i p.1)]⟩
def xK:=((.i (.v (.v .n))):Pk bX.ty _ _)
def xN:Cfg:={ti:=Az,ents:=[RN,gr],ann:=[(6,Ao bW 0 (spP xJ) Dc xD.E),(3,Ao bX 0 (spP xK) Dd xE.E)],lent:=0}
def Ku (x:List A1×Int×Unit):Option (List Int×Unit):=(Au (fun v=>Dd (x.1,()) v _ some) (x.2.1,[],())).bind fun p=>Ap p (fun p=>some (p.2.1,())) fun p=>Ap p (fun p=>some (p.1,())) fun p=>Ap p (fun p=>some (p.1,())) fun p=>some (p.1,())
def Aam:Ent:=⟨181,⟨(.slot (.slice A0) (.slot .i .nil)),.nil⟩,⟨(.own 0 .nil),(.lst false .i .nil)⟩,Ku⟩
theorem bZ:CfgOK prog xN:=hcB (all_cons cF (all_cons Akl all_nil))
theorem gq:AN prog xN (lpc f181 1):=lkA bZ bW xJ Dc xD [0,4,5,6] ND
theorem Aal:AN prog xN (lpc f181 0):=lkB bZ bX xK Dd xE [4,5] NE gq
theorem Akk:Aj prog Aam:=okC bZ func181 Aal gq
def Gm (x:List A1×Int×Int×Unit):Option (Bool×Unit):=(IT (x.1,x.2.1,x.2.2.1,())).bind fun v=>bif !v.1 then some (false,())else(Ku (v.2.1,x.2.1,())).bind fun v=>bif decide ((v.1.length:Int)>1)then if 0<=zXq.wrap ((v.1.length:Int)-1)/\zXq.wrap ((v.1.length:Int)-1)<(v.1.length:Int)then v.1[0+(zXq.wrap ((v.1.length:Int)-1)).toNat]?.bind fun v=>some (v==x.2.1,())else none else some (false,())
def gp:Ent:=⟨121,⟨(.slot (.slice A0) (si 2 .nil)),.nil⟩,⟨(.slot .bool .nil),.nil⟩,Gm⟩
theorem Akj:Aj prog gp:=okA (hcA 0 (all_cons xY (all_cons Akk all_nil))) func121
def ID (x:Int×Unit):Option (Bool×Unit):=bif x.1==1 then some (true,())else some (x.1==2,())
def gn:Ent:=⟨123,⟨(.slot .i .nil),.nil⟩,⟨(.slot .bool .nil),.nil⟩,ID⟩
theorem Akg:Aj prog gn:=okA (hcA 0 all_nil) func123
abbrev xA:=Int×Int×List A1×Unit
abbrev xx:=Int×Unit
abbrev xy:=Int×Unit ⊕ Int×Unit
def Db (i:xA)(v:xx)(R:Type)(K:xx ⊕ xy->Option R):Option R:=bif decide (v.1<(i.2.2.1.length:Int))then if 0<=v.1/\v.1<(i.2.2.1.length:Int)then i.2.2.1[0+v.1.toNat]?.bind fun a=>bif decide (a.1<i.1)then K (.inl (zXq.wrap (v.1+1),()))else K (.inr (.inl (v.1,())))else none else K (.inr (.inr (v.1,())))
theorem Mt:AW Db:=fun i v R K=>Ad (Ar (Ac fun _=>Ad (Aa) (Aa))) (Aa)
def bV:Tmpl:=⟨(.junk (si 2 (jk 5 (.own 0 (.junk (.slot .i (jk 61 .nil))))))),(.lst false A0 .nil)⟩
def xw:Exs xA xy:=xs (.exit 0) (fun i p=>⟨jn 1 (.n (i.1)::.n (i.2.1)::jn 5 (AV.own 0 none none::jn 1 (.n (p.1)::jn 61 ([])))),[some (Cont.lst false A0 i.2.2.1)]⟩)<|x1 (.exit 0) fun i p=>⟨jn 1 (.n (i.1)::.n (i.2.1)::jn 5 (AV.own 0 none none::jn 1 (.n (p.1)::jn 61 ([])))),[some (Cont.lst false A0 i.2.2.1)]⟩
def xz:=((.i (.i (.v (.i .n)))):Pk bV.ty _ _)
def Ahu:Cfg:={ti:=Az,ents:=[VN,Uy,Vb,N3],ann:=[(8,Ao bV 0 (spP xz) Db xw.E)],lent:=0}
def HP (x:List A1×Int×Int×Unit):Option (Bool×List A1×Unit):=(Hi (x.1,())).bind fun v=>(Fw (x.1,x.2.1,())).bind fun a=>(Fb (x.1,())).bind fun b=>bif !b.1 then some (false,v.1,())else(Al (x.2.1,0,5,())).bind fun c=>bif !c.1 then some (false,v.1,())else(Al (x.2.2.1,1,9,())).bind fun d=>bif !d.1 then some (false,v.1,())else bif a.1 != 0 then bif a.1 != x.2.2.1 then some (false,v.1,())else bif a.1==x.2.2.1 then some (true,v.1,())else(Au (fun e=>Db (x.2.1,x.2.2.1,v.1,()) e _ some) (0,())).bind fun p=>Ap p (fun p=>if(0:Int)<=0/\0<=p.1/\p.1<=(v.1.length:Int)then if(Dr v.1 (some (0,p.1.toNat-Int.toNat 0))).length<=2199023255552 then if(Dr v.1 (some (0,p.1.toNat-Int.toNat 0))++[(x.2.1,x.2.2.1,())]).length<=2199023255552 then if 0<=p.1/\p.1<=(v.1.length:Int)/\(v.1.length:Int)<=(v.1.length:Int)then if(Dr v.1 (some (0,p.1.toNat-Int.toNat 0))++[(x.2.1,x.2.2.1,())]++Dr v.1 (some (0+p.1.toNat,(v.1.length:Int).toNat-p.1.toNat))).length<=2199023255552 then some (true,Dr v.1 (some (0,p.1.toNat-Int.toNat 0))++[(x.2.1,x.2.2.1,())]++Dr v.1 (some (0+p.1.toNat,(v.1.length:Int).toNat-p.1.toNat)),())else none else none else none else none else none) fun p=>if(0:Int)<=0/\0<=p.1/\p.1<=(v.1.length:Int)then if(Dr v.1 (some (0,p.1.toNat-Int.toNat 0))).length<=2199023255552 then if(Dr v.1 (some (0,p.1.toNat-Int.toNat 0))++[(x.2.1,x.2.2.1,())]).length<=2199023255552 then if 0<=p.1/\p.1<=(v.1.length:Int)/\(v.1.length:Int)<=(v.1.length:Int)then if(Dr v.1 (some (0,p.1.toNat-Int.toNat 0))++[(x.2.1,x.2.2.1,())]++Dr v.1 (some (0+p.1.toNat,(v.1.length:Int).toNat-p.1.toNat))).length<=2199023255552 then some (true,Dr v.1 (some (0,p.1.toNat-Int.toNat 0))++[(x.2.1,x.2.2.1,())]++Dr v.1 (some (0+p.1.toNat,(v.1.length:Int).toNat-p.1.toNat)),())else none else none else none else none else none else bif a.1==x.2.2.1 then some (true,v.1,())else(Au (fun e=>Db (x.2.1,x.2.2.1,v.1,()) e _ some) (0,())).bind fun p=>Ap p (fun p=>if(0:Int)<=0/\0<=p.1/\p.1<=(v.1.length:Int)then if(Dr v.1 (some (0,p.1.toNat-Int.toNat 0))).length<=2199023255552 then if(Dr v.1 (some (0,p.1.toNat-Int.toNat 0))++[(x.2.1,x.2.2.1,())]).length<=2199023255552 then if 0<=p.1/\p.1<=(v.1.length:Int)/\(v.1.length:Int)<=(v.1.length:Int)then if(Dr v.1 (some (0,p.1.toNat-Int.toNat 0))++[(x.2.1,x.2.2.1,())]++Dr v.1 (some (0+p.1.toNat,(v.1.length:Int).toNat-p.1.toNat))).length<=2199023255552 then some (true,Dr v.1 (some (0,p.1.toNat-Int.toNat 0))++[(x.2.1,x.2.2.1,())]++Dr v.1 (some (0+p.1.toNat,(v.1.length:Int).toNat-p.1.toNat)),())else none else none else none else none else none) fun p=>if(0:Int)<=0/\0<=p.1/\p.1<=(v.1.length:Int)then if(Dr v.1 (some (0,p.1.toNat-Int.toNat 0))).length<=2199023255552 then if(Dr v.1 (some (0,p.1.toNat-Int.toNat 0))++[(x.2.1,x.2.2.1,())]).length<=2199023255552 then if 0<=p.1/\p.1<=(v.1.length:Int)/\(v.1.length:Int)<=(v.1.length:Int)then if(Dr v.1 (some (0,p.1.toNat-Int.toNat 0))++[(x.2.1,x.2.2.1,())]++Dr v.1 (some (0+p.1.toNat,(v.1.length:Int).toNat-p.1.toNat))).length<=2199023255552 then some (true,Dr v.1 (some (0,p.1.toNat-Int.toNat 0))++[(x.2.1,x.2.2.1,())]++Dr v.1 (some (0+p.1.toNat,(v.1.length:Int).toNat-p.1.toNat)),())else none else none else none else none else none
def gm:Ent:=⟨124,⟨(.slot (.slice A0) (si 2 .nil)),.nil⟩,⟨(.own 0 (.slot .bool .nil)),(.lst false A0 .nil)⟩,HP⟩
theorem xB:CfgOK prog Ahu:=hcB (all_cons A4a (all_cons cf (all_cons cI (all_cons Lb all_nil))))
theorem Aak:AN prog Ahu (lpc f124 0):=lkA xB bV xz Db xw [1,2,8,10] Mt
theorem Akf:Aj prog gm:=okB xB func124 Aak
abbrev xu:=List A1×Int×Int×Unit
abbrev xq:=Int×Unit
abbrev xr:=Int×Unit ⊕ Int×Unit
def En (i:xu)(v:xq)(R:Type)(K:xq ⊕ xr->Option R):Option R:=bif decide (v.1<(i.1.length:Int))then(lAt i.1 v.1).bind fun a=>bif decide (a.1<i.2.1)then K (.inl (zXq.wrap (v.1+1),()))else K (.inr (.inl (v.1,())))else K (.inr (.inr (v.1,())))
theorem MQ:AW En:=fun i v R K=>Ad (Ac fun _=>Ad (Aa) (Aa)) (Aa)
def bU:Tmpl:=⟨(.slot (.slice A0) (jk 2 (.ptr 0 0 0 (.junk (.slot .i (jk 46 .nil)))))),(.cells 2 (si 2 .nil) .nil)⟩
def xp:Exs xu xr:=xs (.exit 0) (fun i p=>⟨AV.pv (.slice A0) i.1::jn 2 (AV.ptr 0 none 0 0::jn 1 (.n (p.1)::jn 46 ([]))),[some (Cont.cells 2 [[AV.pv .i i.2.1,AV.pv .i i.2.2.1]])]⟩)<|x1 (.exit 0) fun i p=>⟨AV.pv (.slice A0) i.1::jn 2 (AV.ptr 0 none 0 0::jn 1 (.n (p.1)::jn 46 ([]))),[some (Cont.cells 2 [[AV.pv .i i.2.1,AV.pv .i i.2.2.1]])]⟩
def xt:=((.i (.v (.i (.i .n)))):Pk bU.ty _ _)
def Aht:Cfg:={ti:=Az,ents:=[],ann:=[(2,Ao bU 0 (spP xt) En xp.E)],lent:=0}
def IB (x:List A1×A1×Unit):Option (List A1×Unit):=(Au (fun v=>En (x.1,x.2.1.1,x.2.1.2.1,()) v _ some) (0,())).bind fun p=>Ap p (fun p=>(GM x.1 0 p.1).bind fun v=>if v.length<=2199023255552 then if(v++[(x.2.1.1,x.2.1.2.1,())]).length<=2199023255552 then bif decide (p.1<(x.1.length:Int))then(lAt x.1 p.1).bind fun a=>bif a.1==x.2.1.1 then(GM x.1 (zXq.wrap (p.1+1)) (x.1.length:Int)).bind fun b=>if(v++[(x.2.1.1,x.2.1.2.1,())]++b).length<=2199023255552 then some (v++[(x.2.1.1,x.2.1.2.1,())]++b,())else none else(GM x.1 p.1 (x.1.length:Int)).bind fun b=>if(v++[(x.2.1.1,x.2.1.2.1,())]++b).length<=2199023255552 then some (v++[(x.2.1.1,x.2.1.2.1,())]++b,())else none else(GM x.1 p.1 (x.1.length:Int)).bind fun a=>if(v++[(x.2.1.1,x.2.1.2.1,())]++a).length<=2199023255552 then some (v++[(x.2.1.1,x.2.1.2.1,())]++a,())else none else none else none) fun p=>(GM x.1 0 p.1).bind fun v=>if v.length<=2199023255552 then if(v++[(x.2.1.1,x.2.1.2.1,())]).length<=2199023255552 then bif decide (p.1<(x.1.length:Int))then(lAt x.1 p.1).bind fun a=>bif a.1==x.2.1.1 then(GM x.1 (zXq.wrap (p.1+1)) (x.1.length:Int)).bind fun b=>if(v++[(x.2.1.1,x.2.1.2.1,())]++b).length<=2199023255552 then some (v++[(x.2.1.1,x.2.1.2.1,())]++b,())else none else(GM x.1 p.1 (x.1.length:Int)).bind fun b=>if(v++[(x.2.1.1,x.2.1.2.1,())]++b).length<=2199023255552 then some (v++[(x.2.1.1,x.2.1.2.1,())]++b,())else none else(GM x.1 p.1 (x.1.length:Int)).bind fun a=>if(v++[(x.2.1.1,x.2.1.2.1,())]++a).length<=2199023255552 then some (v++[(x.2.1.1,x.2.1.2.1,())]++a,())else none else none else none
def Aaj:Ent:=⟨182,⟨(.slot (.slice A0) (.slot A0 .nil)),.nil⟩,⟨(.own 0 .nil),(.lst false A0 .nil)⟩,IB⟩
theorem xv:CfgOK prog Aht:=hcB all_nil
theorem Aai:AN prog Aht (lpc f182 0):=lkA xv bU xt En xp [0,3,5] MQ
theorem Ake:Aj prog Aaj:=okB xv func182 Aai
def Gn (x:A4×A3×Int×Int×Unit):Option (Int×Int×Int×Int×Int×Int×Int×Bool×A9):=(Ft ((x.2.1.1,x.2.1.2.1,x.2.1.2.2.1,x.2.1.2.2.2.1,x.2.1.2.2.2.2.1,x.2.1.2.2.2.2.2.1,x.2.1.2.2.2.2.2.2.1,x.2.1.2.2.2.2.2.2.2.1,x.2.1.2.2.2.2.2.2.2.2.1,()),())).bind fun v=>(BF ((x.1.1,()),())).bind fun a=>bif !a.1 then some (v.1,v.2.1,v.2.2.1,v.2.2.2.1,v.2.2.2.2.1,v.2.2.2.2.2.1,v.2.2.2.2.2.2.1,false,v.2.2.2.2.2.2.2.1,v.2.2.2.2.2.2.2.2.1,())else(AR ((x.2.1.1,x.2.1.2.1,x.2.1.2.2.1,x.2.1.2.2.2.1,x.2.1.2.2.2.2.1,x.2.1.2.2.2.2.2.1,x.2.1.2.2.2.2.2.2.1,x.2.1.2.2.2.2.2.2.2.1,x.2.1.2.2.2.2.2.2.2.2.1,()),())).bind fun b=>bif !b.1 then some (v.1,v.2.1,v.2.2.1,v.2.2.2.1,v.2.2.2.2.1,v.2.2.2.2.2.1,v.2.2.2.2.2.2.1,false,v.2.2.2.2.2.2.2.1,v.2.2.2.2.2.2.2.2.1,())else bif x.2.1.2.2.1 != 1 then some (v.1,v.2.1,v.2.2.1,v.2.2.2.1,v.2.2.2.2.1,v.2.2.2.2.2.1,v.2.2.2.2.2.2.1,false,v.2.2.2.2.2.2.2.1,v.2.2.2.2.2.2.2.2.1,())else(Al (x.2.2.1,0,5,())).bind fun c=>bif !c.1 then some (v.1,v.2.1,v.2.2.1,v.2.2.2.1,v.2.2.2.2.1,v.2.2.2.2.2.1,v.2.2.2.2.2.2.1,false,v.2.2.2.2.2.2.2.1,v.2.2.2.2.2.2.2.2.1,())else(Al (x.2.2.2.1,-1,99,())).bind fun d=>bif !d.1 then some (v.1,v.2.1,v.2.2.1,v.2.2.2.1,v.2.2.2.2.1,v.2.2.2.2.2.1,v.2.2.2.2.2.2.1,false,v.2.2.2.2.2.2.2.1,v.2.2.2.2.2.2.2.2.1,())else(IB (x.2.1.2.2.2.2.2.2.2.2.1,(x.2.2.1,x.2.2.2.1,()),())).bind fun e=>(lAt x.1.1 x.2.2.1).bind fun f=>(BS (f,())).bind fun g=>some (v.1,v.2.1,v.2.2.1,v.2.2.2.1,mx x.2.1.2.2.2.2.1 g.2.2.2.1,v.2.2.2.2.2.1,v.2.2.2.2.2.2.1,true,v.2.2.2.2.2.2.2.1,e.1,())
def gl:Ent:=⟨125,⟨(.slot BW (.slot Ae (si 2 .nil))),.nil⟩,⟨(.agg (si 7 (.own 0 (.own 1 .nil))) (.slot .bool .nil)),(.lst false A0 (.lst false A0 .nil))⟩,Gn⟩
theorem Akd:Aj prog gl:=okA (hcA 0 (all_cons VF (all_cons PR (all_cons Oh (all_cons Lb (all_cons Ake (all_cons S8 all_nil))))))) func125
def An3:Cfg:={ti:=Az,ents:=[Qh,gu,Uy,gp,gt,gn,gm,gl],ann:=[],lent:=5,hid:=[((8,11),[0]),((14,12),[0])],pre:=[(some (0,3)),(some (0,4))]}
def IC (x:Int×Int×Int×Int×Int×Int×Int×Bool×Int×A7):Option (Int×Bool×Int×A7):=if 0<=x.1/\x.1<(x.2.2.2.2.2.2.2.2.2.2.1.length:Int)then x.2.2.2.2.2.2.2.2.2.2.1[0+x.1.toNat]?.bind fun v=>x.2.2.2.2.2.2.2.2.2.2.1[0+x.1.toNat]?.bind fun a=>x.2.2.2.2.2.2.2.2.2.2.1[0+x.1.toNat]?.bind fun b=>(J8 ((x.2.2.2.2.2.2.2.2.2.1,()),x.2.2.2.2.2.2.2.2.2.2.2.1,(v.1,v.2.1,v.2.2.1,v.2.2.2.1,v.2.2.2.2.1,v.2.2.2.2.2.1,v.2.2.2.2.2.2.1,a.2.2.2.2.2.2.2.1,b.2.2.2.2.2.2.2.2.1,()),x.2.2.2.2.1,())).bind fun c=>bif c.1==1 then(Fw (x.2.2.2.2.2.2.2.2.2.2.2.1,x.2.2.2.2.1,())).bind fun d=>(Gm (x.2.2.2.2.2.2.2.2.2.2.2.2.1,v.1,d.1,())).bind fun e=>bif e.1 then(Bv (x.1,x.2.2.2.2.2.2.2.1,x.2.2.2.2.2.2.2.2.1,x.2.2.2.2.2.2.2.2.2.1,x.2.2.2.2.2.2.2.2.2.2.1,x.2.2.2.2.2.2.2.2.2.2.2.1,x.2.2.2.2.2.2.2.2.2.2.2.2.1,())).bind fun v=>some (4,v.1,v.2.1,v.2.2.1,v.2.2.2.1,v.2.2.2.2.2.2.1,v.2.2.2.2.2.2.2.1,())else(IT (x.2.2.2.2.2.2.2.2.2.2.2.2.1,v.1,d.1,())).bind fun v=>some (c.1,x.2.2.2.2.2.2.2.1,x.2.2.2.2.2.2.2.2.1,x.2.2.2.2.2.2.2.2.2.1,x.2.2.2.2.2.2.2.2.2.2.1,x.2.2.2.2.2.2.2.2.2.2.2.1,v.2.1,())else bif c.1 != 0 then(Bv (x.1,x.2.2.2.2.2.2.2.1,x.2.2.2.2.2.2.2.2.1,x.2.2.2.2.2.2.2.2.2.1,x.2.2.2.2.2.2.2.2.2.2.1,x.2.2.2.2.2.2.2.2.2.2.2.1,x.2.2.2.2.2.2.2.2.2.2.2.2.1,())).bind fun v=>some (c.1,v.1,v.2.1,v.2.2.1,v.2.2.2.1,v.2.2.2.2.2.2.1,v.2.2.2.2.2.2.2.1,())else(ID (v.2.1,())).bind fun d=>bif d.1 then(HP (x.2.2.2.2.2.2.2.2.2.2.2.1,x.2.2.2.2.1,v.1,())).bind fun e=>x.2.2.2.2.2.2.2.2.2.2.1[0+x.1.toNat]?.bind fun f=>x.2.2.2.2.2.2.2.2.2.2.1[0+x.1.toNat]?.bind fun g=>(Gn ((x.2.2.2.2.2.2.2.2.2.1,()),(v.1,v.2.1,v.2.2.1,v.2.2.2.1,v.2.2.2.2.1,v.2.2.2.2.2.1,v.2.2.2.2.2.2.1,f.2.2.2.2.2.2.2.1,g.2.2.2.2.2.2.2.2.1,()),x.2.2.2.2.1,x.2.2.2.2.2.2.1,())).bind fun v=>if 0<=x.1/\x.1<(x.2.2.2.2.2.2.2.2.2.2.1.length:Int)then x.2.2.2.2.2.2.2.2.2.2.1[0+x.1.toNat]?.bind fun h=>some (0,x.2.2.2.2.2.2.2.1,x.2.2.2.2.2.2.2.2.1,x.2.2.2.2.2.2.2.2.2.1,x.2.2.2.2.2.2.2.2.2.2.1.set (0+x.1.toNat) (v.1,v.2.1,v.2.2.1,v.2.2.2.1,v.2.2.2.2.1,v.2.2.2.2.2.1,v.2.2.2.2.2.2.1,v.2.2.2.2.2.2.2.2.1,v.2.2.2.2.2.2.2.2.2.1,()),e.2.1,x.2.2.2.2.2.2.2.2.2.2.2.2.1,())else none else x.2.2.2.2.2.2.2.2.2.2.1[0+x.1.toNat]?.bind fun e=>x.2.2.2.2.2.2.2.2.2.2.1[0+x.1.toNat]?.bind fun f=>(Gn ((x.2.2.2.2.2.2.2.2.2.1,()),(v.1,v.2.1,v.2.2.1,v.2.2.2.1,v.2.2.2.2.1,v.2.2.2.2.2.1,v.2.2.2.2.2.2.1,e.2.2.2.2.2.2.2.1,f.2.2.2.2.2.2.2.2.1,()),x.2.2.2.2.1,x.2.2.2.2.2.2.1,())).bind fun v=>if 0<=x.1/\x.1<(x.2.2.2.2.2.2.2.2.2.2.1.length:Int)then x.2.2.2.2.2.2.2.2.2.2.1[0+x.1.toNat]?.bind fun g=>some (0,x.2.2.2.2.2.2.2.1,x.2.2.2.2.2.2.2.2.1,x.2.2.2.2.2.2.2.2.2.1,x.2.2.2.2.2.2.2.2.2.2.1.set (0+x.1.toNat) (v.1,v.2.1,v.2.2.1,v.2.2.2.1,v.2.2.2.2.1,v.2.2.2.2.2.1,v.2.2.2.2.2.2.1,v.2.2.2.2.2.2.2.2.1,v.2.2.2.2.2.2.2.2.2.1,()),x.2.2.2.2.2.2.2.2.2.2.2.1,x.2.2.2.2.2.2.2.2.2.2.2.2.1,())else none else none
def gk:Ent:=⟨59,⟨(.ptr 0 0 0 (.slot .i (.agg (si 6 .nil) .nil))),(.cells 6 (.slot .bool (.own 1 (.own 2 (.own 3 (.own 4 (.slot .i .nil)))))) (.tree false 0 (.slice Af) (.tree false 0 Ae (.lst false A0 (.lst false A0 .nil)))))⟩,⟨(.agg (.slot .i (.const (AV.nils) .nil)) .nil),(.cells 6 (.slot .bool (.own 1 (.own 2 (.own 5 (.own 6 (.slot .i .nil)))))) (.tree false 0 (.slice Af) (.tree false 1 Ae (.gone (.gone (.lst false A0 (.lst false A0 .nil)))))))⟩,IC⟩
theorem Akc:Aj prog gk:=okA (C:=An3) (hcB (all_cons UA (all_cons Akm (all_cons cf (all_cons Akj (all_cons xY (all_cons Akg (all_cons Akf (all_cons Akd all_nil))))))))) func59
abbrev xm:=List (List A2)×A3
abbrev xj:=Int×Unit
abbrev xk:=Unit ⊕ Unit ⊕ Unit
def BX (i:xm)(v:xj)(R:Type)(K:xj ⊕ xk->Option R):Option R:=bif decide (v.1<(i.2.2.2.2.2.2.2.2.2.1.length:Int))then(lAt i.2.2.2.2.2.2.2.2.2.1 v.1).bind fun a=>(lAt i.1 a.1).bind fun b=>(BS (b,())).bind fun c=>bif decide (c.2.2.1<=i.2.2.2.2.1)then K (.inl (zXq.wrap (v.1+1),()))else bif i.2.2.1==2 then K (.inr (.inl ()))else bif i.2.2.1==4 then K (.inr (.inr (.inl ())))else K (.inl (zXq.wrap (v.1+1),()))else K (.inr (.inr (.inr ())))
theorem MY:AW BX:=fun i v R K=>Ad (Ac fun _=>Ac fun _=>Ac fun _=>Ad (Aa) (Ad (Aa) (Ad (Aa) (Aa)))) (Aa)
def bT:Tmpl:=⟨(jk 2 (.ptr 0 0 0 (.ptr 1 0 0 (.junk (.slot .i (jk 32 .nil)))))),(.cells 1 (.slot (.slice (.slice Af)) .nil) (.cells 9 (si 7 (.slot (.slice A0) (.slot (.slice A0) .nil))) .nil))⟩
def xi:Exs xm xk:=xs .ret (fun i p=>⟨jn 4 (.n (2)::jn 33 ([])),[some (Cont.cells 1 [[AV.pv (.slice (.slice Af)) i.1]]),some (Cont.cells 9 [[AV.pv .i i.2.1,AV.pv .i i.2.2.1,AV.pv .i i.2.2.2.1,AV.pv .i i.2.2.2.2.1,AV.pv .i i.2.2.2.2.2.1,AV.pv .i i.2.2.2.2.2.2.1,AV.pv .i i.2.2.2.2.2.2.2.1,AV.pv (.slice A0) i.2.2.2.2.2.2.2.2.1,AV.pv (.slice A0) i.2.2.2.2.2.2.2.2.2.1]])]⟩)<|xs .ret (fun i p=>⟨jn 4 (.n (3)::jn 33 ([])),[some (Cont.cells 1 [[AV.pv (.slice (.slice Af)) i.1]]),some (Cont.cells 9 [[AV.pv .i i.2.1,AV.pv .i i.2.2.1,AV.pv .i i.2.2.2.1,AV.pv .i i.2.2.2.2.1,AV.pv .i i.2.2.2.2.2.1,AV.pv .i i.2.2.2.2.2.2.1,AV.pv .i i.2.2.2.2.2.2.2.1,AV.pv (.slice A0) i.2.2.2.2.2.2.2.2.1,AV.pv (.slice A0) i.2.2.2.2.2.2.2.2.2.1]])]⟩)<|x1 (.exit 0) fun i p=>⟨jn 38 ([]),[some (Cont.cells 1 [[AV.pv (.slice (.slice Af)) i.1]]),some (Cont.cells 9 [[AV.pv .i i.2.1,AV.pv .i i.2.2.1,AV.pv .i i.2.2.2.1,AV.pv .i i.2.2.2.2.1,AV.pv .i i.2.2.2.2.2.1,AV.pv .i i.2.2.2.2.2.2.1,AV.pv .i i.2.2.2.2.2.2.2.1,AV.pv (.slice A0) i.2.2.2.2.2.2.2.2.1,AV.pv (.slice A0) i.2.2.2.2.2.2.2.2.2.1]])]⟩
def xl:=((.v (.i (.i (.i (.i (.i (.i (.i (.i (.i (.i .n))))))))))):Pk bT.ty _ _)
def Ahs:Cfg:={ti:=Az,ents:=[gB,UB],ann:=[(4,Ao bT 0 (spP xl) BX xi.E)],lent:=0}
def IH (x:A4×A3×Unit):Option (Int×Unit):=(Hg ((x.1.1,()),(x.2.1.1,x.2.1.2.1,x.2.1.2.2.1,x.2.1.2.2.2.1,x.2.1.2.2.2.2.1,x.2.1.2.2.2.2.2.1,x.2.1.2.2.2.2.2.2.1,x.2.1.2.2.2.2.2.2.2.1,x.2.1.2.2.2.2.2.2.2.2.1,()),0,())).bind fun v=>bif !v.1 then some (6,())else(Au (fun v=>BX (x.1.1,x.2.1.1,x.2.1.2.1,x.2.1.2.2.1,x.2.1.2.2.2.1,x.2.1.2.2.2.2.1,x.2.1.2.2.2.2.2.1,x.2.1.2.2.2.2.2.2.1,x.2.1.2.2.2.2.2.2.2.1,x.2.1.2.2.2.2.2.2.2.2.1,()) v _ some) (0,())).bind fun p=>Ap p (fun p=>some (2,())) fun p=>Ap p (fun p=>some (3,())) fun p=>some (0,())
def gj:Ent:=⟨126,⟨(.slot BW (.slot Ae .nil)),.nil⟩,⟨(.slot .i .nil),.nil⟩,IH⟩
theorem xn:CfgOK prog Ahs:=hcB (all_cons cl (all_cons S8 all_nil))
theorem Aah:AN prog Ahs (lpc f126 0):=lkA xn bT xl BX xi [4] MY
theorem Akb:Aj prog gj:=okB xn func126 Aah
abbrev xg:=List (List A2)×A3
abbrev xa:=Int×Int×Unit
abbrev xc:=Int×Unit
def Es (i:xg)(v:xa)(R:Type)(K:xa ⊕ xc->Option R):Option R:=bif decide (v.2.1<(i.2.2.2.2.2.2.2.2.1.length:Int))then(lAt i.2.2.2.2.2.2.2.2.1 v.2.1).bind fun a=>K (.inl (mx v.1 a.2.1,zXq.wrap (v.2.1+1),()))else K (.inr (v.1,()))
theorem MT:AW Es:=fun i v R K=>Ad (Ac fun _=>Aa) (Aa)
def bR:Tmpl:=⟨(jk 2 (.ptr 0 0 0 (.ptr 1 0 0 (.junk (si 2 (jk 46 .nil)))))),(.cells 1 (.slot (.slice (.slice Af)) .nil) (.cells 9 (si 7 (.slot (.slice A0) (.slot (.slice A0) .nil))) .nil))⟩
def wY:Exs xg xc:=x1 (.exit 0) fun i p=>⟨jn 2 (AV.ptr 0 none 0 0::AV.ptr 1 none 0 0::jn 1 (.n (p.1)::jn 47 ([]))),[some (Cont.cells 1 [[AV.pv (.slice (.slice Af)) i.1]]),some (Cont.cells 9 [[AV.pv .i i.2.1,AV.pv .i i.2.2.1,AV.pv .i i.2.2.2.1,AV.pv .i i.2.2.2.2.1,AV.pv .i i.2.2.2.2.2.1,AV.pv .i i.2.2.2.2.2.2.1,AV.pv .i i.2.2.2.2.2.2.2.1,AV.pv (.slice A0) i.2.2.2.2.2.2.2.2.1,AV.pv (.slice A0) i.2.2.2.2.2.2.2.2.2.1]])]⟩
def xe:=((.v (.v (.i (.i (.i (.i (.i (.i (.i (.i (.i (.i .n)))))))))))):Pk bR.ty _ _)
abbrev xf:=List (List A2)×A3
abbrev wZ:=Int×Int×Unit
abbrev xb:=Int×Unit
def Dv (i:xf)(v:wZ)(R:Type)(K:wZ ⊕ xb->Option R):Option R:=bif decide (v.2.1<(i.2.2.2.2.2.2.2.2.2.1.length:Int))then(lAt i.2.2.2.2.2.2.2.2.2.1 v.2.1).bind fun a=>(lAt i.1 a.1).bind fun b=>(BS (b,())).bind fun c=>K (.inl (mx v.1 c.2.2.2.1,zXq.wrap (v.2.1+1),()))else K (.inr (v.1,()))
theorem MS:AW Dv:=fun i v R K=>Ad (Ac fun _=>Ac fun _=>Ac fun _=>Aa) (Aa)
def bQ:Tmpl:=⟨(jk 2 (.ptr 0 0 0 (.ptr 1 0 0 (.junk (.slot .i (.junk (.slot .i (jk 45 .nil)))))))),(.cells 1 (.slot (.slice (.slice Af)) .nil) (.cells 9 (si 7 (.slot (.slice A0) (.slot (.slice A0) .nil))) .nil))⟩
def wX:Exs xf xb:=x1 (.exit 2) fun i p=>⟨jn 5 (.n (p.1)::jn 47 ([])),[some (Cont.cells 1 [[AV.pv (.slice (.slice Af)) i.1]]),some (Cont.cells 9 [[AV.pv .i i.2.1,AV.pv .i i.2.2.1,AV.pv .i i.2.2.2.1,AV.pv .i i.2.2.2.2.1,AV.pv .i i.2.2.2.2.2.1,AV.pv .i i.2.2.2.2.2.2.1,AV.pv .i i.2.2.2.2.2.2.2.1,AV.pv (.slice A0) i.2.2.2.2.2.2.2.2.1,AV.pv (.slice A0) i.2.2.2.2.2.2.2.2.2.1]])]⟩
def xd:=((.v (.v (.i (.i (.i (.i (.i (.i (.i (.i (.i (.i .n)))))))))))):Pk bQ.ty _ _)
def xh:Cfg:={ti:=Az,ents:=[Qj,Qi,UB],ann:=[(5,Ao bR 0 (spP xe) Es wY.E),(9,Ao bQ 0 (spP xd) Dv wX.E)],lent:=0}
def IG (x:A4×A3×Unit):Option (Int×Unit):=(BF ((x.1.1,()),())).bind fun v=>bif !v.1 then some (0,())else(AR ((x.2.1.1,x.2.1.2.1,x.2.1.2.2.1,x.2.1.2.2.2.1,x.2.1.2.2.2.2.1,x.2.1.2.2.2.2.2.1,x.2.1.2.2.2.2.2.2.1,x.2.1.2.2.2.2.2.2.2.1,x.2.1.2.2.2.2.2.2.2.2.1,()),())).bind fun v=>bif !v.1 then some (0,())else(Au (fun v=>Es (x.1.1,x.2.1.1,x.2.1.2.1,x.2.1.2.2.1,x.2.1.2.2.2.1,x.2.1.2.2.2.2.1,x.2.1.2.2.2.2.2.1,x.2.1.2.2.2.2.2.2.1,x.2.1.2.2.2.2.2.2.2.1,x.2.1.2.2.2.2.2.2.2.2.1,()) v _ some) (0,0,())).bind fun p=>(Au (fun v=>Dv (x.1.1,x.2.1.1,x.2.1.2.1,x.2.1.2.2.1,x.2.1.2.2.2.1,x.2.1.2.2.2.2.1,x.2.1.2.2.2.2.2.1,x.2.1.2.2.2.2.2.2.1,x.2.1.2.2.2.2.2.2.2.1,x.2.1.2.2.2.2.2.2.2.2.1,()) v _ some) (p.1,0,())).bind fun p=>some (p.1,())
def Aag:Ent:=⟨233,⟨(.slot BW (.slot Ae .nil)),.nil⟩,⟨(.slot .i .nil),.nil⟩,IG⟩
theorem bS:CfgOK prog xh:=hcB (all_cons PR (all_cons Oh (all_cons S8 all_nil)))
theorem Aae:AN prog xh (lpc f233 1):=lkA bS bQ xd Dv wX [5] MS
theorem Aaf:AN prog xh (lpc f233 0):=lkA bS bR xe Es wY [2,3,5] MT
theorem Aka:Aj prog Aag:=okC bS func233 Aaf Aae
abbrev wV:=List (List A2)×A3
abbrev wS:=Int×Int×Unit
abbrev wT:=Int×Unit
def E8 (i:wV)(v:wS)(R:Type)(K:wS ⊕ wT->Option R):Option R:=bif decide (v.2.1<(i.2.2.2.2.2.2.2.2.1.length:Int))then(lAt i.2.2.2.2.2.2.2.2.1 v.2.1).bind fun a=>(lAt i.1 a.1).bind fun b=>(lAt i.2.2.2.2.2.2.2.2.1 v.2.1).bind fun c=>(Ev (b,c.2.1,())).bind fun d=>(lAt b d.1).bind fun e=>K (.inl (mn v.1 e.2.2.2.2.1,zXq.wrap (v.2.1+1),()))else K (.inr (v.1,()))
theorem Mq:AW E8:=fun i v R K=>Ad (Ac fun _=>Ac fun _=>Ac fun _=>Ac fun _=>Ac fun _=>Aa) (Aa)
def bP:Tmpl:=⟨(jk 2 (.ptr 0 0 0 (.ptr 1 0 0 (.junk (si 2 (jk 37 .nil)))))),(.cells 1 (.slot (.slice (.slice Af)) .nil) (.cells 9 (si 7 (.slot (.slice A0) (.slot (.slice A0) .nil))) .nil))⟩
def wR:Exs wV wT:=x1 (.exit 0) fun i p=>⟨jn 5 (.n (p.1)::jn 38 ([])),[some (Cont.cells 1 [[AV.pv (.slice (.slice Af)) i.1]]),some (Cont.cells 9 [[AV.pv .i i.2.1,AV.pv .i i.2.2.1,AV.pv .i i.2.2.2.1,AV.pv .i i.2.2.2.2.1,AV.pv .i i.2.2.2.2.2.1,AV.pv .i i.2.2.2.2.2.2.1,AV.pv .i i.2.2.2.2.2.2.2.1,AV.pv (.slice A0) i.2.2.2.2.2.2.2.2.1,AV.pv (.slice A0) i.2.2.2.2.2.2.2.2.2.1]])]⟩
def wU:=((.v (.v (.i (.i (.i (.i (.i (.i (.i (.i (.i (.i .n)))))))))))):Pk bP.ty _ _)
def Ahr:Cfg:={ti:=Az,ents:=[UG,RI],ann:=[(5,Ao bP 0 (spP wU) E8 wR.E)],lent:=0}
def HM (x:A4×A3×Unit):Option (Int×Unit):=(DP ((x.1.1,()),(x.2.1.1,x.2.1.2.1,x.2.1.2.2.1,x.2.1.2.2.2.1,x.2.1.2.2.2.2.1,x.2.1.2.2.2.2.2.1,x.2.1.2.2.2.2.2.2.1,x.2.1.2.2.2.2.2.2.2.1,x.2.1.2.2.2.2.2.2.2.2.1,()),())).bind fun v=>bif !v.1 then some (0,())else(Au (fun v=>E8 (x.1.1,x.2.1.1,x.2.1.2.1,x.2.1.2.2.1,x.2.1.2.2.2.1,x.2.1.2.2.2.2.1,x.2.1.2.2.2.2.2.1,x.2.1.2.2.2.2.2.2.1,x.2.1.2.2.2.2.2.2.2.1,x.2.1.2.2.2.2.2.2.2.2.1,()) v _ some) (1000,0,())).bind fun p=>some (p.1,())
def Aad:Ent:=⟨234,⟨(.slot BW (.slot Ae .nil)),.nil⟩,⟨(.slot .i .nil),.nil⟩,HM⟩
theorem wW:CfgOK prog Ahr:=hcB (all_cons ct (all_cons cv all_nil))
theorem Aac:AN prog Ahr (lpc f234 0):=lkA wW bP wU E8 wR [5] Mq
theorem Ak9:Aj prog Aad:=okB wW func234 Aac
def FN (x:A4×A3×Int×Unit):Option (Int×Int×Bool×Unit):=(DP ((x.1.1,()),(x.2.1.1,x.2.1.2.1,x.2.1.2.2.1,x.2.1.2.2.2.1,x.2.1.2.2.2.2.1,x.2.1.2.2.2.2.2.1,x.2.1.2.2.2.2.2.2.1,x.2.1.2.2.2.2.2.2.2.1,x.2.1.2.2.2.2.2.2.2.2.1,()),())).bind fun v=>bif !v.1 then some (0,0,false,())else bif x.2.1.2.2.1 != 1 then some (0,0,false,())else(Hk ((x.1.1,()),())).bind fun v=>(Al (x.2.2.1,zXq.wrap (v.1+1),999,())).bind fun v=>bif !v.1 then some (0,0,false,())else(IG ((x.1.1,()),(x.2.1.1,x.2.1.2.1,x.2.1.2.2.1,x.2.1.2.2.2.1,x.2.1.2.2.2.2.1,x.2.1.2.2.2.2.2.1,x.2.1.2.2.2.2.2.2.1,x.2.1.2.2.2.2.2.2.2.1,x.2.1.2.2.2.2.2.2.2.2.1,()),())).bind fun v=>(HM ((x.1.1,()),(x.2.1.1,x.2.1.2.1,x.2.1.2.2.1,x.2.1.2.2.2.1,x.2.1.2.2.2.2.1,x.2.1.2.2.2.2.2.1,x.2.1.2.2.2.2.2.2.1,x.2.1.2.2.2.2.2.2.2.1,x.2.1.2.2.2.2.2.2.2.2.1,()),())).bind fun a=>some (mx x.2.1.2.2.2.2.1 v.1,mn (mn x.2.1.2.2.2.2.2.1 a.1) x.2.2.1,true,())
def Ux:Ent:=⟨183,⟨(.slot BW (.slot Ae (.slot .i .nil))),.nil⟩,⟨(si 2 (.slot .bool .nil)),.nil⟩,FN⟩
theorem wQ:Aj prog Ux:=okA (hcA 0 (all_cons ct (all_cons A0d (all_cons Lb (all_cons Aka (all_cons Ak9 all_nil)))))) func183
abbrev wO:=List (List A2)×A3
abbrev wK:=Int×Unit
abbrev wL:=Unit ⊕ Unit
def FI (i:wO)(v:wK)(R:Type)(K:wK ⊕ wL->Option R):Option R:=bif decide (v.1<(i.2.2.2.2.2.2.2.2.2.1.length:Int))then(lAt i.2.2.2.2.2.2.2.2.2.1 v.1).bind fun a=>(lAt i.1 a.1).bind fun b=>bif decide ((b.length:Int)>=50)then K (.inr (.inl ()))else K (.inl (zXq.wrap (v.1+1),()))else K (.inr (.inr ()))
theorem PC:AW FI:=fun i v R K=>Ad (Ac fun _=>Ac fun _=>Ad (Aa) (Aa)) (Aa)
def bO:Tmpl:=⟨(jk 2 (.ptr 0 0 0 (.ptr 1 0 0 (.junk (.slot .i (jk 19 .nil)))))),(.cells 1 (.slot (.slice (.slice Af)) .nil) (.cells 9 (si 7 (.slot (.slice A0) (.slot (.slice A0) .nil))) .nil))⟩
def wJ:Exs wO wL:=xs .ret (fun i p=>⟨jn 4 (.b (false)::jn 20 ([])),[some (Cont.cells 1 [[AV.pv (.slice (.slice Af)) i.1]]),some (Cont.cells 9 [[AV.pv .i i.2.1,AV.pv .i i.2.2.1,AV.pv .i i.2.2.2.1,AV.pv .i i.2.2.2.2.1,AV.pv .i i.2.2.2.2.2.1,AV.pv .i i.2.2.2.2.2.2.1,AV.pv .i i.2.2.2.2.2.2.2.1,AV.pv (.slice A0) i.2.2.2.2.2.2.2.2.1,AV.pv (.slice A0) i.2.2.2.2.2.2.2.2.2.1]])]⟩)<|x1 (.exit 0) fun i p=>⟨jn 25 ([]),[some (Cont.cells 1 [[AV.pv (.slice (.slice Af)) i.1]]),some (Cont.cells 9 [[AV.pv .i i.2.1,AV.pv .i i.2.2.1,AV.pv .i i.2.2.2.1,AV.pv .i i.2.2.2.2.1,AV.pv .i i.2.2.2.2.2.1,AV.pv .i i.2.2.2.2.2.2.1,AV.pv .i i.2.2.2.2.2.2.2.1,AV.pv (.slice A0) i.2.2.2.2.2.2.2.2.1,AV.pv (.slice A0) i.2.2.2.2.2.2.2.2.2.1]])]⟩
def wM:=((.v (.i (.i (.i (.i (.i (.i (.i (.i (.i (.i .n))))))))))):Pk bO.ty _ _)
def Ahq:Cfg:={ti:=Az,ents:=[],ann:=[(2,Ao bO 0 (spP wM) FI wJ.E)],lent:=0}
def GK (x:A4×A3×Unit):Option (Bool×Unit):=(Au (fun v=>FI (x.1.1,x.2.1.1,x.2.1.2.1,x.2.1.2.2.1,x.2.1.2.2.2.1,x.2.1.2.2.2.2.1,x.2.1.2.2.2.2.2.1,x.2.1.2.2.2.2.2.2.1,x.2.1.2.2.2.2.2.2.2.1,x.2.1.2.2.2.2.2.2.2.2.1,()) v _ some) (0,())).bind fun p=>Ap p (fun p=>some (false,())) fun p=>some (true,())
def Uw:Ent:=⟨184,⟨(.slot BW (.slot Ae .nil)),.nil⟩,⟨(.slot .bool .nil),.nil⟩,GK⟩
theorem wP:CfgOK prog Ahq:=hcB all_nil
theorem Aab:AN prog Ahq (lpc f184 0):=lkA wP bO wM FI wJ [4] PC
theorem wN:Aj prog Uw:=okB wP func184 Aab
abbrev wH:=Int×Int×Int×Int×Int×Int×Int×Int×Int×List A1×List A1×Int×Int×Int×Int×Int×Int×Int×A3
abbrev wD:=Int×List (List A2)×Unit
abbrev wE:=List (List A2)×Unit
def DM (i:wH)(v:wD)(R:Type)(K:wD ⊕ wE->Option R):Option R:=bif decide (v.1<(i.2.2.2.2.2.2.2.2.2.1.length:Int))then(lAt i.2.2.2.2.2.2.2.2.2.1 v.1).bind fun a=>if 0<=a.1/\a.1<(v.2.1.length:Int)then v.2.1[0+a.1.toNat]?.bind fun b=>(lAt i.2.2.2.2.2.2.2.2.2.1 v.1).bind fun c=>v.2.1[0+a.1.toNat]?.bind fun d=>(Ev (d,c.2.1,())).bind fun e=>if 0<=a.1/\a.1<(v.2.1.length:Int)then v.2.1[0+a.1.toNat]?.bind fun f=>if 0<=a.1/\a.1<(v.2.1.length:Int)then v.2.1[0+a.1.toNat]?.bind fun g=>v.2.1[0+a.1.toNat]?.bind fun h=>if 0<=e.1/\e.1<(h.length:Int)then v.2.1[0+a.1.toNat]?.bind fun j=>j[0+e.1.toNat]?.bind fun k=>v.2.1[0+a.1.toNat]?.bind fun l=>if 0<=e.1/\e.1<(l.length:Int)then v.2.1[0+a.1.toNat]?.bind fun m=>m[0+e.1.toNat]?.bind fun n=>K (.inl (zXq.wrap (v.1+1),v.2.1.set (0+a.1.toNat) (m.set (0+e.1.toNat) (n.1,n.2.1,n.2.2.1,mx k.2.2.2.1 i.1,n.2.2.2.2.1,())),()))else none else none else none else none else none else K (.inr (v.2.1,()))
theorem NA:AW DM:=fun i v R K=>Ad (Ac fun _=>Ar (Ac fun _=>Ac fun _=>Ac fun _=>Ac fun _=>Ar (Ac fun _=>Ar (Ac fun _=>Ac fun _=>Ar (Ac fun _=>Ac fun _=>Ac fun _=>Ar (Ac fun _=>Ac fun _=>Aa)))))) (Aa)
def bM:Tmpl:=⟨(jk 2 (.slot .i (.junk (.slot .i (.junk (.ptr 0 0 0 (jk 3 (.ptr 1 0 0 (.ptr 2 0 0 (.ptr 3 0 0 (.ptr 5 0 0 (.slot .i (jk 113 .nil))))))))))))),(.cells 9 (si 7 (.slot (.slice A0) (.slot (.slice A0) .nil))) (.cells 1 (.const (AV.nils) .nil) (.cells 9 (si 7 (.const (AV.nils) (.const (AV.nils) .nil))) (.cells 1 (.own 4 .nil) (.tree false 0 (.slice Af) (.cells 9 (si 7 (.own 6 (.own 7 .nil))) (.lst false A0 (.lst false A0 .nil))))))))⟩
def wC:Exs wH wE:=x1 (.exit 0) fun i p=>⟨jn 2 (.n (i.1)::jn 1 (.n (i.2.1)::jn 1 (AV.ptr 0 none 0 0::jn 3 (AV.ptr 1 none 0 0::AV.ptr 2 none 0 0::AV.ptr 3 none 0 0::AV.ptr 5 none 0 0::jn 114 ([]))))),[some (Cont.cells 9 [[AV.pv .i i.2.2.1,AV.pv .i i.2.2.2.1,AV.pv .i i.2.2.2.2.1,AV.pv .i i.2.2.2.2.2.1,AV.pv .i i.2.2.2.2.2.2.1,AV.pv .i i.2.2.2.2.2.2.2.1,AV.pv .i i.2.2.2.2.2.2.2.2.1,AV.pv (.slice A0) i.2.2.2.2.2.2.2.2.2.1,AV.pv (.slice A0) i.2.2.2.2.2.2.2.2.2.2.1]]),some (Cont.cells 1 [[AV.nils]]),some (Cont.cells 9 [[AV.pv .i i.2.2.2.2.2.2.2.2.2.2.2.1,AV.pv .i i.2.2.2.2.2.2.2.2.2.2.2.2.1,AV.pv .i i.2.2.2.2.2.2.2.2.2.2.2.2.2.1,AV.pv .i i.2.2.2.2.2.2.2.2.2.2.2.2.2.2.1,AV.pv .i i.2.2.2.2.2.2.2.2.2.2.2.2.2.2.2.1,AV.pv .i i.2.2.2.2.2.2.2.2.2.2.2.2.2.2.2.2.1,AV.pv (Ty.int zXq) i.2.2.2.2.2.2.2.2.2.2.2.2.2.2.2.2.2.1,AV.nils,AV.nils]]),some (Cont.cells 1 [[AV.own 4 none none]]),some (Cont.tree false 0 (.slice Af) p.1 none),some (Cont.cells 9 [[AV.pv .i i.2.2.2.2.2.2.2.2.2.2.2.2.2.2.2.2.2.2.1,AV.pv .i i.2.2.2.2.2.2.2.2.2.2.2.2.2.2.2.2.2.2.2.1,AV.pv .i i.2.2.2.2.2.2.2.2.2.2.2.2.2.2.2.2.2.2.2.2.1,AV.pv .i i.2.2.2.2.2.2.2.2.2.2.2.2.2.2.2.2.2.2.2.2.2.1,AV.pv .i i.2.2.2.2.2.2.2.2.2.2.2.2.2.2.2.2.2.2.2.2.2.2.1,AV.pv .i i.2.2.2.2.2.2.2.2.2.2.2.2.2.2.2.2.2.2.2.2.2.2.2.1,AV.pv .i i.2.2.2.2.2.2.2.2.2.2.2.2.2.2.2.2.2.2.2.2.2.2.2.2.1,AV.own 6 none none,AV.own 7 none none]]),some (Cont.lst false A0 i.2.2.2.2.2.2.2.2.2.2.2.2.2.2.2.2.2.2.2.2.2.2.2.2.2.1),some (Cont.lst false A0 i.2.2.2.2.2.2.2.2.2.2.2.2.2.2.2.2.2.2.2.2.2.2.2.2.2.2.1)]⟩
def wF:=((.i (.i (.v (.i (.i (.i (.i (.i (.i (.i (.i (.i (.i (.i (.i (.i (.i (.i (.i (.v (.i (.i (.i (.i (.i (.i (.i (.i (.i .n))))))))))))))))))))))))))))):Pk bM.ty _ _)
abbrev gi:=Int×Int×Int×Int×Int×Int×Int×Int×Int×List A1×List A1×Int×Int×Int×Int×Int×Int×Int×A3
abbrev gf:=Int×List (List A2)×Unit
abbrev gg:=List (List A2)×Unit
def Du (i:gi)(v:gf)(R:Type)(K:gf ⊕ gg->Option R):Option R:=bif decide (v.1<(i.2.2.2.2.2.2.2.2.2.2.1.length:Int))then(lAt i.2.2.2.2.2.2.2.2.2.2.1 v.1).bind fun a=>if 0<=a.1/\a.1<(v.2.1.length:Int)then v.2.1[0+a.1.toNat]?.bind fun b=>v.2.1[0+a.1.toNat]?.bind fun c=>if 0<=a.1/\a.1<(v.2.1.length:Int)then v.2.1[0+a.1.toNat]?.bind fun d=>v.2.1[0+a.1.toNat]?.bind fun e=>if 0<=zXq.wrap ((c.length:Int)-1)/\zXq.wrap ((c.length:Int)-1)<(e.length:Int)then v.2.1[0+a.1.toNat]?.bind fun f=>f[0+(zXq.wrap ((c.length:Int)-1)).toNat]?.bind fun g=>if 0<=a.1/\a.1<(↑((v.2.1.set (0+a.1.toNat) (f.set (0+(zXq.wrap ((c.length:Int)-1)).toNat) (g.1,g.2.1,g.2.2.1,g.2.2.2.1,i.2.1,()))).length):Int)then(v.2.1.set (0+a.1.toNat) (f.set (0+(zXq.wrap ((c.length:Int)-1)).toNat) (g.1,g.2.1,g.2.2.1,g.2.2.2.1,i.2.1,())))[0+a.1.toNat]?.bind fun h=>(lAt i.2.2.2.2.2.2.2.2.2.2.1 v.1).bind fun j=>(v.2.1.set (0+a.1.toNat) (f.set (0+(zXq.wrap ((c.length:Int)-1)).toNat) (g.1,g.2.1,g.2.2.1,g.2.2.2.1,i.2.1,())))[0+a.1.toNat]?.bind fun k=>if(k++[(i.2.2.1,j.2.1,i.1,i.1,1000,())]).length<=879609302220 then if 0<=a.1/\a.1<(↑((v.2.1.set (0+a.1.toNat) (f.set (0+(zXq.wrap ((c.length:Int)-1)).toNat) (g.1,g.2.1,g.2.2.1,g.2.2.2.1,i.2.1,()))).length):Int)then(v.2.1.set (0+a.1.toNat) (f.set (0+(zXq.wrap ((c.length:Int)-1)).toNat) (g.1,g.2.1,g.2.2.1,g.2.2.2.1,i.2.1,())))[0+a.1.toNat]?.bind fun l=>if 1<=1/\true=true/\0+a.1.toNat=0+a.1.toNat/\0<=0/\0<1 then K (.inl (zXq.wrap (v.1+1),(v.2.1.set (0+a.1.toNat) (f.set (0+(zXq.wrap ((c.length:Int)-1)).toNat) (g.1,g.2.1,g.2.2.1,g.2.2.2.1,i.2.1,()))).set (0+a.1.toNat) (k++[(i.2.2.1,j.2.1,i.1,i.1,1000,())]),()))else none else none else none else none else none else none else none else K (.inr (v.2.1,()))
theorem MP:AW Du:=fun i v R K=>Ad (Ac fun _=>Ar (Ac fun _=>Ac fun _=>Ar (Ac fun _=>Ac fun _=>Ar (Ac fun _=>Ac fun _=>Ar (Ac fun _=>Ac fun _=>Ac fun _=>Ar (Ar (Ac fun _=>Ar (Aa)))))))) (Aa)
def Uu:Tmpl:=⟨(jk 2 (.slot .i (.junk (.slot .i (.junk (.ptr 0 0 0 (jk 3 (.ptr 1 0 0 (.ptr 2 0 0 (.ptr 3 0 0 (.ptr 5 0 0 (jk 3 (.slot .i (jk 110 .nil)))))))))))))),(.cells 9 (si 7 (.slot (.slice A0) (.slot (.slice A0) .nil))) (.cells 1 (.const (AV.nils) .nil) (.cells 9 (si 7 (.const (AV.nils) (.const (AV.nils) .nil))) (.cells 1 (.own 4 .nil) (.tree false 1 (.slice Af) (.cells 9 (si 7 (.own 6 (.own 7 .nil))) (.lst false A0 (.lst false A0 .nil))))))))⟩
def ge:Exs gi gg:=x1 (.exit 2) fun i p=>⟨jn 10 (AV.ptr 1 none 0 0::AV.ptr 2 none 0 0::AV.ptr 3 none 0 0::AV.ptr 5 none 0 0::jn 114 ([])),[some (Cont.cells 9 [[AV.pv .i i.2.2.1,AV.pv .i i.2.2.2.1,AV.pv .i i.2.2.2.2.1,AV.pv .i i.2.2.2.2.2.1,AV.pv .i i.2.2.2.2.2.2.1,AV.pv .i i.2.2.2.2.2.2.2.1,AV.pv .i i.2.2.2.2.2.2.2.2.1,AV.pv (.slice A0) i.2.2.2.2.2.2.2.2.2.1,AV.pv (.slice A0) i.2.2.2.2.2.2.2.2.2.2.1]]),some (Cont.cells 1 [[AV.nils]]),some (Cont.cells 9 [[AV.pv (Ty.int zXq) i.2.2.2.2.2.2.2.2.2.2.2.1,AV.pv .i i.2.2.2.2.2.2.2.2.2.2.2.2.1,AV.pv .i i.2.2.2.2.2.2.2.2.2.2.2.2.2.1,AV.pv .i i.2.2.2.2.2.2.2.2.2.2.2.2.2.2.1,AV.pv .i i.2.2.2.2.2.2.2.2.2.2.2.2.2.2.2.1,AV.pv .i i.2.2.2.2.2.2.2.2.2.2.2.2.2.2.2.2.1,AV.pv .i i.2.2.2.2.2.2.2.2.2.2.2.2.2.2.2.2.2.1,AV.nils,AV.nils]]),some (Cont.cells 1 [[AV.own 4 none none]]),some (Cont.tree false 1 (.slice Af) p.1 none),some (Cont.cells 9 [[AV.pv (Ty.int zXq) i.2.2.2.2.2.2.2.2.2.2.2.2.2.2.2.2.2.2.1,AV.pv .i i.2.2.2.2.2.2.2.2.2.2.2.2.2.2.2.2.2.2.2.1,AV.pv .i i.2.2.2.2.2.2.2.2.2.2.2.2.2.2.2.2.2.2.2.2.1,AV.pv .i i.2.2.2.2.2.2.2.2.2.2.2.2.2.2.2.2.2.2.2.2.2.1,AV.pv .i i.2.2.2.2.2.2.2.2.2.2.2.2.2.2.2.2.2.2.2.2.2.2.1,AV.pv .i i.2.2.2.2.2.2.2.2.2.2.2.2.2.2.2.2.2.2.2.2.2.2.2.1,AV.pv .i i.2.2.2.2.2.2.2.2.2.2.2.2.2.2.2.2.2.2.2.2.2.2.2.2.1,AV.own 6 none none,AV.own 7 none none]]),some (Cont.lst false A0 i.2.2.2.2.2.2.2.2.2.2.2.2.2.2.2.2.2.2.2.2.2.2.2.2.2.1),some (Cont.lst false A0 i.2.2.2.2.2.2.2.2.2.2.2.2.2.2.2.2.2.2.2.2.2.2.2.2.2.2.1)]⟩
def gh:=((.i (.i (.v (.i (.i (.i (.i (.i (.i (.i (.i (.i (.i (.i (.i (.i (.i (.i (.i (.v (.i (.i (.i (.i (.i (.i (.i (.i (.i .n))))))))))))))))))))))))))))):Pk Uu.ty _ _)
def wI:Cfg:={ti:=Az,ents:=[VR,VG,RI],ann:=[(8,Ao bM 0 (spP wF) DM wC.E),(14,Ao Uu 0 (spP gh) Du ge.E)],lent:=0,hid:=[((19,0),[4]),((19,1),[4]),((19,2),[4]),((20,1),[1])]}
def Em (x:A4×A3×B3):Option (Int×Int×Int×Int×Int×Int×Int×List (List A2)×A9):=(Jy ((x.1.1,()),())).bind fun v=>(Ft ((x.2.1.1,x.2.1.2.1,x.2.1.2.2.1,x.2.1.2.2.2.1,x.2.1.2.2.2.2.1,x.2.1.2.2.2.2.2.1,x.2.1.2.2.2.2.2.2.1,x.2.1.2.2.2.2.2.2.2.1,x.2.1.2.2.2.2.2.2.2.2.1,()),())).bind fun a=>(Au (fun v=>DM (x.2.2.1,x.2.2.2.2.1,x.2.1.1,x.2.1.2.1,x.2.1.2.2.1,x.2.1.2.2.2.1,x.2.1.2.2.2.2.1,x.2.1.2.2.2.2.2.1,x.2.1.2.2.2.2.2.2.1,x.2.1.2.2.2.2.2.2.2.1,x.2.1.2.2.2.2.2.2.2.2.1,0,0,0,0,0,0,0,a.1,a.2.1,2,a.2.2.2.1,x.2.2.2.1,x.2.2.2.2.1,x.2.2.1,a.2.2.2.2.2.2.2.1,a.2.2.2.2.2.2.2.2.1,()) v _ some) (0,v.1,())).bind fun p=>(Au (fun v=>Du (x.2.2.1,x.2.2.2.2.1,x.2.1.1,x.2.1.2.1,x.2.1.2.2.1,x.2.1.2.2.2.1,x.2.1.2.2.2.2.1,x.2.1.2.2.2.2.2.1,x.2.1.2.2.2.2.2.2.1,x.2.1.2.2.2.2.2.2.2.1,x.2.1.2.2.2.2.2.2.2.2.1,0,0,0,0,0,0,0,a.1,a.2.1,2,a.2.2.2.1,x.2.2.2.1,x.2.2.2.2.1,x.2.2.1,a.2.2.2.2.2.2.2.1,a.2.2.2.2.2.2.2.2.1,()) v _ some) (0,p.1,())).bind fun p=>some (a.1,a.2.1,2,a.2.2.2.1,x.2.2.2.1,x.2.2.2.2.1,x.2.2.1,p.1,a.2.2.2.2.2.2.2.1,a.2.2.2.2.2.2.2.2.1,())
def Uv:Ent:=⟨185,⟨(.slot BW (.slot Ae (si 3 .nil))),.nil⟩,⟨(.agg (.own 0 .nil) (.agg (si 7 (.own 1 (.own 2 .nil))) .nil)),(.tree false 1 (.slice Af) (.lst false A0 (.lst false A0 .nil)))⟩,Em⟩
theorem bN:CfgOK prog wI:=hcB (all_cons A4m (all_cons VF (all_cons cv all_nil)))
theorem wB:AN prog wI (lpc f185 1):=lkA bN Uu gh Du ge [10,11,12,13] MP
theorem Aaa:AN prog wI (lpc f185 0):=lkA bN bM wF DM wC [2,4,6,10,11,12,13] NA
theorem wG:Aj prog Uv:=okC bN func185 Aaa wB
def An2:Cfg:={ti:=Az,ents:=[Ux,Uw,Uv],ann:=[],lent:=4,hid:=[((3,2),[6]),((5,1),[6])]}
def GU (x:Bool×Int×Int×Int×Int×Int×Int×Int×Int×Nat×Nat×A7):Option (Int×Int×Int×Int×Int×Int×Int×Nat×Nat×Bool×A7):=x.2.2.2.2.2.2.2.2.2.2.2.2.1[x.2.2.2.2.2.2.2.2.2.1]?.bind fun v=>x.2.2.2.2.2.2.2.2.2.2.2.2.1[x.2.2.2.2.2.2.2.2.2.2.1]?.bind fun a=>(FN ((x.2.2.2.2.2.2.2.2.2.2.2.1,()),(x.2.2.1,x.2.2.2.1,x.2.2.2.2.1,x.2.2.2.2.2.1,x.2.2.2.2.2.2.1,x.2.2.2.2.2.2.2.1,x.2.2.2.2.2.2.2.2.1,v.2.2.2.2.2.2.2.1,a.2.2.2.2.2.2.2.2.1,()),zXq.wrap (x.2.1+1),())).bind fun v=>bif !v.2.2.1 then some (x.2.2.1,x.2.2.2.1,x.2.2.2.2.1,x.2.2.2.2.2.1,x.2.2.2.2.2.2.1,x.2.2.2.2.2.2.2.1,x.2.2.2.2.2.2.2.2.1,x.2.2.2.2.2.2.2.2.2.1,x.2.2.2.2.2.2.2.2.2.2.1,false,x.2.2.2.2.2.2.2.2.2.2.2.1,x.2.2.2.2.2.2.2.2.2.2.2.2.1,x.2.2.2.2.2.2.2.2.2.2.2.2.2.1,x.2.2.2.2.2.2.2.2.2.2.2.2.2.2.1,())else bif x.1 then bif decide (v.2.1<=v.1)then some (x.2.2.1,x.2.2.2.1,x.2.2.2.2.1,x.2.2.2.2.2.1,x.2.2.2.2.2.2.1,x.2.2.2.2.2.2.2.1,x.2.2.2.2.2.2.2.2.1,x.2.2.2.2.2.2.2.2.2.1,x.2.2.2.2.2.2.2.2.2.2.1,false,x.2.2.2.2.2.2.2.2.2.2.2.1,x.2.2.2.2.2.2.2.2.2.2.2.2.1,x.2.2.2.2.2.2.2.2.2.2.2.2.2.1,x.2.2.2.2.2.2.2.2.2.2.2.2.2.2.1,())else x.2.2.2.2.2.2.2.2.2.2.2.2.1[x.2.2.2.2.2.2.2.2.2.1]?.bind fun b=>x.2.2.2.2.2.2.2.2.2.2.2.2.1[x.2.2.2.2.2.2.2.2.2.2.1]?.bind fun c=>(GK ((x.2.2.2.2.2.2.2.2.2.2.2.1,()),(x.2.2.1,x.2.2.2.1,x.2.2.2.2.1,x.2.2.2.2.2.1,x.2.2.2.2.2.2.1,x.2.2.2.2.2.2.2.1,x.2.2.2.2.2.2.2.2.1,b.2.2.2.2.2.2.2.1,c.2.2.2.2.2.2.2.2.1,()),())).bind fun d=>bif !d.1 then some (x.2.2.1,x.2.2.2.1,x.2.2.2.2.1,x.2.2.2.2.2.1,x.2.2.2.2.2.2.1,x.2.2.2.2.2.2.2.1,x.2.2.2.2.2.2.2.2.1,x.2.2.2.2.2.2.2.2.2.1,x.2.2.2.2.2.2.2.2.2.2.1,false,x.2.2.2.2.2.2.2.2.2.2.2.1,x.2.2.2.2.2.2.2.2.2.2.2.2.1,x.2.2.2.2.2.2.2.2.2.2.2.2.2.1,x.2.2.2.2.2.2.2.2.2.2.2.2.2.2.1,())else x.2.2.2.2.2.2.2.2.2.2.2.2.1[x.2.2.2.2.2.2.2.2.2.1]?.bind fun e=>x.2.2.2.2.2.2.2.2.2.2.2.2.1[x.2.2.2.2.2.2.2.2.2.2.1]?.bind fun f=>(Em ((x.2.2.2.2.2.2.2.2.2.2.2.1,()),(x.2.2.1,x.2.2.2.1,x.2.2.2.2.1,x.2.2.2.2.2.1,x.2.2.2.2.2.2.1,x.2.2.2.2.2.2.2.1,x.2.2.2.2.2.2.2.2.1,e.2.2.2.2.2.2.2.1,f.2.2.2.2.2.2.2.2.1,()),zXq.wrap (x.2.1+1),v.1,v.2.1,())).bind fun v=>none else x.2.2.2.2.2.2.2.2.2.2.2.2.1[x.2.2.2.2.2.2.2.2.2.1]?.bind fun b=>x.2.2.2.2.2.2.2.2.2.2.2.2.1[x.2.2.2.2.2.2.2.2.2.2.1]?.bind fun c=>(GK ((x.2.2.2.2.2.2.2.2.2.2.2.1,()),(x.2.2.1,x.2.2.2.1,x.2.2.2.2.1,x.2.2.2.2.2.1,x.2.2.2.2.2.2.1,x.2.2.2.2.2.2.2.1,x.2.2.2.2.2.2.2.2.1,b.2.2.2.2.2.2.2.1,c.2.2.2.2.2.2.2.2.1,()),())).bind fun d=>bif !d.1 then some (x.2.2.1,x.2.2.2.1,x.2.2.2.2.1,x.2.2.2.2.2.1,x.2.2.2.2.2.2.1,x.2.2.2.2.2.2.2.1,x.2.2.2.2.2.2.2.2.1,x.2.2.2.2.2.2.2.2.2.1,x.2.2.2.2.2.2.2.2.2.2.1,false,x.2.2.2.2.2.2.2.2.2.2.2.1,x.2.2.2.2.2.2.2.2.2.2.2.2.1,x.2.2.2.2.2.2.2.2.2.2.2.2.2.1,x.2.2.2.2.2.2.2.2.2.2.2.2.2.2.1,())else x.2.2.2.2.2.2.2.2.2.2.2.2.1[x.2.2.2.2.2.2.2.2.2.1]?.bind fun e=>x.2.2.2.2.2.2.2.2.2.2.2.2.1[x.2.2.2.2.2.2.2.2.2.2.1]?.bind fun f=>(Em ((x.2.2.2.2.2.2.2.2.2.2.2.1,()),(x.2.2.1,x.2.2.2.1,x.2.2.2.2.1,x.2.2.2.2.2.1,x.2.2.2.2.2.2.1,x.2.2.2.2.2.2.2.1,x.2.2.2.2.2.2.2.2.1,e.2.2.2.2.2.2.2.1,f.2.2.2.2.2.2.2.2.1,()),zXq.wrap (x.2.1+1),v.1,v.2.1,())).bind fun v=>none
def gc:Ent:=⟨127,⟨(.agg (.slot .bool (.own 0 (.own 1 (.own 2 (.own 3 (.slot .i .nil)))))) (.agg (si 7 (.nown 1 7 (.nown 1 8 .nil))) .nil)),(.tree false 0 (.slice Af) (.tree false 0 Ae (.lst false A0 (.lst false A0 .nil))))⟩,⟨(.agg (.own 0 .nil) (.agg (si 7 (.nown 1 7 (.nown 1 8 .nil))) (.slot .bool .nil))),(.tree false 0 (.slice Af) (.tree false 0 Ae (.lst false A0 (.lst false A0 .nil))))⟩,GU⟩
theorem Ak8:Aj prog gc:=okA (C:=An2) (hcB (all_cons wQ (all_cons wN (all_cons wG all_nil)))) func127
def An1:Cfg:={ti:=Az,ents:=[Ux,Uw,Uv],ann:=[],lent:=4,hid:=[((3,2),[6]),((5,1),[6])]}
def FX (x:Bool×Int×Int×Int×Int×Int×Int×Int×Int×Nat×Nat×A7):Option (Int×Int×Int×Int×Int×Int×Int×Bool×List (List A2)×List A3×List A1×List A1×List (List A2)×A9):=x.2.2.2.2.2.2.2.2.2.2.2.2.1[x.2.2.2.2.2.2.2.2.2.1]?.bind fun v=>x.2.2.2.2.2.2.2.2.2.2.2.2.1[x.2.2.2.2.2.2.2.2.2.2.1]?.bind fun a=>(FN ((x.2.2.2.2.2.2.2.2.2.2.2.1,()),(x.2.2.1,x.2.2.2.1,x.2.2.2.2.1,x.2.2.2.2.2.1,x.2.2.2.2.2.2.1,x.2.2.2.2.2.2.2.1,x.2.2.2.2.2.2.2.2.1,v.2.2.2.2.2.2.2.1,a.2.2.2.2.2.2.2.2.1,()),zXq.wrap (x.2.1+1),())).bind fun v=>bif !v.2.2.1 then none else bif x.1 then bif decide (v.2.1<=v.1)then none else x.2.2.2.2.2.2.2.2.2.2.2.2.1[x.2.2.2.2.2.2.2.2.2.1]?.bind fun b=>x.2.2.2.2.2.2.2.2.2.2.2.2.1[x.2.2.2.2.2.2.2.2.2.2.1]?.bind fun c=>(GK ((x.2.2.2.2.2.2.2.2.2.2.2.1,()),(x.2.2.1,x.2.2.2.1,x.2.2.2.2.1,x.2.2.2.2.2.1,x.2.2.2.2.2.2.1,x.2.2.2.2.2.2.2.1,x.2.2.2.2.2.2.2.2.1,b.2.2.2.2.2.2.2.1,c.2.2.2.2.2.2.2.2.1,()),())).bind fun d=>bif !d.1 then none else x.2.2.2.2.2.2.2.2.2.2.2.2.1[x.2.2.2.2.2.2.2.2.2.1]?.bind fun e=>x.2.2.2.2.2.2.2.2.2.2.2.2.1[x.2.2.2.2.2.2.2.2.2.2.1]?.bind fun f=>(Em ((x.2.2.2.2.2.2.2.2.2.2.2.1,()),(x.2.2.1,x.2.2.2.1,x.2.2.2.2.1,x.2.2.2.2.2.1,x.2.2.2.2.2.2.1,x.2.2.2.2.2.2.2.1,x.2.2.2.2.2.2.2.2.1,e.2.2.2.2.2.2.2.1,f.2.2.2.2.2.2.2.2.1,()),zXq.wrap (x.2.1+1),v.1,v.2.1,())).bind fun v=>some (v.1,v.2.1,v.2.2.1,v.2.2.2.1,v.2.2.2.2.1,v.2.2.2.2.2.1,v.2.2.2.2.2.2.1,true,x.2.2.2.2.2.2.2.2.2.2.2.1,x.2.2.2.2.2.2.2.2.2.2.2.2.1,x.2.2.2.2.2.2.2.2.2.2.2.2.2.1,x.2.2.2.2.2.2.2.2.2.2.2.2.2.2.1,v.2.2.2.2.2.2.2.1,v.2.2.2.2.2.2.2.2.1,v.2.2.2.2.2.2.2.2.2.1,())else x.2.2.2.2.2.2.2.2.2.2.2.2.1[x.2.2.2.2.2.2.2.2.2.1]?.bind fun b=>x.2.2.2.2.2.2.2.2.2.2.2.2.1[x.2.2.2.2.2.2.2.2.2.2.1]?.bind fun c=>(GK ((x.2.2.2.2.2.2.2.2.2.2.2.1,()),(x.2.2.1,x.2.2.2.1,x.2.2.2.2.1,x.2.2.2.2.2.1,x.2.2.2.2.2.2.1,x.2.2.2.2.2.2.2.1,x.2.2.2.2.2.2.2.2.1,b.2.2.2.2.2.2.2.1,c.2.2.2.2.2.2.2.2.1,()),())).bind fun d=>bif !d.1 then none else x.2.2.2.2.2.2.2.2.2.2.2.2.1[x.2.2.2.2.2.2.2.2.2.1]?.bind fun e=>x.2.2.2.2.2.2.2.2.2.2.2.2.1[x.2.2.2.2.2.2.2.2.2.2.1]?.bind fun f=>(Em ((x.2.2.2.2.2.2.2.2.2.2.2.1,()),(x.2.2.1,x.2.2.2.1,x.2.2.2.2.1,x.2.2.2.2.2.1,x.2.2.2.2.2.2.1,x.2.2.2.2.2.2.2.1,x.2.2.2.2.2.2.2.2.1,e.2.2.2.2.2.2.2.1,f.2.2.2.2.2.2.2.2.1,()),zXq.wrap (x.2.1+1),v.1,v.2.1,())).bind fun v=>some (v.1,v.2.1,v.2.2.1,v.2.2.2.1,v.2.2.2.2.1,v.2.2.2.2.2.1,v.2.2.2.2.2.2.1,true,x.2.2.2.2.2.2.2.2.2.2.2.1,x.2.2.2.2.2.2.2.2.2.2.2.2.1,x.2.2.2.2.2.2.2.2.2.2.2.2.2.1,x.2.2.2.2.2.2.2.2.2.2.2.2.2.2.1,v.2.2.2.2.2.2.2.1,v.2.2.2.2.2.2.2.2.1,v.2.2.2.2.2.2.2.2.2.1,())
def gb:Ent:=⟨127,⟨(.agg (.slot .bool (.own 0 (.own 1 (.own 2 (.own 3 (.slot .i .nil)))))) (.agg (si 7 (.nown 1 7 (.nown 1 8 .nil))) .nil)),(.tree false 0 (.slice Af) (.tree false 0 Ae (.lst false A0 (.lst false A0 .nil))))⟩,⟨(.agg (.own 4 .nil) (.agg (si 7 (.own 5 (.own 6 .nil))) (.slot .bool .nil))),(.tree false 0 (.slice Af) (.tree false 0 Ae (.lst false A0 (.lst false A0 (.tree false 1 (.slice Af) (.lst false A0 (.lst false A0 .nil)))))))⟩,FX⟩
theorem Ak7:Aj prog gb:=okA (C:=An1) (hcB (all_cons wQ (all_cons wN (all_cons wG all_nil)))) func127
def An0:Cfg:={ti:=Az,ents:=[gc,gb,Qh,gj],ann:=[],lent:=5,pre:=[(some (0,1)),(some (0,3)),(some (0,4))],two:=[127]}
def HJ (x:Int×Bool×Int×A7):Option (Int×Bool×Int×List A3×List (List A2)×A9):=if 0<=x.1/\x.1<(x.2.2.2.2.1.length:Int)then x.2.2.2.2.1[0+x.1.toNat]?.bind fun v=>x.2.2.2.2.1[0+x.1.toNat]?.bind fun a=>x.2.2.2.2.1[0+x.1.toNat]?.bind fun b=>(IH ((x.2.2.2.1,()),(v.1,v.2.1,v.2.2.1,v.2.2.2.1,v.2.2.2.2.1,v.2.2.2.2.2.1,v.2.2.2.2.2.2.1,a.2.2.2.2.2.2.2.1,b.2.2.2.2.2.2.2.2.1,()),())).bind fun c=>bif c.1==0 then bif x.2.2.1==999 then some (6,x.2.1,x.2.2.1,x.2.2.2.2.1,x.2.2.2.1,x.2.2.2.2.2.1,x.2.2.2.2.2.2.1,())else bif c.1==0 then Td (GU (x.2.1,x.2.2.1,v.1,v.2.1,v.2.2.1,v.2.2.2.1,v.2.2.2.2.1,v.2.2.2.2.2.1,v.2.2.2.2.2.2.1,0+x.1.toNat,0+x.1.toNat,x.2.2.2.1,x.2.2.2.2.1,x.2.2.2.2.2.1,x.2.2.2.2.2.2.1,())) (fun v=>bif v.2.2.2.2.2.2.2.2.2.1 then if 0<=x.1/\x.1<(v.2.2.2.2.2.2.2.2.2.2.2.1.length:Int)then v.2.2.2.2.2.2.2.2.2.2.2.1[0+x.1.toNat]?.bind fun v=>none else none else(Bv (x.1,x.2.1,x.2.2.1,v.2.2.2.2.2.2.2.2.2.2.1,v.2.2.2.2.2.2.2.2.2.2.2.1,v.2.2.2.2.2.2.2.2.2.2.2.2.1,v.2.2.2.2.2.2.2.2.2.2.2.2.2.1,())).bind fun v=>some (5,v.1,v.2.1,v.2.2.2.1,v.2.2.1,v.2.2.2.2.2.2.1,v.2.2.2.2.2.2.2.1,())) ((FX (x.2.1,x.2.2.1,v.1,v.2.1,v.2.2.1,v.2.2.2.1,v.2.2.2.2.1,v.2.2.2.2.2.1,v.2.2.2.2.2.2.1,0+x.1.toNat,0+x.1.toNat,x.2.2.2.1,x.2.2.2.2.1,x.2.2.2.2.2.1,x.2.2.2.2.2.2.1,())).bind fun v=>bif v.2.2.2.2.2.2.2.1 then if 0<=x.1/\x.1<(v.2.2.2.2.2.2.2.2.2.1.length:Int)then v.2.2.2.2.2.2.2.2.2.1[0+x.1.toNat]?.bind fun d=>(Bv (x.1,x.2.1,zXq.wrap (x.2.2.1+1),v.2.2.2.2.2.2.2.2.2.2.2.2.1,v.2.2.2.2.2.2.2.2.2.1.set (0+x.1.toNat) (v.1,v.2.1,v.2.2.1,v.2.2.2.1,v.2.2.2.2.1,v.2.2.2.2.2.1,v.2.2.2.2.2.2.1,v.2.2.2.2.2.2.2.2.2.2.2.2.2.1,v.2.2.2.2.2.2.2.2.2.2.2.2.2.2.1,()),v.2.2.2.2.2.2.2.2.2.2.1,v.2.2.2.2.2.2.2.2.2.2.2.1,())).bind fun v=>some (c.1,v.1,v.2.1,v.2.2.2.1,v.2.2.1,v.2.2.2.2.2.2.1,v.2.2.2.2.2.2.2.1,())else none else(Bv (x.1,x.2.1,x.2.2.1,v.2.2.2.2.2.2.2.2.1,v.2.2.2.2.2.2.2.2.2.1,v.2.2.2.2.2.2.2.2.2.2.1,v.2.2.2.2.2.2.2.2.2.2.2.1,())).bind fun v=>some (5,v.1,v.2.1,v.2.2.2.1,v.2.2.1,v.2.2.2.2.2.2.1,v.2.2.2.2.2.2.2.1,()))else(Bv (x.1,x.2.1,x.2.2.1,x.2.2.2.1,x.2.2.2.2.1,x.2.2.2.2.2.1,x.2.2.2.2.2.2.1,())).bind fun v=>some (c.1,v.1,v.2.1,v.2.2.2.1,v.2.2.1,v.2.2.2.2.2.2.1,v.2.2.2.2.2.2.2.1,())else bif c.1==0 then Td (GU (x.2.1,x.2.2.1,v.1,v.2.1,v.2.2.1,v.2.2.2.1,v.2.2.2.2.1,v.2.2.2.2.2.1,v.2.2.2.2.2.2.1,0+x.1.toNat,0+x.1.toNat,x.2.2.2.1,x.2.2.2.2.1,x.2.2.2.2.2.1,x.2.2.2.2.2.2.1,())) (fun v=>bif v.2.2.2.2.2.2.2.2.2.1 then if 0<=x.1/\x.1<(v.2.2.2.2.2.2.2.2.2.2.2.1.length:Int)then v.2.2.2.2.2.2.2.2.2.2.2.1[0+x.1.toNat]?.bind fun v=>none else none else(Bv (x.1,x.2.1,x.2.2.1,v.2.2.2.2.2.2.2.2.2.2.1,v.2.2.2.2.2.2.2.2.2.2.2.1,v.2.2.2.2.2.2.2.2.2.2.2.2.1,v.2.2.2.2.2.2.2.2.2.2.2.2.2.1,())).bind fun v=>some (5,v.1,v.2.1,v.2.2.2.1,v.2.2.1,v.2.2.2.2.2.2.1,v.2.2.2.2.2.2.2.1,())) ((FX (x.2.1,x.2.2.1,v.1,v.2.1,v.2.2.1,v.2.2.2.1,v.2.2.2.2.1,v.2.2.2.2.2.1,v.2.2.2.2.2.2.1,0+x.1.toNat,0+x.1.toNat,x.2.2.2.1,x.2.2.2.2.1,x.2.2.2.2.2.1,x.2.2.2.2.2.2.1,())).bind fun v=>bif v.2.2.2.2.2.2.2.1 then if 0<=x.1/\x.1<(v.2.2.2.2.2.2.2.2.2.1.length:Int)then v.2.2.2.2.2.2.2.2.2.1[0+x.1.toNat]?.bind fun d=>(Bv (x.1,x.2.1,zXq.wrap (x.2.2.1+1),v.2.2.2.2.2.2.2.2.2.2.2.2.1,v.2.2.2.2.2.2.2.2.2.1.set (0+x.1.toNat) (v.1,v.2.1,v.2.2.1,v.2.2.2.1,v.2.2.2.2.1,v.2.2.2.2.2.1,v.2.2.2.2.2.2.1,v.2.2.2.2.2.2.2.2.2.2.2.2.2.1,v.2.2.2.2.2.2.2.2.2.2.2.2.2.2.1,()),v.2.2.2.2.2.2.2.2.2.2.1,v.2.2.2.2.2.2.2.2.2.2.2.1,())).bind fun v=>some (c.1,v.1,v.2.1,v.2.2.2.1,v.2.2.1,v.2.2.2.2.2.2.1,v.2.2.2.2.2.2.2.1,())else none else(Bv (x.1,x.2.1,x.2.2.1,v.2.2.2.2.2.2.2.2.1,v.2.2.2.2.2.2.2.2.2.1,v.2.2.2.2.2.2.2.2.2.2.1,v.2.2.2.2.2.2.2.2.2.2.2.1,())).bind fun v=>some (5,v.1,v.2.1,v.2.2.2.1,v.2.2.1,v.2.2.2.2.2.2.1,v.2.2.2.2.2.2.2.1,()))else(Bv (x.1,x.2.1,x.2.2.1,x.2.2.2.1,x.2.2.2.2.1,x.2.2.2.2.2.1,x.2.2.2.2.2.2.1,())).bind fun v=>some (c.1,v.1,v.2.1,v.2.2.2.1,v.2.2.1,v.2.2.2.2.2.2.1,v.2.2.2.2.2.2.2.1,())else none
def ga:Ent:=⟨60,⟨(.ptr 0 0 0 (.slot .i .nil)),(.cells 6 (.slot .bool (.own 1 (.own 2 (.own 3 (.own 4 (.slot .i .nil)))))) (.tree false 0 (.slice Af) (.tree false 0 Ae (.lst false A0 (.lst false A0 .nil)))))⟩,⟨(.agg (.slot .i (.const (AV.nils) .nil)) .nil),(.cells 6 (.slot .bool (.own 5 (.own 2 (.own 6 (.own 7 (.slot .i .nil)))))) (.gone (.tree false 1 Ae (.gone (.gone (.tree false 1 (.slice Af) (.lst false A0 (.lst false A0 .nil))))))))⟩,HJ⟩
theorem Ak6:Aj prog ga:=okA (C:=An0) (hcB (all_cons Ak8 (all_cons Ak7 (all_cons UA (all_cons Akb all_nil))))) func60
abbrev fY:=Int×Int×Int×Int×Int×Int×Bool×Int×Int×Bool×Int×List (List A2)×List A3×List A1×List A1×Int×A6
abbrev fV:=Int×Unit
abbrev fW:=Int×Unit ⊕ Int×Unit
def E7 (i:fY)(v:fV)(R:Type)(K:fV ⊕ fW->Option R):Option R:=bif decide (v.1<(i.2.2.2.2.2.2.2.2.2.2.2.2.1.length:Int))then if 0<=v.1/\v.1<(i.2.2.2.2.2.2.2.2.2.2.2.2.1.length:Int)then i.2.2.2.2.2.2.2.2.2.2.2.2.1[0+v.1.toNat]?.bind fun a=>bif decide (a.1<i.2.1)then K (.inl (zXq.wrap (v.1+1),()))else K (.inr (.inl (v.1,())))else none else K (.inr (.inr (v.1,())))
theorem Mp:AW E7:=fun i v R K=>Ad (Ar (Ac fun _=>Ad (Aa) (Aa))) (Aa)
def Ut:Tmpl:=⟨(jk 3 (.ptr 0 0 0 (.ptr 1 0 0 (.ptr 2 0 0 (.ptr 3 0 0 (jk 2 (.ptr 8 0 0 (.junk (.slot .i (jk 137 .nil)))))))))),(.cells 6 (si 6 .nil) (.cells 6 (.slot .bool (.const (AV.nils) (.const (AV.nils) (.const (AV.nils) (.const (AV.nils) (.slot .i .nil)))))) (.cells 2 (.slot .i (.const (AV.nils) .nil)) (.cells 6 (.slot .bool (.own 4 (.own 5 (.own 6 (.own 7 (.slot .i .nil)))))) (.tree false 0 (.slice Af) (.tree false 0 Ae (.lst false A0 (.lst false A0 (.cells 9 (si 7 (.const (AV.nils) (.const (AV.nils) .nil))) .nil)))))))))⟩
def fU:Exs fY fW:=xs (.exit 0) (fun i p=>⟨jn 4 (AV.ptr 1 none 0 0::AV.ptr 2 none 0 0::AV.ptr 3 none 0 0::jn 2 (AV.ptr 8 none 0 0::jn 1 (.n (p.1)::jn 137 ([])))),[some (Cont.cells 6 [[AV.pv .i i.1,AV.pv .i i.2.1,AV.pv (Ty.int zXq) i.2.2.1,AV.pv .i i.2.2.2.1,AV.pv .i i.2.2.2.2.1,AV.pv .i i.2.2.2.2.2.1]]),some (Cont.cells 6 [[AV.pv .bool i.2.2.2.2.2.2.1,AV.nils,AV.nils,AV.nils,AV.nils,AV.pv .i i.2.2.2.2.2.2.2.1]]),some (Cont.cells 2 [[AV.pv .i i.2.2.2.2.2.2.2.2.1,AV.nils]]),some (Cont.cells 6 [[AV.pv .bool i.2.2.2.2.2.2.2.2.2.1,AV.own 4 none none,AV.own 5 none none,AV.own 6 none none,AV.own 7 none none,AV.pv .i i.2.2.2.2.2.2.2.2.2.2.1]]),some (Cont.tree false 0 (.slice Af) i.2.2.2.2.2.2.2.2.2.2.2.1 none),some (Cont.tree false 0 Ae i.2.2.2.2.2.2.2.2.2.2.2.2.1 none),some (Cont.lst false A0 i.2.2.2.2.2.2.2.2.2.2.2.2.2.1),some (Cont.lst false A0 i.2.2.2.2.2.2.2.2.2.2.2.2.2.2.1),some (Cont.cells 9 [[AV.pv .i i.2.2.2.2.2.2.2.2.2.2.2.2.2.2.2.1,AV.pv .i i.2.2.2.2.2.2.2.2.2.2.2.2.2.2.2.2.1,AV.pv .i i.2.2.2.2.2.2.2.2.2.2.2.2.2.2.2.2.2.1,AV.pv .i i.2.2.2.2.2.2.2.2.2.2.2.2.2.2.2.2.2.2.1,AV.pv .i i.2.2.2.2.2.2.2.2.2.2.2.2.2.2.2.2.2.2.2.1,AV.pv .i i.2.2.2.2.2.2.2.2.2.2.2.2.2.2.2.2.2.2.2.2.1,AV.pv .i i.2.2.2.2.2.2.2.2.2.2.2.2.2.2.2.2.2.2.2.2.2.1,AV.nils,AV.nils]])]⟩)<|x1 (.exit 0) fun i p=>⟨jn 4 (AV.ptr 1 none 0 0::AV.ptr 2 none 0 0::AV.ptr 3 none 0 0::jn 2 (AV.ptr 8 none 0 0::jn 1 (.n (p.1)::jn 137 ([])))),[some (Cont.cells 6 [[AV.pv .i i.1,AV.pv .i i.2.1,AV.pv (Ty.int zXq) i.2.2.1,AV.pv .i i.2.2.2.1,AV.pv .i i.2.2.2.2.1,AV.pv .i i.2.2.2.2.2.1]]),some (Cont.cells 6 [[AV.pv .bool i.2.2.2.2.2.2.1,AV.nils,AV.nils,AV.nils,AV.nils,AV.pv .i i.2.2.2.2.2.2.2.1]]),some (Cont.cells 2 [[AV.pv .i i.2.2.2.2.2.2.2.2.1,AV.nils]]),some (Cont.cells 6 [[AV.pv .bool i.2.2.2.2.2.2.2.2.2.1,AV.own 4 none none,AV.own 5 none none,AV.own 6 none none,AV.own 7 none none,AV.pv .i i.2.2.2.2.2.2.2.2.2.2.1]]),some (Cont.tree false 0 (.slice Af) i.2.2.2.2.2.2.2.2.2.2.2.1 none),some (Cont.tree false 0 Ae i.2.2.2.2.2.2.2.2.2.2.2.2.1 none),some (Cont.lst false A0 i.2.2.2.2.2.2.2.2.2.2.2.2.2.1),some (Cont.lst false A0 i.2.2.2.2.2.2.2.2.2.2.2.2.2.2.1),some (Cont.cells 9 [[AV.pv .i i.2.2.2.2.2.2.2.2.2.2.2.2.2.2.2.1,AV.pv .i i.2.2.2.2.2.2.2.2.2.2.2.2.2.2.2.2.1,AV.pv .i i.2.2.2.2.2.2.2.2.2.2.2.2.2.2.2.2.2.1,AV.pv .i i.2.2.2.2.2.2.2.2.2.2.2.2.2.2.2.2.2.2.1,AV.pv .i i.2.2.2.2.2.2.2.2.2.2.2.2.2.2.2.2.2.2.2.1,AV.pv .i i.2.2.2.2.2.2.2.2.2.2.2.2.2.2.2.2.2.2.2.2.1,AV.pv .i i.2.2.2.2.2.2.2.2.2.2.2.2.2.2.2.2.2.2.2.2.2.1,AV.nils,AV.nils]])]⟩
def fX:=((.v (.i (.i (.i (.i (.i (.i (.i (.i (.i (.i (.i (.i (.i (.i (.i (.i (.i (.i (.i (.i (.i (.i .n))))))))))))))))))))))):Pk Ut.ty _ _)
def Ahp:Cfg:={ti:=Az,ents:=[Uz,gx,gk,ga,Qh,np,mW,UF,bF,gE,gD],ann:=[(11,Ao Ut 0 (spP fX) E7 fU.E)],lent:=0,hid:=[((5,1),[2]),((8,1),[2]),((16,1),[2]),((32,1),[2])],gho:=[(13,[5])]}
def IE (x:A5×A6×Unit):Option (Bool×Int×Int×List (List A2)×List A3×List A1×List A1×List Int×Unit):=(K5 ((x.1.1,(x.1.2.1.1,()),x.1.2.2.1,x.1.2.2.2.1,x.1.2.2.2.2.1,x.1.2.2.2.2.2.1,()),())).bind fun v=>(DT ((x.1.1,(x.1.2.1.1,()),x.1.2.2.1,x.1.2.2.2.1,x.1.2.2.2.2.1,x.1.2.2.2.2.2.1,()),x.2.1.2.1,())).bind fun a=>(ED ((x.1.1,(x.1.2.1.1,()),x.1.2.2.1,x.1.2.2.2.1,x.1.2.2.2.2.1,x.1.2.2.2.2.2.1,()),())).bind fun b=>bif !b.1 then some (v.1,v.2.1,6,v.2.2.1,v.2.2.2.1,v.2.2.2.2.1,v.2.2.2.2.2.1,[],())else(Eu ((x.2.1.1,x.2.1.2.1,x.2.1.2.2.1,x.2.1.2.2.2.1,x.2.1.2.2.2.2.1,x.2.1.2.2.2.2.2.1,()),())).bind fun c=>bif !c.1 then some (v.1,v.2.1,6,v.2.2.1,v.2.2.2.1,v.2.2.2.2.1,v.2.2.2.2.2.1,[],())else bif !(x.2.1.1==1)==decide (a.1<0)then some (v.1,v.2.1,6,v.2.2.1,v.2.2.2.1,v.2.2.2.2.1,v.2.2.2.2.2.1,[],())else bif x.2.1.1==1 then bif (x.1.2.2.1.length:Int)==6 then some (v.1,v.2.1,6,v.2.2.1,v.2.2.2.1,v.2.2.2.2.1,v.2.2.2.2.2.1,[],())else(FY (x.2.1.2.1,x.2.1.2.2.1,x.1.2.2.2.2.2.1,())).bind fun d=>(Au (fun e=>E7 (x.2.1.1,x.2.1.2.1,x.2.1.2.2.1,x.2.1.2.2.2.1,x.2.1.2.2.2.2.1,x.2.1.2.2.2.2.2.1,false,0,0,v.1,v.2.1,v.2.2.1,v.2.2.2.1,v.2.2.2.2.1,v.2.2.2.2.2.1,d.1,d.2.1,d.2.2.1,d.2.2.2.1,d.2.2.2.2.1,d.2.2.2.2.2.1,d.2.2.2.2.2.2.1,()) e _ some) (0,())).bind fun p=>Ap p (fun p=>if(0:Int)<=0/\0<=p.1/\p.1<=(v.2.2.2.1.length:Int)then if(Dr v.2.2.2.1 (some (0,p.1.toNat-Int.toNat 0))).length<=338311270084 then if(Dr v.2.2.2.1 (some (0,p.1.toNat-Int.toNat 0))++[(d.1,d.2.1,d.2.2.1,d.2.2.2.1,d.2.2.2.2.1,d.2.2.2.2.2.1,d.2.2.2.2.2.2.1,[],[],())]).length<=338311270084 then if 0<=p.1/\p.1<=(v.2.2.2.1.length:Int)/\(v.2.2.2.1.length:Int)<=(v.2.2.2.1.length:Int)then if(Dr v.2.2.2.1 (some (0,p.1.toNat-Int.toNat 0))++[(d.1,d.2.1,d.2.2.1,d.2.2.2.1,d.2.2.2.2.1,d.2.2.2.2.2.1,d.2.2.2.2.2.2.1,[],[],())]++Dr v.2.2.2.1 (some (0+p.1.toNat,(v.2.2.2.1.length:Int).toNat-p.1.toNat))).length<=338311270084 then some (v.1,v.2.1,0,v.2.2.1,Dr v.2.2.2.1 (some (0,p.1.toNat-Int.toNat 0))++[(d.1,d.2.1,d.2.2.1,d.2.2.2.1,d.2.2.2.2.1,d.2.2.2.2.2.1,d.2.2.2.2.2.2.1,[],[],())]++Dr v.2.2.2.1 (some (0+p.1.toNat,(v.2.2.2.1.length:Int).toNat-p.1.toNat)),v.2.2.2.2.1,v.2.2.2.2.2.1,[],())else none else none else none else none else none) fun p=>if(0:Int)<=0/\0<=p.1/\p.1<=(v.2.2.2.1.length:Int)then if(Dr v.2.2.2.1 (some (0,p.1.toNat-Int.toNat 0))).length<=338311270084 then if(Dr v.2.2.2.1 (some (0,p.1.toNat-Int.toNat 0))++[(d.1,d.2.1,d.2.2.1,d.2.2.2.1,d.2.2.2.2.1,d.2.2.2.2.2.1,d.2.2.2.2.2.2.1,[],[],())]).length<=338311270084 then if 0<=p.1/\p.1<=(v.2.2.2.1.length:Int)/\(v.2.2.2.1.length:Int)<=(v.2.2.2.1.length:Int)then if(Dr v.2.2.2.1 (some (0,p.1.toNat-Int.toNat 0))++[(d.1,d.2.1,d.2.2.1,d.2.2.2.1,d.2.2.2.2.1,d.2.2.2.2.2.1,d.2.2.2.2.2.2.1,[],[],())]++Dr v.2.2.2.1 (some (0+p.1.toNat,(v.2.2.2.1.length:Int).toNat-p.1.toNat))).length<=338311270084 then some (v.1,v.2.1,0,v.2.2.1,Dr v.2.2.2.1 (some (0,p.1.toNat-Int.toNat 0))++[(d.1,d.2.1,d.2.2.1,d.2.2.2.1,d.2.2.2.2.1,d.2.2.2.2.2.1,d.2.2.2.2.2.2.1,[],[],())]++Dr v.2.2.2.1 (some (0+p.1.toNat,(v.2.2.2.1.length:Int).toNat-p.1.toNat)),v.2.2.2.2.1,v.2.2.2.2.2.1,[],())else none else none else none else none else none else(lAt x.1.2.2.1 a.1).bind fun d=>bif d.2.2.1 != 1 then some (v.1,v.2.1,6,v.2.2.1,v.2.2.2.1,v.2.2.2.2.1,v.2.2.2.2.2.1,[],())else(K4 (v.2.2.2.2.2.1,x.2.1.2.1,())).bind fun e=>bif x.2.1.1==2 then(Hf (a.1,x.2.1.2.2.2.1,v.1,v.2.1,v.2.2.1,v.2.2.2.1,v.2.2.2.2.1,e.1,())).bind fun v=>bif v.2.1==0 then some (v.2.2.1,v.2.2.2.1,v.2.1,v.2.2.2.2.1,v.2.2.2.2.2.1,v.2.2.2.2.2.2.1,v.2.2.2.2.2.2.2.1,[v.1],())else some (v.2.2.1,v.2.2.2.1,v.2.1,v.2.2.2.2.1,v.2.2.2.2.2.1,v.2.2.2.2.2.2.1,v.2.2.2.2.2.2.2.1,[],())else bif x.2.1.1==4 then(Kt (a.1,x.2.1.2.2.2.1,x.2.1.2.2.2.2.1,v.1,v.2.1,v.2.2.1,v.2.2.2.1,v.2.2.2.2.1,e.1,())).bind fun v=>some (v.2.1,v.2.2.1,v.1,v.2.2.2.1,v.2.2.2.2.1,v.2.2.2.2.2.1,v.2.2.2.2.2.2.1,v.2.2.2.2.2.2.2.1,())else bif x.2.1.1==3 then(IC (a.1,x.2.1.1,x.2.1.2.1,x.2.1.2.2.1,x.2.1.2.2.2.1,x.2.1.2.2.2.2.1,x.2.1.2.2.2.2.2.1,v.1,v.2.1,v.2.2.1,v.2.2.2.1,v.2.2.2.2.1,e.1,())).bind fun v=>some (v.2.1,v.2.2.1,v.1,v.2.2.2.1,v.2.2.2.2.1,v.2.2.2.2.2.1,v.2.2.2.2.2.2.1,[],())else bif x.2.1.1==5 then(HJ (a.1,v.1,v.2.1,v.2.2.1,v.2.2.2.1,v.2.2.2.2.1,e.1,())).bind fun v=>some (v.2.1,v.2.2.1,v.1,v.2.2.2.2.1,v.2.2.2.1,v.2.2.2.2.2.1,v.2.2.2.2.2.2.1,[],())else(Bv (a.1,v.1,v.2.1,v.2.2.1,v.2.2.2.1,v.2.2.2.2.1,e.1,())).bind fun v=>some (v.1,v.2.1,0,v.2.2.1,v.2.2.2.1,v.2.2.2.2.2.2.1,v.2.2.2.2.2.2.2.1,[],())
def fZ:Ent:=⟨27,⟨(.slot Dh (.slot YOp .nil)),.nil⟩,⟨(.agg (.slot .bool (.own 0 (.own 1 (.own 2 (.own 3 (.slot .i .nil)))))) (.agg (.slot .i (.own 4 .nil)) .nil)),(.tree false 1 (.slice Af) (.lst false Ae (.lst false A0 (.lst false A0 (.lst false .i .nil)))))⟩,IE⟩
theorem wA:CfgOK prog Ahp:=hcB (all_cons yn (all_cons Akn (all_cons Akc (all_cons Ak6 (all_cons UA (all_cons Al9 (all_cons A3a (all_cons zk (all_cons Ahn (all_cons Aky (all_cons Akx all_nil)))))))))))
theorem wz:AN prog Ahp (lpc f27 0):=lkA wA Ut fX E7 fU [4,5,6,9,11] Mp
theorem Ak5:Aj prog fZ:=okB wA func27 wz
abbrev fT:=List (List A6)×Int×Bool×Int×Unit
abbrev fQ:=Bool×Int×Bool×Int×List (List A2)×List A6×List Int×A8
abbrev fR:=Bool×Bool×Int×List (List A2)×List A6×List Int×A8
def Er (i:fT)(v:fQ)(R:Type)(K:fQ ⊕ fR->Option R):Option R:=bif decide (v.2.1<(i.1.length:Int))then if 0<=v.2.1/\v.2.1<(v.2.2.2.2.2.2.1.length:Int)then v.2.2.2.2.2.2.1[0+v.2.1.toNat]?.bind fun a=>(lAt i.1 v.2.1).bind fun b=>bif a==(b.length:Int)then K (.inl (v.1,zXq.wrap (v.2.1+1),v.2.2.1,v.2.2.2.1,v.2.2.2.2.1,v.2.2.2.2.2.1,v.2.2.2.2.2.2.1,v.2.2.2.2.2.2.2.1,v.2.2.2.2.2.2.2.2.1,v.2.2.2.2.2.2.2.2.2.1,()))else(lAt i.1 v.2.1).bind fun c=>if 0<=v.2.1/\v.2.1<(v.2.2.2.2.2.2.1.length:Int)then v.2.2.2.2.2.2.1[0+v.2.1.toNat]?.bind fun d=>(lAt c d).bind fun e=>(IE ((v.2.2.1,(v.2.2.2.2.1,()),v.2.2.2.2.2.2.2.1,v.2.2.2.2.2.2.2.2.1,v.2.2.2.2.2.2.2.2.2.1,v.2.2.2.1,()),(e.1,e.2.1,e.2.2.1,e.2.2.2.1,e.2.2.2.2.1,e.2.2.2.2.2.1,()),())).bind fun f=>if(v.2.2.2.2.2.1++[(e.1,e.2.1,e.2.2.1,e.2.2.2.1,e.2.2.2.2.1,e.2.2.2.2.2.1,())]).length<=733007751850 then bif f.2.2.1==0 then if 0<=v.2.1/\v.2.1<(v.2.2.2.2.2.2.1.length:Int)then v.2.2.2.2.2.2.1[0+v.2.1.toNat]?.bind fun g=>if 0<=v.2.1/\v.2.1<(v.2.2.2.2.2.2.1.length:Int)then v.2.2.2.2.2.2.1[0+v.2.1.toNat]?.bind fun h=>K (.inl (true,zXq.wrap (v.2.1+1),f.1,f.2.1,f.2.2.2.1,v.2.2.2.2.2.1++[(e.1,e.2.1,e.2.2.1,e.2.2.2.1,e.2.2.2.2.1,e.2.2.2.2.2.1,())],v.2.2.2.2.2.2.1.set (0+v.2.1.toNat) (zXq.wrap (g+1)),f.2.2.2.2.1,f.2.2.2.2.2.1,f.2.2.2.2.2.2.1,()))else none else none else bif f.2.2.1==1 then K (.inl (true,zXq.wrap (v.2.1+1),f.1,f.2.1,f.2.2.2.1,v.2.2.2.2.2.1++[(e.1,e.2.1,e.2.2.1,e.2.2.2.1,e.2.2.2.2.1,e.2.2.2.2.2.1,())],v.2.2.2.2.2.2.1,f.2.2.2.2.1,f.2.2.2.2.2.1,f.2.2.2.2.2.2.1,()))else(lAt i.1 v.2.1).bind fun g=>if 0<=v.2.1/\v.2.1<(v.2.2.2.2.2.2.1.length:Int)then v.2.2.2.2.2.2.1[0+v.2.1.toNat]?.bind fun h=>K (.inl (true,zXq.wrap (v.2.1+1),f.1,f.2.1,f.2.2.2.1,v.2.2.2.2.2.1++[(e.1,e.2.1,e.2.2.1,e.2.2.2.1,e.2.2.2.2.1,e.2.2.2.2.2.1,())],v.2.2.2.2.2.2.1.set (0+v.2.1.toNat) (g.length:Int),f.2.2.2.2.1,f.2.2.2.2.2.1,f.2.2.2.2.2.2.1,()))else none else none else none else none else K (.inr (v.1,v.2.2.1,v.2.2.2.1,v.2.2.2.2.1,v.2.2.2.2.2.1,v.2.2.2.2.2.2.1,v.2.2.2.2.2.2.2.1,v.2.2.2.2.2.2.2.2.1,v.2.2.2.2.2.2.2.2.2.1,()))
theorem O9:AW Er:=fun i v R K=>Ad (Ar (Ac fun _=>Ac fun _=>Ad (Aa) (Ac fun _=>Ar (Ac fun _=>Ac fun _=>Ac fun _=>Ar (Ad (Ar (Ac fun _=>Ar (Ac fun _=>Aa))) (Ad (Aa) (Ac fun _=>Ar (Ac fun _=>Aa)))))))) (Aa)
def Us:Tmpl:=⟨(.junk (.slot (.slice (.slice YOp)) (jk 2 (.ptr 0 0 0 (.junk (.ptr 1 0 0 (.own 3 (.own 4 (.slot .i (.slot .bool (.slot .i (jk 83 .nil)))))))))))),(.cells 6 (.slot .bool (.const (AV.nils) (.const (AV.nils) (.const (AV.nils) (.const (AV.nils) (.slot .i .nil)))))) (.cells 6 (.slot .bool (.own 2 (.own 5 (.own 6 (.own 7 (.slot .i .nil)))))) (.tree false 1 (.slice Af) (.lst false YOp (.lst false .i (.lst false Ae (.lst false A0 (.lst false A0 .nil))))))))⟩
def fP:Exs fT fR:=x1 (.exit 2) fun i p=>⟨jn 1 (AV.pv (.slice (.slice YOp)) i.1::jn 2 (AV.ptr 0 none 0 0::jn 1 (AV.ptr 1 none 0 0::AV.own 3 none none::AV.own 4 none none::.n (i.2.1)::.b (p.1)::jn 84 ([])))),[some (Cont.cells 6 [[AV.pv .bool i.2.2.1,AV.nils,AV.nils,AV.nils,AV.nils,AV.pv .i i.2.2.2.1]]),some (Cont.cells 6 [[AV.pv .bool p.2.1,AV.own 2 none none,AV.own 5 none none,AV.own 6 none none,AV.own 7 none none,AV.pv .i p.2.2.1]]),some (Cont.tree false 1 (.slice Af) p.2.2.2.1 none),some (Cont.lst false YOp p.2.2.2.2.1),some (Cont.lst false .i p.2.2.2.2.2.1),some (Cont.lst false Ae p.2.2.2.2.2.2.1),some (Cont.lst false A0 p.2.2.2.2.2.2.2.1),some (Cont.lst false A0 p.2.2.2.2.2.2.2.2.1)]⟩
def fS:=((.i (.i (.v (.v (.i (.i (.v (.v (.v (.v (.v (.v (.v (.v .n)))))))))))))):Pk Us.ty _ _)
abbrev wx:=List (List A6)×Bool×Int×Unit
abbrev wq:=Int×Bool×Int×List (List A2)×List A6×List Int×A8
abbrev wv:=Bool×Int×List (List A2)×List A6×List Int×A8 ⊕ Bool×Int×List (List A2)×List A6×List Int×A8
def Ee (i:wx)(v:wq)(R:Type)(K:wq ⊕ wv->Option R):Option R:=bif decide (v.1<200)then(Au (fun a=>Er (i.1,v.1,i.2.1,i.2.2.1,()) a _ some) (false,0,v.2.1,v.2.2.1,v.2.2.2.1,v.2.2.2.2.1,v.2.2.2.2.2.1,v.2.2.2.2.2.2.1,v.2.2.2.2.2.2.2.1,v.2.2.2.2.2.2.2.2.1,())).bind fun p=>bif !p.1 then K (.inr (.inl (p.2.1,p.2.2.1,p.2.2.2.1,p.2.2.2.2.1,p.2.2.2.2.2.1,p.2.2.2.2.2.2.1,p.2.2.2.2.2.2.2.1,p.2.2.2.2.2.2.2.2.1,())))else K (.inl (zXq.wrap (v.1+1),p.2.1,p.2.2.1,p.2.2.2.1,p.2.2.2.2.1,p.2.2.2.2.2.1,p.2.2.2.2.2.2.1,p.2.2.2.2.2.2.2.1,p.2.2.2.2.2.2.2.2.1,()))else K (.inr (.inr (v.2.1,v.2.2.1,v.2.2.2.1,v.2.2.2.2.1,v.2.2.2.2.2.1,v.2.2.2.2.2.2.1,v.2.2.2.2.2.2.2.1,v.2.2.2.2.2.2.2.2.1,())))
theorem Pn:AW Ee:=fun i v R K=>Ad (Ac fun _=>Ad (Aa) (Aa)) (Aa)
def bK:Tmpl:=⟨(.junk (.slot (.slice (.slice YOp)) (jk 2 (.ptr 0 0 0 (.junk (.ptr 1 0 0 (.own 3 (.own 4 (.slot .i (jk 85 .nil)))))))))),(.cells 6 (.slot .bool (.const (AV.nils) (.const (AV.nils) (.const (AV.nils) (.const (AV.nils) (.slot .i .nil)))))) (.cells 6 (.slot .bool (.own 2 (.own 5 (.own 6 (.own 7 (.slot .i .nil)))))) (.tree false 1 (.slice Af) (.lst false YOp (.lst false .i (.lst false Ae (.lst false A0 (.lst false A0 .nil))))))))⟩
def wn:Exs wx wv:=xs .ret (fun i p=>⟨jn 4 (AV.ptr 0 none 0 0::AV.own 3 none none::AV.ptr 1 none 0 0::AV.own 3 none none::jn 87 ([])),[some (Cont.cells 6 [[AV.pv .bool p.1,AV.own 2 none none,AV.own 5 none none,AV.own 6 none none,AV.own 7 none none,AV.pv (Ty.int zXq) p.2.1]]),some (Cont.cells 6 [[AV.pv .bool p.1,AV.own 2 none none,AV.own 5 none none,AV.own 6 none none,AV.own 7 none none,AV.pv .i p.2.1]]),some (Cont.tree false 1 (.slice Af) p.2.2.1 none),some (Cont.lst false YOp p.2.2.2.1),some (Cont.lst false .i p.2.2.2.2.1),some (Cont.lst false Ae p.2.2.2.2.2.1),some (Cont.lst false A0 p.2.2.2.2.2.2.1),some (Cont.lst false A0 p.2.2.2.2.2.2.2.1)]⟩)<|x1 (.exit 0) fun i p=>⟨jn 4 (AV.ptr 0 none 0 0::jn 1 (AV.ptr 1 none 0 0::AV.own 3 none none::jn 87 ([]))),[some (Cont.cells 6 [[AV.pv .bool i.2.1,AV.nils,AV.nils,AV.nils,AV.nils,AV.pv .i i.2.2.1]]),some (Cont.cells 6 [[AV.pv .bool p.1,AV.own 2 none none,AV.own 5 none none,AV.own 6 none none,AV.own 7 none none,AV.pv .i p.2.1]]),some (Cont.tree false 1 (.slice Af) p.2.2.1 none),some (Cont.lst false YOp p.2.2.2.1),some (Cont.lst false .i p.2.2.2.2.1),some (Cont.lst false Ae p.2.2.2.2.2.1),some (Cont.lst false A0 p.2.2.2.2.2.2.1),some (Cont.lst false A0 p.2.2.2.2.2.2.2.1)]⟩
def ww:=((.i (.v (.i (.i (.v (.v (.v (.v (.v (.v (.v (.v .n)))))))))))):Pk bK.ty _ _)
def wy:Cfg:={ti:=Az,ents:=[pS,tU,fZ],ann:=[(11,Ao Us 0 (spP fS) Er fP.E),(7,Ao bK 0 (spP ww) Ee wn.E)],lent:=0}
def IU (x:Bool×List (List A6)×Unit):Option (Bool×Int×List (List A2)×List A6×A8):=(Jb (x.1,())).bind fun v=>(FL (x.2.1,())).bind fun a=>bif !a.1 then some (v.1,v.2.1,v.2.2.1,[],[],[],[],())else if 0<=(x.2.1.length:Int)/\(x.2.1.length:Int)<=(x.2.1.length:Int)/\(x.2.1.length:Int)<=(↑4398046511104:Int)then(Au (fun v=>Ee (x.2.1,false,0,()) v _ some) (0,v.1,v.2.1,v.2.2.1,[],List.replicate ((x.2.1.length:Int).toNat) 0,[],[],[],())).bind fun p=>Ap p (fun p=>some (p.1,p.2.1,p.2.2.1,p.2.2.2.1,p.2.2.2.2.2.1,p.2.2.2.2.2.2.1,p.2.2.2.2.2.2.2.1,())) fun p=>some (p.1,p.2.1,p.2.2.1,p.2.2.2.1,p.2.2.2.2.2.1,p.2.2.2.2.2.2.1,p.2.2.2.2.2.2.2.1,())else none
def Aa9:Ent:=⟨11,⟨(.slot .bool (.slot (.slice (.slice YOp)) .nil)),.nil⟩,⟨(.agg (.slot .bool (.own 0 (.own 2 (.own 3 (.own 4 (.slot .i .nil)))))) (.own 1 .nil)),(.tree false 1 (.slice Af) (.lst false YOp (.lst false Ae (.lst false A0 (.lst false A0 .nil)))))⟩,IU⟩
theorem bL:CfgOK prog wy:=hcB (all_cons Alh (all_cons Aha (all_cons Ak5 all_nil)))
theorem Xf:AN prog wy (lpc f11 1):=lkA bL Us fS Er fP [1,4,6,7,8,9,10] O9
theorem Aa8:AN prog wy (lpc f11 0):=lkB bL bK ww Ee wn [4,5,6,7] Pn Xf
theorem Ak4:Aj prog Aa9:=okC bL func11 Aa8 Xf
abbrev wl:=Int×Bool×List (List A2)×List A3×List A1×List A1×Int×Unit
abbrev wg:=Int×List Int×Unit
abbrev wi:=List Int×Unit
def D0 (i:wl)(v:wg)(R:Type)(K:wg ⊕ wi->Option R):Option R:=bif decide (v.1<(i.2.2.2.1.length:Int))then(lAt i.2.2.2.1 v.1).bind fun a=>bif a.2.2.1==i.1 then(lAt i.2.2.2.1 v.1).bind fun b=>if(v.2.1++[b.1]).length<=4398046511104 then K (.inl (zXq.wrap (v.1+1),v.2.1++[b.1],()))else none else K (.inl (zXq.wrap (v.1+1),v.2.1,()))else K (.inr (v.2.1,()))
theorem Lu:AW D0:=fun i v R K=>Ad (Ac fun _=>Ad (Ac fun _=>Ar (Aa)) (Aa)) (Aa)
def bJ:Tmpl:=⟨(.junk (.slot .i (.ptr 0 0 0 (jk 2 (.own 1 (.slot .i (jk 26 .nil))))))),(.cells 6 (.slot .bool (.slot (.slice (.slice Af)) (.slot (.slice Ae) (.slot (.slice A0) (.slot (.slice A0) (.slot .i .nil)))))) (.lst false .i .nil))⟩
def we:Exs wl wi:=x1 (.exit 0) fun i p=>⟨jn 5 (AV.own 1 none none::jn 27 ([])),[some (Cont.cells 6 [[AV.pv .bool i.2.1,AV.pv (.slice (.slice Af)) i.2.2.1,AV.pv (.slice Ae) i.2.2.2.1,AV.pv (.slice A0) i.2.2.2.2.1,AV.pv (.slice A0) i.2.2.2.2.2.1,AV.pv .i i.2.2.2.2.2.2.1]]),some (Cont.lst false .i p.1)]⟩
def wj:=((.i (.v (.i (.i (.i (.i (.i (.i (.v .n))))))))):Pk bJ.ty _ _)
def Aho:Cfg:={ti:=Az,ents:=[],ann:=[(3,Ao bJ 0 (spP wj) D0 we.E)],lent:=0}
def Ei (x:A5×Int×Unit):Option (List Int×Unit):=(Au (fun v=>D0 (x.2.1,x.1.1,x.1.2.1.1,x.1.2.2.1,x.1.2.2.2.1,x.1.2.2.2.2.1,x.1.2.2.2.2.2.1,()) v _ some) (0,[],())).bind fun p=>some (p.1,())
def Aa7:Ent:=⟨12,⟨(.slot Dh (.slot .i .nil)),.nil⟩,⟨(.own 0 .nil),(.lst false .i .nil)⟩,Ei⟩
theorem wm:CfgOK prog Aho:=hcB all_nil
theorem Aa6:AN prog Aho (lpc f12 0):=lkA wm bJ wj D0 we [5] Lu
theorem Ak3:Aj prog Aa7:=okB wm func12 Aa6
def Lt (x:(Int×Int×A9)×Unit):Option (Int×Int×A9):=if x.1.2.2.1.length<=2199023255552 then if x.1.2.2.2.1.length<=2199023255552 then some (x.1.1,x.1.2.1,x.1.2.2.1,x.1.2.2.2.1,())else none else none
def fO:Ent:=⟨35,⟨(.slot Aw .nil),.nil⟩,⟨(.agg (si 2 (.own 0 (.own 1 .nil))) .nil),(.lst false A0 (.lst false A0 .nil))⟩,Lt⟩
theorem Ak2:Aj prog fO:=okA (hcA 0 all_nil) func35
abbrev wa:=Int×Bool×List (List A2)×List A3×List A1×List A1×Int×Unit
abbrev vU:=Int×List (Int×Int×A9)×Unit
abbrev vW:=List (Int×Int×A9)×Unit
def DR (i:wa)(v:vU)(R:Type)(K:vU ⊕ vW->Option R):Option R:=bif decide (v.1<(i.2.2.2.1.length:Int))then(lAt i.2.2.2.1 v.1).bind fun a=>bif a.2.2.1==2 then bif a.2.2.2.2.2.2.1==i.1 then(Lt ((a.1,i.1,a.2.2.2.2.2.2.2.1,a.2.2.2.2.2.2.2.2.1,()),())).bind fun b=>if(v.2.1++[(b.1,b.2.1,b.2.2.1,b.2.2.2.1,())]).length<=549755813888 then K (.inl (zXq.wrap (v.1+1),v.2.1++[(b.1,b.2.1,b.2.2.1,b.2.2.2.1,())],()))else none else K (.inl (zXq.wrap (v.1+1),v.2.1,()))else K (.inl (zXq.wrap (v.1+1),v.2.1,()))else K (.inr (v.2.1,()))
theorem NM:AW DR:=fun i v R K=>Ad (Ac fun _=>Ad (Ad (Ac fun _=>Ar (Aa)) (Aa)) (Aa)) (Aa)
def bG:Tmpl:=⟨(.junk (.ptr 0 0 0 (.junk (.own 1 (si 2 (jk 46 .nil)))))),(.cells 6 (.slot .bool (.slot (.slice (.slice Af)) (.slot (.slice Ae) (.slot (.slice A0) (.slot (.slice A0) (.slot .i .nil)))))) (.tree false 0 Aw .nil))⟩
def vS:Exs wa vW:=x1 (.exit 2) fun i p=>⟨jn 1 (AV.ptr 0 none 0 0::jn 1 (AV.own 1 none none::.n (i.1)::jn 47 ([]))),[some (Cont.cells 6 [[AV.pv .bool i.2.1,AV.pv (.slice (.slice Af)) i.2.2.1,AV.pv (.slice Ae) i.2.2.2.1,AV.pv (.slice A0) i.2.2.2.2.1,AV.pv (.slice A0) i.2.2.2.2.2.1,AV.pv .i i.2.2.2.2.2.2.1]]),some (Cont.tree false 0 Aw p.1 none)]⟩
def vY:=((.i (.v (.i (.i (.i (.i (.i (.i (.v .n))))))))):Pk bG.ty _ _)
abbrev wb:=Bool×List (List A2)×List A3×List A1×List A1×Int×Unit
abbrev vV:=Int×List (Int×Int×A9)×Unit
abbrev vX:=List (Int×Int×A9)×Unit
def DS (i:wb)(v:vV)(R:Type)(K:vV ⊕ vX->Option R):Option R:=bif decide (v.1<=i.2.2.2.2.2.1)then(Au (fun a=>DR (v.1,i.1,i.2.1,i.2.2.1,i.2.2.2.1,i.2.2.2.2.1,i.2.2.2.2.2.1,()) a _ some) (0,v.2.1,())).bind fun p=>K (.inl (zXq.wrap (v.1+1),p.1,()))else K (.inr (v.2.1,()))
theorem NN:AW DS:=fun i v R K=>Ad (Ac fun _=>Aa) (Aa)
def bH:Tmpl:=⟨(.junk (.ptr 0 0 0 (.junk (.own 1 (.slot .i (jk 47 .nil)))))),(.cells 6 (.slot .bool (.slot (.slice (.slice Af)) (.slot (.slice Ae) (.slot (.slice A0) (.slot (.slice A0) (.slot .i .nil)))))) (.tree false 0 Aw .nil))⟩
def vT:Exs wb vX:=x1 (.exit 0) fun i p=>⟨jn 3 (AV.own 1 none none::jn 48 ([])),[some (Cont.cells 6 [[AV.pv .bool i.1,AV.pv (.slice (.slice Af)) i.2.1,AV.pv (.slice Ae) i.2.2.1,AV.pv (.slice A0) i.2.2.2.1,AV.pv (.slice A0) i.2.2.2.2.1,AV.pv .i i.2.2.2.2.2.1]]),some (Cont.tree false 0 Aw p.1 none)]⟩
def vZ:=((.v (.i (.i (.i (.i (.i (.i (.v .n)))))))):Pk bH.ty _ _)
def wc:Cfg:={ti:=Az,ents:=[UF,fO],ann:=[(8,Ao bG 0 (spP vY) DR vS.E),(5,Ao bH 0 (spP vZ) DS vT.E)],lent:=0}
def Jf (x:A5×Unit):Option (List (Int×Int×A9)×Unit):=(ED ((x.1.1,(x.1.2.1.1,()),x.1.2.2.1,x.1.2.2.2.1,x.1.2.2.2.2.1,x.1.2.2.2.2.2.1,()),())).bind fun v=>bif !v.1 then some ([],())else(Au (fun v=>DS (x.1.1,x.1.2.1.1,x.1.2.2.1,x.1.2.2.2.1,x.1.2.2.2.2.1,x.1.2.2.2.2.2.1,()) v _ some) (1,[],())).bind fun p=>some (p.1,())
def Aa5:Ent:=⟨15,⟨(.slot Dh .nil),.nil⟩,⟨(.own 0 .nil),(.tree false 0 Aw .nil)⟩,Jf⟩
theorem bI:CfgOK prog wc:=hcB (all_cons zk (all_cons Ak2 all_nil))
theorem fN:AN prog wc (lpc f15 1):=lkA bI bG vY DR vS [1,3,4] NM
theorem Aa4:AN prog wc (lpc f15 0):=lkB bI bH vZ DS vT [3] NN fN
theorem Ak1:Aj prog Aa5:=okC bI func15 Aa4 fN
def MR (x:(Int×Int×A9)×Unit):Option A3:=some (x.1.1,1,2,0,0,1000,x.1.2.1,x.1.2.2.1,x.1.2.2.2.1,())
def fM:Ent:=⟨67,⟨(.slot Aw .nil),.nil⟩,⟨(.agg (si 7 (.slot (.slice A0) (.slot (.slice A0) .nil))) .nil),.nil⟩,MR⟩
theorem Ak0:Aj prog fM:=okA (hcA 0 all_nil) func67
abbrev vQ:=List (Int×Int×A9)×Int×Unit
abbrev vN:=Int×Unit
abbrev vO:=Int×Unit ⊕ Unit
def ET (i:vQ)(v:vN)(R:Type)(K:vN ⊕ vO->Option R):Option R:=bif decide (v.1<(i.1.length:Int))then(lAt i.1 v.1).bind fun a=>bif a.1==i.2.1 then K (.inr (.inl (v.1,())))else K (.inl (zXq.wrap (v.1+1),()))else K (.inr (.inr ()))
theorem NP:AW ET:=fun i v R K=>Ad (Ac fun _=>Ad (Aa) (Aa)) (Aa)
def bE:Tmpl:=⟨(.slot (.slice Aw) (.slot .i (jk 3 (.slot .i (jk 14 .nil))))),.nil⟩
def vM:Exs vQ vO:=xs .ret (fun i p=>⟨jn 4 (.n (p.1)::jn 15 ([])),[]⟩)<|x1 (.exit 0) fun i p=>⟨jn 20 ([]),[]⟩
def vP:=((.i (.i (.v .n))):Pk bE.ty _ _)
def Ahm:Cfg:={ti:=Az,ents:=[],ann:=[(2,Ao bE 0 (spP vP) ET vM.E)],lent:=0}
def Jh (x:List (Int×Int×A9)×Int×Unit):Option (Int×Unit):=(Au (fun v=>ET (x.1,x.2.1,()) v _ some) (0,())).bind fun p=>Ap p (fun p=>some (p.1,())) fun p=>some (-1,())
def fL:Ent:=⟨68,⟨(.slot (.slice Aw) (.slot .i .nil)),.nil⟩,⟨(.slot .i .nil),.nil⟩,Jh⟩
theorem vR:CfgOK prog Ahm:=hcB all_nil
theorem Aa3:AN prog Ahm (lpc f68 0):=lkA vR bE vP ET vM [4] NP
theorem Ajz:Aj prog fL:=okB vR func68 Aa3
abbrev vJ:=List (Int×Int×A9)×B3
abbrev vC:=Int×Unit
abbrev vE:=Int×Unit ⊕ Unit
def Eo (i:vJ)(v:vC)(R:Type)(K:vC ⊕ vE->Option R):Option R:=(lAt i.1 i.2.1).bind fun a=>bif decide (v.1<(a.2.2.2.1.length:Int))then(lAt i.1 i.2.1).bind fun b=>bif b.2.1==i.2.2.2.1 then(lAt i.1 i.2.1).bind fun c=>(lAt c.2.2.2.1 v.1).bind fun d=>bif d.1==i.2.2.1 then(lAt i.1 i.2.1).bind fun v=>K (.inr (.inl (v.1,())))else K (.inl (zXq.wrap (v.1+1),()))else K (.inl (zXq.wrap (v.1+1),()))else K (.inr (.inr ()))
theorem O7:AW Eo:=fun i v R K=>Ac fun _=>Ad (Ac fun _=>Ad (Ac fun _=>Ac fun _=>Ad (Ac fun _=>Aa) (Aa)) (Aa)) (Aa)
def bB:Tmpl:=⟨(.slot (.slice Aw) (jk 2 (.ptr 0 0 0 (.junk (si 2 (jk 43 .nil)))))),(.cells 2 (si 2 .nil) .nil)⟩
def vy:Exs vJ vE:=xs .ret (fun i p=>⟨AV.pv (.slice Aw) i.1::jn 2 (AV.ptr 0 none 0 0::.n (p.1)::.n (i.2.1)::jn 44 ([])),[some (Cont.cells 2 [[AV.pv .i i.2.2.1,AV.pv .i i.2.2.2.1]])]⟩)<|x1 (.exit 2) fun i p=>⟨AV.pv (.slice Aw) i.1::jn 2 (AV.ptr 0 none 0 0::jn 1 (.n (i.2.1)::jn 44 ([]))),[some (Cont.cells 2 [[AV.pv .i i.2.2.1,AV.pv .i i.2.2.2.1]])]⟩
def vG:=((.i (.i (.v (.i (.i .n))))):Pk bB.ty _ _)
abbrev vK:=List (Int×Int×A9)×Int×Int×Unit
abbrev vD:=Int×Unit
abbrev vF:=Int×Unit ⊕ Unit
def Ep (i:vK)(v:vD)(R:Type)(K:vD ⊕ vF->Option R):Option R:=bif decide (v.1<(i.1.length:Int))then(Au (fun a=>Eo (i.1,v.1,i.2.1,i.2.2.1,()) a _ some) (0,())).bind fun p=>Ap p (fun p=>K (.inr (.inl (p.1,())))) fun p=>K (.inl (zXq.wrap (v.1+1),()))else K (.inr (.inr ()))
theorem O8:AW Ep:=fun i v R K=>Ad (Ac fun _=>KH (fun _=>Aa) (fun _=>Aa)) (Aa)
def bC:Tmpl:=⟨(.slot (.slice Aw) (jk 2 (.ptr 0 0 0 (.junk (.slot .i (jk 44 .nil)))))),(.cells 2 (si 2 .nil) .nil)⟩
def vB:Exs vK vF:=xs .ret (fun i p=>⟨jn 4 (.n (p.1)::jn 45 ([])),[some (Cont.cells 2 [[AV.pv .i i.2.1,AV.pv .i i.2.2.1]])]⟩)<|x1 (.exit 0) fun i p=>⟨jn 50 ([]),[some (Cont.cells 2 [[AV.pv .i i.2.1,AV.pv .i i.2.2.1]])]⟩
def vH:=((.i (.v (.i (.i .n)))):Pk bC.ty _ _)
def vL:Cfg:={ti:=Az,ents:=[],ann:=[(5,Ao bB 0 (spP vG) Eo vy.E),(2,Ao bC 0 (spP vH) Ep vB.E)],lent:=0}
def Ib (x:List (Int×Int×A9)×A1×Unit):Option (Int×Unit):=(Au (fun v=>Ep (x.1,x.2.1.1,x.2.1.2.1,()) v _ some) (0,())).bind fun p=>Ap p (fun p=>some (p.1,())) fun p=>some (0,())
def Ur:Ent:=⟨32,⟨(.slot (.slice Aw) (.slot A0 .nil)),.nil⟩,⟨(.slot .i .nil),.nil⟩,Ib⟩
theorem bD:CfgOK prog vL:=hcB all_nil
theorem fK:AN prog vL (lpc f32 1):=lkA bD bB vG Eo vy [0,3,4,5] O7
theorem Aa2:AN prog vL (lpc f32 0):=lkB bD bC vH Ep vB [4] O8 fK
theorem vI:Aj prog Ur:=okC bD func32 Aa2 fK
abbrev vx:=List (Int×Int×A9)×Unit
abbrev vo:=Int×Unit
abbrev vq:=Unit ⊕ Unit ⊕ Unit ⊕ Unit ⊕ Unit
def ER (i:vx)(v:vo)(R:Type)(K:vo ⊕ vq->Option R):Option R:=bif decide (v.1<(i.1.length:Int))then(lAt i.1 v.1).bind fun a=>(MR ((a.1,a.2.1,a.2.2.1,a.2.2.2.1,()),())).bind fun b=>(AR ((b.1,b.2.1,b.2.2.1,b.2.2.2.1,b.2.2.2.2.1,b.2.2.2.2.2.1,b.2.2.2.2.2.2.1,b.2.2.2.2.2.2.2.1,b.2.2.2.2.2.2.2.2.1,()),())).bind fun c=>bif !c.1 then K (.inr (.inl ()))else(GM i.1 0 v.1).bind fun d=>(lAt i.1 v.1).bind fun e=>(Jh (d,e.1,())).bind fun f=>bif decide (f.1>=0)then K (.inr (.inr (.inl ())))else bif decide (v.1>0)then(lAt i.1 (zXq.wrap (v.1-1))).bind fun g=>(lAt i.1 v.1).bind fun h=>bif decide (g.2.1>h.2.1)then K (.inr (.inr (.inr (.inl ()))))else(lAt i.1 (zXq.wrap (v.1-1))).bind fun j=>(lAt i.1 v.1).bind fun k=>bif j.2.1==k.2.1 then(lAt i.1 v.1).bind fun l=>bif decide ((l.2.2.2.1.length:Int)>0)then K (.inr (.inr (.inr (.inr (.inl ())))))else K (.inl (zXq.wrap (v.1+1),()))else K (.inl (zXq.wrap (v.1+1),()))else K (.inl (zXq.wrap (v.1+1),()))else K (.inr (.inr (.inr (.inr (.inr ())))))
theorem NL:AW ER:=fun i v R K=>Ad (Ac fun _=>Ac fun _=>Ac fun _=>Ad (Aa) (Ac fun _=>Ac fun _=>Ac fun _=>Ad (Aa) (Ad (Ac fun _=>Ac fun _=>Ad (Aa) (Ac fun _=>Ac fun _=>Ad (Ac fun _=>Ad (Aa) (Aa)) (Aa))) (Aa)))) (Aa)
def bA:Tmpl:=⟨(.slot (.slice Aw) (jk 2 (.slot .i (jk 119 .nil)))),.nil⟩
def vm:Exs vx vq:=xs .ret (fun i p=>⟨AV.pv (.slice Aw) i.1::jn 1 (.b (false)::jn 120 ([])),[]⟩)<|xs .ret (fun i p=>⟨AV.pv (.slice Aw) i.1::jn 1 (.b (false)::jn 120 ([])),[]⟩)<|xs .ret (fun i p=>⟨AV.pv (.slice Aw) i.1::jn 1 (.b (false)::jn 120 ([])),[]⟩)<|xs .ret (fun i p=>⟨AV.pv (.slice Aw) i.1::jn 1 (.b (false)::jn 120 ([])),[]⟩)<|x1 (.exit 0) fun i p=>⟨AV.pv (.slice Aw) i.1::jn 122 ([]),[]⟩
def vu:=((.i (.v .n)):Pk bA.ty _ _)
abbrev fH:=List (Int×Int×A9)×Int×Unit
abbrev fE:=Int×Unit
abbrev fF:=Unit ⊕ Unit ⊕ Unit
def Dw (i:fH)(v:fE)(R:Type)(K:fE ⊕ fF->Option R):Option R:=(lAt i.1 i.2.1).bind fun a=>bif decide (v.1<(a.2.2.1.length:Int))then(lAt i.1 i.2.1).bind fun b=>(lAt b.2.2.1 v.1).bind fun c=>(Ib (i.1,(c.1,c.2.1,()),())).bind fun d=>(lAt i.1 i.2.1).bind fun e=>bif d.1==e.1 then K (.inr (.inl ()))else(lAt i.1 i.2.1).bind fun f=>(lAt f.2.2.1 v.1).bind fun g=>bif decide (g.2.1>0)then bif d.1==0 then K (.inr (.inr (.inl ())))else K (.inl (zXq.wrap (v.1+1),()))else K (.inl (zXq.wrap (v.1+1),()))else K (.inr (.inr (.inr ())))
theorem MX:AW Dw:=fun i v R K=>Ac fun _=>Ad (Ac fun _=>Ac fun _=>Ac fun _=>Ac fun _=>Ad (Aa) (Ac fun _=>Ac fun _=>Ad (Ad (Aa) (Aa)) (Aa))) (Aa)
def Up:Tmpl:=⟨(.slot (.slice Aw) (jk 3 (si 2 (jk 117 .nil)))),.nil⟩
def fD:Exs fH fF:=xs .ret (fun i p=>⟨AV.pv (.slice Aw) i.1::jn 1 (.b (false)::jn 1 (.n (i.2.1)::jn 118 ([]))),[]⟩)<|xs .ret (fun i p=>⟨AV.pv (.slice Aw) i.1::jn 1 (.b (false)::jn 1 (.n (i.2.1)::jn 118 ([]))),[]⟩)<|x1 (.exit 4) fun i p=>⟨AV.pv (.slice Aw) i.1::jn 3 (.n (i.2.1)::jn 118 ([])),[]⟩
def fG:=((.i (.i (.v .n))):Pk Up.ty _ _)
abbrev vw:=List (Int×Int×A9)×Unit
abbrev vn:=Int×Unit
abbrev vp:=Unit ⊕ Unit ⊕ Unit
def EP (i:vw)(v:vn)(R:Type)(K:vn ⊕ vp->Option R):Option R:=bif decide (v.1<(i.1.length:Int))then(Au (fun a=>Dw (i.1,v.1,()) a _ some) (0,())).bind fun p=>Ap p (fun p=>K (.inr (.inl ()))) fun p=>Ap p (fun p=>K (.inr (.inr (.inl ())))) fun p=>K (.inl (zXq.wrap (v.1+1),()))else K (.inr (.inr (.inr ())))
theorem NK:AW EP:=fun i v R K=>Ad (Ac fun _=>KH (fun _=>Aa) (fun _=>KH (fun _=>Aa) (fun _=>Aa))) (Aa)
def bz:Tmpl:=⟨(.slot (.slice Aw) (jk 3 (.slot .i (jk 118 .nil)))),.nil⟩
def vl:Exs vw vp:=xs .ret (fun i p=>⟨AV.pv (.slice Aw) i.1::jn 1 (.b (false)::jn 120 ([])),[]⟩)<|xs .ret (fun i p=>⟨AV.pv (.slice Aw) i.1::jn 1 (.b (false)::jn 120 ([])),[]⟩)<|x1 (.exit 2) fun i p=>⟨AV.pv (.slice Aw) i.1::jn 122 ([]),[]⟩
def vt:=((.i (.v .n)):Pk bz.ty _ _)
def fJ:Cfg:={ti:=Az,ents:=[fM,Qi,fL,Ur],ann:=[(2,Ao bA 0 (spP vu) ER vm.E),(12,Ao Up 0 (spP fG) Dw fD.E),(9,Ao bz 0 (spP vt) EP vl.E)],lent:=0}
def Jd (x:List (Int×Int×A9)×Unit):Option (Bool×Unit):=(Au (fun v=>ER (x.1,()) v _ some) (0,())).bind fun p=>Ap p (fun p=>some (false,())) fun p=>Ap p (fun p=>some (false,())) fun p=>Ap p (fun p=>some (false,())) fun p=>Ap p (fun p=>some (false,())) fun p=>(Au (fun v=>EP (x.1,()) v _ some) (0,())).bind fun p=>Ap p (fun p=>some (false,())) fun p=>Ap p (fun p=>some (false,())) fun p=>some (decide ((x.1.length:Int)<=9),())
def fI:Ent:=⟨30,⟨(.slot (.slice Aw) .nil),.nil⟩,⟨(.slot .bool .nil),.nil⟩,Jd⟩
theorem Uq:CfgOK prog fJ:=hcB (all_cons Ak0 (all_cons Oh (all_cons Ajz (all_cons vI all_nil))))
theorem Xe:AN prog fJ (lpc f30 2):=lkA Uq Up fG Dw fD [0,2,4] MX
theorem Aa0:AN prog fJ (lpc f30 1):=lkB Uq bz vt EP vl [0,2] NK Xe
theorem Aa1:AN prog fJ (lpc f30 0):=lkA Uq bA vu ER vm [0,2] NL
theorem Ajy:Aj prog fI:=ME Uq func30 3 (by kernel_rfl) (fun k hk=>match k,hk with|0,_=>Aa1|1,_=>Aa0|2,_=>Xe) (by kernel_rfl) (by kernel_rfl) (fun x=>by kernel_rfl)
def IR (x:(B4)×(B4)×Unit):Option (Bool×Unit):=bif x.1.1 != x.2.1.1 then some (decide (x.1.1<x.2.1.1),())else bif x.1.2.1 != x.2.1.2.1 then some (decide (x.1.2.1<x.2.1.2.1),())else bif x.1.2.2.1 != x.2.1.2.2.1 then some (decide (x.1.2.2.1<x.2.1.2.2.1),())else some (decide (x.1.2.2.2.1<x.2.1.2.2.2.1),())
def Uo:Ent:=⟨62,⟨(.slot AZ (.slot AZ .nil)),.nil⟩,⟨(.slot .bool .nil),.nil⟩,IR⟩
theorem vk:Aj prog Uo:=okA (hcA 0 all_nil) func62
abbrev vi:=List (B4)×B4
abbrev vf:=Int×Unit
abbrev vg:=Int×Unit ⊕ Int×Unit
def FJ (i:vi)(v:vf)(R:Type)(K:vf ⊕ vg->Option R):Option R:=bif decide (v.1<(i.1.length:Int))then(lAt i.1 v.1).bind fun a=>(IR ((a.1,a.2.1,a.2.2.1,a.2.2.2.1,()),(i.2.1,i.2.2.1,i.2.2.2.1,i.2.2.2.2.1,()),())).bind fun b=>bif b.1 then K (.inl (zXq.wrap (v.1+1),()))else K (.inr (.inl (v.1,())))else K (.inr (.inr (v.1,())))
theorem PG:AW FJ:=fun i v R K=>Ad (Ac fun _=>Ac fun _=>Ad (Aa) (Aa)) (Aa)
def bx:Tmpl:=⟨(.slot (.slice AZ) (jk 2 (.ptr 0 0 0 (.junk (.slot .i (jk 55 .nil)))))),(.cells 4 (si 4 .nil) .nil)⟩
def vd:Exs vi vg:=xs (.exit 0) (fun i p=>⟨AV.pv (.slice AZ) i.1::jn 2 (AV.ptr 0 none 0 0::jn 1 (.n (p.1)::jn 55 ([]))),[some (Cont.cells 4 [[AV.pv .i i.2.1,AV.pv .i i.2.2.1,AV.pv .i i.2.2.2.1,AV.pv .i i.2.2.2.2.1]])]⟩)<|x1 (.exit 0) fun i p=>⟨AV.pv (.slice AZ) i.1::jn 2 (AV.ptr 0 none 0 0::jn 1 (.n (p.1)::jn 55 ([]))),[some (Cont.cells 4 [[AV.pv .i i.2.1,AV.pv .i i.2.2.1,AV.pv .i i.2.2.2.1,AV.pv .i i.2.2.2.2.1]])]⟩
def vh:=((.i (.v (.i (.i (.i (.i .n)))))):Pk bx.ty _ _)
def Ahl:Cfg:={ti:=Az,ents:=[Uo],ann:=[(4,Ao bx 0 (spP vh) FJ vd.E)],lent:=0}
def Ip (x:List (B4)×(B4)×Unit):Option (List (B4)×Unit):=bif x.2.1.1==0 then some (x.1,())else bif x.2.1.2.1==0 then some (x.1,())else bif x.2.1.1==x.2.1.2.1 then some (x.1,())else(Au (fun v=>FJ (x.1,x.2.1.1,x.2.1.2.1,x.2.1.2.2.1,x.2.1.2.2.2.1,()) v _ some) (0,())).bind fun p=>Ap p (fun p=>bif decide (p.1<(x.1.length:Int))then(lAt x.1 p.1).bind fun v=>bif v.1==x.2.1.1&&(v.2.1==x.2.1.2.1&&(v.2.2.1==x.2.1.2.2.1&&(v.2.2.2.1==x.2.1.2.2.2.1&&true)))then some (x.1,())else(GM x.1 0 p.1).bind fun v=>if v.length<=1099511627776 then if(v++[(x.2.1.1,x.2.1.2.1,x.2.1.2.2.1,x.2.1.2.2.2.1,())]).length<=1099511627776 then(GM x.1 p.1 (x.1.length:Int)).bind fun a=>if(v++[(x.2.1.1,x.2.1.2.1,x.2.1.2.2.1,x.2.1.2.2.2.1,())]++a).length<=1099511627776 then some (v++[(x.2.1.1,x.2.1.2.1,x.2.1.2.2.1,x.2.1.2.2.2.1,())]++a,())else none else none else none else(GM x.1 0 p.1).bind fun v=>if v.length<=1099511627776 then if(v++[(x.2.1.1,x.2.1.2.1,x.2.1.2.2.1,x.2.1.2.2.2.1,())]).length<=1099511627776 then(GM x.1 p.1 (x.1.length:Int)).bind fun a=>if(v++[(x.2.1.1,x.2.1.2.1,x.2.1.2.2.1,x.2.1.2.2.2.1,())]++a).length<=1099511627776 then some (v++[(x.2.1.1,x.2.1.2.1,x.2.1.2.2.1,x.2.1.2.2.2.1,())]++a,())else none else none else none) fun p=>bif decide (p.1<(x.1.length:Int))then(lAt x.1 p.1).bind fun v=>bif v.1==x.2.1.1&&(v.2.1==x.2.1.2.1&&(v.2.2.1==x.2.1.2.2.1&&(v.2.2.2.1==x.2.1.2.2.2.1&&true)))then some (x.1,())else(GM x.1 0 p.1).bind fun v=>if v.length<=1099511627776 then if(v++[(x.2.1.1,x.2.1.2.1,x.2.1.2.2.1,x.2.1.2.2.2.1,())]).length<=1099511627776 then(GM x.1 p.1 (x.1.length:Int)).bind fun a=>if(v++[(x.2.1.1,x.2.1.2.1,x.2.1.2.2.1,x.2.1.2.2.2.1,())]++a).length<=1099511627776 then some (v++[(x.2.1.1,x.2.1.2.1,x.2.1.2.2.1,x.2.1.2.2.2.1,())]++a,())else none else none else none else(GM x.1 0 p.1).bind fun v=>if v.length<=1099511627776 then if(v++[(x.2.1.1,x.2.1.2.1,x.2.1.2.2.1,x.2.1.2.2.2.1,())]).length<=1099511627776 then(GM x.1 p.1 (x.1.length:Int)).bind fun a=>if(v++[(x.2.1.1,x.2.1.2.1,x.2.1.2.2.1,x.2.1.2.2.2.1,())]++a).length<=1099511627776 then some (v++[(x.2.1.1,x.2.1.2.1,x.2.1.2.2.1,x.2.1.2.2.2.1,())]++a,())else none else none else none
def fC:Ent:=⟨31,⟨(.slot (.slice AZ) (.slot AZ .nil)),.nil⟩,⟨(.slot (.slice AZ) .nil),.nil⟩,Ip⟩
theorem vj:CfgOK prog Ahl:=hcB (all_cons vk all_nil)
theorem A9z:AN prog Ahl (lpc f31 0):=lkA vj bx vh FJ vd [0,3,5] PG
theorem Ajx:Aj prog fC:=okB vj func31 A9z
abbrev uZ:=List (Int×Int×A9)×B3
abbrev uT:=Int×Int×Unit
abbrev uV:=Int×Unit
def Co (i:uZ)(v:uT)(R:Type)(K:uT ⊕ uV->Option R):Option R:=(lAt i.1 i.2.2.2.1).bind fun a=>bif decide (v.2.1<(a.2.2.2.1.length:Int))then(lAt i.1 i.2.2.2.1).bind fun b=>(lAt b.2.2.2.1 v.2.1).bind fun c=>bif c.1==i.2.1 then(lAt i.1 i.2.2.2.1).bind fun d=>bif decide (d.2.1>i.2.2.1)then bif decide (v.1<0)then K (.inl (i.2.2.2.1,zXq.wrap (v.2.1+1),()))else(lAt i.1 i.2.2.2.1).bind fun e=>(lAt i.1 v.1).bind fun f=>bif decide (e.2.1<f.2.1)then K (.inl (i.2.2.2.1,zXq.wrap (v.2.1+1),()))else K (.inl (v.1,zXq.wrap (v.2.1+1),()))else K (.inl (v.1,zXq.wrap (v.2.1+1),()))else K (.inl (v.1,zXq.wrap (v.2.1+1),()))else K (.inr (v.1,()))
theorem MV:AW Co:=fun i v R K=>Ac fun _=>Ad (Ac fun _=>Ac fun _=>Ad (Ac fun _=>Ad (Ad (Aa) (Ac fun _=>Ac fun _=>Ad (Aa) (Aa))) (Aa)) (Aa)) (Aa)
def bq:Tmpl:=⟨(.slot (.slice Aw) (si 2 (jk 4 (si 3 (jk 61 .nil))))),.nil⟩
def uR:Exs uZ uV:=x1 (.exit 2) fun i p=>⟨AV.pv (.slice Aw) i.1::.n (i.2.1)::.n (i.2.2.1)::jn 4 (.n (p.1)::.n (i.2.2.2.1)::jn 62 ([])),[]⟩
def uX:=((.i (.i (.i (.v (.i (.v .n)))))):Pk bq.ty _ _)
abbrev va:=List (Int×Int×A9)×Int×Int×Unit
abbrev uU:=Int×Int×Unit
abbrev uW:=Int×Unit
def CV (i:va)(v:uU)(R:Type)(K:uU ⊕ uW->Option R):Option R:=bif decide (v.2.1<(i.1.length:Int))then(Au (fun a=>Co (i.1,i.2.1,i.2.2.1,v.2.1,()) a _ some) (v.1,0,())).bind fun p=>K (.inl (p.1,zXq.wrap (v.2.1+1),()))else K (.inr (v.1,()))
theorem MW:AW CV:=fun i v R K=>Ad (Ac fun _=>Aa) (Aa)
def bv:Tmpl:=⟨(.slot (.slice Aw) (si 2 (jk 4 (si 2 (jk 62 .nil))))),.nil⟩
def uS:Exs va uW:=x1 (.exit 0) fun i p=>⟨AV.pv (.slice Aw) i.1::jn 6 (.n (p.1)::jn 63 ([])),[]⟩
def uY:=((.i (.i (.i (.v (.v .n))))):Pk bv.ty _ _)
def vc:Cfg:={ti:=Az,ents:=[],ann:=[(6,Ao bq 0 (spP uX) Co uR.E),(3,Ao bv 0 (spP uY) CV uS.E)],lent:=0}
def Gq (x:List (Int×Int×A9)×Int×Int×Unit):Option (Int×Unit):=(Au (fun v=>CV (x.1,x.2.1,x.2.2.1,()) v _ some) (-1,0,())).bind fun p=>bif decide (p.1<0)then some (0,())else(lAt x.1 p.1).bind fun v=>some (v.1,())
def fB:Ent:=⟨33,⟨(.slot (.slice Aw) (si 2 .nil)),.nil⟩,⟨(.slot .i .nil),.nil⟩,Gq⟩
theorem bw:CfgOK prog vc:=hcB all_nil
theorem fA:AN prog vc (lpc f33 1):=lkA bw bq uX Co uR [0,1,2,7,8] MV
theorem A9y:AN prog vc (lpc f33 0):=lkB bw bv uY CV uS [0,7] MW fA
theorem Ajw:Aj prog fB:=okC bw func33 A9y fA
abbrev uP:=List (Int×Int×A9)×Int×Unit
abbrev uJ:=List (B4)×Int×List (B4)×Unit
abbrev uL:=List (B4)×List (B4)×Unit
def Dx (i:uP)(v:uJ)(R:Type)(K:uJ ⊕ uL->Option R):Option R:=(lAt i.1 i.2.1).bind fun a=>bif decide (v.2.1<(a.2.2.1.length:Int))then(lAt i.1 i.2.1).bind fun b=>(lAt b.2.2.1 v.2.1).bind fun c=>(Ib (i.1,(c.1,c.2.1,()),())).bind fun d=>(lAt i.1 i.2.1).bind fun e=>(Ip (v.1,(d.1,e.1,1,c.1,()),())).bind fun f=>(lAt i.1 i.2.1).bind fun g=>(Gq (i.1,c.1,c.2.1,())).bind fun h=>(Ip (f.1,(g.1,h.1,3,c.1,()),())).bind fun j=>K (.inl (j.1,zXq.wrap (v.2.1+1),[],()))else K (.inr (v.1,v.2.2.1,()))
theorem N0:AW Dx:=fun i v R K=>Ac fun _=>Ad (Ac fun _=>Ac fun _=>Ac fun _=>Ac fun _=>Ac fun _=>Ac fun _=>Ac fun _=>Ac fun _=>Aa) (Aa)
def bn:Tmpl:=⟨(.slot (.slice Aw) (jk 2 (.slot (.slice AZ) (si 2 (jk 98 .nil))))),(.lst false AZ .nil)⟩
def uH:Exs uP uL:=x1 (.exit 2) fun i p=>⟨AV.pv (.slice Aw) i.1::jn 2 (AV.pv (.slice AZ) p.1::.n (i.2.1)::jn 99 ([])),[some (Cont.lst false AZ p.2.1)]⟩
def uN:=((.i (.v (.i (.v (.v .n))))):Pk bn.ty _ _)
abbrev fv:=List (Int×Int×A9)×Int×Unit
abbrev fp:=List (B4)×Int×Unit
abbrev fq:=List (B4)×Unit
def Da (i:fv)(v:fp)(R:Type)(K:fp ⊕ fq->Option R):Option R:=(lAt i.1 i.2.1).bind fun a=>bif decide (v.2.1<(a.2.2.2.1.length:Int))then(lAt i.1 i.2.1).bind fun b=>(lAt b.2.2.2.1 v.2.1).bind fun c=>(lAt i.1 i.2.1).bind fun d=>(lAt i.1 i.2.1).bind fun e=>(Gq (i.1,c.1,e.2.1,())).bind fun f=>(Ip (v.1,(d.1,f.1,2,c.1,()),())).bind fun g=>K (.inl (g.1,zXq.wrap (v.2.1+1),()))else K (.inr (v.1,()))
theorem Ms:AW Da:=fun i v R K=>Ac fun _=>Ad (Ac fun _=>Ac fun _=>Ac fun _=>Ac fun _=>Ac fun _=>Ac fun _=>Aa) (Aa)
def Um:Tmpl:=⟨(.slot (.slice Aw) (jk 2 (.slot (.slice AZ) (.slot .i (jk 2 (.slot .i (jk 96 .nil))))))),.nil⟩
def fm:Exs fv fq:=x1 (.exit 4) fun i p=>⟨AV.pv (.slice Aw) i.1::jn 2 (AV.pv (.slice AZ) p.1::.n (i.2.1)::jn 99 ([])),[]⟩
def fu:=((.i (.v (.i (.v .n)))):Pk Um.ty _ _)
abbrev uQ:=List (Int×Int×A9)×Unit
abbrev uK:=List (B4)×Int×List (B4)×Unit
abbrev uM:=List (B4)×List (B4)×Unit ⊕ List (B4)×List (B4)×Unit
def CW (i:uQ)(v:uK)(R:Type)(K:uK ⊕ uM->Option R):Option R:=bif decide (v.2.1<(i.1.length:Int))then(Jd (i.1,())).bind fun a=>bif a.1 then(Au (fun b=>Dx (i.1,v.2.1,()) b _ some) (v.1,0,[],())).bind fun p=>(Au (fun b=>Da (i.1,v.2.1,()) b _ some) (p.1,0,())).bind fun p=>K (.inl (p.1,zXq.wrap (v.2.1+1),[],()))else K (.inr (.inl (v.1,v.2.2.1,())))else K (.inr (.inr (v.1,v.2.2.1,())))
theorem N1:AW CW:=fun i v R K=>Ad (Ac fun _=>Ad (Ac fun _=>Ac fun _=>Aa) (Aa)) (Aa)
def bp:Tmpl:=⟨(.slot (.slice Aw) (jk 2 (.slot (.slice AZ) (.slot .i (jk 99 .nil))))),(.lst false AZ .nil)⟩
def uI:Exs uQ uM:=xs (.exit 0) (fun i p=>⟨jn 3 (AV.pv (.slice AZ) p.1::jn 100 ([])),[some (Cont.lst false AZ p.2.1)]⟩)<|x1 (.exit 0) fun i p=>⟨jn 3 (AV.pv (.slice AZ) p.1::jn 100 ([])),[some (Cont.lst false AZ p.2.1)]⟩
def uO:=((.i (.v (.v (.v .n)))):Pk bp.ty _ _)
def fy:Cfg:={ti:=Az,ents:=[fI,Ur,fC,fB],ann:=[(6,Ao bn 0 (spP uN) Dx uH.E),(12,Ao Um 0 (spP fu) Da fm.E),(3,Ao bp 0 (spP uO) CW uI.E)],lent:=0}
def IJ (x:List (Int×Int×A9)×Unit):Option (List (B4)×Unit):=(Au (fun v=>CW (x.1,()) v _ some) ([],0,[],())).bind fun p=>Ap p (fun p=>some (p.1,())) fun p=>some (p.1,())
def A9x:Ent:=⟨14,⟨(.slot (.slice Aw) .nil),.nil⟩,⟨(.slot (.slice AZ) .nil),.nil⟩,IJ⟩
theorem Un:CfgOK prog fy:=hcB (all_cons Ajy (all_cons vI (all_cons Ajx (all_cons Ajw all_nil))))
theorem Xd:AN prog fy (lpc f14 2):=lkA Un Um fu Da fm [0,3,4] Ms
theorem fj:AN prog fy (lpc f14 1):=lkA Un bn uN Dx uH [0,3,4] N0
theorem A9w:AN prog fy (lpc f14 0):=lkC Un bp uO CW uI [3] N1 fj Xd
theorem Ajv:Aj prog A9x:=ME Un func14 3 (by kernel_rfl) (fun k hk=>match k,hk with|0,_=>A9w|1,_=>fj|2,_=>Xd) (by kernel_rfl) (by kernel_rfl) (fun x=>by kernel_rfl)
end
end Go.Ab
