import Derived.Test.YthjochcbdhiclaaGreatAbEv
namespace Go.Ab
section
variable {R : Type}
def packVK (h : Heap) (t : Ty) (v : AV) (K : den t → Option R) : Option R :=
  if t.agg then (match v with
    | .agg cs => packK h t cs fun x rest => if rest.isEmpty then K x else none
    | _ => none)
  else packK h t [v] fun x rest => if rest.isEmpty then K x else none
def rIs (ρ : Ren) (q r : Nat) : Bool := match ρ.getD q none with | some r' => r' == r | none => false
def ownRd (m : Nat) (ρ : Ren) (q : Nat) (v : AV) : Bool := Nat.blt q m && match v with
  | .own r none none => rIs ρ q r
  | .nils => (ρ.getD q none).isNone
  | _ => false
def curVer (h : Heap) (r ver : Nat) : Bool := match h.getD r none with
  | some (.tree _ v _ _ _) => v == ver
  | _ => false
def ptrRd (m : Nat) (ρ : Ren) (q i off : Nat) (v : AV) : Bool := Nat.blt q m && match v with
  | .ptr r none i' off' => rIs ρ q r && (i' == i) && (off' == off)
  | _ => false
def ptrIRd (m : Nat) (ρ : Ren) (q off : Nat) (v : AV) (K : Nat → Option R) : Option R := match v with
  | .ptr r none i off' => if (Nat.blt q m && rIs ρ q r && (off' == off)) = true then K i else none
  | _ => none
def mptrRd (m : Nat) (h : Heap) (ρ : Ren) (q k off : Nat) (v : AV) (K : Option (Nat × Nat) → Option R) : Option R := match v with
  | .nilp => K none
  | .mptr r k' ver off' o => if (Nat.blt q m && rIs ρ q r && (k' == k) && (off' == off) && curVer h r ver) = true then K o else none
  | .ptr r (some (i, k', ver)) j off' => if (Nat.blt q m && rIs ρ q r && (k' == k) && (off' == off) && curVer h r ver) = true then K (some (i, j)) else none
  | _ => none
def nownRd (m : Nat) (h : Heap) (ρ : Ren) (q k : Nat) (v : AV) (K : Nat → Option R) : Option R := match v with
  | .own r (some (i, k', ver)) none => if (Nat.blt q m && rIs ρ q r && (k' == k) && curVer h r ver) = true then K i else none
  | _ => none
def ownRRd (m : Nat) (ρ : Ren) (q : Nat) (v : AV) (K : Nat × Nat → Option R) : Option R := match v with
  | .own r none (some p) => if (Nat.blt q m && rIs ρ q r) = true then K p else none
  | _ => none
def sameConst : AV → AV → Bool
  | .nils, .nils | .nilp, .nilp | .nilf, .nilf | .nili, .nili => true
  | .fn f [], .fn g [] => f == g
  | _, _ => false
def TmL.readK (m : Nat) (h hp : Heap) (ρ : Ren) : (l : TmL) → (vs : List AV) → (r : Ty) → den r → (den (l.ty r) → Option R) → Option R
  | .nil, vs, _, x, K => match vs with | [] => K x | _ => none
  | .junk l, vs, r, x, K => match vs with | _ :: vs => l.readK m h hp ρ vs r x K | [] => none
  | .slot t l, vs, r, x, K => match vs with | v :: vs => l.readK m h hp ρ vs r x fun y => packVK hp t v fun z => K (z, y) | [] => none
  | .agg cs l, vs, r, x, K => match vs with | .agg us :: vs => l.readK m h hp ρ vs r x fun y => cs.readK m h hp ρ us (l.ty r) y K | _ => none
  | .fn f cs l, vs, r, x, K => match vs with | .fn g us :: vs => if g = f then l.readK m h hp ρ vs r x fun y => cs.readK m h hp ρ us (l.ty r) y K else none | _ => none
  | .own q l, vs, r, x, K => match vs with | v :: vs => if ownRd m ρ q v = true then l.readK m h hp ρ vs r x K else none | [] => none
  | .ptr q i off l, vs, r, x, K => match vs with | v :: vs => if ptrRd m ρ q i off v = true then l.readK m h hp ρ vs r x K else none | [] => none
  | .ptrI q off l, vs, r, x, K => match vs with | v :: vs => l.readK m h hp ρ vs r x fun y => ptrIRd m ρ q off v fun i => K (i, y) | [] => none
  | .mptr q k off l, vs, r, x, K => match vs with | v :: vs => l.readK m h hp ρ vs r x fun y => mptrRd m h ρ q k off v fun o => K (o, y) | [] => none
  | .nown q k l, vs, r, x, K => match vs with | v :: vs => l.readK m h hp ρ vs r x fun y => nownRd m h ρ q k v fun i => K (i, y) | [] => none
  | .ownR q l, vs, r, x, K => match vs with | v :: vs => l.readK m h hp ρ vs r x fun y => ownRRd m ρ q v fun p => K (p, y) | [] => none
  | .const c l, vs, r, x, K => match vs with | v :: vs => if sameConst v c = true then l.readK m h hp ρ vs r x K else none | [] => none
def roOk (br ro ro' : Bool) : Bool := match ro, ro' with | true, true => true | false, false => true | true, false => br | false, true => false
def verOk (n q : Nat) (ro : Bool) (v v' : Nat) : Bool := if Nat.blt q n then (bif ro then (v == 0) == (v' == 0) else !(v == 0) || v' == 0) else true
def TmH.readK (br : Bool) (n m : Nat) (h hp : Heap) (ρ : Ren) : (l : TmH) → Nat → (den l.ty → Option R) → Option R
  | .nil, _, K => K ()
  | .gone l, q, K => l.readK br n m h hp ρ (q + 1) K
  | .kept l, q, K => if Nat.blt q n = true then (match h.getD q none with | none => none | some .dead => none | some _ => l.readK br n m h hp ρ (q + 1) K) else none
  | .lst ro t l, q, K => l.readK br n m h hp ρ (q + 1) fun y => match ρ.getD q none with
    | none => K ([], y)
    | some r => match h.getD r none with
      | some (.lst ro' u xs) => if roOk br ro ro' = true then (cast? (.slice u) (.slice t) xs).bind fun xs => K (xs, y) else none
      | _ => none
  | .tree ro v t l, q, K => l.readK br n m h hp ρ (q + 1) fun y => match ρ.getD q none with
    | none => K ([], y)
    | some r => match h.getD r none with
      | some (.tree ro' v' u xs none) => if (roOk br ro ro' && verOk n q ro' v v') = true then (cast? (.slice u) (.slice t) xs).bind fun xs => K (xs, y) else none
      | _ => none
  | .one t l, q, K => l.readK br n m h hp ρ (q + 1) fun y => match ρ.getD q none with
    | none => none
    | some r => match h.getD r none with
      | some (.cells k [cs]) => if k = t.size then packK hp t cs fun x rest => if rest.isEmpty then K (x, y) else none else none
      | _ => none
  | .cells k ms l, q, K => l.readK br n m h hp ρ (q + 1) fun y => match ρ.getD q none with
    | none => none
    | some r => match h.getD r none with
      | some (.cells k' [cs]) => if k' = k then ms.readK m h hp ρ cs l.ty y K else none
      | _ => none
def Tmpl.readK (T : Tmpl) (br : Bool) (n : Nat) (h hp : Heap) (ρ : Ren) (vs : List AV) (K : den T.ty → Option R) : Option R :=
  T.hs.readK br n T.hs.len h hp ρ 0 fun y => T.ts.readK T.hs.len h hp ρ vs T.hs.ty y K
end
def wantV (h : Heap) (t : Ty) (v : AV) : List Conv := (wantC h t (match v with | .agg cs => if t.agg then cs else [v] | _ => [v])).1
def prepL (h : Heap) : TmL → List AV → List Conv
  | .nil, _ => []
  | .slot t l, vs => match vs with | v :: vs => wantV h t v ++ prepL h l vs | [] => []
  | .agg cs l, vs => match vs with | v :: vs => (match v with | .agg us => prepL h cs us | _ => []) ++ prepL h l vs | [] => []
  | .fn _ cs l, vs => match vs with | v :: vs => (match v with | .fn _ us => prepL h cs us | _ => []) ++ prepL h l vs | [] => []
  | .junk l, vs | .own _ l, vs | .ptr _ _ _ l, vs | .ptrI _ _ l, vs | .mptr _ _ _ l, vs | .nown _ _ l, vs | .ownR _ l, vs | .const _ l, vs => match vs with | _ :: vs => prepL h l vs | [] => []
def frzEs (h : Heap) : List (List AV) → List Conv
  | [] => []
  | e :: es => frzRoots h e ++ frzEs h es
def prepH (br : Bool) (h : Heap) (ρ : Ren) : TmH → Nat → List Conv
  | .nil, _ => []
  | .gone l, q | .kept l, q => prepH br h ρ l (q + 1)
  | .lst ro t l, q => (match ρ.getD q none with
    | none => []
    | some r => match h.getD r none with
      | some (.cells _ es) => frzEs h es ++ .solid r t :: (if ro && !br then [.fz r] else [])
      | some (.tree _ _ _ _ _) => .thin r :: (if ro && !br then [.fz r] else [])
      | some (.lst false _ _) => if ro && !br then [.fz r] else []
      | _ => []) ++ prepH br h ρ l (q + 1)
  | .tree ro _ t l, q => (match ρ.getD q none with
    | none => []
    | some r => match h.getD r none with
      | some (.cells _ _) => .plant r t :: (if ro && !br then [.fz r] else [])
      | some (.tree false _ _ _ _) => if ro && !br then [.fz r] else []
      | _ => []) ++ prepH br h ρ l (q + 1)
  | .one t l, q => (match ρ.getD q none with
    | none => []
    | some r => match h.getD r none with
      | some (.cells _ [cs]) => if br then [] else (wantC h t cs).1
      | _ => []) ++ prepH br h ρ l (q + 1)
  | .cells _ ms l, q => (match ρ.getD q none with
    | none => []
    | some r => match h.getD r none with
      | some (.cells _ [cs]) => if br then [] else prepL h ms cs
      | _ => []) ++ prepH br h ρ l (q + 1)
def Tmpl.prep (T : Tmpl) (br : Bool) (h : Heap) (ρ : Ren) (vs : List AV) : List Conv := prepH br h ρ T.hs 0 ++ (if br then [] else prepL h T.ts vs)
def renOf : Nat → Ren
  | 0 => []
  | n + 1 => renOf n ++ [some n]
def boundOf : Ren → List Nat
  | [] => []
  | none :: ρ => boundOf ρ
  | some r :: ρ => r :: boundOf ρ
def idOk (ρ : Ren) : Nat → Bool
  | 0 => true
  | n + 1 => rIs ρ n n && idOk ρ n
def renOk (ρ : Ren) (n : Nat) : Bool := nodupB (boundOf ρ) && idOk ρ n
section
variable {R : Type}
def TmH.noKept : TmH → Bool
  | .nil => true
  | .kept _ => false
  | .gone l | .lst _ _ l | .tree _ _ _ l | .one _ l | .cells _ _ l => l.noKept
def Tmpl.readS1 (T : Tmpl) (n : Nat) (s : St) (ρ : Ren) (K : den T.ty → Option R) : Option R :=
  if (renOk ρ n && Nat.ble n T.hs.len && T.hs.noKept) = true then convsK (T.prep false s.h ρ s.t) s.h fun δ => T.readK false n (apD s.h δ) (roH (apD s.h δ)) ρ s.t K else none
def Tmpl.readS (T : Tmpl) (n : Nat) (s : St) (K : den T.ty → Option R) : Option R := T.readS1 n s (bindH s.h T.hs 0 (bindL T.ts s.t (renOf n))) K
end
def Ty.flat : Ty → Bool
  | .prod a b => a.flat && b.flat
  | .slice _ | .iref _ | .fn _ _ => false
  | _ => true
def Ty.tflat : Ty → Bool
  | .prod a b => a.tflat && b.tflat
  | .slice t => t.flat
  | .iref _ | .fn _ _ => false
  | _ => true
def TmL.fl (br : Bool) : TmL → Bool
  | .nil => true
  | .slot t l => (!br || t.flat) && l.fl br
  | .agg cs l | .fn _ cs l => cs.fl br && l.fl br
  | .const c l => (match c with | .nils | .nilp | .nilf | .nili => true | .fn _ [] => true | _ => false) && l.fl br
  | .junk l | .own _ l | .ptr _ _ _ l | .ptrI _ _ l | .mptr _ _ _ l | .nown _ _ l | .ownR _ l => l.fl br
def TmH.fl (br : Bool) : TmH → Bool
  | .nil => true
  | .gone l | .kept l => l.fl br
  | .lst _ t l => (!br || t.flat) && l.fl br
  | .tree _ _ t l => (!br || t.tflat) && l.fl br
  | .one t l => (!br || t.flat) && l.fl br
  | .cells _ ms l => ms.fl br && l.fl br
def Tmpl.fl (T : Tmpl) (br : Bool) : Bool := T.ts.fl br && T.hs.fl br
abbrev Tmpl.flat (T : Tmpl) : Bool := T.fl true
def keptB (ρ : Ren) : TmH → Nat → Bool
  | .nil, _ => true
  | .kept l, q => (ρ.getD q none).isSome && keptB ρ l (q + 1)
  | .gone l, q | .lst _ _ l, q | .tree _ _ _ l, q | .one _ l, q | .cells _ _ l, q => keptB ρ l (q + 1)
def okKinds : TmH → TmH → Bool
  | .nil, .nil => true
  | .nil, .lst false _ b | .nil, .tree false _ _ b | .nil, .one _ b | .nil, .cells _ _ b | .nil, .gone b => okKinds .nil b
  | .lst true _ a, .kept b => okKinds a b
  | .tree true 0 _ a, .kept b => okKinds a b
  | .lst false _ a, .lst false _ b => okKinds a b
  | .tree false 0 _ a, .tree false _ _ b => okKinds a b
  | .tree false 0 _ a, .lst false _ b => okKinds a b
  | .one _ a, .one _ b | .one _ a, .cells _ _ b | .cells _ _ a, .cells _ _ b | .cells _ _ a, .one _ b => okKinds a b
  | .lst false _ a, .gone b | .tree false 0 _ a, .gone b | .one _ a, .gone b | .cells _ _ a, .gone b => okKinds a b
  | _, _ => false
def fits (ms : TmL) (vs : List AV) : Bool := match ms with
  | .nil => vs.isEmpty
  | .junk l => match vs with | _ :: vs => fits l vs | [] => false
  | .slot t l => match vs with
    | v :: vs => (match v with
      | .fn g _ => (match t with | .fn f _ => f == g | _ => false)
      | .pv (.fn g _) _ => (match t with | .fn f _ => f == g | _ => false)
      | _ => true) && fits l vs
    | [] => false
  | .agg cs l => match vs with | .agg us :: vs => fits cs us && fits l vs | _ => false
  | .fn f cs l => match vs with | .fn g us :: vs => (g == f) && fits cs us && fits l vs | _ => false
  | .own _ l => match vs with | .own _ none none :: vs | .nils :: vs => fits l vs | _ => false
  | .ptr _ _ _ l | .ptrI _ _ l => match vs with | .ptr _ none _ _ :: vs => fits l vs | _ => false
  | .mptr _ _ _ l => match vs with | .ptr _ (some _) _ _ :: vs | .mptr _ _ _ _ _ :: vs | .nilp :: vs => fits l vs | _ => false
  | .nown _ _ l => match vs with | .own _ (some _) none :: vs => fits l vs | _ => false
  | .ownR _ l => match vs with | .own _ none (some _) :: vs => fits l vs | _ => false
  | .const c l => match vs with | v :: vs => sameConst v c && fits l vs | [] => false
def pickE (f : FuncId) (args : List AV) : List Ent → Option Ent
  | [] => none
  | e :: es => if (e.f == f && fits e.ti.ts args) = true then some e else pickE f args es
def retK1 {R : Type} (ti to : Tmpl) (s : St) (ρ : Ren) (vs : List AV) (K : den to.ty → Option R) : Option R :=
  if (renOk ρ ti.hs.len && Nat.ble ti.hs.len to.hs.len && okKinds ti.hs to.hs) = true then convsK (to.prep false s.h ρ vs) s.h fun δ => to.readK false ti.hs.len (apD s.h δ) (roH (apD s.h δ)) ρ vs K else none
def retK {R : Type} (ti to : Tmpl) (s : St) (vs : List AV) (K : den to.ty → Option R) : Option R := retK1 ti to s (bindH s.h to.hs 0 (bindL to.ts vs (renOf ti.hs.len))) vs K
def mrg : Heap → List (Option Cont) → Heap
  | h, [] => h
  | [], os => os
  | _ :: h, some c :: os => some c :: mrg h os
  | o :: h, none :: os => o :: mrg h os
def hideAt : Heap → Nat → Heap
  | [], _ => []
  | _ :: h, 0 => none :: h
  | o :: h, r + 1 => o :: hideAt h r
def hideH : Heap → List Nat → Heap
  | h, [] => h
  | h, r :: rs => hideH (hideAt h r) rs
def outs (ρ : Ren) : TmH → Nat → List Nat
  | .nil, _ => []
  | .lst true _ l, q | .tree true _ _ l, q => outs ρ l (q + 1)
  | .gone l, q | .kept l, q | .lst _ _ l, q | .tree _ _ _ l, q | .one _ l, q | .cells _ _ l, q => match ρ.getD q none with
    | some r => r :: outs ρ l (q + 1)
    | none => outs ρ l (q + 1)
def rho (ρ : Ren) (base q : Nat) : Nat := match ρ.getD q none with | some r => r | none => base + q
def nuOf (h : Heap) (ρ : Ren) (vr : Nat → Nat) (q : Nat) : Nat := match ρ.getD q none with
  | some r => match h.getD r none with
    | some (.tree _ v _ _ _) => if vr q == 0 then v else v + 1
    | _ => vr q
  | none => vr q
def deltaOf (ρ : Ren) (base : Nat) : Nat → List (Option Cont) → Delta
  | _, [] => []
  | q, none :: os => deltaOf ρ base (q + 1) os
  | q, some c :: os => (rho ρ base q, c) :: deltaOf ρ base (q + 1) os
def resAV (vs : List AV) : AV := match vs with
  | [v] => v
  | vs => .tup vs
section
variable {R : Type}
def callK1 (e : Ent) (base : Nat) (h : Heap) (ρ : Ren) (args : List AV) (K : AV → Delta → Option R) : Option R :=
  if (renOk ρ 0 && okKinds e.ti.hs e.to.hs && Nat.ble ρ.length e.ti.hs.len && e.to.fl e.to.flat && keptB ρ e.to.hs 0) = true then convsK (e.ti.prep e.to.flat h ρ args) h fun δ =>
    e.ti.readK e.to.flat 0 (apD h δ) (if e.to.flat then hideH (apD h δ) (outs ρ e.ti.hs 0) else roH (apD h δ)) ρ args fun x =>
      (e.fn x).bind fun y => K (resAV (e.to.vals (rho ρ base) (nuOf (apD h δ) ρ e.to.hs.ver) y)) (δ ++ deltaOf ρ base 0 (e.to.objs (rho ρ base) (nuOf (apD h δ) ρ e.to.hs.ver) y))
  else none
def callK (C : Cfg) (base : Nat) (h : Heap) (f : FuncId) (args : List AV) (K : AV → Delta → Option R) : Option R :=
  match pickE f args C.ents with
  | some e => if Nat.ble e.to.hs.len C.cs = true then callK1 e base h (bindH h e.ti.hs 0 (bindL e.ti.ts args [])) args K else none
  | none => none
def vopA (C : Cfg) (base : Nat) (s : St) (o : Oper) (K : AV → Delta → Option R) : Option R :=
  match o.op with
  | .call c => match c.callee with
    | .value fo => match callee (ev s.t fo) with
      | some (f, cap) => callK C base s.h f (c.args.toList.map (ev s.t) ++ cap) K
      | none => none
    | _ => vopE C base s o K
  | _ => vopE C base s o K
def slotsA (C : Cfg) (o : Oper) : Nat :=
  match o.op with
  | .call c => match c.callee with
    | .value _ => C.cs
    | _ => slots C o
  | _ => slots C o
end
end Go.Ab
