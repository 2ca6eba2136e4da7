import Derived.Test.YthjochcbdhiclaaGreatAbDefs
namespace Go.Ab
inductive Und where
  | int (k : IntKind) | bool | str | slice (e : TypeId) | struct (fs : List (Nat × TypeId)) | arr (n : Nat) (e : TypeId) | ptr (e : TypeId) | iface | func | other
structure TI where
  size : Nat
  und : Und
  code : Option Ty
  zero : List AV
  lim : Nat
def TI.agg (i : TI) : Bool := match i.und with | .struct _ | .arr _ _ => true | _ => false
inductive TmL where
  | nil | junk (l : TmL) | slot (t : Ty) (l : TmL) | agg (cs l : TmL) | own (q : Nat) (l : TmL) | ptr (q i off : Nat) (l : TmL) | ptrI (q off : Nat) (l : TmL) | mptr (q k off : Nat) (l : TmL) | nown (q k : Nat) (l : TmL) | ownR (q : Nat) (l : TmL) | const (v : AV) (l : TmL) | fn (f : FuncId) (cs l : TmL)
inductive TmH where
  | nil | gone (l : TmH) | kept (l : TmH) | lst (ro : Bool) (t : Ty) (l : TmH) | tree (ro : Bool) (ver : Nat) (t : Ty) (l : TmH) | one (t : Ty) (l : TmH) | cells (n : Nat) (cs : TmL) (l : TmH)
structure Tmpl where
  ts : TmL
  hs : TmH
def TmL.ty : TmL → Ty → Ty
  | .nil, r => r
  | .junk l, r => l.ty r
  | .slot t l, r => .prod t (l.ty r)
  | .agg cs l, r => cs.ty (l.ty r)
  | .own _ l, r => l.ty r
  | .ptr _ _ _ l, r => l.ty r
  | .ptrI _ _ l, r => .prod .idx (l.ty r)
  | .mptr _ _ _ l, r => .prod (.iref (.prod .idx .idx)) (l.ty r)
  | .nown _ _ l, r => .prod .idx (l.ty r)
  | .ownR _ l, r => .prod (.prod .idx .idx) (l.ty r)
  | .const _ l, r => l.ty r
  | .fn _ cs l, r => cs.ty (l.ty r)
def TmH.ty : TmH → Ty
  | .nil => .unit
  | .gone l => l.ty
  | .kept l => l.ty
  | .lst _ t l => .prod (.slice t) l.ty
  | .tree _ _ t l => .prod (.slice t) l.ty
  | .one t l => .prod t l.ty
  | .cells _ cs l => cs.ty l.ty
def TmH.len : TmH → Nat
  | .nil => 0
  | .gone l | .kept l | .lst _ _ l | .tree _ _ _ l | .one _ l | .cells _ _ l => l.len + 1
def Tmpl.ty (T : Tmpl) : Ty := T.ts.ty T.hs.ty
def TmL.write (ρ ν : Nat → Nat) : (l : TmL) → (r : Ty) → den (l.ty r) → List AV × den r
  | .nil, _, x => ([], x)
  | .junk l, r, x => (.junk :: (l.write ρ ν r x).1, (l.write ρ ν r x).2)
  | .slot t l, r, x => (up t x.1 :: (l.write ρ ν r x.2).1, (l.write ρ ν r x.2).2)
  | .agg cs l, r, x => (.agg (cs.write ρ ν (l.ty r) x).1 :: (l.write ρ ν r (cs.write ρ ν (l.ty r) x).2).1, (l.write ρ ν r (cs.write ρ ν (l.ty r) x).2).2)
  | .own q l, r, x => (.own (ρ q) none none :: (l.write ρ ν r x).1, (l.write ρ ν r x).2)
  | .ptr q i off l, r, x => (.ptr (ρ q) none i off :: (l.write ρ ν r x).1, (l.write ρ ν r x).2)
  | .ptrI q off l, r, x => (.ptr (ρ q) none x.1 off :: (l.write ρ ν r x.2).1, (l.write ρ ν r x.2).2)
  | .mptr q k off l, r, x => (.mptr (ρ q) k (ν q) off x.1 :: (l.write ρ ν r x.2).1, (l.write ρ ν r x.2).2)
  | .nown q k l, r, x => (.own (ρ q) (some (x.1, k, ν q)) none :: (l.write ρ ν r x.2).1, (l.write ρ ν r x.2).2)
  | .ownR q l, r, x => (.own (ρ q) none (some (x.1.1, x.1.2)) :: (l.write ρ ν r x.2).1, (l.write ρ ν r x.2).2)
  | .const c l, r, x => (c :: (l.write ρ ν r x).1, (l.write ρ ν r x).2)
  | .fn f cs l, r, x => (.fn f (cs.write ρ ν (l.ty r) x).1 :: (l.write ρ ν r (cs.write ρ ν (l.ty r) x).2).1, (l.write ρ ν r (cs.write ρ ν (l.ty r) x).2).2)
def TmH.write (ρ ν : Nat → Nat) : (l : TmH) → Nat → den l.ty → List (Option Cont)
  | .nil, _, _ => []
  | .gone l, q, x => some .dead :: l.write ρ ν (q + 1) x
  | .kept l, q, x => none :: l.write ρ ν (q + 1) x
  | .lst ro t l, q, x => some (.lst ro t x.1) :: l.write ρ ν (q + 1) x.2
  | .tree ro _ t l, q, x => some (.tree ro (ν q) t x.1 none) :: l.write ρ ν (q + 1) x.2
  | .one t l, q, x => some (.cells t.size [flat t x.1]) :: l.write ρ ν (q + 1) x.2
  | .cells k ms l, q, x => some (.cells k [(ms.write ρ ν l.ty x).1]) :: l.write ρ ν (q + 1) (ms.write ρ ν l.ty x).2
def Tmpl.vals (T : Tmpl) (ρ ν : Nat → Nat) (x : den T.ty) : List AV := (T.ts.write ρ ν T.hs.ty x).1
def Tmpl.objs (T : Tmpl) (ρ ν : Nat → Nat) (x : den T.ty) : List (Option Cont) := T.hs.write ρ ν 0 (T.ts.write ρ ν T.hs.ty x).2
def TmH.ver : TmH → Nat → Nat
  | .nil, _ => 0
  | .gone l, q | .kept l, q | .lst _ _ l, q | .one _ l, q | .cells _ _ l, q => match q with | 0 => 0 | q + 1 => l.ver q
  | .tree _ v _ l, q => match q with | 0 => v | q + 1 => l.ver q
abbrev Tmpl.vals0 (T : Tmpl) (x : den T.ty) : List AV := T.vals id T.hs.ver x
abbrev Tmpl.objs0 (T : Tmpl) (x : den T.ty) : List (Option Cont) := T.objs id T.hs.ver x
def Tmpl.write (T : Tmpl) (x : den T.ty) : St := ⟨T.vals0 x, T.objs0 x⟩
structure Ent where
  f : FuncId
  ti : Tmpl
  to : Tmpl
  fn : den ti.ty → Option (den to.ty)
inductive Ex where
  | normal | ret | exit (id : Nat)
  deriving DecidableEq
abbrev LoopFn := St → (R : Type) → (Ex → St → Option R) → Option R
structure Cfg where
  ti : List (TypeId × TI)
  ents : List Ent
  ann : List (Nat × LoopFn)
  hid : List ((Nat × Nat) × List Nat) := []
  cs : Nat := 12
  lent : Nat := 0
  cut : List (Option (Nat × Nat)) := []
def Cfg.info (C : Cfg) (t : TypeId) : Option TI := (C.ti.find? fun x => x.1 == t).map (·.2)
abbrev Ren := List (Option Nat)
def setR : Ren → Nat → Nat → Ren
  | [], 0, r => [some r]
  | [], q + 1, r => none :: setR [] q r
  | _ :: ρ, 0, r => some r :: ρ
  | o :: ρ, q + 1, r => o :: setR ρ q r
def bindL : TmL → List AV → Ren → Ren
  | .nil, _, ρ => ρ
  | .junk l, vs, ρ | .slot _ l, vs, ρ | .const _ l, vs, ρ => match vs with | [] => ρ | _ :: vs => bindL l vs ρ
  | .agg cs l, vs, ρ => match vs with | [] => ρ | v :: vs => bindL l vs (match v with | .agg us => bindL cs us ρ | _ => ρ)
  | .fn _ cs l, vs, ρ => match vs with | [] => ρ | v :: vs => bindL l vs (match v with | .fn _ us => bindL cs us ρ | _ => ρ)
  | .own q l, vs, ρ => match vs with | [] => ρ | v :: vs => bindL l vs (match v with | .own r none none => setR ρ q r | _ => ρ)
  | .ptr q _ _ l, vs, ρ => match vs with | [] => ρ | v :: vs => bindL l vs (match v with | .ptr r none _ _ => setR ρ q r | _ => ρ)
  | .ptrI q _ l, vs, ρ => match vs with | [] => ρ | v :: vs => bindL l vs (match v with | .ptr r none _ _ => setR ρ q r | _ => ρ)
  | .mptr q _ _ l, vs, ρ => match vs with | [] => ρ | v :: vs => bindL l vs (match v with | .mptr r _ _ _ _ => setR ρ q r | .ptr r (some _) _ _ => setR ρ q r | _ => ρ)
  | .nown q _ l, vs, ρ | .ownR q l, vs, ρ => match vs with | [] => ρ | v :: vs => bindL l vs (match v with | .own r _ _ => setR ρ q r | _ => ρ)
def bindH (h : Heap) : TmH → Nat → Ren → Ren
  | .nil, _, ρ => ρ
  | .gone l, q, ρ | .kept l, q, ρ | .lst _ _ l, q, ρ | .tree _ _ _ l, q, ρ | .one _ l, q, ρ => bindH h l (q + 1) ρ
  | .cells _ ms l, q, ρ => bindH h l (q + 1) (match ρ.getD q none with
    | some r => match h.getD r none with
      | some (.cells _ [cs]) => bindL ms cs ρ
      | _ => ρ
    | none => ρ)
inductive Conv where
  | fz (r : Nat) | thin (r : Nat) | solid (r : Nat) (t : Ty) | plant (r : Nat) (t : Ty)
def Ty.scalar : Ty → Bool | .int _ | .bool | .str | .err => true | _ => false
def plantC (h : Heap) : List AV → Option (List AV)
  | [] => some []
  | c :: cs => match plantC h cs with
    | none => none
    | some ds => match c with
      | .own r none none => match h.getD r none with
        | some (.lst false u ys) => some (.pv (.slice u) ys :: ds)
        | _ => none
      | .nils => some (.nils :: ds)
      | .pv t x => if t.scalar then some (.pv t x :: ds) else none
      | _ => none
def rootOf : AV → Option Nat
  | .own r none none => some r
  | _ => none
def rootsOf : List AV → List Nat
  | [] => []
  | c :: cs => match rootOf c with | some r => r :: rootsOf cs | none => rootsOf cs
def killD (ks : List Nat) : Delta := ks.map fun r => (r, .dead)
def nodupB : List Nat → Bool
  | [] => true
  | a :: l => !l.contains a && nodupB l
def convK {R : Type} (c : Conv) (h : Heap) (K : Delta → Option R) : Option R :=
  match c with
  | .fz r => match h.getD r none with
    | some (.lst _ t xs) => K [(r, .lst true t xs)]
    | some (.tree _ v t xs none) => K [(r, .tree true v t xs none)]
    | _ => none
  | .thin r => match h.getD r none with
    | some (.tree false _ t xs none) => K [(r, .lst false t xs)]
    | _ => none
  | .solid r t => match h.getD r none with
    | some (.cells n es) => if t.size = n then packEsK (packK (roH h) t) es fun xs => K [(r, .lst false t xs)] else none
    | _ => none
  | .plant r t => match h.getD r none with
    | some (.cells n [e]) => if t.size = n ∧ nodupB (r :: rootsOf e) = true then match plantC h e with
        | some d => packK [] t d fun x rest => if rest.isEmpty then K ((r, .tree false 0 t [x] none) :: killD (rootsOf e)) else none
        | none => none
        else none
    | _ => none
def convsK {R : Type} : List Conv → Heap → (Delta → Option R) → Option R
  | [], _, K => K []
  | c :: cs, h, K => convK c h fun δ => convsK cs (apD h δ) fun δ' => K (δ ++ δ')
def frzR (h : Heap) (r : Nat) (t : Ty) : List Conv := match h.getD r none with
  | some (.lst false _ _) => [.fz r]
  | some (.tree false _ _ _ _) => [.fz r]
  | some (.cells _ _) => [.solid r t, .fz r]
  | _ => []
def wantC (h : Heap) : Ty → List AV → List Conv × List AV
  | .prod a b, cs => ((wantC h a cs).1 ++ (wantC h b (wantC h a cs).2).1, (wantC h b (wantC h a cs).2).2)
  | .unit, cs => ([], cs)
  | .slice t, cs => match cs with
    | .own r _ _ :: cs => (frzR h r t, cs)
    | _ :: cs => ([], cs)
    | [] => ([], [])
  | .iref t, cs => match cs with
    | .ptr r _ _ _ :: cs => ((match h.getD r none with | some (.cells _ [e]) => (wantC h t e).1 | _ => []) ++ frzR h r t, cs)
    | _ :: cs => ([], cs)
    | [] => ([], [])
  | .fn _ t, cs => match cs with
    | .fn _ us :: cs => (wantA h t us, cs)
    | _ :: cs => ([], cs)
    | [] => ([], [])
  | _, cs => ([], cs.drop 1)
where wantA (h : Heap) : Ty → List AV → List Conv
  | .prod a b, v :: vs => (wantC h a (match v with | .agg cs => if a.agg then cs else [v] | _ => [v])).1 ++ wantA h b vs
  | _, _ => []
def sAdd (a b : ByteArray) : Option ByteArray := if a.size + b.size ≤ 9223372036854775807 then some (a ++ b) else none
def quo? (k : IntKind) (a b : Int) : Option Int := if b = 0 then none else some (k.wrap (a.tdiv b))
def rem? (a b : Int) : Option Int := if b = 0 then none else some (a.tmod b)
def shl? (k : IntKind) (a b : Int) : Option Int := if b < 0 then none else some (k.wrap (a * 2 ^ min b.toNat k.bits))
def shr? (k : IntKind) (a b : Int) : Option Int := if b < 0 then none else some (a.fdiv (2 ^ min b.toNat k.bits))
def iand (k : IntKind) (a b : Int) : Int := k.wrap ((BitVec.ofInt k.bits a &&& BitVec.ofInt k.bits b).toNat)
def ior (k : IntKind) (a b : Int) : Int := k.wrap ((BitVec.ofInt k.bits a ||| BitVec.ofInt k.bits b).toNat)
def ixor (k : IntKind) (a b : Int) : Int := k.wrap ((BitVec.ofInt k.bits a ^^^ BitVec.ofInt k.bits b).toNat)
def bin (op : BinOp) (x y : AV) : Option AV :=
  match op, x, y with
  | .add, .pv (.int k) a, .pv (.int l) b => if k = l then some (.pv (.int k) (k.wrap (a + b))) else none
  | .sub, .pv (.int k) a, .pv (.int l) b => if k = l then some (.pv (.int k) (k.wrap (a - b))) else none
  | .mul, .pv (.int k) a, .pv (.int l) b => if k = l then some (.pv (.int k) (k.wrap (a * b))) else none
  | .eql, .pv (.int k) a, .pv (.int l) b => if k = l then some (.b (a == b)) else none
  | .neq, .pv (.int k) a, .pv (.int l) b => if k = l then some (.b (a != b)) else none
  | .lss, .pv (.int k) a, .pv (.int l) b => if k = l then some (.b (decide (a < b))) else none
  | .leq, .pv (.int k) a, .pv (.int l) b => if k = l then some (.b (decide (a ≤ b))) else none
  | .gtr, .pv (.int k) a, .pv (.int l) b => if k = l then some (.b (decide (a > b))) else none
  | .geq, .pv (.int k) a, .pv (.int l) b => if k = l then some (.b (decide (a ≥ b))) else none
  | .and, .pv (.int k) a, .pv (.int l) b => if k = l then some (.pv (.int k) (iand k a b)) else none
  | .or, .pv (.int k) a, .pv (.int l) b => if k = l then some (.pv (.int k) (ior k a b)) else none
  | .xor, .pv (.int k) a, .pv (.int l) b => if k = l then some (.pv (.int k) (ixor k a b)) else none
  | .eql, .pv .str a, .pv .str b => some (.b (a.toList == b.toList))
  | .neq, .pv .str a, .pv .str b => some (.b (!(a.toList == b.toList)))
  | _, _, _ => none
def binK {R : Type} (op : BinOp) (x y : AV) (K : AV → Option R) : Option R :=
  match op, x, y with
  | .add, .pv .str a, .pv .str b => (sAdd a b).bind fun z => K (.pv .str z)
  | .quo, .pv (.int k) a, .pv (.int l) b => if k = l then (quo? k a b).bind fun z => K (.pv (.int k) z) else none
  | .rem, .pv (.int k) a, .pv (.int l) b => if k = l then (rem? a b).bind fun z => K (.pv (.int k) z) else none
  | .shl, .pv (.int k) a, .pv (.int _) b => (shl? k a b).bind fun z => K (.pv (.int k) z)
  | .shr, .pv (.int k) a, .pv (.int _) b => (shr? k a b).bind fun z => K (.pv (.int k) z)
  | op, x, y => match bin op x y with | some v => K v | none => none
def eqCells : List AV → List AV → Option Bool
  | [], [] => some true
  | .pv (.int k) a :: xs, .pv (.int l) b :: ys => if k = l then (eqCells xs ys).map fun r => (a == b) && r else none
  | _, _ => none
def TI.isInt (i : TI) : Bool := match i.und with | .int _ => i.size == 1 | _ => false
def TI.ints (C : List (TypeId × TI)) (fs : List (Nat × TypeId)) : Bool := fs.all fun f => ((C.find? fun x => x.1 == f.2).map fun x => x.2.isInt).getD false
def eqT (i : TI) (x y : AV) : Option Bool :=
  match i.und, x, y with
  | .bool, .pv .bool a, .pv .bool b => some (a == b)
  | .iface, .pv .err a, .nili => some a
  | .ptr _, .pv (.iref t) a, .nilp => some (a : Option (den t)).isNone
  | .ptr _, .iptr _ _ _, .nilp => some false
  | .ptr _, .ptr _ _ _ _, .nilp => some false
  | .ptr _, .mptr _ _ _ _ o, .nilp => some o.isNone
  | .ptr _, .nilp, .nilp => some true
  | _, _, _ => none
def okNil (i : TI) (y : Operand) : Bool := match i.und with | .iface => (match y with | .const _ => true | _ => false) | _ => true
def un (op : UnOp) (x : AV) : Option AV :=
  match op, x with
  | .not, .pv .bool b => some (.b (!b))
  | .neg, .pv (.int k) n => some (.pv (.int k) (k.wrap (0 - n)))
  | _, _ => none
def ldCells (i : TI) (cs : List AV) : Option AV :=
  if i.agg then (if i.size ≤ cs.length then some (.agg (cs.take i.size)) else none)
  else match cs with | c :: _ => some c | [] => none
def ldK {R : Type} (i : TI) (cs : List AV) (K : AV → Option R) : Option R := match ldCells i cs with | some v => K v | none => none
def lAt {α : Type} (xs : List α) (i : Int) : Option α := if 0 ≤ i then xs[i.toNat]? else none
def bAt (s : ByteArray) (i : Int) : Option Int := if 0 ≤ i then (s.data[i.toNat]?).map fun b => (b.toNat : Int) else none
def slAt {α : Type} (xs : List α) (lo hi : Int) : Option (List α) := if 0 ≤ lo ∧ lo ≤ hi ∧ hi ≤ xs.length then some ((xs.drop lo.toNat).take (hi.toNat - lo.toNat)) else none
def ssAt (s : ByteArray) (lo hi : Int) : Option ByteArray := if 0 ≤ lo ∧ lo ≤ hi ∧ hi ≤ s.size then some (s.extract lo.toNat hi.toNat) else none
def mx (a b : Int) : Int := if b > a then b else a
def mn (a b : Int) : Int := if b < a then b else a
def maxs (k : IntKind) (a : Int) : List AV → Option AV
  | [] => some (.pv (.int k) a)
  | .pv (.int l) b :: r => if k = l then maxs k (mx a b) r else none
  | _ => none
def mins (k : IntKind) (a : Int) : List AV → Option AV
  | [] => some (.pv (.int k) a)
  | .pv (.int l) b :: r => if k = l then mins k (mn a b) r else none
  | _ => none
def intsOf (k : IntKind) : List AV → Option (List Int)
  | [] => some []
  | .pv (.int l) n :: cs => if k = l then (intsOf k cs).map ((n : Int) :: ·) else none
  | _ => none
def arrK {R : Type} (k : IntKind) (xs : List Int) : Nat → Nat → (List AV → Option R) → Option R
  | 0, _, K => K []
  | n + 1, j, K => (xs[j]?).bind fun x => arrK k xs n (j + 1) fun cs => K (.pv (.int k) x :: cs)
def loadArrK {R : Type} (h : Heap) (n : Nat) (x : AV) (K : AV → Option R) : Option R := match x with
  | .ptr r none 0 0 => lookK h r none fun c => match c with
    | .lst _ (.int k) xs => arrK k xs n 0 fun cs => K (.agg cs)
    | _ => none
  | _ => none
def panicK {R : Type} : Option R := none
def lenK {R : Type} (h : Heap) (u : Und) (v : AV) (K : Int → Option R) : Option R :=
  match u, v with
  | .str, .pv .str x => K (((x : ByteArray).size : Nat) : Int)
  | .slice _, .pv (.slice t) xs => K (((xs : List (den t)).length : Nat) : Int)
  | .slice _, .nils => K 0
  | .slice _, .own r s rg => lookK h r s fun c => match rg with
    | some p => K ((p.2 : Nat) : Int)
    | none => K ((c.len : Nat) : Int)
  | _, _ => none
def callee : AV → Option (FuncId × List AV)
  | .fn f cap => some (f, cap)
  | .pv (.fn f t) x => some (f, ups t x)
  | _ => none
def isInt : AV → Option Int
  | .pv (.int .i64) n => some n
  | _ => none
def elemSz (C : List (TypeId × TI)) (i : TI) (n : Nat) : Bool := match i.und with
  | .slice e => ((C.find? fun x => x.1 == e).map fun x => x.2.size == n).getD false
  | _ => false
def isStr (i : TI) : Bool := match i.und with | .str => true | _ => false
def lowOf : Option AV → Option Int | none => some 0 | some v => isInt v
def highOf (n : Nat) : Option AV → Option Int | none => some (n : Int) | some v => isInt v
def sliceK {R : Type} (C : List (TypeId × TI)) (ti : TI) (hp : Heap) (x : AV) (lo hi : Option AV) (K : AV → Option R) : Option R :=
  match lowOf lo with
  | none => none
  | some l => match x with
    | .pv .str b => if isStr ti then match highOf (b : ByteArray).size hi with
      | some h => (ssAt b l h).bind fun y => K (.pv .str y)
      | none => none
      else none
    | .pv (.slice t) xs => if elemSz C ti t.size then match highOf (xs : List (den t)).length hi with
      | some h => (slAt (α := den t) xs l h).bind fun y => K (.pv (.slice t) y)
      | none => none
      else none
    | .own r s rg => lookK hp r s fun c => if elemSz C ti c.sz then match highOf (rg.getD (0, c.len)).2 hi with
        | some h => if 0 ≤ l ∧ l ≤ h ∧ h ≤ (rg.getD (0, c.len)).2 then K (.own r s (some ((rg.getD (0, c.len)).1 + l.toNat, h.toNat - l.toNat))) else none
        | none => none
        else none
    | _ => none
def AV.cells : AV → List AV
  | .agg cs => cs
  | v => [v]
def AV.cell : AV → Bool
  | .pv t _ => !t.agg
  | .agg _ | .tup _ | .junk => false
  | _ => true
def AV.ok (v : AV) : Bool := v.cells.all AV.cell
def splice (cs : List AV) (off : Nat) (vs : List AV) : List AV := cs.take off ++ vs ++ cs.drop (off + vs.length)
def fillF (C : List (TypeId × TI)) (offs : List (Nat × TypeId)) (zero : List AV) : List (Nat × AV) → Option (List AV)
  | [] => some zero
  | p :: ps => match offs[p.1]? with
    | some d => if p.2.ok = true ∧ (C.find? fun x => x.1 == d.2).map (·.2.size) = some p.2.cells.length ∧ d.1 + p.2.cells.length ≤ zero.length then fillF C offs (splice zero d.1 p.2.cells) ps else none
    | none => none
def zeroEs (n : Nat) (z : List AV) : List (List AV) := List.replicate n z
def fillE (es : List (List AV)) : List (Nat × AV) → List (List AV)
  | [] => es
  | p :: ps => fillE (es.set p.1 p.2.cells) ps
def builtinK {R : Type} (C : Cfg) (ts : List TypeId) (h : Heap) (b : Builtin) (args : List AV) (K : AV → Option R) : Option R :=
  match b, args with
  | .len, [v] => match ts with
    | t :: _ => match C.info t with
      | some i => lenK h i.und v fun n => K (.n n)
      | none => none
    | [] => none
  | .max, .pv (.int k) a :: r => match maxs k a r with | some v => K v | none => none
  | .min, .pv (.int k) a :: r => match mins k a r with | some v => K v | none => none
  | _, _ => none
def vopQ {R : Type} (C : Cfg) (s : St) (o : Oper) (K : AV → Option R) : Option R :=
  match o.op with
  | .move x | .assign x => K (ev s.t x)
  | .pick c a b => match ev s.t c with
    | .pv .bool t => match (t : Bool) with | true => K (ev s.t a) | false => K (ev s.t b)
    | _ => none
  | .binOp op t x y _ => match ev s.t x, ev s.t y with
    | .agg xs, .agg ys => match C.info t with
      | some { und := .struct fs, .. } => if TI.ints C.ti fs && fs.map (·.1) == List.range xs.length then match eqCells xs ys with
        | some b => match op with
          | .eql => K (.b b)
          | .neq => K (.b (!b))
          | _ => none
        | none => none
        else none
      | _ => none
    | .own r sb rg, .nils => match op with
      | .eql => match C.info t with
        | some { und := .slice _, .. } => lookK s.h r sb fun c => bif (rg.getD (0, c.len)).2 == 0 then K .unk else K (.b false)
        | _ => none
      | _ => none
    | .pv (.slice u) xs, .nils => match op with
      | .eql => match C.info t with
        | some { und := .slice _, .. } => bif (xs : List (den u)).length == 0 then K .unk else K (.b false)
        | _ => none
      | _ => none
    | .nils, .nils => match op with
      | .eql => match C.info t with
        | some { und := .slice _, .. } => K (.b true)
        | _ => none
      | _ => none
    | .pv .str a, .pv .str b => binK op (.pv .str a) (.pv .str b) K
    | .pv (.int k) a, .pv (.int l) b => binK op (.pv (.int k) a) (.pv (.int l) b) K
    | a, b => match bin op a b with
      | some v => K v
      | none => match C.info t with
        | some i => if okNil i y then match eqT i a b with
          | some r => match op with
            | .eql => K (.b r)
            | .neq => K (.b (!r))
            | _ => none
          | none => none
          else none
        | none => none
  | .unOp op _ x => match un op (ev s.t x) with | some v => K v | none => none
  | .fieldAddr t x f => match C.info t with
    | some { und := .struct offs, .. } => match offs[f]? with
      | some d => if ((C.info d.2).map fun j => decide (j.size ≠ 0)) = some true then match ev s.t x with
        | .iptr u y off => K (.iptr u y (off + d.1))
        | .ptr r q i off => K (.ptr r q i (off + d.1))
        | .pv (.iref u) y => (y : Option (den u)).bind fun z => K (.iptr u z d.1)
        | .mptr r k v off y => y.bind fun z => K (.ptr r (some (z.1, k, v)) z.2 (off + d.1))
        | _ => none
        else none
      | none => none
    | _ => none
  | .field t x f => match C.info t, ev s.t x with
    | some { und := .struct offs, .. }, .agg cs => match offs[f]? with
      | some d => match C.info d.2 with
        | some i => ldK i (cs.drop d.1) K
        | none => none
      | none => none
    | _, _ => none
  | .load t x => match C.info t with
    | some i => match i.und with
      | .arr _ _ => loadArrK s.h i.size (ev s.t x) K
      | _ => match ev s.t x with
        | .iptr u y off => ldK i ((flat u y).drop off) K
        | .pv (.iref u) y => (y : Option (den u)).bind fun z => ldK i (flat u z) K
        | .ptr r q j off => lookK s.h r q fun c => c.atK r j fun cs => ldK i (cs.drop off) K
        | .mptr r k v off y => y.bind fun z => lookK s.h r (some (z.1, k, v)) fun c => c.atK r z.2 fun cs => ldK i (cs.drop off) K
        | _ => none
    | none => none
  | .indexAddr t x ix => match isInt (ev s.t ix), C.info t with
    | some i, some { und := .slice e, .. } => match C.info e with
      | some ie => match ev s.t x with
        | .pv (.slice u) xs => if u.size = ie.size then (lAt (α := den u) xs i).bind fun y => K (.iptr u y 0) else none
        | .own r q rg => lookK s.h r q fun c => if c.sz = ie.size then
              (if 0 ≤ i ∧ i < (rg.getD (0, c.len)).2 then K (.ptr r q ((rg.getD (0, c.len)).1 + i.toNat) 0) else none)
            else none
        | _ => none
      | none => none
    | some i, some { und := .arr n e, .. } => match C.info e, ev s.t x with
      | some ie, .ptr r none 0 0 => if ie.size = 1 ∧ 0 ≤ i ∧ i < n then lookK s.h r none fun c => if c.sz = 1 then K (.ptr r none i.toNat 0) else none else none
      | _, _ => none
    | _, _ => none
  | .index t x ix => match C.info t, isInt (ev s.t ix), ev s.t x with
    | some { und := .str, .. }, some i, .pv .str b => (bAt b i).bind fun c => K (.pv (.int .u8) c)
    | some { und := .arr n e, .. }, some i, .agg cs => match C.info e with
      | some { und := .int k, size := 1, .. } => match intsOf k cs with
        | some ys => if 0 ≤ i ∧ i < n then (lAt ys i).bind fun y => K (.pv (.int k) y) else none
        | none => none
      | _ => none
    | _, _, _ => none
  | .slice t x lo hi none => match C.info t with
    | some ti => sliceK C.ti ti s.h (ev s.t x) (lo.map (ev s.t)) (hi.map (ev s.t)) K
    | none => none
  | .build t ps => match C.info t with
    | some i => match i.und with
      | .struct offs => match fillF C.ti offs i.zero (ps.toList.map fun p => (p.1, ev s.t p.2)) with | some cs => K (.agg cs) | none => none
      | .arr _ e => if ps.isEmpty then (match C.info e with | some _ => K (.agg i.zero) | none => none) else none
      | _ => none
    | none => none
  | .extract x i => match ev s.t x with
    | .tup vs => match vs[i]? with | some v => K v | none => none
    | _ => none
  | .makeFunc (.func f) first cap => if first.isEmpty then K (.fn f (cap.toList.map (ev s.t))) else none
  | .nilCheck x => match ev s.t x with
    | .ptr r q i f => K (.ptr r q i f)
    | .iptr u y f => K (.iptr u y f)
    | .fn f c => K (.fn f c)
    | .pv (.iref u) y => (y : Option (den u)).bind fun z => K (.iptr u z 0)
    | .mptr r k v off y => y.bind fun z => K (.ptr r (some (z.1, k, v)) z.2 off)
    | _ => none
  | .convert src dst x => match C.info src, C.info dst, ev s.t x with
    | some { und := .int _, .. }, some { und := .int k, .. }, .pv (.int _) n => K (.pv (.int k) (k.wrap n))
    | some { und := .str, .. }, some { und := .str, .. }, .pv .str b => K (.pv .str b)
    | _, _, _ => none
  | .makeInterface _ _ => panicK
  | .panic _ => panicK
  | .call c => match c.callee with
    | .builtin b => builtinK C c.argTypes.toList s.h b (c.args.toList.map (ev s.t)) K
    | _ => none
  | _ => none
def Ty.hasSl : Ty → Bool
  | .slice _ => true
  | .prod a b => a.hasSl || b.hasSl
  | _ => false
def AV.pureIn (h : Heap) : AV → Bool
  | .pv _ _ | .iptr _ _ _ | .nils | .nilp | .nilf | .nili => true
  | .own r _ _ => match h.getD r none with | some c => c.ro | none => false
  | .ptr r _ _ _ => match h.getD r none with | some c => c.ro | none => false
  | .fn _ cs => cs.all fun | .pv _ _ => true | _ => false
  | _ => false
def slotsFree : List AV → Bool
  | [] => true
  | .own _ none none :: cs => slotsFree cs
  | .nils :: cs => slotsFree cs
  | .pv t _ :: cs => t.scalar && slotsFree cs
  | _ => false
def mkContK {R : Type} (h : Heap) (i : TI) (es : List (List AV)) (K : Cont → Option R) : Option R :=
  match i.code with
  | some t => if t.size = i.size then
      (if t.hasSl = true ∧ es.isEmpty = true then K (.tree false 0 t [] none)
       else if (es.all fun e => e.all (AV.pureIn h)) = true ∧ (!t.hasSl || !(es.all slotsFree)) = true then packEsK (packK (roH h) t) es fun xs => K (.lst false t xs)
       else K (.cells i.size es))
    else K (.cells i.size es)
  | none => K (.cells i.size es)
def cellsOk (n : Nat) (es : List (List AV)) : Bool := es.all fun e => e.length == n && e.all AV.cell
def srcK {R : Type} (h : Heap) (t : Ty) (y : AV) (K : List (den t) → Option R) : Option R :=
  match y with
  | .nils => K []
  | .pv u ys => (cast? u (.slice t) ys).bind K
  | .own r s rg => lookK h r s fun c => match c with
    | .lst _ u ys => (cast? (.slice u) (.slice t) ys).bind fun zs => K (sub? zs rg)
    | _ => none
  | _ => none
def setSl (t : Ty) (x : den t) (k : Nat) {u : Ty} (ys : List (den u)) : Option (den t) :=
  packK [] t ((flat t x).set k (.pv (.slice u) ys)) fun y rest => if rest.isEmpty then some y else none
def storeK {R : Type} (h : Heap) (i : TI) (a v : AV) (K : Delta → Option R) : Option R :=
  if v.ok = true ∧ v.cells.length = i.size then match a with
    | .ptr r none j off => match h.getD r none with
      | some (.cells n es) => match es[j]? with
        | some cs => if off + i.size ≤ cs.length then K [(r, .cells n (es.set j (splice cs off v.cells)))] else none
        | none => none
      | some (.lst false t xs) => (xs[j]?).bind fun x => if off + i.size ≤ t.size then
          packK (roH h) t (splice (flat t x) off v.cells) fun y rest => if rest.isEmpty then K [(r, .lst false t (xs.set j y))] else none
          else none
      | some (.tree false ver t xs none) => (xs[j]?).bind fun x => if off + i.size ≤ t.size ∧ nodupB (r :: rootsOf v.cells) = true then match plantC h v.cells with
          | some d => packK [] t (splice (flat t x) off d) fun y rest => if rest.isEmpty then K ((r, .tree false (ver + 1) t (xs.set j y) none) :: killD (rootsOf v.cells)) else none
          | none => none
          else none
      | some (.tree false ver t xs (some p)) => (xs[j]?).bind fun x => if off + i.size ≤ t.size ∧ nodupB (r :: rootsOf v.cells) = true ∧ j = p.1 ∧ off ≤ p.2 ∧ p.2 < off + i.size then match plantC h v.cells with
          | some d => packK [] t (splice (flat t x) off d) fun y rest => if rest.isEmpty then K ((r, .tree false (ver + 1) t (xs.set j y) none) :: killD (rootsOf v.cells)) else none
          | none => none
          else none
      | _ => none
    | .ptr r (some (i', k, v')) j off => match h.getD r none with
      | some (.tree false ver t xs none) => if v' = ver then (xs[i']?).bind fun x => match (flat t x)[k]? with
          | some (.pv (.slice u) ys) => ((ys : List (den u))[j]?).bind fun y => if off + i.size ≤ u.size then
              packK [] u (splice (flat u y) off v.cells) fun z rest => if rest.isEmpty then
                (match setSl t x k ((ys : List (den u)).set j z) with | some x' => K [(r, .tree false ver t (xs.set i' x') none)] | none => none) else none
              else none
          | _ => none
          else none
      | _ => none
    | _ => none
  else none
def storeArrK {R : Type} (h : Heap) (n : Nat) (a v : AV) (K : Delta → Option R) : Option R :=
  match a with
  | .ptr r none 0 0 => match h.getD r none with
    | some (.lst false (.int k) xs) => match intsOf k v.cells with
      | some ys => if ys.length = n ∧ n = xs.length then K [(r, .lst false (.int k) ys)] else none
      | none => none
    | _ => none
  | _ => none
def frzRoots (h : Heap) : List AV → List Conv
  | [] => []
  | .own r _ _ :: cs => (match h.getD r none with
    | some (.lst false _ _) => [Conv.fz r]
    | some (.tree false _ _ _ _) => [.fz r]
    | _ => []) ++ frzRoots h cs
  | _ :: cs => frzRoots h cs
def isTree : AV → Heap → Bool
  | .own r none none, h => match h.getD r none with | some (.tree _ _ _ _ _) => true | _ => false
  | _, _ => false
def isNils : AV → Bool | .nils => true | _ => false
def appWant (h : Heap) (t : Ty) (x y : AV) : List Conv :=
  match y with
  | .own r none none => match h.getD r none with
    | some (.cells _ [e]) => if (isNils x || isTree x h) && slotsFree e then [.plant r t] else
        frzRoots h e ++ [.solid r t] ++ (if isTree x h then (match x with | .own q _ _ => [.thin q] | _ => []) else [])
    | some (.tree _ _ _ _ _) => [.thin r] ++ (if isTree x h then (match x with | .own q _ _ => [.thin q] | _ => []) else [])
    | _ => if isTree x h then (match x with | .own q _ _ => [.thin q] | _ => []) else []
  | .nils => []
  | _ => if isTree x h then (match x with | .own q _ _ => [.thin q] | _ => []) else []
def appK2 {R : Type} (h : Heap) (base lim : Nat) (t : Ty) (x y : AV) (K : AV → Delta → Option R) : Option R :=
  match x with
  | .nils => match y with
    | .nils => K .nils []
    | .own r none none => match h.getD r none with
      | some (.tree false _ u [z] none) => if u = t ∧ 1 ≤ lim then K (.own base none none) [(r, .dead), (base, .tree false 0 u [z] none)] else none
      | _ => srcK h t y fun ys => if ys.length ≤ lim then K (.own base none none) [(base, .lst false t ys)] else none
    | _ => srcK h t y fun ys => if ys.length ≤ lim then K (.own base none none) [(base, .lst false t ys)] else none
  | .own q none none => match h.getD q none with
    | some (.lst false u xs) => if u = t then srcK h u y fun ys => if (xs ++ ys).length ≤ lim then K (.own base none none) [(q, .dead), (base, .lst false u (xs ++ ys))] else none else none
    | some (.tree false _ u xs none) => match y with
      | .own r none none => match h.getD r none with
        | some (.tree false _ u' [z] none) => if u' = t ∧ r ≠ q then (cast? u' u z).bind fun z' => if (xs ++ [z']).length ≤ lim then K (.own base none none) [(q, .dead), (r, .dead), (base, .tree false 0 u (xs ++ [z']) none)] else none else none
        | _ => none
      | _ => none
    | _ => none
  | .own q (some (i, k, v)) none => match h.getD q none with
    | some (.tree false ver u xs none) => if v = ver then (xs[i]?).bind fun x => match (flat u x)[k]? with
        | some (.pv (.slice u') zs) => if u' = t then srcK h u' y fun ys => if ((zs : List (den u')) ++ ys).length ≤ lim then K (.own (base + 1) none none) [(q, .tree false (ver + 1) u xs (some (i, k))), (base, .lst false u' zs), (base, .dead), (base + 1, .lst false u' ((zs : List (den u')) ++ ys))] else none else none
        | _ => none
        else none
    | _ => none
  | _ => none
def appK {R : Type} (h : Heap) (base : Nat) (ie : TI) (x y : AV) (K : AV → Delta → Option R) : Option R :=
  match ie.code with
  | some t => if t.size = ie.size then convsK (appWant h t x y) h fun δ => appK2 (apD h δ) base ie.lim t x y fun v δ' => K v (δ ++ δ') else none
  | none => none
def copyInto {α : Type} (xs : List α) (off n : Nat) (ys : List α) : List α := xs.take off ++ ys.take n ++ xs.drop (off + (ys.take n).length)
def copyK {R : Type} (h : Heap) (n : Nat) (x y : AV) (K : AV → Delta → Option R) : Option R :=
  match x with
  | .own q none rg => match h.getD q none with
    | some (.lst false t xs) => if t.size = n then srcK h t y fun ys => K (.n (min (rg.getD (0, xs.length)).2 ys.length : Nat)) [(q, .lst false t (copyInto xs (rg.getD (0, xs.length)).1 (rg.getD (0, xs.length)).2 ys))] else none
    | _ => none
  | _ => none
def clearK {R : Type} (h : Heap) (u : Ty) (z : den u) (x : AV) (K : AV → Delta → Option R) : Option R :=
  match x with
  | .own q none rg => match h.getD q none with
    | some (.lst false t xs) => (cast? u t z).bind fun z => K .undef [(q, .lst false t (xs.take (rg.getD (0, xs.length)).1 ++ List.replicate (rg.getD (0, xs.length)).2 z ++ xs.drop ((rg.getD (0, xs.length)).1 + (rg.getD (0, xs.length)).2)))]
    | _ => none
  | _ => none
def slots (_ : Cfg) (o : Oper) : Nat :=
  match o.op with
  | .box _ _ | .alloc _ | .buildSlice _ _ _ | .makeSlice _ _ _ => 1
  | .call { callee := .builtin .append, .. } => 2
  | .call { callee := .value _, .. } => 0
  | _ => 0
def vopE {R : Type} (C : Cfg) (base : Nat) (s : St) (o : Oper) (K : AV → Delta → Option R) : Option R :=
  match o.op with
  | .box t x => match C.info t with
    | some i => if (ev s.t x).ok = true ∧ (ev s.t x).cells.length = i.size then K (.ptr base none 0 0) [(base, .cells i.size [(ev s.t x).cells])] else none
    | none => none
  | .alloc t => match C.info t with
    | some i => match i.und with
      | .arr _ e => match C.info e with
        | some { und := .int k, .. } => match intsOf k i.zero with
          | some ys => K (.ptr base none 0 0) [(base, .lst false (.int k) ys)]
          | none => none
        | _ => none
      | _ => K (.ptr base none 0 0) [(base, .cells i.size [i.zero])]
    | none => none
  | .buildSlice t n ps => match C.info t with
    | some { und := .slice e, .. } => match C.info e with
      | some ie => if (ps.toList.all fun p => p.1 < n && (ev s.t p.2).ok && (ev s.t p.2).cells.length == ie.size) && (n * ie.size ≤ 16777216) then
          mkContK s.h ie (fillE (zeroEs n ie.zero) (ps.toList.map fun p => (p.1, ev s.t p.2))) fun c => K (.own base none none) [(base, c)] else none
      | none => none
    | _ => none
  | .makeSlice t l c => match C.info t, isInt (ev s.t l), isInt (ev s.t c) with
    | some { und := .slice e, .. }, some n, some m => match C.info e with
      | some ie => if 0 ≤ n ∧ n ≤ m ∧ m ≤ ie.lim then match ie.code with
          | some u => if u.size = ie.size then (if u.hasSl then (if slotsFree ie.zero then packK [] u ie.zero (fun z rest => if rest.isEmpty then K (.own base none none) [(base, .tree false 0 u (List.replicate n.toNat z) none)] else none) else none)
              else packK [] u ie.zero fun z rest => if rest.isEmpty then K (.own base none none) [(base, .lst false u (List.replicate n.toNat z))] else none) else none
          | none => none
        else none
      | none => none
    | _, _, _ => none
  | .store t a v => match C.info t with
    | some i => match i.und with
      | .arr _ _ => storeArrK s.h i.size (ev s.t a) (ev s.t v) fun δ => K .undef δ
      | _ => storeK s.h i (ev s.t a) (ev s.t v) fun δ => K .undef δ
    | none => none
  | .call { callee := .builtin .append, args, argTypes } => match args.toList, argTypes.toList with
    | [x, y], [t, u] => if t = u then match C.info t with
      | some { und := .slice e, .. } => match C.info e with
        | some ie => appK s.h base ie (ev s.t x) (ev s.t y) K
        | none => none
      | _ => none
      else none
    | _, _ => none
  | .call { callee := .builtin .clear, args, argTypes } => match args.toList, argTypes.toList with
    | [x], [t] => match C.info t with
      | some { und := .slice e, .. } => match C.info e with
        | some ie => match ie.code with
          | some u => if u.size = ie.size then packK [] u ie.zero fun z rest => if rest.isEmpty then clearK s.h u z (ev s.t x) K else none else none
          | none => none
        | none => none
      | _ => none
    | _, _ => none
  | .call { callee := .builtin .copy, args, argTypes } => match args.toList, argTypes.toList with
    | [x, y], [t, _] => match C.info t with
      | some { und := .slice e, .. } => match C.info e with
        | some ie => copyK s.h ie.size (ev s.t x) (ev s.t y) K
        | none => none
      | _ => none
    | _, _ => none
  | _ => vopQ C s o fun v => K v []
