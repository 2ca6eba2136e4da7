import Derived.Tactics
import Derived.Below
namespace Go.Ab

/-- Codes of the types whose values are pure data. -/
inductive Ty where
  | int (k : IntKind) | bool | str | err | unit
  | prod (a b : Ty) | slice (t : Ty) | iref (t : Ty) | fn (f : FuncId) (t : Ty)
  deriving DecidableEq

abbrev Ty.i : Ty := .int .i64

@[reducible] def den : Ty → Type
  | .int _ => Int | .bool => Bool | .str => ByteArray | .err => Bool | .unit => Unit
  | .prod a b => den a × den b | .slice t => List (den t) | .iref t => Option (den t) | .fn _ t => den t

def Ty.agg : Ty → Bool | .prod _ _ => true | .unit => true | _ => false

/-- How many cells a value of the type takes. -/
def Ty.size : Ty → Nat | .prod a b => a.size + b.size | .unit => 0 | _ => 1

/-- Values of the machine as they are told: 'pv' is pure data in one cell. -/
inductive AV where
  | pv (t : Ty) (x : den t)
  | agg (cs : List AV)
  | tup (cs : List AV)
  | own (r : Nat) (rg : Option (Nat × Nat))
  | ptr (r i off : Nat)
  | iptr (t : Ty) (x : den t) (off : Nat)
  | nils | nilp | nilf | nili
  | fn (f : FuncId) (cap : List AV)
  | junk

abbrev AV.undef : AV := .tup []
abbrev AV.n (n : Int) : AV := .pv (.int .i64) n
abbrev AV.b (b : Bool) : AV := .pv .bool b

def flat : (t : Ty) → den t → List AV
  | .prod a b, x => flat a x.1 ++ flat b x.2
  | .unit, _ => []
  | .int k, x => [.pv (.int k) x]
  | .bool, x => [.pv .bool x]
  | .str, x => [.pv .str x]
  | .err, x => [.pv .err x]
  | .slice t, x => [.pv (.slice t) x]
  | .iref t, x => [.pv (.iref t) x]
  | .fn f t, x => [.pv (.fn f t) x]

def up (t : Ty) (x : den t) : AV := if t.agg then .agg (flat t x) else (flat t x).headD .junk

/-- Right-nested products as lists of values (arguments, captured values, results). -/
def ups : (t : Ty) → den t → List AV
  | .prod a b, x => up a x.1 :: ups b x.2
  | _, _ => []

/-- An object that the call owns: a row of elements. -/
inductive Cont where
  | lst (t : Ty) (xs : List (den t))
  | cells (sz : Nat) (es : List (List AV))

structure St where
  t : List AV
  h : List (Option Cont)

def St.get (s : St) (i : Nat) : AV := s.t.getD i .junk
def put (t : List AV) (d : Option Nat) (v : AV) : List AV := match d with | some i => t.set i v | none => t

def AV.const : Value → AV
  | .bool b => .pv .bool b
  | .int k n => .pv (.int k) n
  | .string s => .pv .str s
  | .slice none 0 0 => .nils
  | .pointer none => .nilp
  | .nilIface => .nili
  | .nilFunc => .nilf
  | _ => .junk

def ev (t : List AV) : Operand → AV
  | .tmp i => t.getD i .junk
  | .const v => .const v
  | .global _ => .junk
  | .func f => .fn f []

def cast? (t u : Ty) (x : den t) : Option (den u) := if h : t = u then some (h ▸ x) else none

def sub? {α : Type} (xs : List α) : Option (Nat × Nat) → List α
  | none => xs
  | some (off, n) => (xs.drop off).take n

mutual
/-- Pure data out of cells; what is left of them. -/
def packC (h : List (Option Cont)) : (t : Ty) → List AV → Option (den t × List AV)
  | .prod a b, cs => (packC h a cs).bind fun x => (packC h b x.2).bind fun y => some ((x.1, y.1), y.2)
  | .unit, cs => some ((), cs)
  | .int k, cs => match cs with | .pv u x :: cs => (cast? u (.int k) x).map (·, cs) | _ => none
  | .bool, cs => match cs with | .pv u x :: cs => (cast? u .bool x).map (·, cs) | _ => none
  | .str, cs => match cs with | .pv u x :: cs => (cast? u .str x).map (·, cs) | _ => none
  | .err, cs => match cs with | .pv u x :: cs => (cast? u .err x).map (·, cs) | .nili :: cs => some (true, cs) | _ => none
  | .slice t, cs => match cs with
    | .pv u x :: cs => (cast? u (.slice t) x).map (·, cs)
    | .nils :: cs => some ([], cs)
    | .own r rg :: cs => match h.getD r none with
      | some (.lst u xs) => (cast? (.slice u) (.slice t) xs).map fun ys => (sub? ys rg, cs)
      | some (.cells _ es) => (es.mapM fun e => (packC h t e).bind fun x => if x.2.isEmpty then some x.1 else none).map fun ys => (sub? ys rg, cs)
      | none => none
    | _ => none
  | .iref t, cs => match cs with
    | .pv u x :: cs => (cast? u (.iref t) x).map (·, cs)
    | .nilp :: cs => some (none, cs)
    | .iptr u x 0 :: cs => (cast? u t x).map fun y => (some y, cs)
    | _ => none
  | .fn f t, cs => match cs with
    | .pv u x :: cs => (cast? u (.fn f t) x).map (·, cs)
    | .fn g cap :: cs => if g = f then (packA h t cap).map (·, cs) else none
    | _ => none
/-- Pure data out of values (arguments, captured values, results). -/
def packA (h : List (Option Cont)) : (t : Ty) → List AV → Option (den t)
  | .prod a b, vs => match vs with
    | v :: vs => (if a.agg then match v with | .agg cs => (packC h a cs).bind fun x => if x.2.isEmpty then some x.1 else none | _ => none
        else (packC h a [v]).map (·.1)).bind fun x => (packA h b vs).bind fun y => some (x, y)
    | [] => none
  | .unit, vs => if vs.isEmpty then some () else none
  | _, _ => none
end

/-- One value. -/
def packV (h : List (Option Cont)) (t : Ty) (v : AV) : Option (den t) :=
  if t.agg then match v with | .agg cs => (packC h t cs).bind fun x => if x.2.isEmpty then some x.1 else none | _ => none
  else (packC h t [v]).map (·.1)

/-- What a proved callee answers: its number, its parameters' and results' types (right-nested products), the function. -/
structure Ent where
  f : FuncId
  ps : Ty
  rs : Ty
  fn : den ps → Option (den rs)

inductive Und where
  | int (k : IntKind) | bool | str | slice (e : TypeId) | struct (fs : List (Nat × TypeId)) | arr (n : Nat) (e : TypeId) | ptr (e : TypeId) | iface | func | other
/-- What is known of a type: its cells, what it is, its code where its values are pure, its zero's cells, a bound on elements. -/
structure TI where
  size : Nat
  und : Und
  code : Option Ty
  zero : List AV
  lim : Nat
def TI.agg (i : TI) : Bool := match i.und with | .struct _ | .arr _ _ => true | _ => false

inductive Ex where
  | normal | ret | exit (id : Nat)
  deriving DecidableEq
/-- What a loop does: to the end, and on. -/
abbrev LoopFn := St → (R : Type) → (Ex → St → Option R) → Option R
structure Cfg where
  ti : List (TypeId × TI)
  ents : List Ent
  ann : List (Nat × LoopFn)
def Cfg.info (C : Cfg) (t : TypeId) : Option TI := (C.ti.find? fun x => x.1 == t).map (·.2)

def sizes : Ty → List Ty
  | .prod a b => a :: sizes b
  | _ => []

def sAdd (a b : ByteArray) : Option ByteArray := if a.size + b.size ≤ 9223372036854775807 then some (a ++ b) else none
/-- A comparison or a computation on two values in cells. -/
def bin (op : BinOp) (x y : AV) : Option AV :=
  match op, x, y with
  | .add, .pv (.int k) a, .pv (.int l) b => if k = l then some (.pv (.int k) (k.wrap (a + b))) else none
  | .sub, .pv (.int k) a, .pv (.int l) b => if k = l then some (.pv (.int k) (k.wrap (a - b))) else none
  | .mul, .pv (.int k) a, .pv (.int l) b => if k = l then some (.pv (.int k) (k.wrap (a * b))) else none
  | .eql, .pv (.int k) a, .pv (.int l) b => if k = l then some (.b (a == b)) else none
  | .neq, .pv (.int k) a, .pv (.int l) b => if k = l then some (.b (a != b)) else none
  | .lss, .pv (.int k) a, .pv (.int l) b => if k = l then some (.b (decide (a < b))) else none
  | .leq, .pv (.int k) a, .pv (.int l) b => if k = l then some (.b (decide (a ≤ b))) else none
  | .gtr, .pv (.int k) a, .pv (.int l) b => if k = l then some (.b (decide (a > b))) else none
  | .geq, .pv (.int k) a, .pv (.int l) b => if k = l then some (.b (decide (a ≥ b))) else none
  | .add, .pv .str a, .pv .str b => (sAdd a b).map (.pv .str)
  | .eql, .pv .str a, .pv .str b => some (.b (a.toList == b.toList))
  | .neq, .pv .str a, .pv .str b => some (.b (!(a.toList == b.toList)))
  | _, _, _ => none

/-- '==' of two structs of whole numbers: cell by cell. -/
def eqCells : List AV → List AV → Option Bool
  | [], [] => some true
  | .pv (.int k) a :: xs, .pv (.int l) b :: ys => if k = l then (eqCells xs ys).map fun r => (a == b) && r else none
  | _, _ => none
def TI.isInt (i : TI) : Bool := match i.und with | .int _ => i.size == 1 | _ => false
def TI.ints (C : List (TypeId × TI)) (fs : List (Nat × TypeId)) : Bool := fs.all fun f => ((C.find? fun x => x.1 == f.2).map fun x => x.2.isInt).getD false
/-- '==' where the type is asked. -/
def eqT (i : TI) (x y : AV) : Option Bool :=
  match i.und, x, y with
  | .bool, .pv .bool a, .pv .bool b => some (a == b)
  | .iface, .pv .err a, .nili => some a
  | .ptr _, .pv (.iref t) a, .nilp => some (a : Option (den t)).isNone
  | .ptr _, .iptr _ _ _, .nilp => some false
  | .ptr _, .ptr _ _ _, .nilp => some false
  | .ptr _, .nilp, .nilp => some true
  | _, _, _ => none

def okNil (i : TI) (y : Operand) : Bool := match i.und with | .iface => (match y with | .const _ => true | _ => false) | _ => true
def un (op : UnOp) (x : AV) : Option AV :=
  match op, x with
  | .not, .pv .bool b => some (.b (!b))
  | .neg, .pv (.int k) n => some (.pv (.int k) (k.wrap (0 - n)))
  | _, _ => none

/-- The value at a place: one cell, or a struct. -/
def ldCells (i : TI) (cs : List AV) : Option AV :=
  if i.agg then (if i.size ≤ cs.length then some (.agg (cs.take i.size)) else none)
  else match cs with | c :: _ => some c | [] => none

def lAt {α : Type} (xs : List α) (i : Int) : Option α := if 0 ≤ i then xs[i.toNat]? else none
def bAt (s : ByteArray) (i : Int) : Option Int := if 0 ≤ i then (s.data[i.toNat]?).map fun b => (b.toNat : Int) else none
/-- xs[lo:hi] -/
def slAt {α : Type} (xs : List α) (lo hi : Int) : Option (List α) := if 0 ≤ lo ∧ lo ≤ hi ∧ hi ≤ xs.length then some ((xs.drop lo.toNat).take (hi.toNat - lo.toNat)) else none
def ssAt (s : ByteArray) (lo hi : Int) : Option ByteArray := if 0 ≤ lo ∧ lo ≤ hi ∧ hi ≤ s.size then some (s.extract lo.toNat hi.toNat) else none

def Cont.len : Cont → Nat | .lst _ xs => xs.length | .cells _ es => es.length
def Cont.sz : Cont → Nat | .lst t _ => t.size | .cells n _ => n
/-- An element's cells. -/
def Cont.at? : Cont → Nat → Option (List AV)
  | .lst t xs, i => (xs[i]?).map (flat t)
  | .cells _ es, i => es[i]?

mutual
def AV.pure : AV → Bool
  | .own _ _ | .ptr _ _ _ | .junk => false
  | .agg cs | .tup cs | .fn _ cs => pureL cs
  | .pv _ _ | .iptr _ _ _ | .nils | .nilp | .nilf | .nili => true
def pureL : List AV → Bool
  | [] => true
  | c :: cs => c.pure && pureL cs
end
/-- No part of it lies in memory. -/
def Ty.flat : Ty → Bool
  | .prod a b => a.flat && b.flat
  | .slice _ | .iref _ | .fn _ _ => false
  | _ => true

def resAV (rs : Ty) (y : den rs) : AV :=
  match ups rs y with
  | [v] => v
  | vs => .tup vs

def callQ {R : Type} (h : List (Option Cont)) (f : FuncId) (args : List AV) (K : AV → Option R) : List Ent → Option R
  | [] => none
  | e :: es => if e.f = f then match packA [] e.ps args with
      | some x => (e.fn x).bind fun y => K (resAV e.rs y)
      | none => match packA h e.ps args with
        | some x => if e.rs.flat then (e.fn x).bind fun y => K (resAV e.rs y) else none
        | none => callQ h f args K es
    else callQ h f args K es

def mx (a b : Int) : Int := if b > a then b else a
def mn (a b : Int) : Int := if b < a then b else a
def maxs (k : IntKind) (a : Int) : List AV → Option AV
  | [] => some (.pv (.int k) a)
  | .pv (.int l) b :: r => if k = l then maxs k (mx a b) r else none
  | _ => none
def mins (k : IntKind) (a : Int) : List AV → Option AV
  | [] => some (.pv (.int k) a)
  | .pv (.int l) b :: r => if k = l then mins k (mn a b) r else none
  | _ => none

def lenQ (s : St) (u : Und) (v : AV) : Option Int :=
  match u, v with
  | .str, .pv .str x => some (((x : ByteArray).size : Nat) : Int)
  | .slice _, .pv (.slice t) xs => some (((xs : List (den t)).length : Nat) : Int)
  | .slice _, .nils => some 0
  | .slice _, .own r (some p) => match s.h.getD r none with | some _ => some ((p.2 : Nat) : Int) | none => none
  | .slice _, .own r none => match s.h.getD r none with | some c => some ((c.len : Nat) : Int) | none => none
  | _, _ => none
def builtinQ {R : Type} (C : Cfg) (ts : List TypeId) (s : St) (b : Builtin) (args : List AV) (K : AV → Option R) : Option R :=
  match b, args with
  | .len, [v] => match ts with
    | t :: _ => match C.info t with
      | some i => (lenQ s i.und v).bind fun n => K (.n n)
      | none => none
    | [] => none
  | .max, .pv (.int k) a :: r => (maxs k a r).bind K
  | .min, .pv (.int k) a :: r => (mins k a r).bind K
  | _, _ => none

/-- A callee's number and what it has captured. -/
def callee : AV → Option (FuncId × List AV)
  | .fn f cap => some (f, cap)
  | .pv (.fn f t) x => some (f, ups t x)
  | _ => none

def isInt : AV → Option Int
  | .pv (.int .i64) n => some n
  | _ => none

/-- Does a slice type's element have this many cells? -/
def elemSz (C : List (TypeId × TI)) (i : TI) (n : Nat) : Bool := match i.und with
  | .slice e => ((C.find? fun x => x.1 == e).map fun x => x.2.size == n).getD false
  | _ => false
def isStr (i : TI) : Bool := match i.und with | .str => true | _ => false
def lowOf : Option AV → Option Int | none => some 0 | some v => isInt v
def highOf (n : Nat) : Option AV → Option Int | none => some (n : Int) | some v => isInt v
def sliceQ {R : Type} (C : List (TypeId × TI)) (ti : TI) (s : St) (x : AV) (lo hi : Option AV) (K : AV → Option R) : Option R :=
  match lowOf lo with
  | none => none
  | some l => match x with
    | .pv .str b => if isStr ti then match highOf (b : ByteArray).size hi with
      | some h => (ssAt b l h).bind fun y => K (.pv .str y)
      | none => none
      else none
    | .pv (.slice t) xs => if elemSz C ti t.size then match highOf (xs : List (den t)).length hi with
      | some h => (slAt (α := den t) xs l h).bind fun y => K (.pv (.slice t) y)
      | none => none
      else none
    | .own r none => match s.h.getD r none with
      | some c => if elemSz C ti c.sz then match highOf c.len hi with
        | some h => if 0 ≤ l ∧ l ≤ h ∧ h ≤ c.len then K (.own r (some (l.toNat, h.toNat - l.toNat))) else none
        | none => none
        else none
      | none => none
    | _ => none

def AV.cells : AV → List AV
  | .agg cs => cs
  | v => [v]
/-- What takes one cell. -/
def AV.cell : AV → Bool
  | .pv t _ => !t.agg
  | .agg _ | .tup _ | .junk => false
  | _ => true
def AV.ok (v : AV) : Bool := v.cells.all AV.cell
def splice (cs : List AV) (off : Nat) (vs : List AV) : List AV := cs.take off ++ vs ++ cs.drop (off + vs.length)
/-- A struct's cells, some fields given. -/
def fillF (C : List (TypeId × TI)) (offs : List (Nat × TypeId)) (zero : List AV) : List (Nat × AV) → Option (List AV)
  | [] => some zero
  | p :: ps => match offs[p.1]? with
    | some d => if p.2.ok = true ∧ (C.find? fun x => x.1 == d.2).map (·.2.size) = some p.2.cells.length ∧ d.1 + p.2.cells.length ≤ zero.length then fillF C offs (splice zero d.1 p.2.cells) ps else none
    | none => none
/-- What an operation that changes nothing yields. -/
def vopQ {R : Type} (C : Cfg) (s : St) (o : Oper) (K : AV → Option R) : Option R :=
  match o.op with
  | .move x | .assign x => K (ev s.t x)
  | .pick c a b => match ev s.t c with
    | .pv .bool t => match (t : Bool) with | true => K (ev s.t a) | false => K (ev s.t b)
    | _ => none
  | .binOp op t x y _ => match ev s.t x, ev s.t y with
    | .agg xs, .agg ys => match C.info t with
      | some { und := .struct fs, .. } => if TI.ints C.ti fs && fs.map (·.1) == List.range xs.length then match op with
        | .eql => (eqCells xs ys).bind fun b => K (.b b)
        | .neq => (eqCells xs ys).bind fun b => K (.b (!b))
        | _ => none
        else none
      | _ => none
    | a, b => match bin op a b with
      | some v => K v
      | none => match C.info t with
        | some i => if okNil i y then match op with
          | .eql => (eqT i a b).bind fun r => K (.b r)
          | .neq => (eqT i a b).bind fun r => K (.b (!r))
          | _ => none
          else none
        | none => none
  | .unOp op _ x => (un op (ev s.t x)).bind K
  | .fieldAddr t x f => match C.info t with
    | some { und := .struct offs, .. } => match offs[f]? with
      | some d => if ((C.info d.2).map fun j => decide (j.size ≠ 0)) = some true then match ev s.t x with
        | .iptr u y off => K (.iptr u y (off + d.1))
        | .ptr r i off => K (.ptr r i (off + d.1))
        | .pv (.iref u) y => (y : Option (den u)).bind fun z => K (.iptr u z d.1)
        | _ => none
        else none
      | none => none
    | _ => none
  | .field t x f => match C.info t, ev s.t x with
    | some { und := .struct offs, .. }, .agg cs => match offs[f]? with
      | some d => match C.info d.2 with
        | some i => (ldCells i (cs.drop d.1)).bind K
        | none => none
      | none => none
    | _, _ => none
  | .load t x => match C.info t with
    | some i => match ev s.t x with
      | .iptr u y off => (ldCells i ((flat u y).drop off)).bind K
      | .pv (.iref u) y => (y : Option (den u)).bind fun z => (ldCells i (flat u z)).bind K
      | .ptr r j off => match s.h.getD r none with
        | some c => (c.at? j).bind fun cs => (ldCells i (cs.drop off)).bind K
        | none => none
      | _ => none
    | none => none
  | .indexAddr t x ix => match isInt (ev s.t ix), C.info t with
    | some i, some { und := .slice e, .. } => match C.info e with
      | some ie => match ev s.t x with
        | .pv (.slice u) xs => if u.size = ie.size then (lAt (α := den u) xs i).bind fun y => K (.iptr u y 0) else none
        | .own r rg => match s.h.getD r none with
          | some c => if c.sz = ie.size then
              match rg with
              | none => if 0 ≤ i ∧ i < c.len then K (.ptr r i.toNat 0) else none
              | some (off, n) => if 0 ≤ i ∧ i < n then K (.ptr r (off + i.toNat) 0) else none
            else none
          | none => none
        | _ => none
      | none => none
    | _, _ => none
  | .index t x ix => match C.info t, isInt (ev s.t ix), ev s.t x with
    | some { und := .str, .. }, some i, .pv .str b => (bAt b i).bind fun c => K (.pv (.int .u8) c)
    | _, _, _ => none
  | .slice t x lo hi none => match C.info t with
    | some ti => sliceQ C.ti ti s (ev s.t x) (lo.map (ev s.t)) (hi.map (ev s.t)) K
    | none => none
  | .build t ps => match C.info t with
    | some i => match i.und with
      | .struct offs => (fillF C.ti offs i.zero (ps.toList.map fun p => (p.1, ev s.t p.2))).bind fun cs => K (.agg cs)
      | _ => none
    | none => none
  | .extract x i => match ev s.t x with
    | .tup vs => (vs[i]?).bind K
    | _ => none
  | .makeFunc (.func f) first cap => if first.isEmpty then K (.fn f (cap.toList.map (ev s.t))) else none
  | .nilCheck x => match ev s.t x with
    | .ptr r i f => K (.ptr r i f)
    | .iptr u y f => K (.iptr u y f)
    | .fn f c => K (.fn f c)
    | .pv (.iref u) y => (y : Option (den u)).bind fun z => K (.iptr u z 0)
    | _ => none
  | .convert src dst x => match C.info src, C.info dst, ev s.t x with
    | some { und := .int _, .. }, some { und := .int k, .. }, .pv (.int _) n => K (.pv (.int k) (k.wrap n))
    | some { und := .str, .. }, some { und := .str, .. }, .pv .str b => K (.pv .str b)
    | _, _, _ => none
  | .call c => match c.callee with
    | .builtin b => builtinQ C c.argTypes.toList s b (c.args.toList.map (ev s.t)) K
    | .value f => match callee (ev s.t f) with
      | some (g, cap) => callQ s.h g (c.args.toList.map (ev s.t) ++ cap) K C.ents
      | none => none
    | _ => none
  | _ => none


mutual
def AV.junkR (r : Nat) : AV → AV
  | .own q rg => if q = r then .junk else .own q rg
  | .ptr q i off => if q = r then .junk else .ptr q i off
  | .agg cs => .agg (junkL r cs)
  | .tup cs => .tup (junkL r cs)
  | .fn f cs => .fn f (junkL r cs)
  | v => v
def junkL (r : Nat) : List AV → List AV
  | [] => []
  | c :: cs => c.junkR r :: junkL r cs
end
def Cont.junkR (r : Nat) : Cont → Cont
  | .lst t xs => .lst t xs
  | .cells n es => .cells n (es.map (junkL r))
def St.junkR (r : Nat) (s : St) : St := ⟨junkL r s.t, s.h.map fun o => o.map (Cont.junkR r)⟩

/-- Every cell of every element takes one cell, and there are as many as there should be. -/
def Cont.ok : Cont → Bool
  | .lst _ _ => true
  | .cells n es => es.all fun e => e.length == n && e.all AV.cell
/-- Elements as pure data, where they are. -/
def packEs (t : Ty) : List (List AV) → Option (List (den t))
  | [] => some []
  | e :: es => match packC [] t e with
    | some (x, []) => (packEs t es).map (x :: ·)
    | _ => none
def mkCont (i : TI) (es : List (List AV)) : Cont :=
  match i.code with
  | some t => if t.size = i.size then match packEs t es with
    | some xs => .lst t xs
    | none => .cells i.size es
    else .cells i.size es
  | none => .cells i.size es

def joinC (a b : Cont) : Option Cont :=
  match a, b with
  | .lst t xs, .lst u ys => (cast? (.slice u) (.slice t) ys).map fun zs => .lst t (xs ++ zs)
  | .lst t xs, .cells _ es => (packEs t es).map fun zs => .lst t (xs ++ zs)
  | .cells n [], .lst u ys => if u.size = n then some (.lst u ys) else none
  | .cells n xs, .cells m ys => if n = m then some (.cells n (xs ++ ys)) else none
  | _, _ => none

def srcC (s : St) : AV → Option Cont
  | .pv (.slice u) ys => some (.lst u ys)
  | .own r none => (s.h.getD r none)
  | .own r (some rg) => match s.h.getD r none with
    | some (.lst u ys) => some (.lst u (sub? ys (some rg)))
    | _ => none
  | _ => none

def appE {R : Type} (s : St) (ie : TI) (x y : AV) (K : AV → St → Option R) : Option R :=
  match y with
  | .nils => match x with
    | .nils => K .nils s
    | .own r none => K (.own r none) s
    | _ => none
  | _ => match srcC s y with
    | none => none
    | some src => if src.sz = ie.size ∧ src.ok = true then match x with
      | .nils => if src.len ≤ ie.lim then K (.own s.h.length none) ⟨s.t, s.h ++ [some src]⟩ else none
      | .own r none => match s.h.getD r none with
        | some c => if c.sz = ie.size then (joinC c src).bind fun d => if d.len ≤ ie.lim then
            let s' := s.junkR r
            K (.own r none) ⟨s'.t, s'.h.set r (some (d.junkR r))⟩ else none else none
        | none => none
      | _ => none
      else none

def zeroEs (n : Nat) (z : List AV) : List (List AV) := List.replicate n z
def fillE (es : List (List AV)) : List (Nat × AV) → List (List AV)
  | [] => es
  | p :: ps => fillE (es.set p.1 p.2.cells) ps

def storeE {R : Type} (s : St) (i : TI) (a v : AV) (K : AV → St → Option R) : Option R :=
  if v.ok = true ∧ v.cells.length = i.size then match a with
    | .ptr r j off => match s.h.getD r none with
      | some (.cells n es) => match es[j]? with
        | some cs => if off + i.size ≤ cs.length then K .undef ⟨s.t, s.h.set r (some (.cells n (es.set j (splice cs off v.cells))))⟩ else none
        | none => none
      | some (.lst t xs) => (xs[j]?).bind fun x => if off + i.size ≤ t.size then
          match packC [] t (splice (flat t x) off v.cells) with
          | some (y, []) => K .undef ⟨s.t, s.h.set r (some (.lst t (xs.set j y)))⟩
          | _ => none
          else none
      | none => none
    | _ => none
  else none

/-! An own row that is written no more: from then on it is data. -/
mutual
def AV.thaw (r : Nat) (t : Ty) (xs : List (den t)) : AV → AV
  | .own q rg => if q = r then .pv (.slice t) (sub? xs rg) else .own q rg
  | .ptr q i off => if q = r then .junk else .ptr q i off
  | .agg cs => .agg (thawL r t xs cs)
  | .tup cs => .tup (thawL r t xs cs)
  | .fn f cs => .fn f (thawL r t xs cs)
  | .pv u x => .pv u x
  | .iptr u x off => .iptr u x off
  | .nils => .nils
  | .nilp => .nilp
  | .nilf => .nilf
  | .nili => .nili
  | .junk => .junk
def thawL (r : Nat) (t : Ty) (xs : List (den t)) : List AV → List AV
  | [] => []
  | c :: cs => c.thaw r t xs :: thawL r t xs cs
end
def Cont.thaw (r : Nat) (t : Ty) (xs : List (den t)) : Cont → Cont
  | .lst u ys => .lst u ys
  | .cells n es => .cells n (es.map (thawL r t xs))
def thawH (r : Nat) (t : Ty) (xs : List (den t)) : List (Option Cont) → Nat → List (Option Cont)
  | [], _ => []
  | o :: h, i => (if i = r then none else o.map (Cont.thaw r t xs)) :: thawH r t xs h (i + 1)
def St.thaw (s : St) (r : Nat) (t : Ty) (xs : List (den t)) : St := ⟨thawL r t xs s.t, thawH r t xs s.h 0⟩
def frz : List Nat → St → St
  | [], s => s
  | r :: rs, s => match s.h.getD r none with
    | some (.lst t xs) => frz rs (s.thaw r t xs)
    | _ => frz rs s
def ownsL : List AV → List Nat
  | [] => []
  | .own q _ :: cs => q :: ownsL cs
  | _ :: cs => ownsL cs
def needF (f : FuncId) (args : List AV) (es : List Ent) : Bool := match es.find? fun e => e.f == f with
  | some e => (packA [] e.ps args).isNone && !e.rs.flat
  | none => false
/-- Which own rows an operation makes data of, before it is done. -/
def frzOf (C : Cfg) (s : St) (o : Oper) : List Nat :=
  match o.op with
  | .buildSlice _ _ ps => ownsL (ps.toList.flatMap fun p => (ev s.t p.2).cells)
  | .store _ a v => match ev s.t a with
    | .ptr r _ _ => match s.h.getD r none with
      | some (.lst _ _) => ownsL (ev s.t v).cells
      | _ => []
    | _ => []
  | .call { callee := .value f, args, .. } => match callee (ev s.t f) with
    | some (g, cap) => if needF g (args.toList.map (ev s.t) ++ cap) C.ents then ownsL ((args.toList.map (ev s.t) ++ cap).flatMap AV.cells) else []
    | none => []
  | _ => []

/-- What an operation that makes or writes memory yields. -/
def vopE {R : Type} (C : Cfg) (s : St) (o : Oper) (K : AV → St → Option R) : Option R :=
  match o.op with
  | .box t x => match C.info t with
    | some i => let cs := (ev s.t x).cells
      if (ev s.t x).ok = true ∧ cs.length = i.size then K (.ptr s.h.length 0 0) ⟨s.t, s.h ++ [some (.cells i.size [cs])]⟩ else none
    | none => none
  | .alloc t => match C.info t with
    | some i => K (.ptr s.h.length 0 0) ⟨s.t, s.h ++ [some (.cells i.size [i.zero])]⟩
    | none => none
  | .buildSlice t n ps => match C.info t with
    | some { und := .slice e, .. } => match C.info e with
      | some ie => if (ps.toList.all fun p => p.1 < n && (ev s.t p.2).ok && (ev s.t p.2).cells.length == ie.size) && (n * ie.size ≤ 16777216) then
          K (.own s.h.length none) ⟨s.t, s.h ++ [some (mkCont ie (fillE (zeroEs n ie.zero) (ps.toList.map fun p => (p.1, ev s.t p.2))))]⟩ else none
      | none => none
    | _ => none
  | .makeSlice t l c => match C.info t, isInt (ev s.t l), isInt (ev s.t c) with
    | some { und := .slice e, .. }, some n, some m => match C.info e with
      | some ie => if 0 ≤ n ∧ n ≤ m ∧ m ≤ ie.lim then match ie.code with
          | some u => match packC [] u ie.zero with
            | some (z, []) => if u.size = ie.size then K (.own s.h.length none) ⟨s.t, s.h ++ [some (.lst u (List.replicate n.toNat z))]⟩ else none
            | _ => none
          | none => none
        else none
      | none => none
    | _, _, _ => none
  | .store t a v => match C.info t with
    | some i => storeE s i (ev s.t a) (ev s.t v) K
    | none => none
  | .call { callee := .builtin .append, args, argTypes } => match args.toList, argTypes.toList with
    | [x, y], [t, u] => if t = u then match C.info t with
      | some { und := .slice e, .. } => match C.info e with
        | some ie => appE s ie (ev s.t x) (ev s.t y) K
        | none => none
      | _ => none
      else none
    | _, _ => none
  | _ => vopQ C s o fun v => K v s

/-- A region, in the order of its text. -/
def vops {R : Type} (C : Cfg) (all : Array Oper) (quiet : Bool) : List Oper → St → (St → Option R) → Option R
  | [], s, K => K s
  | o :: rest, s, K =>
    let go (s : St) : Option R :=
      if quiet then vopQ C s o fun v => vops C all quiet rest ⟨put s.t o.dst v, s.h⟩ K
      else vopE C (frz (frzOf C s o) s) o fun v s' => vops C all quiet rest ⟨put s'.t o.dst v, s'.h⟩ K
    match o.guard with
    | none => go s
    | some (j, w) => match (all[j]?).bind (·.dst) with
      | none => none
      | some d => match s.t.getD d .junk with
        | .pv .bool t => match (t : Bool) with
          | true => if w = true then go ⟨s.t.set d (.b true), s.h⟩ else vops C all quiet rest ⟨put (s.t.set d (.b true)) o.dst .undef, s.h⟩ K
          | false => if w = false then go ⟨s.t.set d (.b false), s.h⟩ else vops C all quiet rest ⟨put (s.t.set d (.b false)) o.dst .undef, s.h⟩ K
        | .tup [] => vops C all quiet rest ⟨put s.t o.dst .undef, s.h⟩ K
        | _ => none

/-! Loops: to the end, if there is one. -/
def iterN {σ ρ : Type} (B : σ → Option (σ ⊕ ρ)) : Nat → σ → Option ρ
  | 0, _ => none
  | n + 1, s => (B s).bind fun r => match r with | .inl s' => iterN B n s' | .inr r => some r
open Classical in
noncomputable def iter {σ ρ : Type} (B : σ → Option (σ ⊕ ρ)) (s : σ) : Option ρ :=
  if h : ∃ n, (iterN B n s).isSome then iterN B (Classical.choose h) s else none

/-! What a loop's head remembers: shapes, with places for data. -/
inductive TmL where
  | nil | junk (l : TmL) | slot (t : Ty) (l : TmL) | agg (cs l : TmL) | own (r : Nat) (l : TmL) | ptr (r i off : Nat) (l : TmL) | const (v : AV) (l : TmL) | fn (f : FuncId) (cs l : TmL)
inductive TmH where
  | nil | gone (l : TmH) | lst (t : Ty) (l : TmH) | one (t : Ty) (l : TmH) | cells (n : Nat) (cs : TmL) (l : TmH)
structure Tmpl where
  ts : TmL
  hs : TmH

def TmL.ty : TmL → Ty → Ty
  | .nil, r => r
  | .junk l, r => l.ty r
  | .slot t l, r => .prod t (l.ty r)
  | .agg cs l, r => cs.ty (l.ty r)
  | .own _ l, r => l.ty r
  | .ptr _ _ _ l, r => l.ty r
  | .const _ l, r => l.ty r
  | .fn _ cs l, r => cs.ty (l.ty r)
def TmH.ty : TmH → Ty
  | .nil => .unit
  | .gone l => l.ty
  | .lst t l => .prod (.slice t) l.ty
  | .one t l => .prod t l.ty
  | .cells _ cs l => cs.ty l.ty
def TmH.len : TmH → Nat
  | .nil => 0
  | .gone l => l.len + 1
  | .lst _ l => l.len + 1
  | .one _ l => l.len + 1
  | .cells _ _ l => l.len + 1
/-- What object number r is to be: 0: let go, 1: a row of data, 2: another. -/
def TmH.kind : TmH → Nat → Nat
  | .nil, _ => 0
  | .gone l, r => match r with | 0 => 0 | r + 1 => l.kind r
  | .lst _ l, r => match r with | 0 => 1 | r + 1 => l.kind r
  | .one _ l, r => match r with | 0 => 2 | r + 1 => l.kind r
  | .cells _ _ l, r => match r with | 0 => 2 | r + 1 => l.kind r

/-- No data, no place: it stands for itself. -/
def sameConst : AV → AV → Bool
  | .tup [], .tup [] | .nils, .nils | .nilp, .nilp | .nilf, .nilf | .nili, .nili => true
  | _, _ => false
def ownRd (h : List (Option Cont)) (hs : TmH) (r : Nat) : AV → Bool
  | .own r' none => decide (r' = r) && decide (hs.kind r ≠ 0) && decide (r < h.length)
  | .nils => decide (hs.kind r = 1) && decide (h.length ≤ r)
  | _ => false
def ptrRd (hs : TmH) (r i off : Nat) : AV → Bool
  | .ptr r' i' off' => decide (r' = r) && decide (i' = i) && decide (off' = off) && decide (r < hs.len)
  | _ => false
def aggOf : AV → Option (List AV) | .agg vs => some vs | _ => none
def fnOf (f : FuncId) : AV → Option (List AV) | .fn g vs => if g = f then some vs else none | _ => none
def uncons {R : Type} (vs : List AV) (k : AV → List AV → Option R) : Option R := match vs with | [] => none | v :: vs => k v vs

def TmL.read (h : List (Option Cont)) (hs : TmH) : (l : TmL) → List AV → (r : Ty) → den r → Option (den (l.ty r))
  | .nil, vs, _, x => if vs.isEmpty then some x else none
  | .junk l, vs, r, x => uncons vs fun _ vs => l.read h hs vs r x
  | .slot t l, vs, r, x => uncons vs fun v vs => (l.read h hs vs r x).bind fun y => (packV [] t v).bind fun z => some (z, y)
  | .agg cs l, vs, r, x => uncons vs fun v vs => (l.read h hs vs r x).bind fun y => (aggOf v).bind fun us => cs.read h hs us (l.ty r) y
  | .own q l, vs, r, x => uncons vs fun v vs => if ownRd h hs q v then l.read h hs vs r x else none
  | .ptr q i off l, vs, r, x => uncons vs fun v vs => if ptrRd hs q i off v then l.read h hs vs r x else none
  | .const c l, vs, r, x => uncons vs fun v vs => if sameConst v c then l.read h hs vs r x else none
  | .fn f cs l, vs, r, x => uncons vs fun v vs => (l.read h hs vs r x).bind fun y => (fnOf f v).bind fun us => cs.read h hs us (l.ty r) y
def TmL.write : (l : TmL) → (r : Ty) → den (l.ty r) → List AV × den r
  | .nil, _, x => ([], x)
  | .junk l, r, x => (.junk :: (l.write r x).1, (l.write r x).2)
  | .slot t l, r, x => (up t x.1 :: (l.write r x.2).1, (l.write r x.2).2)
  | .agg cs l, r, x => (.agg (cs.write (l.ty r) x).1 :: (l.write r (cs.write (l.ty r) x).2).1, (l.write r (cs.write (l.ty r) x).2).2)
  | .own q l, r, x => (.own q none :: (l.write r x).1, (l.write r x).2)
  | .ptr q i off l, r, x => (.ptr q i off :: (l.write r x).1, (l.write r x).2)
  | .const c l, r, x => (c :: (l.write r x).1, (l.write r x).2)
  | .fn f cs l, r, x => (.fn f (cs.write (l.ty r) x).1 :: (l.write r (cs.write (l.ty r) x).2).1, (l.write r (cs.write (l.ty r) x).2).2)

def toLst (t : Ty) : Cont → Option (List (den t))
  | .lst u xs => cast? (.slice u) (.slice t) xs
  | .cells k es => if k = t.size then packEs t es else none
def lstRd (h : List (Option Cont)) (i : Nat) (t : Ty) : Option (List (den t)) := if h.length ≤ i then some [] else (h.getD i none).bind (toLst t)
def oneRd (h : List (Option Cont)) (i n : Nat) : Option (List AV) := match h.getD i none with
  | some (.cells k [cs]) => if k = n then some cs else none
  | _ => none
def TmH.read (h : List (Option Cont)) (hs : TmH) : (l : TmH) → Nat → Option (den l.ty)
  | .nil, _ => some ()
  | .gone l, i => TmH.read h hs l (i + 1)
  | .lst t l, i => (TmH.read h hs l (i + 1)).bind fun y => (lstRd h i t).bind fun z => some (z, y)
  | .one t l, i => (TmH.read h hs l (i + 1)).bind fun y => (oneRd h i t.size).bind fun cs => (packC [] t cs).bind fun z => if z.2.isEmpty then some (z.1, y) else none
  | .cells k ms l, i => (TmH.read h hs l (i + 1)).bind fun y => (oneRd h i k).bind fun cs => ms.read h hs cs l.ty y
def TmH.write : (l : TmH) → den l.ty → List (Option Cont)
  | .nil, _ => []
  | .gone l, x => none :: l.write x
  | .lst t l, x => some (.lst t x.1) :: l.write x.2
  | .one t l, x => some (.cells t.size [flat t x.1]) :: l.write x.2
  | .cells k ms l, x => some (.cells k [(ms.write l.ty x).1]) :: l.write (ms.write l.ty x).2
def TmL.want : TmL → List AV → List Nat
  | .nil, _ => []
  | .junk l, vs => match vs with | [] => [] | _ :: vs => l.want vs
  | .slot _ l, vs => match vs with | [] => [] | v :: vs => ownsL v.cells ++ l.want vs
  | .agg cs l, vs => match vs with | [] => [] | v :: vs => cs.want ((aggOf v).getD []) ++ l.want vs
  | .own _ l, vs => match vs with | [] => [] | _ :: vs => l.want vs
  | .ptr _ _ _ l, vs => match vs with | [] => [] | _ :: vs => l.want vs
  | .const _ l, vs => match vs with | [] => [] | _ :: vs => l.want vs
  | .fn f cs l, vs => match vs with | [] => [] | v :: vs => cs.want ((fnOf f v).getD []) ++ l.want vs
def TmH.want (h : List (Option Cont)) : TmH → Nat → List Nat
  | .nil, _ => []
  | .gone l, i => TmH.want h l (i + 1)
  | .lst _ l, i => TmH.want h l (i + 1)
  | .one t l, i => ownsL ((oneRd h i t.size).getD []) ++ TmH.want h l (i + 1)
  | .cells k ms l, i => ms.want ((oneRd h i k).getD []) ++ TmH.want h l (i + 1)
def Tmpl.ty (T : Tmpl) : Ty := T.ts.ty T.hs.ty
def Tmpl.read0 (T : Tmpl) (s : St) : Option (den T.ty) := (TmH.read s.h T.hs T.hs 0).bind fun y => T.ts.read s.h T.hs s.t T.hs.ty y
def Tmpl.read (T : Tmpl) (s : St) : Option (den T.ty) := T.read0 (frz (T.ts.want s.t ++ TmH.want s.h T.hs 0) s)
def Tmpl.write (T : Tmpl) (x : den T.ty) : St := ⟨(T.ts.write T.hs.ty x).1, T.hs.write (T.ts.write T.hs.ty x).2⟩
def keep (live : List Nat) : List AV → Nat → List AV
  | [], _ => []
  | v :: vs, i => (if live.contains i then v else .junk) :: keep live vs (i + 1)
def St.trim (live : List Nat) (s : St) : St := ⟨keep live s.t 0, s.h⟩

def firstId : Code → Nat
  | .region id _ _ => id
  | .seq a _ => firstId a
  | .block _ a | .loop a | .scope a => firstId a
  | .cond _ a _ => firstId a
  | _ => 0

/-- Operation o waits for number i. -/
def aft (o : Oper) (i : Nat) : Bool := o.after.any fun e => Region.binds .any e && e.on == i
def looks (ops : Array Oper) (o : Oper) : List Tmp :=
  (o.op.operands.toList.filterMap fun | .tmp t => some t | _ => none) ++
  (match o.guard with
   | some (g, _) => ((ops[g]?).bind (·.dst)).toList
   | none => [])
/-- A region whose order is drawn: every order comes to the same. -/
def regOK (ops : Array Oper) : Bool :=
  (ops.toList.zipIdx.all fun p => p.1.after.all fun e => !Region.binds .any e || decide (e.on < p.2)) &&
  (ops.toList.zipIdx.all fun p => ops.toList.zipIdx.all fun q => p.2 == q.2 || p.1.dst.isNone || p.1.dst != q.1.dst) &&
  (ops.toList.zipIdx.all fun p => (looks ops p.1).all fun t => ops.toList.zipIdx.all fun q => p.2 == q.2 || q.1.dst != some t || (decide (q.2 < p.2) && aft p.1 q.2) || (decide (p.2 < q.2) && aft q.1 p.2))

def loopK (T : Tmpl) (live : List Nat) (e : Ex) (s : St) : Option (den T.ty ⊕ (Ex × St)) := match e with
  | .normal => (T.read s).map .inl
  | e => some (.inr (e, s.trim live))
def vrun (C : Cfg) : Code → {R : Type} → St → (Ex → St → Option R) → Option R
  | .skip, _, s, K => K .normal s
  | .label _, _, s, K => K .normal s
  | .region _ ops draw, _, s, K => if draw then (if regOK ops then vops C ops true ops.toList s fun s' => K .normal s' else none) else vops C ops false ops.toList s fun s' => K .normal s'
  | .seq a b, _, s, K => vrun C a s fun e s' => match e with | .normal => vrun C b s' K | e => K e s'
  | .cond c a b, _, s, K => match ev s.t c with
    | .pv .bool t => match (t : Bool) with | true => vrun C a s K | false => vrun C b s K
    | _ => none
  | .block id c, _, s, K => vrun C c s fun e s' => match e with
    | .exit j => if j = id then K .normal s' else K (.exit j) s'
    | e => K e s'
  | .loop c, R, s, K => match (C.ann.find? fun x => x.1 == firstId c).map (·.2) with
    | none => none
    | some F => F s R K
  | .exit id, _, s, K => K (.exit id) s
  | .ret, _, s, K => K .ret s
  | _, _, _, _ => none

def resOf (s : St) (C : Cfg) : ResultVar → Option AV
  | .tmp t => some (s.t.getD t .junk)
  | .cell a t => match C.info t, s.t.getD a .junk with
    | some i, .ptr r j off => match s.h.getD r none with
      | some c => (c.at? j).bind fun cs => ldCells i (cs.drop off)
      | none => none
    | _, _ => none

/-- A whole call. -/
def vcall (C : Cfg) (fn : Func) (ps rs : Ty) (x : den ps) : Option (den rs) :=
  match fn.body with
  | none => none
  | some c => vrun C c ⟨ups ps x ++ List.replicate (fn.ntmps - (ups ps x).length) .undef, []⟩ fun e s =>
    match e with
    | .exit _ => none
    | _ => (fn.results.toList.mapM (resOf s C)).bind fun vs => packA s.h rs vs

end Go.Ab
