import Derived.Tactics
import Derived.Below
import Derived.KernelRfl
namespace Go.Ab
inductive Ty where
  | int (k : IntKind) | bool | str | err | unit | idx
  | prod (a b : Ty) | slice (t : Ty) | iref (t : Ty) | fn (f : FuncId) (t : Ty)
  deriving DecidableEq
abbrev Ty.i : Ty := .int .i64
@[reducible] def den : Ty → Type
  | .int _ => Int | .bool => Bool | .str => ByteArray | .err => Bool | .unit => Unit | .idx => Nat
  | .prod a b => den a × den b | .slice t => List (den t) | .iref t => Option (den t) | .fn _ t => den t
def Ty.agg : Ty → Bool | .prod _ _ => true | .unit => true | _ => false
def Ty.size : Ty → Nat | .prod a b => a.size + b.size | .unit => 0 | _ => 1
abbrev Sub := Option (Nat × Nat × Nat)
inductive AV where
  | pv (t : Ty) (x : den t)
  | agg (cs : List AV)
  | tup (cs : List AV)
  | own (r : Nat) (s : Sub) (rg : Option (Nat × Nat))
  | ptr (r : Nat) (s : Sub) (i off : Nat)
  | mptr (r k ver off : Nat) (o : Option (Nat × Nat))
  | iptr (t : Ty) (x : den t) (off : Nat)
  | nils | nilp | nilf | nili
  | fn (f : FuncId) (cap : List AV)
  | unk
  | junk
abbrev AV.undef : AV := .tup []
abbrev AV.n (n : Int) : AV := .pv (.int .i64) n
abbrev AV.b (b : Bool) : AV := .pv .bool b
def flat : (t : Ty) → den t → List AV
  | .prod a b, x => flat a x.1 ++ flat b x.2
  | .unit, _ => []
  | .int k, x => [.pv (.int k) x]
  | .bool, x => [.pv .bool x]
  | .str, x => [.pv .str x]
  | .err, x => [.pv .err x]
  | .idx, x => [.pv .idx x]
  | .slice t, x => [.pv (.slice t) x]
  | .iref t, x => [.pv (.iref t) x]
  | .fn f t, x => [.pv (.fn f t) x]
def up (t : Ty) (x : den t) : AV := if t.agg then .agg (flat t x) else (flat t x).headD .junk
def ups : (t : Ty) → den t → List AV
  | .prod a b, x => up a x.1 :: ups b x.2
  | _, _ => []
inductive Cont where
  | lst (ro : Bool) (t : Ty) (xs : List (den t))
  | tree (ro : Bool) (ver : Nat) (t : Ty) (xs : List (den t)) (ho : Option (Nat × Nat))
  | cells (sz : Nat) (es : List (List AV))
  | shp (sz len : Nat)
  | dead
abbrev Heap := List (Option Cont)
structure St where
  t : List AV
  h : Heap
def St.get (s : St) (i : Nat) : AV := s.t.getD i .junk
def put (t : List AV) (d : Option Nat) (v : AV) : List AV := match d with | some i => t.set i v | none => t
def setH : Heap → Nat → Cont → Heap
  | [], 0, c => [some c]
  | [], n + 1, c => none :: setH [] n c
  | _ :: h, 0, c => some c :: h
  | o :: h, n + 1, c => o :: setH h n c
abbrev Delta := List (Nat × Cont)
def apD : Heap → Delta → Heap
  | h, [] => h
  | h, p :: d => apD (setH h p.1 p.2) d
def AV.const : Value → AV
  | .bool b => .pv .bool b
  | .int k n => .pv (.int k) n
  | .string s => .pv .str s
  | .slice none 0 0 => .nils
  | .pointer none => .nilp
  | .nilIface => .nili
  | .nilFunc => .nilf
  | _ => .junk
def ev (t : List AV) : Operand → AV
  | .tmp i => t.getD i .junk
  | .const v => .const v
  | .global _ => .junk
  | .func f => .fn f []
def cast? (t u : Ty) (x : den t) : Option (den u) := if h : t = u then some (h ▸ x) else none
def sub? {α : Type} (xs : List α) : Option (Nat × Nat) → List α
  | none => xs
  | some (off, n) => (xs.drop off).take n
def Cont.len : Cont → Nat | .lst _ _ xs => xs.length | .tree _ _ _ xs _ => xs.length | .cells _ es => es.length | .shp _ n => n | .dead => 0
def Cont.sz : Cont → Nat | .lst _ t _ => t.size | .tree _ _ t _ _ => t.size | .cells n _ => n | .shp n _ => n | .dead => 0
def Cont.ro : Cont → Bool | .lst ro _ _ => ro | .tree ro _ _ _ _ => ro | _ => false
def reloc (r ver : Nat) (ho : Option (Nat × Nat)) (i : Nat) : Nat → List AV → List AV
  | _, [] => []
  | k, .pv (.slice _) _ :: cs => (if ho = some (i, k) then .junk else .own r (some (i, k, ver)) none) :: reloc r ver ho i (k + 1) cs
  | k, c :: cs => c :: reloc r ver ho i (k + 1) cs
def Cont.at? (r : Nat) : Cont → Nat → Option (List AV)
  | .lst _ t xs, i => (xs[i]?).map (flat t)
  | .tree _ ver t xs ho, i => (xs[i]?).map fun x => reloc r ver ho i 0 (flat t x)
  | .cells _ es, i => es[i]?
  | _, _ => none
def Cont.atK {R : Type} (r : Nat) (c : Cont) (i : Nat) (K : List AV → Option R) : Option R :=
  match c with
  | .lst _ t xs => (xs[i]?).bind fun x => K (flat t x)
  | .tree _ ver t xs ho => (xs[i]?).bind fun x => K (reloc r ver ho i 0 (flat t x))
  | .cells _ es => match es[i]? with | some cs => K cs | none => none
  | _ => none
def nestedK {R : Type} (ro : Bool) (t : Ty) (xs : List (den t)) (i k : Nat) (K : Cont → Option R) : Option R :=
  (xs[i]?).bind fun x => match (flat t x)[k]? with
    | some (.pv (.slice u) ys) => K (.lst ro u ys)
    | _ => none
def lookK {R : Type} (h : Heap) (r : Nat) (s : Sub) (K : Cont → Option R) : Option R :=
  match h.getD r none with
  | none => none
  | some .dead => none
  | some c => match s with
    | none => K c
    | some (i, k, v) => match c with
      | .tree ro ver t xs none => if v = ver then nestedK ro t xs i k K else none
      | _ => none
def roH : Heap → Heap
  | [] => []
  | some (.lst true t xs) :: h => some (.lst true t xs) :: roH h
  | some (.tree true v t xs ho) :: h => some (.tree true v t xs ho) :: roH h
  | _ :: h => none :: roH h
def packEsK {R α : Type} (p : List AV → (α → List AV → Option R) → Option R) : List (List AV) → (List α → Option R) → Option R
  | [], K => K []
  | e :: es, K => p e fun x rest => if rest.isEmpty then packEsK p es fun xs => K (x :: xs) else none
mutual
def packK {R : Type} (h : Heap) : (t : Ty) → List AV → (den t → List AV → Option R) → Option R
  | .prod a b, cs, K => packK h a cs fun x cs => packK h b cs fun y cs => K (x, y) cs
  | .unit, cs, K => K () cs
  | .int k, cs, K => match cs with | .pv u x :: cs => (cast? u (.int k) x).bind fun y => K y cs | _ => none
  | .bool, cs, K => match cs with | .pv u x :: cs => (cast? u .bool x).bind fun y => K y cs | _ => none
  | .str, cs, K => match cs with | .pv u x :: cs => (cast? u .str x).bind fun y => K y cs | _ => none
  | .idx, cs, K => match cs with | .pv u x :: cs => (cast? u .idx x).bind fun y => K y cs | _ => none
  | .err, cs, K => match cs with | .pv u x :: cs => (cast? u .err x).bind fun y => K y cs | .nili :: cs => K true cs | _ => none
  | .slice t, cs, K => match cs with
    | .pv u x :: cs => (cast? u (.slice t) x).bind fun y => K y cs
    | .nils :: cs => K [] cs
    | .own r s rg :: cs => lookK h r s fun c => match c with
      | .lst _ u xs => (cast? (.slice u) (.slice t) xs).bind fun ys => K (sub? ys rg) cs
      | .tree _ _ u xs none => (cast? (.slice u) (.slice t) xs).bind fun ys => K (sub? ys rg) cs
      | .cells _ es => packEsK (packK h t) es fun ys => K (sub? ys rg) cs
      | _ => none
    | _ => none
  | .iref t, cs, K => match cs with
    | .pv u x :: cs => (cast? u (.iref t) x).bind fun y => K y cs
    | .nilp :: cs => K none cs
    | .iptr u x 0 :: cs => (cast? u t x).bind fun y => K (some y) cs
    | .ptr r s i 0 :: cs => lookK h r s fun c => c.atK r i fun es => packK h t es fun x rest => if rest.isEmpty then K (some x) cs else none
    | _ => none
  | .fn f t, cs, K => match cs with
    | .pv u x :: cs => (cast? u (.fn f t) x).bind fun y => K y cs
    | .fn g cap :: cs => if g = f then packAK h t cap fun y => K y cs else none
    | _ => none
def packAK {R : Type} (h : Heap) : (t : Ty) → List AV → (den t → Option R) → Option R
  | .prod a b, vs, K => match vs with
    | v :: vs => if a.agg then match v with
          | .agg cs => packK h a cs fun x rest => if rest.isEmpty then packAK h b vs fun y => K (x, y) else none
          | _ => none
        else packK h a [v] fun x _ => packAK h b vs fun y => K (x, y)
    | [] => none
  | .unit, vs, K => if vs.isEmpty then K () else none
  | _, _, _ => none
end
example (h : Heap) (n : Int) (K : den (.prod .i (.prod .i .unit)) → List AV → Option Int) : packK h (.prod .i (.prod .i .unit)) [.n n, .n 3, .nili] K = K (n, 3, ()) [.nili] := by kernel_rfl
