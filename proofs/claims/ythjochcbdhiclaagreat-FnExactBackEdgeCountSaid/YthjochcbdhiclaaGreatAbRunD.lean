import Derived.Test.YthjochcbdhiclaaGreatAbMat
namespace Go.Ab
def aft (o : Oper) (i : Nat) : Bool := o.after.any fun e => Region.binds .any e && e.on == i
def looks (ops : Array Oper) (o : Oper) : List Tmp :=
  (o.op.operands.toList.filterMap fun | .tmp t => some t | _ => none) ++
  (match o.guard with
   | some (g, _) => ((ops[g]?).bind (·.dst)).toList
   | none => [])
def regOK (ops : Array Oper) : Bool :=
  (ops.toList.zipIdx.all fun p => p.1.after.all fun e => !Region.binds .any e || decide (e.on < p.2)) &&
  (ops.toList.zipIdx.all fun p => ops.toList.zipIdx.all fun q => p.2 == q.2 || p.1.dst.isNone || p.1.dst != q.1.dst) &&
  (ops.toList.zipIdx.all fun p => (looks ops p.1).all fun t => ops.toList.zipIdx.all fun q => p.2 == q.2 || q.1.dst != some t || (decide (q.2 < p.2) && aft p.1 q.2) || (decide (p.2 < q.2) && aft q.1 p.2))
def maskE (acc : List Nat) : List Edge → Nat
  | [] => 0
  | e :: es => if Region.binds .any e = true then Nat.lor (Nat.lor (2 ^ e.on) (acc.getD e.on 0)) (maskE acc es) else maskE acc es
def masks : List Oper → List Nat → List Nat
  | [], acc => acc
  | o :: l, acc => masks l (acc ++ [maskE acc o.after.toList])
structure Tr where
  vis : Heap
  base : Nat
  cnt : Nat
  t : List Nat
def ord (ms : List Nat) (k i : Nat) : Bool := Nat.testBit (ms.getD i 0) k
def unseen (ms : List Nat) (i : Nat) : List Tr → Nat → List Nat
  | [], _ => []
  | a :: tr, k => if ord ms k i = true then unseen ms i tr (k + 1) else a.t ++ unseen ms i tr (k + 1)
def apartB (a : Tr) (r : Nat) : Bool := (match a.vis.getD r none with | none => true | some _ => false) && !(a.t.contains r) && !(Nat.ble a.base r && Nat.blt r (a.base + a.cnt))
def allApart (ms : List Nat) (i : Nat) (t : List Nat) : List Tr → Nat → Bool
  | [], _ => true
  | a :: tr, k => (ord ms k i || t.all (apartB a)) && allApart ms i t tr (k + 1)
def touched (δ : Delta) : List Nat := δ.map (·.1)
def hidOf (C : Cfg) (id i : Nat) : List Nat := ((C.hid.find? fun x => x.1.1 == id && x.1.2 == i).map (·.2)).getD []
section
variable {R : Type}
def dropBase (n : Nat) (r : Nat) : Bool := Nat.blt r n
def vopsD (C : Cfg) (id : Nat) (ms : List Nat) (all : Array Oper) : List Oper → List Tr → Nat → St → (St → Option R) → Option R
  | [], _, _, s, K => K s
  | o :: rest, tr, base, s, K =>
    let vis := hideH s.h (hidOf C id tr.length ++ unseen ms tr.length tr 0)
    let go (T : List AV) : Option R := if Nat.ble s.h.length base = true then vopA C base ⟨T, vis⟩ o fun v δ =>
        if allApart ms tr.length (touched δ) tr 0 = true then vopsD C id ms all rest (tr ++ [⟨vis, base, slotsA C o, touched δ⟩]) (base + slotsA C o) ⟨put T o.dst v, apD s.h δ⟩ K else none
      else none
    let skip (T : List AV) : Option R := vopsD C id ms all rest (tr ++ [⟨[], 0, 0, []⟩]) base ⟨put T o.dst .undef, s.h⟩ K
    match o.guard with
    | none => go s.t
    | some (j, w) => match (all[j]?).bind (·.dst) with
      | none => none
      | some d => match s.t.getD d .junk with
        | .pv .bool t => match (t : Bool) with
          | true => if w = true then go (s.t.set d (.b true)) else skip (s.t.set d (.b true))
          | false => if w = false then go (s.t.set d (.b false)) else skip (s.t.set d (.b false))
        | .tup [] => skip s.t
        | _ => none
def vopsS (C : Cfg) (all : Array Oper) : List Oper → St → (St → Option R) → Option R
  | [], s, K => K s
  | o :: rest, s, K =>
    let go (T : List AV) : Option R := vopA C s.h.length ⟨T, s.h⟩ o fun v δ => vopsS C all rest ⟨put T o.dst v, apD s.h δ⟩ K
    let skip (T : List AV) : Option R := vopsS C all rest ⟨put T o.dst .undef, s.h⟩ K
    match o.guard with
    | none => go s.t
    | some (j, w) => match (all[j]?).bind (·.dst) with
      | none => none
      | some d => match s.t.getD d .junk with
        | .pv .bool t => match (t : Bool) with
          | true => if w = true then go (s.t.set d (.b true)) else skip (s.t.set d (.b true))
          | false => if w = false then go (s.t.set d (.b false)) else skip (s.t.set d (.b false))
        | .tup [] => skip s.t
        | _ => none
end
end Go.Ab
