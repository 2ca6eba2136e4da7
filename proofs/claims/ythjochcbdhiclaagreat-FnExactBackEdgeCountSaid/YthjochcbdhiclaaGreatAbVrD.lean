import Derived.Test.YthjochcbdhiclaaGreatAbRunD
namespace Go.Ab
def iterN {σ ρ : Type} (B : σ → Option (σ ⊕ ρ)) : Nat → σ → Option ρ
  | 0, _ => none
  | n + 1, s => (B s).bind fun r => match r with | .inl s' => iterN B n s' | .inr r => some r
open Classical in
noncomputable def iter {σ ρ : Type} (B : σ → Option (σ ⊕ ρ)) (s : σ) : Option ρ :=
  if h : ∃ n, (iterN B n s).isSome then iterN B (Classical.choose h) s else none
noncomputable def both {R : Type} (a b : Option R) : Option R := open Classical in if a = b then a else none
theorem both_self {R : Type} (a : Option R) : both a a = a := by unfold both; simp
theorem both_some {R : Type} {a b : Option R} {r : R} (h : both a b = some r) : a = some r ∧ b = some r := by
  unfold both at h
  split at h
  · rename_i e; subst e; exact ⟨h, h⟩
  · cases h
def keep (live : List Nat) : List AV → Nat → List AV
  | [], _ => []
  | v :: vs, i => (if live.contains i then v else .junk) :: keep live vs (i + 1)
def St.trim (live : List Nat) (s : St) : St := ⟨keep live s.t 0, s.h⟩
def firstId : Code → Nat
  | .region id _ _ => id
  | .seq a _ => firstId a
  | .block _ a | .loop a | .scope a => firstId a
  | .cond _ a _ => firstId a
  | _ => 0
def loopK (T : Tmpl) (n : Nat) (live : List Nat) (e : Ex) (s : St) : Option (den T.ty ⊕ (Ex × St)) := match e with
  | .normal => T.readS n s fun x => some (.inl x)
  | e => some (.inr (e, s.trim live))
noncomputable def vrun (C : Cfg) : Code → {R : Type} → St → (Ex → St → Option R) → Option R
  | .skip, _, s, K => K .normal s
  | .label _, _, s, K => K .normal s
  | .region id ops draw, _, s, K => if draw then (if regOK ops then vopsD C id (masks ops.toList []) ops ops.toList [] s.h.length s fun s' => K .normal s' else none) else vopsS C ops ops.toList s fun s' => K .normal s'
  | .seq a b, _, s, K => vrun C a s fun e s' => match e with | .normal => vrun C b s' K | e => K e s'
  | .cond c a b, _, s, K => match ev s.t c with
    | .pv .bool t => match (t : Bool) with | true => vrun C a s K | false => vrun C b s K
    | .unk => both (vrun C a s K) (vrun C b s K)
    | _ => none
  | .block id c, _, s, K => vrun C c s fun e s' => match e with
    | .exit j => if j = id then K .normal s' else K (.exit j) s'
    | e => K e s'
  | .loop c, R, s, K => match (C.ann.find? fun x => x.1 == firstId c).map (·.2) with
    | none => none
    | some F => F s R K
  | .exit id, _, s, K => K (.exit id) s
  | .ret, _, s, K => K .ret s
  | _, _, _, _ => none
section
variable {R : Type}
def resK (C : Cfg) (s : St) (rv : ResultVar) (K : AV → Option R) : Option R := match rv with
  | .tmp t => K (s.t.getD t .junk)
  | .cell a t => match C.info t, s.t.getD a .junk with
    | some i, x => match i.und with
      | .arr _ _ => loadArrK s.h i.size x K
      | _ => match x with
        | .ptr r q j off => lookK s.h r q fun c => c.atK r j fun cs => ldK i (cs.drop off) K
        | _ => none
    | _, _ => none
def resKs (C : Cfg) (s : St) : List ResultVar → (List AV → Option R) → Option R
  | [], K => K []
  | rv :: l, K => resK C s rv fun v => resKs C s l fun vs => K (v :: vs)
end
def TmH.ver0 : TmH → Bool
  | .nil => true
  | .tree _ v _ l => v == 0 && l.ver0
  | .gone l | .kept l | .lst _ _ l | .one _ l | .cells _ _ l => l.ver0
def renewC : Cont → Option Cont
  | .lst false t xs => some (.lst false t xs)
  | .tree false _ t xs none => some (.tree false 0 t xs none)
  | _ => none
def cutK {R : Type} (c : Option (Nat × Nat)) (h : Heap) (vs : List AV) (K : Heap → List AV → Option R) : Option R :=
  match c with
  | none => match vs with
    | .own r none none :: l => match h.getD r none with
      | some c => match renewC c with
        | some c' => K (setH (setH h r .dead) h.length c') (.own h.length none none :: l)
        | none => none
      | none => none
    | .own r none (some p) :: l => match h.getD r none with
      | some (.lst false t xs) => if p.1 = 0 then K (setH (setH h r .dead) h.length (.lst false t (xs.take p.2))) (.own h.length none none :: l) else none
      | _ => none
    | .nils :: l => K h (.nils :: l)
    | _ => none
  | some (b, k) => match h.getD b none with
    | some (.cells n [es]) => match es[k]? with
      | some (.own r none none) => match h.getD r none with
        | some c => match renewC c with
          | some c' => K (setH (setH (setH h r .dead) h.length c') b (.cells n [es.set k (.own h.length none none)])) vs
          | none => none
        | none => none
      | some .nils => K h vs
      | _ => none
    | _ => none
def cutsK {R : Type} : List (Option (Nat × Nat)) → Heap → List AV → (Heap → List AV → Option R) → Option R
  | [], h, vs, K => K h vs
  | c :: cs, h, vs, K => cutK c h vs fun h vs => cutsK cs h vs K
noncomputable def vcall (C : Cfg) (fn : Func) (ti to : Tmpl) (x : den ti.ty) : Option (den to.ty) :=
  match fn.body with
  | none => none
  | some c => if (Nat.beq C.lent ti.hs.len && ti.hs.ver0) = true then vrun C c ⟨ti.vals0 x ++ List.replicate (fn.ntmps - (ti.vals0 x).length) .undef, ti.objs0 x⟩ fun e s =>
    match e with
    | .exit _ => none
    | _ => resKs C s fn.results.toList fun vs => cutsK C.cut s.h vs fun h vs => retK ti to ⟨s.t, h⟩ vs some
    else none
end Go.Ab
