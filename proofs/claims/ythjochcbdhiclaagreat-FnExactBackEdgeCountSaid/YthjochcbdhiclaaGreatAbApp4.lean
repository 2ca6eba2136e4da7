import Derived.Test.YthjochcbdhiclaaGreatAbApp3
set_option linter.unnecessarySimpa false
set_option linter.unusedVariables false
set_option linter.unusedSimpArgs false
namespace Go.Ab
open Go.RowKit
section
variable {P : Program} {C : Cfg} (HC : TabOK P C)
def AppSem (P : Program) (t : TypeId) (ty : TypeId) (h : Heap) (x y : AV) (v : AV) (δ : Delta) : Prop :=
  ∀ (F : Fr) (E : Env) (w : World) (p q : Value), Inv F E h w → RepAV E h w x p → RepAV E h w y q → ∃ val E' w', (Builtin.append_ #[t, t] ty #[p, q]).run P w = .ok val w' ∧ Inv F E' (apD h δ) w' ∧ Keep E h w E' (apD h δ) w' ∧ RepAV E' (apD h δ) w' v val
theorem appK2_sem {R : Type} {t e : TypeId} {ie : TI} (hund : P.underlying t = some (.slice e)) (hte : TIOK P e ie) (ty : TypeId) {hp : Heap} {base : Nat} {u : Ty} (hsz : u.size = ie.size) {x y : AV} {K : AV → Delta → Option R} {r : R} (e : appK2 hp base ie.lim u x y K = some r) :
    ∃ v δ, K v δ = some r ∧ ∀ h, SubH hp h → (∀ j, j < 2 → h.getD (base + j) none = none) → AppSem P t ty h x y v δ := by
  have nil : ∀ (y : AV), (srcK hp u y fun ys => if ys.length ≤ ie.lim then K (.own base none none) [(base, .lst false u ys)] else none) = some r → ∃ v δ, K v δ = some r ∧ ∀ h, SubH hp h → (∀ j, j < 2 → h.getD (base + j) none = none) → AppSem P t ty h .nils y v δ := by
    intro y e
    obtain ⟨ys, h1, hsrc⟩ := srcK_spec e
    split at h1
    case isFalse => cases h1
    rename_i hlim
    refine ⟨_, _, h1, fun h hs hfree F E w p q H hx hy => ?_⟩
    simp only [RepAV] at hx; subst hx
    obtain ⟨val, E', w', g1, g2, g3, g4⟩ := app_nil H hund hte ty (hfree 0 (by omega)) hsz hlim (hsrc h hs E w H.heap q hy)
    exact ⟨val, E', w', g1, g2, g3, g4⟩
  unfold appK2 at e
  split at e
  · split at e
    · refine ⟨_, _, e, fun h hs hfree F E w p q H hx hy => ?_⟩
      simp only [RepAV] at hx hy; subst hx; subst hy
      exact ⟨_, E, w, run_app0 hund hte (Nat.le_refl _), H, Keep.refl E h w, by simp only [RepAV]⟩
    · rename_i rr
      split at e
      · rename_i v2 u' z hcr
        split at e
        case isFalse => cases e
        rename_i hc
        obtain ⟨rfl, hlim⟩ := hc
        refine ⟨_, _, e, fun h hs hfree F E w p q H hx hy => ?_⟩
        simp only [RepAV] at hx hy; subst hx
        exact app_tree H hund hte ty (xs := []) (K := fun _ => True) (hs.lst hcr (by simp) (by simp)) (hfree 0 (by omega)) hsz (by simpa using hlim) hy (.inl ⟨rfl, rfl, rfl⟩)
      · exact nil _ e
    · exact nil _ e
  · rename_i q0
    split at e
    · rename_i u' xs hcq
      split at e
      case isFalse => cases e
      rename_i hu; subst hu
      obtain ⟨ys, h1, hsrc⟩ := srcK_spec e
      split at h1
      case isFalse => cases h1
      rename_i hlim
      refine ⟨_, _, h1, fun h hs hfree F E w p q H hx hy => ?_⟩
      simp only [RepAV] at hx
      exact app_lst H hund hte ty (hs.lst hcq (by simp) (by simp)) (hfree 0 (by omega)) hsz hlim hx (hsrc h hs E w H.heap q hy)
    · rename_i v1 u' xs hcq
      split at e
      case h_2 => cases e
      rename_i rr
      split at e
      case h_2 => cases e
      rename_i v2 u2 z hcr
      split at e
      case isFalse => cases e
      rename_i hc
      obtain ⟨rfl, hne⟩ := hc
      obtain ⟨z', hz', hK⟩ := bind_ok e
      obtain ⟨rfl, rfl⟩ := cast?_spec hz'
      split at hK
      case isFalse => cases hK
      rename_i hlim
      refine ⟨_, _, hK, fun h hs hfree F E w p q H hx hy => ?_⟩
      simp only [RepAV] at hx hy
      exact app_tree H hund hte ty (K := fun _ => True) (hs.lst hcr (by simp) (by simp)) (hfree 0 (by omega)) hsz hlim hy (.inr ⟨q0, v1, Ne.symm hne, hs.lst hcq (by simp) (by simp), hx, rfl⟩)
    · cases e
  · rename_i q0 i k v0
    split at e
    case h_2 => cases e
    rename_i ver u' xs hcq
    split at e
    case isFalse => cases e
    rename_i hv; subst hv
    obtain ⟨x0, hx0, e3⟩ := bind_ok e
    obtain ⟨hi, rfl⟩ := List.getElem?_eq_some_iff.1 hx0
    split at e3
    case h_2 => cases e3
    rename_i u2 zs hk
    split at e3
    case isFalse => cases e3
    rename_i hu; subst hu
    obtain ⟨ys, h1, hsrc⟩ := srcK_spec e3
    split at h1
    case isFalse => cases h1
    rename_i hlim
    refine ⟨_, _, h1, fun h hs hfree F E w p q H hx hy => ?_⟩
    simp only [RepAV] at hx
    have hf0 : h.getD base none = none := hfree 0 (by omega)
    obtain ⟨E1, g1, g2, g3⟩ := inv_ext H (hs.lst hcq (by simp) (by simp)) hi hk hf0
    have hb1 : (setH (setH h q0 (.tree false (v0 + 1) u' xs (some (i, k)))) base (.lst false u2 zs)).getD (base + 1) none = none := by
      have hne : base + 1 ≠ q0 := by rintro rfl; have := hfree 1 (by omega); rw [hs.lst hcq (by simp) (by simp)] at this; cases this
      rw [getD_setH, if_neg (by omega), getD_setH, if_neg hne]; exact hfree 1 (by omega)
    have hsrc' : SrcRow w u2.size ys.length q (fun l vs => ∃ hl : l < ys.length, RepL E1 (setH (setH h q0 (.tree false (v0 + 1) u' xs (some (i, k)))) base (.lst false u2 zs)) w (flat u2 ys[l]) vs) := by
      obtain ⟨A, m', k1, k2, k3⟩ := hsrc h hs E w H.heap q hy
      refine ⟨A, m', k1, k2, fun hne => ?_⟩
      obtain ⟨b, o, cells, m1, m2, m3⟩ := k3 hne
      exact ⟨b, o, cells, m1, m2, fun l hl => by obtain ⟨h3, h4⟩ := m3 l hl; exact ⟨h3, rep_flat u2 ((flat_rep u2 h4).mono g2.stab)⟩⟩
    obtain ⟨val, E', w', k1, k2, k3, k4⟩ := app_lst g1 hund hte ty (base := base + 1) (by rw [getD_setH, if_pos rfl]) hb1 hsz hlim (g3 p hx) hsrc'
    exact ⟨val, E', w', k1, k2, g2.trans k3, k4⟩
  · cases e
include HC in
theorem append_sem {R : Type} {base : Nat} {s : St} {o : Oper} {args : Array Operand} {ats : Array TypeId} {K : AV → Delta → Option R} {r : R} (ho : o.op = .call { callee := .builtin .append, args := args, argTypes := ats }) (h : vopE C base s o K = some r) : ∃ v δ, K v δ = some r ∧ ∀ hp, SubH s.h hp → (∀ j, j < slots C o → hp.getD (base + j) none = none) → ESem P s.t hp o v δ := by
  unfold vopE at h; simp only [ho] at h
  split at h
  case h_2 => cases h
  rename_i x y t u hargs hts
  split at h
  case isFalse => cases h
  rename_i htu
  subst htu
  split at h
  case h_2 => cases h
  rename_i size e code zero lim hti
  obtain ⟨_, d, _, hund, _, hu, _⟩ := HC.ti t _ hti
  simp only [UndOK] at hu; subst hu
  split at h
  case h_2 => cases h
  rename_i ie hie
  have hte := HC.ti e ie hie
  have ha : args = #[x, y] := by rw [← Array.toArray_toList (xs := args), hargs]
  have ht' : ats = #[t, t] := by rw [← Array.toArray_toList (xs := ats), hts]
  have hxo : x ∈ o.op.operands := by rw [ho]; simp [Op.operands, Call.operands, ha]
  have hyo : y ∈ o.op.operands := by rw [ho]; simp [Op.operands, Call.operands, ha]
  have hexec : ∀ (a : Act) (w : World) (v : Value) (w' : World), (Builtin.append_ #[t, t] o.type #[a.eval x, a.eval y]).run P w = .ok v w' → (execOp a.eval o).run P w = .ok (.value v) w' := by
    intro a w v w' hr
    simp only [execOp, ho, resolve, ha, ht', List.map_toArray, List.map_cons, List.map_nil, Sem.run_bind, Sem.run_pure, Result.andThen_ok, invoke, builtin]
    rw [hr]; rfl
  unfold appK at h
  split at h
  case h_2 => cases h
  rename_i ut hcode
  split at h
  case isFalse => cases h
  rename_i husz
  obtain ⟨δ, h1, h2⟩ := convsK_spec _ h
  obtain ⟨v, δ', h3, h4⟩ := appK2_sem (P := P) hund hte o.type husz h1
  refine ⟨v, δ ++ δ', h3, fun hp hs hfree => ESem.ghost (fun F E w H => (h2 hp hs).2 F E w H) ?_ (apD_append _ _ _)⟩
  intro F E w a next Q hI hop hk
  obtain ⟨val, E', w', g1, g2, g3, g4⟩ := h4 (apD hp δ) (hs.apD δ) (fun j hj => (h2 hp hs).1 _ (hfree j (by simp only [slots, ho]; exact hj))) F E w _ _ hI (hop x hxo) (hop y hyo)
  unfold Oper.wp
  rw [hexec a w val w' g1]
  exact hk val E' w' g2 g3 g4
end
end Go.Ab
