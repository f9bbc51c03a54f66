/-
  VM 15: code; a function's contract out of its code.
-/
import Derived.Test.YtbbkgjkknjpmcaaVm14
set_option linter.unusedSimpArgs false
set_option linter.unusedVariables false
set_option linter.unusedSectionVars false
namespace Go.Vm
open Go

variable {P : Program} {n : Nat} {F F' : Nat → Nat → Prop} {env : Env} {σ σ' : Store} {a : Act} {w w' : World}

def chkC (P : Program) (n : Nat) : Code → VC → Bool
  | .skip, .skip => true
  | .seq a b, .seq a' b' => chkC P n a a' && chkC P n b b'
  | .cond c t e, .cond c' t' e' => opdOk n c c' && chkC P n t t' && chkC P n e e'
  | .block id b, .block id' b' => id == id' && chkC P n b b'
  | .loop b, .loop b' => chkC P n b b'
  | .exit id, .exit id' => id == id'
  | .ret, .ret => true
  | .region _ ops false, .reg vs => chkOpers P n ops ops.toList vs
  | .region _ ops true, .draw vs order => chkDraw P n ops vs order
  | _, _ => false

/-- What holds at the end of a stretch. -/
def VPost (n : Nat) (F : Nat → Nat → Prop) (σ : Store) (w : World) (Q : VExit → Env → Store → Prop) : Exit → Act → World → Prop
  | .normal, a', w' => PostE n F σ w (Q .normal) a' w'
  | .exit id, a', w' => PostE n F σ w (Q (.exit id)) a' w'
  | .ret, a', w' => PostE n F σ w (Q .ret) a' w'
  | _, _, _ => False

theorem VPost.far {Q : VExit → Env → Store → Prop} {σ1 : Store} {F1 : Nat → Nat → Prop} {w1 : World} (hx : Ext F σ w F1 σ1 w1) {e : Exit} {a' : Act} {w' : World} (h : VPost n F1 σ1 w1 Q e a' w') : VPost n F σ w Q e a' w' := by
  cases e with
  | normal => obtain ⟨F', env', σ', q1, q2, q3⟩ := h; exact ⟨F', env', σ', q1, hx.trans q2, q3⟩
  | exit id => obtain ⟨F', env', σ', q1, q2, q3⟩ := h; exact ⟨F', env', σ', q1, hx.trans q2, q3⟩
  | ret => obtain ⟨F', env', σ', q1, q2, q3⟩ := h; exact ⟨F', env', σ', q1, hx.trans q2, q3⟩
  | goto l => exact h
  | panic c => exact h
  | outgrown => exact h

theorem code_sound : ∀ (c : Code) (vc : VC), chkC P n c vc = true → ∀ (Q : VExit → Env → Store → Prop) (F : Nat → Nat → Prop) (env : Env) (σ : Store) (a : Act) (w : World), St n F env σ a w → vwp P vc Q env σ → c.wp P (VPost n F σ w Q) a w := by
  intro c
  induction c with
  | skip =>
    intro vc hc Q F env σ a w hst h
    cases vc <;> simp only [chkC] at hc <;> (try (cases hc; done))
    exact wp_skip ⟨F, env, σ, hst, Ext.refl F σ w, h⟩
  | seq x y ihx ihy =>
    intro vc hc Q F env σ a w hst h
    cases vc <;> simp only [chkC] at hc <;> (try (cases hc; done))
    rename_i x' y'
    simp only [Bool.and_eq_true] at hc
    simp only [vwp] at h
    refine wp_seq (wp_mono (ihx x' hc.1 _ F env σ a w hst h) (fun e a1 w1 hp => ?_))
    cases e with
    | normal =>
      obtain ⟨F1, env1, σ1, q1, q2, q3⟩ := hp
      exact wp_mono (ihy y' hc.2 Q F1 env1 σ1 a1 w1 q1 q3) (fun e a2 w2 hp2 => hp2.far q2)
    | exit id => exact hp
    | ret => exact hp
    | goto l => exact hp
    | panic c => exact hp
    | outgrown => exact hp
  | cond c t e iht ihe =>
    intro vc hc Q F env σ a w hst h
    cases vc <;> simp only [chkC] at hc <;> (try (cases hc; done))
    rename_i c' t' e'
    simp only [Bool.and_eq_true] at hc
    simp only [vwp] at h
    have hv := opd_VR hst hc.1.1
    cases hev : c'.ev env <;> rw [hev] at h hv <;> try exact h.elim
    rename_i b
    generalize hcv : a.eval c = cv at hv
    cases hv
    refine wp_cond hcv ?_
    cases b
    · exact ihe e' hc.2 Q F env σ a w hst (h.2 rfl)
    · exact iht t' hc.1.2 Q F env σ a w hst (h.1 rfl)
  | block id b ih =>
    intro vc hc Q F env σ a w hst h
    cases vc <;> simp only [chkC] at hc <;> (try (cases hc; done))
    rename_i id' b'
    simp only [Bool.and_eq_true, beq_iff_eq] at hc
    obtain ⟨rfl, hc⟩ := hc
    simp only [vwp] at h
    refine wp_block (wp_mono (ih b' hc _ F env σ a w hst h) (fun e a1 w1 hp => ?_))
    cases e with
    | normal => exact hp
    | exit i =>
      obtain ⟨F1, env1, σ1, q1, q2, q3⟩ := hp
      simp only [Exit.inBlock]
      simp only at q3
      split
      · rename_i hi; rw [if_pos hi] at q3; exact ⟨F1, env1, σ1, q1, q2, q3⟩
      · rename_i hi; rw [if_neg hi] at q3; exact ⟨F1, env1, σ1, q1, q2, q3⟩
    | ret => exact hp
    | goto l => exact hp
    | panic c => exact hp
    | outgrown => exact hp
  | loop b ih =>
    intro vc hc Q F env σ a w hst h
    cases vc <;> simp only [chkC] at hc <;> (try (cases hc; done))
    rename_i b'
    simp only [vwp] at h
    obtain ⟨I, μ, hI, hround⟩ := h
    refine wp_loop_ghost (fun m a1 w1 => ∃ F1 env1 σ1, St n F1 env1 σ1 a1 w1 ∧ Ext F σ w F1 σ1 w1 ∧ I env1 σ1 ∧ μ env1 σ1 = m) (μ env σ) ⟨F, env, σ, hst, Ext.refl F σ w, hI, rfl⟩ ?_
    rintro m a1 w1 ⟨F1, env1, σ1, q1, q2, q3, rfl⟩
    refine wp_mono (ih b' hc _ F1 env1 σ1 a1 w1 q1 (hround env1 σ1 q3)) (fun e a2 w2 hp => ?_)
    cases e with
    | normal =>
      obtain ⟨F2, env2, σ2, r1, r2, r3⟩ := hp
      exact ⟨_, r3.2, F2, env2, σ2, r1, q2.trans r2, r3.1, rfl⟩
    | exit i => exact VPost.far (Q := Q) (e := .exit i) q2 hp
    | ret => exact VPost.far (Q := Q) (e := .ret) q2 hp
    | goto l => exact hp
    | panic c => exact hp
    | outgrown => exact hp
  | exit id =>
    intro vc hc Q F env σ a w hst h
    cases vc <;> simp only [chkC] at hc <;> (try (cases hc; done))
    simp only [beq_iff_eq] at hc
    subst hc
    exact wp_exit ⟨F, env, σ, hst, Ext.refl F σ w, h⟩
  | ret =>
    intro vc hc Q F env σ a w hst h
    cases vc <;> simp only [chkC] at hc <;> (try (cases hc; done))
    exact wp_ret ⟨F, env, σ, hst, Ext.refl F σ w, h⟩
  | region id ops draw =>
    intro vc hc Q F env σ a w hst h
    cases draw with
    | false =>
      cases vc <;> simp only [chkC] at hc <;> (try (cases hc; done))
      refine wp_region_list (reg_sound ops.toList _ F env σ a w hst hc h (fun a' w' hp => hp))
    | true =>
      cases vc <;> simp only [chkC] at hc <;> (try (cases hc; done))
      exact draw_sound hc hst h (fun a' w' hp => hp)
  | rangeFunc f ps as b _ _ => intro vc hc; cases vc <;> simp [chkC] at hc
  | scope b _ => intro vc hc; cases vc <;> simp [chkC] at hc
  | label l => intro vc hc; cases vc <;> simp [chkC] at hc
  | goto l => intro vc hc; cases vc <;> simp [chkC] at hc
  | refuse s => intro vc hc; cases vc <;> simp [chkC] at hc

/-- Values of a state are seen otherwise: frozen, forgotten. -/
def Conv (vs : List V) (σ : Store) (vs' : List V) (σ' : Store) : Prop :=
  ∀ (F : Nat → Nat → Prop) (w : World) (xs : Array Value), Sim F σ w → xs.size = vs.length → (∀ (j : Nat) v (x : Value), vs[j]? = some v → xs[j]? = some x → VR F w v x) →
    ∃ F', Sim F' σ' w ∧ vs'.length = vs.length ∧ (∀ (j : Nat) v (x : Value), vs'[j]? = some v → xs[j]? = some x → VR F' w v x) ∧ Ext F σ w F' σ' w

theorem Conv.refl (vs : List V) (σ : Store) : Conv vs σ vs σ := fun F w xs hs hz hv => ⟨F, hs, rfl, hv, Ext.refl F σ w⟩
theorem Conv.less {vs : List V} {σ σ' : Store} (h : σ'.le σ) : Conv vs σ vs σ' := fun F w xs hs hz hv => ⟨F, hs.less h, rfl, hv, (Ext.refl F σ w).less h⟩
theorem Conv.trans {vs vs1 vs2 : List V} {σ σ1 σ2 : Store} (h : Conv vs σ vs1 σ1) (k : Conv vs1 σ1 vs2 σ2) : Conv vs σ vs2 σ2 := fun F w xs hs hz hv => by
  obtain ⟨F1, a1, a2, a3, a4⟩ := h F w xs hs hz hv
  obtain ⟨F2, b1, b2, b3, b4⟩ := k F1 w xs a1 (by omega) a3
  exact ⟨F2, b1, by omega, b3, a4.trans b4⟩

/-- The i-th value is a slice over a row of the store: it is frozen. -/
theorem Conv.freeze {vs : List V} {σ : Store} (i : Nat) {b len c e sl : Nat} {cs : List V} (hi : vs[i]? = some (.sl b 0 len c)) (hb : σ b = some (.row cs sl)) (hl : cs.length = len * e) :
    Conv vs σ (vs.set i (.fz e ((List.range len).map fun i => (cs.drop (i * e)).take e) c none)) (σ.erase b) := fun F w xs hs hz hv => by
  obtain ⟨s1, e1, arr, ty, h1, h2, h3⟩ := freeze_row hs hb
  refine ⟨_, s1, by simp, fun j v x hj hx => ?_, e1⟩
  rw [List.getElem?_set] at hj
  split at hj
  · rename_i hij
    subst hij
    split at hj
    · cases hj
      have hvr := hv i _ x hi hx
      cases hvr with
      | sl _ _ _ _ hc hn =>
      refine vr_chunks hl hn hc h3 none (fun _ h => by cases h) (fun j hj => ⟨.inr ⟨rfl, by omega⟩, ?_⟩) (by omega)
      simp [World.cell?, h1]
    · cases hj
  · exact e1.vr (hv j v x hj hx)

/-- The i-th value is a pointer to a variable of the store: it is frozen. -/
theorem Conv.freezeP {vs : List V} {σ : Store} (i : Nat) {b sl : Nat} {cs : List V} (hi : vs[i]? = some (.ptr b 0)) (hb : σ b = some (.row cs sl)) : Conv vs σ (vs.set i (.fp cs)) (σ.erase b) := fun F w xs hs hz hv => by
  obtain ⟨s1, e1, arr, ty, h1, h2, h3⟩ := freeze_row hs hb
  refine ⟨_, s1, by simp, fun j v x hj hx => ?_, e1⟩
  rw [List.getElem?_set] at hj
  split at hj
  · rename_i hij
    subst hij
    split at hj
    · cases hj
      have hvr := hv i _ x hi hx
      cases hvr
      exact frozen_fp h1 (by omega) h3 (fun o ho => .inr ⟨rfl, ho⟩)
    · cases hj
  · exact e1.vr (hv j v x hj hx)

/-- A slice that owned its room owns it no more. -/
theorem Conv.drop {vs : List V} {σ : Store} (i : Nat) {e c : Nat} {ys : List (List V)} {own : Option Nat} (hi : vs[i]? = some (.fz e ys c own)) : Conv vs σ (vs.set i (.fz e ys c none)) σ := fun F w xs hs hz hv => by
  refine ⟨F, hs, by simp, fun j v x hj hx => ?_, Ext.refl F σ w⟩
  rw [List.getElem?_set] at hj
  split at hj
  · rename_i hij
    subst hij
    split at hj
    · cases hj
      have hvr := hv i _ x hi hx
      cases hvr with
      | fz _ _ n _ _ A bb off f hl hc hn he h1 hA ho hz' hF hv' =>
      exact .fz e ys n c none A bb off f hl hc hn he h1 (fun h => hA (.inl (h.resolve_right (by simp)))) (fun o h => by cases h) hz' hF hv'
    · cases hj
  · exact hv j v x hj hx

theorem VCalls.conv {f : FuncId} {vs vs' : List V} {σ σ' : Store} {R : V → Store → Prop} (h : Conv vs σ vs' σ') (hc : VCalls P f vs' σ' R) : VCalls P f vs σ R :=
  ⟨hc.1, fun F w xs hs hz hv => by
    obtain ⟨F1, a1, a2, a3, a4⟩ := h F w xs hs hz hv
    refine (hc.2 F1 w xs a1 (by omega) a3).mono ?_
    rintro e w' ⟨x, v, σ2, F2, rfl, hr, hvr, hs2, hx2⟩
    exact ⟨x, v, σ2, F2, rfl, hr, hvr, hs2, a4.trans hx2⟩⟩

/-- What a function hands back, after whatever is frozen or forgotten. -/
def Rets (R : V → Store → Prop) : V → Store → Prop := fun v σ => ∃ v' σ', Conv [v] σ [v'] σ' ∧ R v' σ'

theorem VCalls.rets {f : FuncId} {vs : List V} {σ : Store} {R : V → Store → Prop} (h : VCalls P f vs σ (Rets R)) : VCalls P f vs σ R :=
  ⟨h.1, fun F w xs hs hz hv => (h.2 F w xs hs hz hv).mono fun e w' ⟨x, v, σ', F', he, ⟨v', σ2, hcv, hr⟩, hvr, hs', hx⟩ => by
    obtain ⟨F2, a1, a2, a3, a4⟩ := hcv F' w' #[x] hs' rfl (fun j u y hj hy => by
      cases j with
      | zero => simp at hj hy; subst hj; subst hy; exact hvr
      | succ j => simp at hj)
    exact ⟨x, v', σ2, F2, he, hr, a3 0 v' x rfl rfl, a1, hx.trans a4⟩⟩

def initEnv (args : List V) : Env := fun i => (args[i]?).getD .und

/-- The value that is handed back. -/
def retV (rs : List Nat) (env : Env) : V := match rs with
  | [t] => env t
  | ts => .tup (ts.map env)

def vend (rs : List Nat) (R : V → Store → Prop) : VExit → Env → Store → Prop
  | .normal, env, σ | .ret, env, σ => R (retV rs env) σ
  | .exit _, _, _ => False

def resOk (n : Nat) : List ResultVar → List Nat → Bool
  | [], [] => true
  | .tmp t :: r, t' :: r' => t == t' && decide (t < n) && resOk n r r'
  | _, _ => false
def chkF (P : Program) (f : FuncId) (nargs : Nat) (vc : VC) (rs : List Nat) : Bool := match P.funcs[f]? with
  | some fn => fn.name != "runtime.NumGoroutine" && decide (nargs ≤ fn.ntmps) && resOk fn.ntmps fn.results.toList rs && (match fn.body with | some c => chkC P fn.ntmps c vc | none => false)
  | none => false


theorem res_run : ∀ {l : List ResultVar} {rs : List Nat}, resOk n l rs = true → l = rs.map ResultVar.tmp ∧ (∀ t ∈ rs, t < n)
  | [], [], _ => ⟨rfl, by simp⟩
  | .tmp t :: r, t' :: r', h => by
    simp only [resOk, Bool.and_eq_true, beq_iff_eq, decide_eq_true_eq] at h
    obtain ⟨⟨rfl, h1⟩, h2⟩ := h
    obtain ⟨a, b⟩ := res_run h2
    exact ⟨by simp [a], by simpa using ⟨h1, b⟩⟩
  | [], _ :: _, h => by simp [resOk] at h
  | .tmp _ :: _, [], h => by simp [resOk] at h
  | .cell _ _ :: _, [], h => by simp [resOk] at h
  | .cell _ _ :: _, _ :: _, h => by simp [resOk] at h

def pick1 (vs : Array Value) : Value := if h : vs.size = 1 then vs[0] else .tuple vs

theorem results_tmps {fn : Func} {rs : List Nat} (h : fn.results.toList = rs.map ResultVar.tmp) (tmps : Array Value) : (results fn tmps).run P w = .ok (pick1 (rs.map fun t => tmps.getD t undef).toArray) w := by
  have hm : (fn.results.mapM fun (r : ResultVar) => (match r with
      | .tmp t => pure (tmps.getD t undef)
      | .cell c t => do loadVar t (← asAddr (tmps.getD c undef)) : Sem Value)).run P w = .ok (rs.map fun t => tmps.getD t undef).toArray w := by
    rw [Array.mapM_eq_mapM_toList, h]
    have : ∀ rs : List Nat, ((rs.map ResultVar.tmp).mapM fun (r : ResultVar) => (match r with
      | .tmp t => pure (tmps.getD t undef)
      | .cell c t => do loadVar t (← asAddr (tmps.getD c undef)) : Sem Value)) = pure (rs.map fun t => tmps.getD t undef) := by
      intro rs
      induction rs with
      | nil => rfl
      | cons t rs ih => rw [List.map_cons, List.mapM_cons, ih]; simp
    rw [this]; simp
  unfold results
  rw [Sem.run_bind]
  have hm' := hm
  show Result.andThen ((Array.mapM (fun (x : ResultVar) => (match x with
      | .tmp t => pure (tmps.getD t undef)
      | .cell c t => do loadVar t (← asAddr (tmps.getD c undef)) : Sem Value)) fn.results).run P w) _ = _
  rw [hm]; rfl

theorem res_sound {fn : Func} {rs : List Nat} (hr : resOk n fn.results.toList rs = true) (hst : St n F env σ a w) : ∃ x, (results fn a.tmps).run P w = .ok x w ∧ VR F w (retV rs env) x := by
  obtain ⟨h1, h2⟩ := res_run hr
  have hrun := results_tmps (P := P) (w := w) h1 a.tmps
  have hv : ∀ t ∈ rs, VR F w (env t) (a.tmps.getD t undef) := fun t ht => by
    have hlt : t < a.tmps.size := by rw [hst.size]; exact h2 t ht
    have := hst.rel t _ (Array.getElem?_eq_getElem hlt)
    simpa [Array.getD, hlt] using this
  have tup : VR F w (.tup (rs.map env)) (.tuple (rs.map fun t => a.tmps.getD t undef).toArray) := by
    refine .tup _ _ (by simp) (fun j v x hj hx => ?_)
    simp only [List.getElem?_toArray] at hx
    rw [List.getElem?_map] at hj hx
    cases ht : rs[j]? with
    | none => simp [ht] at hj
    | some t => simp [ht] at hj hx; subst hj; subst hx; have := hv t (List.mem_of_getElem? ht); simpa using this
  refine ⟨_, hrun, ?_⟩
  match rs, hv, tup with
  | [], _, tup => simpa [retV, pick1] using tup
  | [t], hv, _ => simpa [retV, pick1] using hv t (by simp)
  | t :: t' :: r, _, tup => simpa [retV, pick1] using tup

/-- A FUNCTION's CONTRACT OUT OF ITS CODE. -/
theorem vcalls_of {f : FuncId} {args : List V} {vc : VC} {rs : List Nat} {R : V → Store → Prop} (hc : chkF P f args.length vc rs = true)
    (h : (∀ v ∈ args, v.Ok) → σ.Ok → vwp P vc (vend rs (Rets R)) (initEnv args) σ) : VCalls P f args σ R := by
  unfold chkF at hc
  cases hf : P.funcs[f]? with
  | none => simp [hf] at hc
  | some fn =>
    simp only [hf, Bool.and_eq_true, bne_iff_ne, ne_eq, decide_eq_true_eq] at hc
    obtain ⟨⟨⟨h1, h2⟩, h3⟩, h4⟩ := hc
    cases hb : fn.body with
    | none => simp [hb] at h4
    | some c =>
      simp only [hb] at h4
      refine VCalls.rets ⟨by simp [okF, hf, hb, h1], fun F w xs hs hz hv => ?_⟩
      refine calls_of_wp hf hb ?_
      have hst : St fn.ntmps F (initEnv args) σ { tmps := xs ++ Array.replicate (fn.ntmps - xs.size) undef, defers := [] } w := by
        refine ⟨by simp; omega, fun i x hx => ?_, hs, rfl⟩
        simp only [initEnv]
        rw [Array.getElem?_append] at hx
        split at hx
        · rename_i hlt
          have hl : i < args.length := by omega
          have := hv i args[i] x (List.getElem?_eq_getElem hl) hx
          simpa [List.getElem?_eq_getElem hl] using this
        · rename_i hge
          rw [List.getElem?_eq_none (by omega)]; exact .und _
      have hok : ∀ v ∈ args, v.Ok := fun v hm => by
        obtain ⟨j, hj, rfl⟩ := List.mem_iff_getElem.1 hm
        have hj' : j < xs.size := by omega
        exact ⟨F, w, _, hv j _ _ (List.getElem?_eq_getElem hj) (Array.getElem?_eq_getElem hj')⟩
      refine wp_mono (code_sound c vc h4 _ F _ σ _ w hst (h hok ⟨F, w, hs⟩)) (fun e a' w' hp => ?_)
      have fin : ∀ (env' : Env), PostE fn.ntmps F σ w (fun env σ => Rets R (retV rs env) σ) a' w' → a'.defers = [] ∧ ∃ v, (results fn a'.tmps).run P w' = .ok v w' ∧ ∃ x v' σ' F', Ending.returned v = .returned x ∧ Rets R v' σ' ∧ VR F' w' v' x ∧ Sim F' σ' w' ∧ Ext F σ w F' σ' w' := by
        rintro _ ⟨F', env', σ', q1, q2, q3⟩
        obtain ⟨x, hr, hvr⟩ := res_sound (P := P) h3 q1
        exact ⟨q1.nodef, x, hr, x, _, σ', F', rfl, q3, hvr, q1.sim, q2⟩
      cases e with
      | normal => exact fin (initEnv args) hp
      | ret => exact fin (initEnv args) hp
      | exit i => obtain ⟨_, _, _, _, _, q⟩ := hp; exact q.elim
      | goto l => exact hp.elim
      | panic c => exact hp.elim
      | outgrown => exact hp.elim

end Go.Vm
