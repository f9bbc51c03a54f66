/-
  VM 16: the logic's steps, one lemma each, so that 'simp only' walks code and stops where something is not known.
-/
import Derived.Test.YtbbkgjkknjpmcaaVm15
set_option linter.unusedSimpArgs false
set_option linter.unusedVariables false
set_option linter.unusedSectionVars false
namespace Go.Vm
open Go

variable {P : Program}

/-- What is left behind a piece of code. -/
def vthen (P : Program) (b : VC) (Q : VExit → Env → Store → Prop) : VExit → Env → Store → Prop
  | .normal, env, σ => vwp P b Q env σ
  | .exit i, env, σ => Q (.exit i) env σ
  | .ret, env, σ => Q .ret env σ
def vblk (id : Nat) (Q : VExit → Env → Store → Prop) : VExit → Env → Store → Prop
  | .normal, env, σ => Q .normal env σ
  | .exit i, env, σ => if i = id then Q .normal env σ else Q (.exit i) env σ
  | .ret, env, σ => Q .ret env σ
def vrnd (Q : VExit → Env → Store → Prop) (I : Env → Store → Prop) (μ : Env → Store → Nat) (m : Nat) : VExit → Env → Store → Prop
  | .normal, env, σ => I env σ ∧ μ env σ < m
  | .exit i, env, σ => Q (.exit i) env σ
  | .ret, env, σ => Q .ret env σ
def vcont (P : Program) (d : Option Nat) (rest : List VOper) (K : Env → Store → Prop) (env : Env) : V → Store → Prop :=
  fun v σ => vops P rest K (env.putD d v) σ
def vconta (P : Program) (d : Option Nat) (rest : List VOper) (K : Env → Store → Prop) (env : Env) (σ0 : Store) : V → Store → Prop :=
  fun v σ => σ0.le σ ∧ vops P rest K (env.putD d v) σ

theorem vthen_n {b : VC} {Q : VExit → Env → Store → Prop} {env : Env} {σ : Store} : vthen P b Q .normal env σ = vwp P b Q env σ := rfl
theorem vthen_e {b : VC} {Q : VExit → Env → Store → Prop} {env : Env} {σ : Store} {i : Nat} : vthen P b Q (.exit i) env σ = Q (.exit i) env σ := rfl
theorem vthen_r {b : VC} {Q : VExit → Env → Store → Prop} {env : Env} {σ : Store} : vthen P b Q .ret env σ = Q .ret env σ := rfl
theorem vblk_n {id : Nat} {Q : VExit → Env → Store → Prop} {env : Env} {σ : Store} : vblk id Q .normal env σ = Q .normal env σ := rfl
theorem vblk_e {id i : Nat} {Q : VExit → Env → Store → Prop} {env : Env} {σ : Store} : vblk id Q (.exit i) env σ = if i = id then Q .normal env σ else Q (.exit i) env σ := rfl
theorem vblk_r {id : Nat} {Q : VExit → Env → Store → Prop} {env : Env} {σ : Store} : vblk id Q .ret env σ = Q .ret env σ := rfl
theorem vrnd_n {Q : VExit → Env → Store → Prop} {I : Env → Store → Prop} {μ : Env → Store → Nat} {m : Nat} {env : Env} {σ : Store} : vrnd Q I μ m .normal env σ = (I env σ ∧ μ env σ < m) := rfl
theorem vrnd_e {Q : VExit → Env → Store → Prop} {I : Env → Store → Prop} {μ : Env → Store → Nat} {m i : Nat} {env : Env} {σ : Store} : vrnd Q I μ m (.exit i) env σ = Q (.exit i) env σ := rfl
theorem vrnd_r {Q : VExit → Env → Store → Prop} {I : Env → Store → Prop} {μ : Env → Store → Nat} {m : Nat} {env : Env} {σ : Store} : vrnd Q I μ m .ret env σ = Q .ret env σ := rfl
theorem vend_n {rs : List Nat} {R : V → Store → Prop} {env : Env} {σ : Store} : vend rs R .normal env σ = R (retV rs env) σ := rfl
theorem vend_r {rs : List Nat} {R : V → Store → Prop} {env : Env} {σ : Store} : vend rs R .ret env σ = R (retV rs env) σ := rfl

section code
variable {Q : VExit → Env → Store → Prop} {env : Env} {σ : Store} {a b : VC}
theorem w_skip : vwp P .skip Q env σ = Q .normal env σ := rfl
theorem w_seq : vwp P (.seq a b) Q env σ = vwp P a (vthen P b Q) env σ := by
  simp only [vwp]; congr 1; funext x e s; cases x <;> rfl
theorem w_block {id : Nat} : vwp P (.block id b) Q env σ = vwp P b (vblk id Q) env σ := by
  simp only [vwp]; congr 1; funext x e s; cases x <;> rfl
theorem w_exit {id : Nat} : vwp P (.exit id) Q env σ = Q (.exit id) env σ := rfl
theorem w_ret : vwp P .ret Q env σ = Q .ret env σ := rfl
theorem w_reg {ops : List VOper} : vwp P (.reg ops) Q env σ = vops P ops (Q .normal) env σ := rfl
theorem w_draw {ops : List VOper} {o : List Nat} : vwp P (.draw ops o) Q env σ = vops P ops (Q .normal) env σ := rfl
theorem w_cond_t {c : Opd} (h : c.ev env = .bool true) : vwp P (.cond c a b) Q env σ = vwp P a Q env σ := by simp [vwp, h]
theorem w_cond_f {c : Opd} (h : c.ev env = .bool false) : vwp P (.cond c a b) Q env σ = vwp P b Q env σ := by simp [vwp, h]
theorem w_cond {c : Opd} {t : Bool} (h : c.ev env = .bool t) (h1 : t = true → vwp P a Q env σ) (h2 : t = false → vwp P b Q env σ) : vwp P (.cond c a b) Q env σ := by simp only [vwp, h]; exact ⟨h1, h2⟩
theorem w_loop (I : Env → Store → Prop) (μ : Env → Store → Nat) (h0 : I env σ) (h : ∀ env' σ', I env' σ' → vwp P b (vrnd Q I μ (μ env' σ')) env' σ') : vwp P (.loop b) Q env σ := by
  simp only [vwp]
  refine ⟨I, μ, h0, fun env' σ' hI => ?_⟩
  have := h env' σ' hI
  refine Eq.mpr (congrArg (fun q => vwp P b q env' σ') (funext fun x => funext fun e => funext fun s => ?_)) this
  cases x <;> rfl
end code

section ops
variable {K : Env → Store → Prop} {env : Env} {σ : Store} {rest : List VOper} {op : VOp} {d : Option Nat} {v : V}
theorem o_nil : vops P [] K env σ = K env σ := rfl
theorem o_none : vops P (⟨d, op, none, false⟩ :: rest) K env σ = vop P op (Opd.ev env) σ (vcont P d rest K env) := by
  simp only [vops, Bool.false_eq_true, false_implies, true_and]; rfl
theorem o_nonea : vops P (⟨d, op, none, true⟩ :: rest) K env σ = vop P op (Opd.ev env) σ (vconta P d rest K env σ) := by
  simp only [vops, true_implies]; rfl
theorem o_hit {g : Nat} {t : Bool} (h : env g = .bool t) : vops P (⟨d, op, some (g, t), false⟩ :: rest) K env σ = vop P op (Opd.ev env) σ (vcont P d rest K env) := by
  simp only [vops, h, Bool.false_eq_true, false_implies, true_and, true_implies, ne_eq, not_true, and_true]; rfl
theorem o_hita {g : Nat} {t : Bool} (h : env g = .bool t) : vops P (⟨d, op, some (g, t), true⟩ :: rest) K env σ = vop P op (Opd.ev env) σ (vconta P d rest K env σ) := by
  simp only [vops, h, true_implies, ne_eq, not_true, false_implies, and_true]; rfl
theorem o_miss_t {g : Nat} {ag : Bool} (h : env g = .bool false) : vops P (⟨d, op, some (g, true), ag⟩ :: rest) K env σ = vops P rest K (env.putD d .und) σ := by
  simp [vops, h]
theorem o_miss_f {g : Nat} {ag : Bool} (h : env g = .bool true) : vops P (⟨d, op, some (g, false), ag⟩ :: rest) K env σ = vops P rest K (env.putD d .und) σ := by
  simp [vops, h]
theorem k_some {d : Nat} : vcont P (some d) rest K env v σ = vops P rest K (env.put d v) σ := rfl
theorem k_none : vcont P none rest K env v σ = vops P rest K env σ := rfl
theorem ka_some {d : Nat} {σ0 : Store} : vconta P (some d) rest K env σ0 v σ = (σ0.le σ ∧ vops P rest K (env.put d v) σ) := rfl
theorem ka_none {σ0 : Store} : vconta P none rest K env σ0 v σ = (σ0.le σ ∧ vops P rest K env σ) := rfl
theorem p_some {d : Nat} : Env.putD env (some d) v = env.put d v := rfl
theorem p_none : Env.putD env none v = env := rfl
theorem e_s {n : Nat} : Opd.ev env (.s n) = env n := rfl
theorem e_c : Opd.ev env (.c v) = v := rfl
theorem e_f {k : FuncId} : Opd.ev env (.f k) = .fn k [] [] := rfl
theorem e_put {d i : Nat} : (env.put d v) i = if i = d then v else env i := rfl
theorem e_init {args : List V} {i : Nat} : initEnv args i = (args[i]?).getD .und := rfl
theorem r_one {t : Nat} : retV [t] env = env t := rfl
theorem r_nil : retV [] env = .tup [] := rfl
theorem r_two {s t : Nat} {ts : List Nat} : retV (s :: t :: ts) env = .tup ((s :: t :: ts).map env) := rfl
end ops

/-- A call: what it does, and what follows. -/
theorem o_call {P : Program} {f : Opd} {args : List Opd} {ev : Opd → V} {σ : Store} {K : V → Store → Prop} {k : FuncId} {first cap : List V} {R : V → Store → Prop}
    (hf : ev f = .fn k first cap) (h : VCalls P k (first ++ args.map ev ++ cap) σ R) (hk : ∀ v σ', R v σ' → v.Ok → σ'.Ok → K v σ') : vop P (.call f args) ev σ K := by
  simp only [vop, hf]; exact ⟨R, h, hk⟩
theorem call_f {P : Program} {k : FuncId} {args : List Opd} {env : Env} {σ : Store} {K : V → Store → Prop} {vs : List V} {R : V → Store → Prop}
    (hv : args.map (Opd.ev env) = vs) (h : VCalls P k vs σ R) (hk : ∀ v σ', R v σ' → v.Ok → σ'.Ok → K v σ') : vop P (.call (.f k) args) (Opd.ev env) σ K :=
  o_call (first := []) (cap := []) rfl (by simpa [hv] using h) hk

theorem Rets.of {R : V → Store → Prop} {v : V} {σ : Store} (h : R v σ) : Rets R v σ := ⟨v, σ, Conv.refl _ _, h⟩
theorem Rets.le {R : V → Store → Prop} {v : V} {σ σ' : Store} (hl : σ'.le σ) (h : R v σ') : Rets R v σ := ⟨v, σ', Conv.less hl, h⟩

end Go.Vm
