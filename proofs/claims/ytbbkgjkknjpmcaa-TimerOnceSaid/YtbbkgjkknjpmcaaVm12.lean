/-
  VM 12: operations in their regions; calls.
-/
import Derived.Test.YtbbkgjkknjpmcaaVm11
import Derived.Deep.LoopGhost
set_option linter.unusedSimpArgs false
set_option linter.unusedVariables false
set_option linter.unusedSectionVars false
namespace Go.Vm
open Go

variable {P : Program} {n : Nat} {F F' : Nat → Nat → Prop} {env : Env} {σ σ' : Store} {a : Act} {w w' : World} {K : V → Store → Prop}

def guardOk (n : Nat) (ops : Array Oper) : Option (Nat × Bool) → Option (Nat × Bool) → Bool
  | none, none => true
  | some (j, t), some (g, t') => t == t' && ((ops[j]?).bind (·.dst)) == some g && decide (g < n)
  | _, _ => false
def dstOk (n : Nat) : Option Tmp → Bool
  | none => true
  | some d => decide (d < n)

def chkBody (P : Program) (n : Nat) (o : Oper) (vo : VOper) : Bool :=
  match o.op, vo.op with
  | .call { callee := .value f, args, .. }, .call f' args' => o.dst == vo.dst && dstOk n o.dst && opdOk n f f' && opdsOk n args.toList args'
  | .store t (.tmp p) x, .fst d m x' => o.dst == none && vo.dst == some d && p == d && decide (d < n) && opdOk n x x' && szOk P t m
  | op, vop => o.dst == vo.dst && dstOk n o.dst && chkOp P n op vop
def chkOper (P : Program) (n : Nat) (ops : Array Oper) (o : Oper) (vo : VOper) : Bool := guardOk n ops o.guard vo.guard && chkBody P n o vo

theorem St.put (h : St n F env σ a w) (hx : Ext F σ w F' σ' w') (hs : Sim F' σ' w') {v : V} {x : Value} (hv : VR F' w' v x) (dst : Option Tmp) : St n F' (env.putD dst v) σ' (a.put dst x) w' := by
  cases dst with
  | none => exact ⟨h.size, fun i y hy => hx.vr (h.rel i y hy), hs, h.nodef⟩
  | some d =>
    refine ⟨by simp [Act.put, h.size], fun i y hy => ?_, hs, h.nodef⟩
    simp only [Act.put] at hy
    rw [Array.getElem?_setIfInBounds] at hy
    simp only [Env.putD]
    split at hy
    · rename_i hid
      subst hid
      split at hy
      · cases hy; rw [Env.get_put_same]; exact hv
      · cases hy
    · rename_i hid
      rw [Env.get_put_ne _ _ (fun e => hid e.symm)]
      exact hx.vr (h.rel i y hy)

/-- What an operation leaves. -/
def PostOp (n : Nat) (F : Nat → Nat → Prop) (env : Env) (σ : Store) (w : World) (dst : Option Nat) (K : V → Store → Prop) (a' : Act) (w' : World) : Prop :=
  ∃ F' σ' v, St n F' (env.putD dst v) σ' a' w' ∧ Ext F σ w F' σ' w' ∧ K v σ'

theorem vr_ok {v : V} {x : Value} (h : VR F w v x) : v.Ok := ⟨F, w, x, h⟩

theorem body_sound {Q : Exit → Act → World → Prop} {o : Oper} {vo : VOper} (hst : St n F env σ a w) (hc : chkBody P n o vo = true) (h : vop P vo.op (Opd.ev env) σ K) : o.wp P a w (PostOp n F env σ w vo.dst K) Q := by
  have plain : ∀ (hd : o.dst = vo.dst), Does P F σ w (execOp a.eval o) K → o.wp P a w (PostOp n F env σ w vo.dst K) Q := by
    rintro hd ⟨v, σ', F', w', hr, hs, hx, hk⟩
    unfold Oper.wp
    rcases hr with ⟨x, hr, hv⟩ | ⟨hr, rfl⟩
    · rw [hr, Oper.upon_value, hd]; exact ⟨F', σ', v, hst.put hx hs hv _, hx, hk⟩
    · rw [hr, Oper.upon_skip, hd]; exact ⟨F', σ', .und, hst.put hx hs (.und _) _, hx, hk⟩
  obtain ⟨dst, op, ty, pos, after, guard⟩ := o
  obtain ⟨vdst, vo, vguard, agr⟩ := vo
  simp only [chkBody] at hc
  split at hc
  · -- a call
    rename_i f args ats f' args'
    simp only [Bool.and_eq_true, beq_iff_eq] at hc
    obtain ⟨⟨⟨rfl, _⟩, h1⟩, h2⟩ := hc
    simp only [vop] at h
    have hf := opd_VR hst h1
    cases hv : Opd.ev env f' <;> rw [hv] at h hf <;> try exact h.elim
    rename_i k first cap
    obtain ⟨R, hR, hk⟩ := h
    obtain ⟨hok, hcalls⟩ := hR
    generalize hfv : a.eval f = fv at hf
    cases hf with
    | fn _ _ _ fs cs hz1 hz2 hfr hca =>
    obtain ⟨b1, b2⟩ := arr_VR hst h2
    have hc' := hcalls F w (fs ++ args.map a.eval ++ cs) hst.sim (by simp [hz1, hz2] at b1 ⊢; omega) (fun j v x hj hx => by
      rw [List.getElem?_append] at hj
      rw [Array.getElem?_append] at hx
      have hl : (first ++ args'.map (Opd.ev env)).length = (fs ++ args.map a.eval).size := by simp [hz1] at b1 ⊢; omega
      rw [hl] at hj
      split at hj
      · rename_i hlt
        rw [if_pos hlt] at hx
        rw [List.getElem?_append] at hj
        rw [Array.getElem?_append] at hx
        rw [← hz1] at hj
        split at hj
        · rename_i h3; rw [if_pos h3] at hx; exact hfr j v x hj hx
        · rename_i h3; rw [if_neg h3] at hx
          rw [List.getElem?_map] at hj
          cases hy : args'[j - fs.size]? with
          | none => simp [hy] at hj
          | some y => simp [hy] at hj; subst hj; exact b2 _ y x hy hx
      · rename_i hlt
        rw [if_neg hlt] at hx
        exact hca _ v x hj hx)
    unfold okF at hok
    unfold Oper.wp
    have hrun : (execOp a.eval { dst, op := .call { callee := .value f, args, argTypes := ats }, type := ty, pos, after, guard }).run P w = .ok (.enter k (fs ++ args.map a.eval ++ cs)) w := by
      cases hfn : P.funcs[k]? with
      | none => simp [hfn] at hok
      | some fn =>
        simp [hfn] at hok
        obtain ⟨q1, q2⟩ := hok
        simp [execOp, resolve, hfv, Deferred.ofValue, invoke, callFunc, hfn, q2]
        intro hbn; rw [hbn] at q1; simp at q1
    rw [hrun, Oper.upon_enter]
    refine hc'.mono fun e w' hp => ?_
    obtain ⟨x, v, σ', F', rfl, hr, hvr, hs, hx⟩ := hp
    exact ⟨F', σ', v, hst.put hx hs hvr _, hx, hk v σ' hr (vr_ok hvr) ⟨F', w', hs⟩⟩
  · -- the last store into a variable
    rename_i t p x d m x'
    simp only [Bool.and_eq_true, beq_iff_eq, decide_eq_true_eq] at hc
    obtain ⟨⟨⟨⟨⟨rfl, rfl⟩, rfl⟩, hlt⟩, h1⟩, h2⟩ := hc
    have hp : VR F w (Opd.ev env (.s p)) (a.eval (.tmp p)) := opd_VR hst (by simp [opdOk, hlt])
    obtain ⟨v, σ', F', w', hr, hvr, hs, hx, hk⟩ := fst_sound (P := P) t p m h2 hst.sim hp (opd_VR hst h1) h
    unfold Oper.wp
    have hrun : (execOp a.eval { dst := none, op := .store t (.tmp p) x, type := ty, pos, after, guard }).run P w = .ok .skip w' := by
      have : execOp a.eval { dst := none, op := .store t (.tmp p) x, type := ty, pos, after, guard } = (do Instr.storeAt t (a.eval (.tmp p)) (a.eval x); pure Next.skip : Sem Next) := rfl
      rw [this]; exact hr
    rw [hrun, Oper.upon_skip]
    refine ⟨F', σ', v, ⟨hst.size, fun i y hy => ?_, hs, hst.nodef⟩, hx, hk⟩
    simp only [Act.put] at hy
    simp only [Env.putD]
    by_cases hi : i = p
    · subst hi
      rw [Env.get_put_same]
      have : a.eval (.tmp i) = y := by simp [Act.eval, Array.getD]; rw [Array.getElem?_eq_some_iff] at hy; obtain ⟨h3, h4⟩ := hy; simp [h3, h4]
      rw [this] at hvr; exact hvr
    · rw [Env.get_put_ne _ _ hi]; exact hx.vr (hst.rel i y hy)
  · simp only [Bool.and_eq_true, beq_iff_eq] at hc
    obtain ⟨⟨rfl, _⟩, h1⟩ := hc
    exact plain rfl (op_does hst op ty dst pos after guard vo h1 h)

theorem guard_wanted {ops : Array Oper} {o : Oper} {vo : VOper} (hst : St n F env σ a w) (hg : guardOk n ops o.guard vo.guard = true) : match vo.guard with
    | none => Region.wanted o (yielded ops a.tmps) = true
    | some (g, t) => ∀ t', env g = .bool t' → (Region.wanted o (yielded ops a.tmps) = true ↔ t' = t) := by
  unfold guardOk at hg
  split at hg
  · rename_i h1 h2; rw [h2]; simp [Region.wanted, h1]
  · rename_i j t g t' h1 h2
    rw [h2]
    simp only [Bool.and_eq_true, beq_iff_eq, decide_eq_true_eq] at hg
    obtain ⟨⟨rfl, h3⟩, h4⟩ := hg
    intro t'' he
    have hlt : g < a.tmps.size := by rw [hst.size]; exact h4
    have hv := hst.rel g _ (Array.getElem?_eq_getElem hlt)
    rw [he] at hv
    generalize hx : a.tmps[g] = x at hv
    cases hv
    have hy : yielded ops a.tmps j = some t'' := by
      unfold yielded
      rw [h3]
      simp [Array.getElem?_eq_getElem hlt, hx]
    simp [Region.wanted, h1, hy]
  · cases hg


/-! ### regions in their order -/
def chkOpers (P : Program) (n : Nat) (ops : Array Oper) : List Oper → List VOper → Bool
  | [], [] => true
  | o :: os, v :: vs => chkOper P n ops o v && chkOpers P n ops os vs
  | _, _ => false

def PostE (n : Nat) (F : Nat → Nat → Prop) (σ : Store) (w : World) (K : Env → Store → Prop) (a' : Act) (w' : World) : Prop :=
  ∃ F' env' σ', St n F' env' σ' a' w' ∧ Ext F σ w F' σ' w' ∧ K env' σ'

theorem oper_cases {K : Env → Store → Prop} {ops : Array Oper} {o : Oper} {vo : VOper} {rest : List VOper} (hst : St n F env σ a w) (hg : guardOk n ops o.guard vo.guard = true) (h : vops P (vo :: rest) K env σ) :
    (Region.wanted o (yielded ops a.tmps) = true ∧ vop P vo.op (Opd.ev env) σ fun v σ' => (vo.agr = true → σ.le σ') ∧ vops P rest K (env.putD vo.dst v) σ') ∨
    (Region.wanted o (yielded ops a.tmps) = false ∧ vops P rest K (env.putD vo.dst .und) σ) := by
  have hw := guard_wanted hst hg
  simp only [vops] at h
  split at h
  · rename_i hgn
    rw [hgn] at hw
    exact .inl ⟨hw, h⟩
  · rename_i g t hgn
    rw [hgn] at hw
    split at h
    · rename_i t' he
      by_cases htt : t' = t
      · exact .inl ⟨(hw t' he).2 htt, h.1 htt⟩
      · refine .inr ⟨?_, h.2 htt⟩
        rw [Bool.eq_false_iff]
        exact fun hc => htt ((hw t' he).1 hc)
    · exact h.elim

theorem skip_dst {o : Oper} {vo : VOper} (hst : St n F env σ a w) (hc : chkBody P n o vo = true) : St n F (env.putD vo.dst .und) σ (a.put o.dst undef) w := by
  have hd : o.dst = vo.dst ∨ (o.dst = none ∧ ∃ d, vo.dst = some d) := by
    unfold chkBody at hc
    split at hc
    · simp only [Bool.and_eq_true, beq_iff_eq] at hc; exact .inl hc.1.1.1
    · simp only [Bool.and_eq_true, beq_iff_eq] at hc; exact .inr ⟨hc.1.1.1.1.1, _, hc.1.1.1.1.2⟩
    · simp only [Bool.and_eq_true, beq_iff_eq] at hc; exact .inl hc.1.1
  rcases hd with hd | ⟨hd, d, hv⟩
  · rw [← hd]; exact hst.put (Ext.refl F σ w) hst.sim (.und _) _
  · rw [hd, hv]
    refine ⟨hst.size, fun i y hy => ?_, hst.sim, hst.nodef⟩
    simp only [Act.put] at hy
    simp only [Env.putD]
    by_cases hi : i = d
    · subst hi; rw [Env.get_put_same]; exact .und _
    · rw [Env.get_put_ne _ _ hi]; exact hst.rel i y hy

theorem reg_sound {K : Env → Store → Prop} {ops : Array Oper} {Q : Exit → Act → World → Prop} : ∀ (l : List Oper) (vl : List VOper) (F : Nat → Nat → Prop) (env : Env) (σ : Store) (a : Act) (w : World), St n F env σ a w → chkOpers P n ops l vl = true → vops P vl K env σ →
    (∀ a' w', PostE n F σ w K a' w' → Q .normal a' w') → wpList P ops Q l a w
  | [], [], F, env, σ, a, w, hst, _, h, hq => hq a w ⟨F, env, σ, hst, Ext.refl F σ w, h⟩
  | o :: os, vo :: vs, F, env, σ, a, w, hst, hc, h, hq => by
    simp only [chkOpers, chkOper, Bool.and_eq_true] at hc
    obtain ⟨⟨hg, hb⟩, hrest⟩ := hc
    unfold wpList
    rcases oper_cases hst hg h with ⟨hw, hv⟩ | ⟨hw, hv⟩
    · rw [if_pos hw]
      refine .inl (Oper.wp_mono ?_ (body_sound hst hb hv))
      rintro a' w' ⟨F', σ', v, hst', hx, _, hk⟩
      exact reg_sound os vs F' _ σ' a' w' hst' hrest hk (fun a'' w'' ⟨F'', env'', σ'', q1, q2, q3⟩ => hq a'' w'' ⟨F'', env'', σ'', q1, hx.trans q2, q3⟩)
    · rw [if_neg (by simp [hw])]
      exact reg_sound os vs F _ σ _ w (skip_dst hst hb) hrest hv hq
  | [], _ :: _, _, _, _, _, _, _, hc, _, _ => by simp [chkOpers] at hc
  | _ :: _, [], _, _, _, _, _, _, hc, _, _ => by simp [chkOpers] at hc

end Go.Vm
