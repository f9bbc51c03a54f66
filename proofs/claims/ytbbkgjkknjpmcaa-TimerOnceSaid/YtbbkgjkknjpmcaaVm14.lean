/-
  VM 14: regions that draw their order.
-/
import Derived.Test.YtbbkgjkknjpmcaaVm12
import Derived.Test.YtbbkgjkknjpmcaaVm13
set_option linter.unusedSimpArgs false
set_option linter.unusedVariables false
set_option linter.unusedSectionVars false
namespace Go.Vm
open Go

/-- What does not act hands back one value; it looks into the store, if at all. -/
theorem vop_pure {P : Program} {σ : Store} {ev : Opd → V} {K : V → Store → Prop} (o : VOp) (ha : o.acts = false) (hh : vop P o ev σ K) :
    ∃ v, K v σ ∧ ∀ (σ1 : Store) (K' : V → Store → Prop), (o.reads = true → σ.le σ1) → K' v σ1 → vop P o ev σ1 K' := by
  cases o <;> simp only [VOp.acts] at ha <;> (try (cases ha; done)) <;> simp only [vop, VOp.reads] at hh ⊢
  case mv => exact ⟨_, hh, fun _ _ _ h => h⟩
  case pick c a b => split at hh <;> first | exact ⟨_, hh, fun _ _ _ h => h⟩ | exact hh.elim
  case arith => split at hh <;> first | (obtain ⟨a, r, b, c⟩ := hh; exact ⟨_, c, fun _ _ _ h => ⟨a, r, b, h⟩⟩) | exact hh.elim
  case cmp => split at hh <;> first | (obtain ⟨a, r, b, c⟩ := hh; exact ⟨_, c, fun _ _ _ h => ⟨a, r, b, h⟩⟩) | exact hh.elim
  case divm =>
    split at hh
    · obtain ⟨a, b, c⟩ := hh
      split at c
      · exact ⟨_, c, fun _ _ _ h => ⟨a, b, h⟩⟩
      · exact ⟨_, c, fun _ _ _ h => ⟨a, b, h⟩⟩
      · exact c.elim
    · exact hh.elim
  case bits => split at hh <;> first | (obtain ⟨a, b, c⟩ := hh; exact ⟨_, c, fun _ _ _ h => ⟨a, b, h⟩⟩) | exact hh.elim
  case shift =>
    split at hh
    · obtain ⟨a, c⟩ := hh
      split at c
      · exact ⟨_, c, fun _ _ _ h => ⟨a, h⟩⟩
      · exact ⟨_, c, fun _ _ _ h => ⟨a, h⟩⟩
      · exact c.elim
    · exact hh.elim
  case beq => split at hh <;> first | exact ⟨_, hh, fun _ _ _ h => h⟩ | exact hh.elim
  case pnil => split at hh <;> first | exact ⟨_, hh, fun _ _ _ h => h⟩ | exact hh.elim
  case aeq => split at hh <;> first | (obtain ⟨r, a, b⟩ := hh; exact ⟨_, b, fun _ _ _ h => ⟨r, a, h⟩⟩) | exact hh.elim
  case not => split at hh <;> first | exact ⟨_, hh, fun _ _ _ h => h⟩ | exact hh.elim
  case neg => split at hh <;> first | exact ⟨_, hh, fun _ _ _ h => h⟩ | exact hh.elim
  case conv => split at hh <;> first | exact ⟨_, hh, fun _ _ _ h => h⟩ | exact hh.elim
  case nilc => split at hh <;> first | exact ⟨_, hh, fun _ _ _ h => h⟩ | exact hh.elim
  case fld => split at hh <;> first | exact ⟨_, hh, fun _ _ _ h => h⟩ | exact hh.elim
  case idx => split at hh <;> first | (obtain ⟨a, el, b, c, d⟩ := hh; exact ⟨_, d, fun _ _ _ h => ⟨a, el, b, c, h⟩⟩) | (obtain ⟨a, b, c⟩ := hh; exact ⟨_, c, fun _ _ _ h => ⟨a, b, h⟩⟩) | exact hh.elim
  case aidx => split at hh <;> first | (obtain ⟨a, b, c⟩ := hh; exact ⟨_, c, fun _ _ _ h => ⟨a, b, h⟩⟩) | exact hh.elim
  case getf off n ag x =>
    split at hh
    · split at hh
      · rename_i hag; exact ⟨_, hh.2, fun _ _ _ h => by rw [if_pos hag]; exact ⟨hh.1, h⟩⟩
      · rename_i hag; obtain ⟨v, a, b⟩ := hh; exact ⟨_, b, fun _ _ _ h => by rw [if_neg hag]; exact ⟨v, a, h⟩⟩
    · exact hh.elim
  case geti len e ag x i =>
    split at hh
    · obtain ⟨a, b, hh⟩ := hh
      split at hh
      · rename_i hag; exact ⟨_, hh.2, fun _ _ _ h => by rw [if_pos hag]; exact ⟨a, b, hh.1, h⟩⟩
      · rename_i hag; obtain ⟨v, c, d⟩ := hh; exact ⟨_, d, fun _ _ _ h => by rw [if_neg hag]; exact ⟨a, b, v, c, h⟩⟩
    · exact hh.elim
  case sidx => split at hh <;> first | (obtain ⟨a, c, d, e⟩ := hh; exact ⟨_, e, fun _ _ _ h => ⟨a, c, d, h⟩⟩) | exact hh.elim
  case ext => split at hh <;> first | (obtain ⟨v, a, b⟩ := hh; exact ⟨_, b, fun _ _ _ h => ⟨v, a, h⟩⟩) | exact hh.elim
  case slc e x lo hi mx =>
    split at hh
    · obtain ⟨h0, l, hh', m, a, b, c, d, e, f, g, i, j⟩ := hh
      exact ⟨_, j, fun _ _ _ h => ⟨h0, l, hh', m, a, b, c, d, e, f, g, i, h⟩⟩
    · obtain ⟨l, hh', m, a, b, c, d, e, f, g, i, j⟩ := hh
      exact ⟨_, j.2, fun _ _ _ h => ⟨l, hh', m, a, b, c, d, e, f, g, i, j.1, h⟩⟩
    · exact hh.elim
  case bld => obtain ⟨a, b, cs, c, d⟩ := hh; exact ⟨_, d, fun _ _ _ h => ⟨a, b, cs, c, h⟩⟩
  case len => split at hh <;> first | exact ⟨_, hh, fun _ _ _ h => h⟩ | exact hh.elim
  case mkf => exact ⟨_, hh, fun _ _ _ h => h⟩
  case minm => split at hh <;> first | exact ⟨_, hh.2, fun _ _ _ h => ⟨hh.1, h⟩⟩ | exact hh.elim
  case load n x =>
    have ld : ∀ (cs : List V) (Q : V → Prop), ldK n cs Q → ∃ v, Q v ∧ ∀ Q' : V → Prop, Q' v → ldK n cs Q' := fun cs Q q => by
      cases n with
      | none => obtain ⟨v, a, b⟩ := q; exact ⟨v, b, fun _ h => ⟨v, a, h⟩⟩
      | some n => exact ⟨_, q.2, fun _ h => ⟨q.1, h⟩⟩
    split at hh
    · obtain ⟨cs, sl, a, b⟩ := hh
      obtain ⟨v, q1, q2⟩ := ld _ _ b
      exact ⟨v, q1, fun σ1 K' hl h => ⟨cs, sl, (hl trivial).rd a, q2 _ h⟩⟩
    · obtain ⟨v, q1, q2⟩ := ld _ _ hh
      exact ⟨v, q1, fun σ1 K' _ h => q2 _ h⟩
    · exact hh.elim
  case fload n x =>
    have ld : ∀ (cs : List V) (Q : V → Prop), ldK n cs Q → ∃ v, Q v ∧ ∀ Q' : V → Prop, Q' v → ldK n cs Q' := fun cs Q q => by
      cases n with
      | none => obtain ⟨v, a, b⟩ := q; exact ⟨v, b, fun _ h => ⟨v, a, h⟩⟩
      | some n => exact ⟨_, q.2, fun _ h => ⟨q.1, h⟩⟩
    split at hh
    · obtain ⟨v, q1, q2⟩ := ld _ _ hh
      exact ⟨v, q1, fun σ1 K' _ h => q2 _ h⟩
    · exact hh.elim
  case look S z ok m k =>
    obtain ⟨h0, hh⟩ := hh
    split at hh
    · exact ⟨_, hh, fun _ _ _ h => ⟨h0, h⟩⟩
    · obtain ⟨es, clk, a, b, c⟩ := hh
      split at c
      · rename_i v hv
        refine ⟨_, c, fun _ _ hl h => ⟨h0, es, clk, (hl trivial).rd a, b, ?_⟩⟩
        rw [hv]; exact h
      · rename_i hv
        refine ⟨_, c, fun _ _ hl h => ⟨h0, es, clk, (hl trivial).rd a, b, ?_⟩⟩
        rw [hv]; exact h
    · exact hh.elim
  case mlen => split at hh <;> first | exact ⟨_, hh, fun _ _ _ h => h⟩ | (obtain ⟨es, clk, a, b, c⟩ := hh; exact ⟨_, c, fun _ _ hl h => ⟨es, clk, (hl trivial).rd a, b, h⟩⟩) | exact hh.elim
  case entry => split at hh <;> first | (obtain ⟨r, since, k, seen, es, v, a, b, c, d⟩ := hh; exact ⟨_, d, fun _ _ hl h => ⟨r, since, k, seen, es, v, hl trivial _ _ a, hl trivial _ _ b, c, h⟩⟩) | exact hh.elim
  case fbox => exact ⟨_, hh.2.2, fun _ _ _ h => ⟨hh.1, hh.2.1, h⟩⟩
  case bsl => obtain ⟨a, b, c, cs, d, e⟩ := hh; exact ⟨_, e, fun _ _ _ h => ⟨a, b, c, cs, d, h⟩⟩

/-- The slots that an operation looks at. -/
def VOper.looks (o : VOper) : List Nat := (o.op.opds.filterMap fun | .s n => some n | _ => none) ++ (match o.guard with | some (g, _) => [g] | none => [])
def VOper.apart (x y : VOper) : Bool :=
  (match x.dst with | some d => !(y.looks.contains d) && y.dst != some d | none => true) && (match y.dst with | some d => !(x.looks.contains d) | none => true)

theorem apart_spec {x y : VOper} (h : x.apart y = true) : (∀ d, x.dst = some d → d ∉ y.looks) ∧ (∀ d, x.dst = some d → y.dst ≠ some d) ∧ (∀ d, y.dst = some d → d ∉ x.looks) := by
  refine ⟨fun d hd => ?_, fun d hd => ?_, fun d hd => ?_⟩ <;> simp [VOper.apart, hd] at h
  · exact h.1.1
  · exact h.1.2
  · exact h.2

theorem ev_putD (env : Env) (d : Option Nat) (v : V) {y : Opd} (h : ∀ k, d = some k → y ≠ .s k) : Opd.ev (env.putD d v) y = Opd.ev env y := by
  cases d with
  | none => rfl
  | some k =>
    cases y with
    | s n => exact Env.get_put_ne env v (fun e => h k rfl (by rw [e]))
    | _ => rfl

theorem putD_comm (env : Env) {x y : Option Nat} (u v : V) (h : ∀ d, x = some d → y ≠ some d) : (env.putD x u).putD y v = (env.putD y v).putD x u := by
  cases x with
  | none => rfl
  | some d =>
    cases y with
    | none => rfl
    | some e =>
      have hne : e ≠ d := fun he => h d rfl (by rw [he])
      funext i
      simp only [Env.putD, Env.put]
      by_cases h1 : i = e
      · subst h1; simp [hne]
      · simp [h1]

theorem looks_opds {o : VOper} {d : Option Nat} (h : ∀ k, d = some k → k ∉ o.looks) {env : Env} {v : V} : ∀ y ∈ o.op.opds, Opd.ev (env.putD d v) y = Opd.ev env y := fun y hy =>
  ev_putD env d v fun k hk hyk => h k hk (by
    subst hyk
    exact List.mem_append_left _ (List.mem_filterMap.2 ⟨.s k, hy, rfl⟩))

theorem looks_guard {o : VOper} {d : Option Nat} (h : ∀ k, d = some k → k ∉ o.looks) {env : Env} {v : V} {g : Nat} {t : Bool} (hg : o.guard = some (g, t)) : (env.putD d v) g = env g := by
  cases d with
  | none => rfl
  | some k => exact Env.get_put_ne env v (fun e => h k rfl (by subst e; simp [VOper.looks, hg]))

/-- Run one operation with its guard. -/
def vop1 (P : Program) (o : VOper) (K : Env → Store → Prop) (env : Env) (σ : Store) : Prop :=
  match o.guard with
  | none => vop P o.op (Opd.ev env) σ fun v σ' => (o.agr = true → σ.le σ') ∧ K (env.putD o.dst v) σ'
  | some (g, t) => match env g with
    | .bool t' => (t' = t → vop P o.op (Opd.ev env) σ fun v σ' => (o.agr = true → σ.le σ') ∧ K (env.putD o.dst v) σ') ∧ (t' ≠ t → K (env.putD o.dst .und) σ)
    | _ => False

theorem vops_cons {P : Program} {o : VOper} {rest : List VOper} {K : Env → Store → Prop} {env : Env} {σ : Store} : vops P (o :: rest) K env σ = vop1 P o (vops P rest K) env σ := by
  simp only [vops, vop1]; rfl

theorem vop1_mono {P : Program} {o : VOper} {K K' : Env → Store → Prop} {env : Env} {σ : Store} (h : ∀ e s, K e s → K' e s) (hh : vop1 P o K env σ) : vop1 P o K' env σ := by
  unfold vop1 at *
  split at hh
  · exact vop_mono _ (fun v s q => ⟨q.1, h _ _ q.2⟩) hh
  · split at hh
    · exact ⟨fun q => vop_mono _ (fun v s q => ⟨q.1, h _ _ q.2⟩) (hh.1 q), fun q => h _ _ (hh.2 q)⟩
    · exact hh

/-- What does not act, in one form: a value, whatever else follows. -/
theorem vop1_pure {P : Program} {o : VOper} {K : Env → Store → Prop} {env : Env} {σ : Store} (ha : o.op.acts = false) (hh : vop1 P o K env σ) :
    ∃ v, K (env.putD o.dst v) σ ∧ ∀ (env1 : Env) (σ1 : Store) (K' : Env → Store → Prop), (∀ y ∈ o.op.opds, Opd.ev env1 y = Opd.ev env y) → (∀ g t, o.guard = some (g, t) → env1 g = env g) → (o.op.reads = true → σ.le σ1) → K' (env1.putD o.dst v) σ1 → vop1 P o K' env1 σ1 := by
  have key : ∀ (K : Env → Store → Prop), (vop P o.op (Opd.ev env) σ fun v σ' => (o.agr = true → σ.le σ') ∧ K (env.putD o.dst v) σ') → ∃ v, K (env.putD o.dst v) σ ∧ ∀ (env1 : Env) (σ1 : Store) (K' : Env → Store → Prop),
      (∀ y ∈ o.op.opds, Opd.ev env1 y = Opd.ev env y) → (o.op.reads = true → σ.le σ1) → K' (env1.putD o.dst v) σ1 → vop P o.op (Opd.ev env1) σ1 fun v σ' => (o.agr = true → σ1.le σ') ∧ K' (env1.putD o.dst v) σ' := fun K hv => by
    obtain ⟨v, h1, h2⟩ := vop_pure o.op ha hv
    refine ⟨v, h1.2, fun env1 σ1 K' he hr hk => ?_⟩
    rw [vop_congr o.op he]
    exact h2 σ1 _ hr ⟨fun _ => Store.le_refl _, hk⟩
  unfold vop1 at hh
  split at hh
  · rename_i hg
    obtain ⟨v, h1, h2⟩ := key K hh
    refine ⟨v, h1, fun env1 σ1 K' he _ hr hk => ?_⟩
    unfold vop1; rw [hg]; exact h2 env1 σ1 K' he hr hk
  · rename_i g t hg
    split at hh
    · rename_i t' hgt
      by_cases ht : t' = t
      · obtain ⟨v, h1, h2⟩ := key K (hh.1 ht)
        refine ⟨v, h1, fun env1 σ1 K' he hgd hr hk => ?_⟩
        unfold vop1
        simp only [hg, hgd g t hg, hgt]
        exact ⟨fun _ => h2 env1 σ1 K' he hr hk, fun h => absurd ht h⟩
      · refine ⟨.und, hh.2 ht, fun env1 σ1 K' he hgd hr hk => ?_⟩
        unfold vop1
        simp only [hg, hgd g t hg, hgt]
        exact ⟨fun h => absurd h ht, fun _ => hk⟩
    · exact hh.elim

/-- An operation comes ahead of one that does not act. -/
theorem swap {P : Program} {x o : VOper} {K : Env → Store → Prop} {env : Env} {σ : Store} (hx : x.op.acts = false) (hap : x.apart o = true) (hagr : o.op.acts = true → x.op.reads = true → o.agr = true)
    (h : vop1 P x (vop1 P o K) env σ) : vop1 P o (vop1 P x K) env σ := by
  obtain ⟨a1, a2, a3⟩ := apart_spec hap
  obtain ⟨v, h1, h2⟩ := vop1_pure hx h
  by_cases ho : o.op.acts = true
  · -- o acts
    have hmove : ∀ (v' : V) (σ' : Store), (o.agr = true → σ.le σ') → K ((env.putD x.dst v).putD o.dst v') σ' → vop1 P x K (env.putD o.dst v') σ' := fun v' σ' hle hk => by
      refine h2 _ σ' K (looks_opds a3) (fun g t hg => looks_guard a3 hg) (fun hr => hle (hagr ho hr)) ?_
      rw [← putD_comm env v v' a2]; exact hk
    unfold vop1 at h1 ⊢
    split at h1
    · rename_i hg
      rw [vop_congr o.op (looks_opds a1)] at h1
      exact vop_mono _ (fun v' σ' q => ⟨q.1, hmove v' σ' q.1 q.2⟩) h1
    · rename_i g t hg
      rw [looks_guard a1 hg] at h1
      split at h1
      · rename_i t' hgt
        refine ⟨fun ht => ?_, fun ht => hmove .und σ (fun _ => Store.le_refl _) (h1.2 ht)⟩
        have := h1.1 ht
        rw [vop_congr o.op (looks_opds a1)] at this
        exact vop_mono _ (fun v' σ' q => ⟨q.1, hmove v' σ' q.1 q.2⟩) this
      · exact h1
  · have ho' : o.op.acts = false := by simpa using ho
    obtain ⟨v', h3, h4⟩ := vop1_pure ho' h1
    refine h4 env σ _ (fun y hy => ((looks_opds a1) y hy).symm) (fun g t hg => (looks_guard a1 hg).symm) (fun _ => Store.le_refl _) ?_
    refine h2 _ σ K (looks_opds a3) (fun g t hg => looks_guard a3 hg) (fun _ => Store.le_refl _) ?_
    rw [← putD_comm env v v' a2]; exact h3


theorem front {P : Program} {vo : VOper} {L2 : List VOper} {K : Env → Store → Prop} : ∀ (L1 : List VOper) (env : Env) (σ : Store), (∀ x ∈ L1, x.op.acts = false ∧ x.apart vo = true ∧ (vo.op.acts = true → x.op.reads = true → vo.agr = true)) →
    vops P (L1 ++ vo :: L2) K env σ → vop1 P vo (vops P (L1 ++ L2) K) env σ
  | [], env, σ, _, h => by rw [List.nil_append, vops_cons] at h; exact h
  | x :: L1, env, σ, hall, h => by
    rw [List.cons_append, vops_cons] at h
    obtain ⟨h1, h2, h3⟩ := hall x (by simp)
    have h' := vop1_mono (fun e s q => front L1 e s (fun y hy => hall y (by simp [hy])) q) h
    have h'' := swap h1 h2 h3 h'
    refine vop1_mono (fun e s q => ?_) h''
    rw [List.cons_append, vops_cons]; exact q

/-- The transitive order, looked over. -/
def certOk (ops : Array Oper) (b : Array Nat) : Bool := (List.range ops.size).all fun j => (match ops[j]? with
  | some o => (o.after.toList.all fun e => !Region.binds .any e || (decide (e.on < ops.size) && e.on != j)) && (List.range ops.size).all fun i => !(b.getD j 0).testBit i || (o.after.toList.any fun e => Region.binds .any e && decide (e.on < j) && (e.on == i || (b.getD e.on 0).testBit i))
  | none => false)

/-- Of two operations, the first ahead of the second in the order that is walked. -/
def relOk (ops : Array Oper) (b : Array Nat) (p q : Nat × VOper) : Bool :=
  (match ops[p.1]? with | some o => !(o.after.toList.any fun e => Region.binds .any e && e.on == q.1) | none => false) &&
  ((b.getD q.1 0).testBit p.1 || (!p.2.op.acts && p.2.apart q.2 && (!(q.2.op.acts && p.2.op.reads) || q.2.agr)))
def pairsOk (ops : Array Oper) (b : Array Nat) : List (Nat × VOper) → Bool
  | [] => true
  | p :: r => r.all (relOk ops b p) && pairsOk ops b r
def eachOk (P : Program) (n : Nat) (ops : Array Oper) (l : List (Nat × VOper)) : Bool := l.all fun p => match ops[p.1]? with | some o => chkOper P n ops o p.2 | none => false
def nodupB : List Nat → Bool
  | [] => true
  | x :: r => !r.contains x && nodupB r
def chkDraw (P : Program) (n : Nat) (ops : Array Oper) (vs : List VOper) (order : List Nat) : Bool :=
  P.follows .mixedOrders && certOk ops (Region.before ops) && pairsOk ops (Region.before ops) (order.zip vs) && eachOk P n ops (order.zip vs) && order.length == ops.size && vs.length == ops.size && nodupB order && (List.range ops.size).all (order.contains ·)

theorem pairsOk_spec {ops : Array Oper} {b : Array Nat} : ∀ {l : List (Nat × VOper)}, pairsOk ops b l = true → l.Pairwise fun p q => relOk ops b p q = true
  | [], _ => .nil
  | p :: r, h => by
    simp only [pairsOk, Bool.and_eq_true, List.all_eq_true] at h
    exact .cons h.1 (pairsOk_spec h.2)
theorem nodupB_spec : ∀ {l : List Nat}, nodupB l = true → l.Nodup
  | [], _ => .nil
  | x :: r, h => by
    simp only [nodupB, Bool.and_eq_true, Bool.not_eq_true', List.contains_eq_mem, decide_eq_false_iff_not] at h
    exact List.nodup_cons.2 ⟨h.1, nodupB_spec h.2⟩

theorem closed_spec {ops : Array Oper} {b : Array Nat} (hc : certOk ops b = true) (S : Nat → Prop) (hS : ∀ j o, S j → ops[j]? = some o → ∀ e ∈ o.after, Region.binds .any e = true → S e.on) :
    ∀ (j : Nat), j < ops.size → S j → ∀ i, i < ops.size → (b.getD j 0).testBit i = true → S i := by
  intro j
  induction j using Nat.strongRecOn with
  | _ j ih =>
    intro hj hSj i hi hb
    simp only [certOk, List.all_eq_true, List.mem_range] at hc
    have hcj := hc j hj
    have ho := Array.getElem?_eq_getElem hj
    rw [ho] at hcj
    simp only [Bool.and_eq_true, List.all_eq_true, List.mem_range] at hcj
    have h1 := hcj.2 i hi
    rw [hb] at h1
    simp only [Bool.not_true, Bool.false_or, List.any_eq_true, Bool.and_eq_true, decide_eq_true_eq, Bool.or_eq_true, beq_iff_eq] at h1
    obtain ⟨e, he, ⟨h2, h3⟩, h4⟩ := h1
    have hSe := hS j _ hSj ho e (by simpa using he) h2
    rcases h4 with h4 | h4
    · rw [← h4]; exact hSe
    · exact ih e.on h3 (by omega) hSe i hi h4

theorem op1_sound {P : Program} {n : Nat} {F : Nat → Nat → Prop} {env : Env} {σ : Store} {a : Act} {w : World} {K : Env → Store → Prop} {ops : Array Oper} {Q : Exit → Act → World → Prop} {i : Nat} {o : Oper} {vo : VOper} {KK : Act → World → Prop}
    (ho : ops[i]? = some o) (hst : St n F env σ a w) (hc : chkOper P n ops o vo = true) (h : vop1 P vo K env σ) (hk : ∀ a' w', PostE n F σ w K a' w' → KK a' w') : wpOp P ops Q i KK a w := by
  simp only [chkOper, Bool.and_eq_true] at hc
  obtain ⟨hg, hb⟩ := hc
  have h' : (Region.wanted o (yielded ops a.tmps) = true ∧ vop P vo.op (Opd.ev env) σ fun v σ' => (vo.agr = true → σ.le σ') ∧ K (env.putD vo.dst v) σ') ∨ (Region.wanted o (yielded ops a.tmps) = false ∧ K (env.putD vo.dst .und) σ) := by
    have hw := guard_wanted hst hg
    unfold vop1 at h
    split at h
    · rename_i hgn; rw [hgn] at hw; exact .inl ⟨hw, h⟩
    · rename_i g t hgn
      rw [hgn] at hw
      split at h
      · rename_i t' he
        by_cases htt : t' = t
        · exact .inl ⟨(hw t' he).2 htt, h.1 htt⟩
        · refine .inr ⟨?_, h.2 htt⟩
          rw [Bool.eq_false_iff]
          exact fun hc => htt ((hw t' he).1 hc)
      · exact h.elim
  unfold wpOp
  simp only [ho]
  rcases h' with ⟨hw, hv⟩ | ⟨hw, hv⟩
  · rw [if_pos hw]
    refine .inl (Oper.wp_mono ?_ (body_sound hst hb hv))
    rintro a' w' ⟨F', σ', v, hst', hx, _, hk'⟩
    exact hk a' w' ⟨F', _, σ', hst', hx, hk'⟩
  · rw [if_neg (by simp [hw])]
    exact hk _ _ ⟨F, _, σ, skip_dst hst hb, Ext.refl F σ w, hv⟩

theorem any_sound {P : Program} {n : Nat} {ops : Array Oper} {Q : Exit → Act → World → Prop} {K : Env → Store → Prop} (hcert : certOk ops (Region.before ops) = true) : ∀ (fuel : Nat) (L : List (Nat × VOper)) (listed : Array Bool) (F : Nat → Nat → Prop) (env : Env) (σ : Store) (a : Act) (w : World),
    L.length ≤ fuel → St n F env σ a w → vops P (L.map (·.2)) K env σ → (∀ a' w', PostE n F σ w K a' w' → Q .normal a' w') →
    listed.size = ops.size → (∀ i, i < ops.size → (listed.getD i true = false ↔ i ∈ L.map (·.1))) → (∀ p ∈ L, p.1 < ops.size) →
    (∀ i o, ops[i]? = some o → i ∉ L.map (·.1) → ∀ e ∈ o.after, Region.binds .any e = true → e.on ∉ L.map (·.1)) →
    (L.Pairwise fun p q => relOk ops (Region.before ops) p q = true) → (L.map (·.1)).Nodup → eachOk P n ops L = true →
    wpAny P .any ops Q fuel listed a w := by
  intro fuel
  have hempty : ∀ (L : List (Nat × VOper)) (listed : Array Bool), listed.size = ops.size → (∀ i, i < ops.size → (listed.getD i true = false ↔ i ∈ L.map (·.1))) → L = [] → Region.ready .any ops listed = [] := by
    rintro L listed hz hl rfl
    rw [List.eq_nil_iff_forall_not_mem]
    intro i hi
    obtain ⟨h1, o, h2, _⟩ := mem_ready.1 hi
    have := (hl i (Array.getElem?_eq_some_iff.1 h2).1).1 h1
    simp at this
  have hhead : ∀ (L : List (Nat × VOper)) (listed : Array Bool), listed.size = ops.size → (∀ i, i < ops.size → (listed.getD i true = false ↔ i ∈ L.map (·.1))) → (∀ p ∈ L, p.1 < ops.size) →
      (L.Pairwise fun p q => relOk ops (Region.before ops) p q = true) → (L.map (·.1)).Nodup → Region.ready .any ops listed = [] → L = [] := by
    intro L listed hz hl hlt hpw hnd hr
    cases L with
    | nil => rfl
    | cons p r =>
      exfalso
      have hp := hlt p (by simp)
      have ho := Array.getElem?_eq_getElem hp
      have : p.1 ∈ Region.ready .any ops listed := by
        refine mem_ready.2 ⟨(hl p.1 hp).2 (by simp), _, ho, fun e he hb => ?_⟩
        have hes : e.on < ops.size ∧ e.on ≠ p.1 := by
          simp only [certOk, List.all_eq_true, List.mem_range] at hcert
          have h1 := hcert p.1 hp
          rw [ho] at h1
          simp only [Bool.and_eq_true, List.all_eq_true] at h1
          have h2 := h1.1 e (by simpa using he)
          simpa [hb] using h2
        have hnot : e.on ∉ (p :: r).map (·.1) := by
          intro hm
          rw [List.map_cons, List.mem_cons] at hm
          rcases hm with hm | hm
          · exact hes.2 hm
          · obtain ⟨q, hq, hqe⟩ := List.mem_map.1 hm
            have h6 := (List.pairwise_cons.1 hpw).1 q hq
            simp only [relOk, ho, Bool.and_eq_true, Bool.not_eq_true'] at h6
            have h7 := h6.1
            rw [List.any_eq_false] at h7
            have := h7 e (by simpa using he)
            simp [hb, hqe] at this
        have hes := hes.1
        have h3 : listed.getD e.on true ≠ false := fun h => hnot ((hl e.on hes).1 h)
        have hes' : e.on < listed.size := by omega
        simp [hes'] at h3 ⊢
        exact h3
      rw [hr] at this; cases this
  induction fuel with
  | zero =>
    intro L listed F env σ a w hle hst hv hq hz hl hlt hcl hpw hnd hea
    have hL : L = [] := List.eq_nil_of_length_eq_zero (by omega)
    refine ⟨hempty L listed hz hl hL, hq a w ⟨F, env, σ, hst, Ext.refl F σ w, ?_⟩⟩
    subst hL; exact hv
  | succ fuel ih =>
    intro L listed F env σ a w hle hst hv hq hz hl hlt hcl hpw hnd hea
    refine ⟨fun hr => ?_, fun i hi => ?_⟩
    · have hL := hhead L listed hz hl hlt hpw hnd hr
      refine hq a w ⟨F, env, σ, hst, Ext.refl F σ w, ?_⟩
      subst hL; exact hv
    · obtain ⟨h1, o, ho, hall⟩ := mem_ready.1 hi
      have hilt : i < ops.size := (Array.getElem?_eq_some_iff.1 ho).1
      have hiL := (hl i hilt).1 h1
      obtain ⟨⟨i', vo⟩, hmem, hie⟩ := List.mem_map.1 hiL
      simp only at hie; subst hie
      obtain ⟨L1, L2, rfl⟩ := List.append_of_mem hmem
      have hpw' := List.pairwise_append.1 hpw
      -- what lies ahead of it in the list is not ahead of it by the edges
      have hnotpre : ∀ x ∈ L1, ((Region.before ops).getD i' 0).testBit x.1 = false := fun x hx => by
        rw [Bool.eq_false_iff]
        intro hb
        have hxlt := hlt x (by simp [hx])
        -- the set of what is listed, and i' itself, is closed
        have hclosed := closed_spec hcert (fun j => j < ops.size ∧ (j ∉ (L1 ++ (i', vo) :: L2).map (·.1) ∨ j = i')) (fun j oj hj hoj e he hbe => by
          have hes : e.on < ops.size := by
            have hjlt : j < ops.size := hj.1
            simp only [certOk, List.all_eq_true, List.mem_range] at hcert
            have h1 := hcert j hjlt
            rw [hoj] at h1
            simp only [Bool.and_eq_true, List.all_eq_true] at h1
            have h2 := h1.1 e (by simpa using he)
            simp [hbe] at h2; exact h2.1
          refine ⟨hes, .inl ?_⟩
          rcases hj.2 with hj' | rfl
          · exact hcl j oj hoj hj' e he hbe
          · have hoo : oj = o := by rw [ho] at hoj; exact (Option.some.inj hoj).symm
            subst hoo
            have h5 := hall e he hbe
            intro hm
            have h6 := (hl e.on hes).2 hm
            have hes' : e.on < listed.size := by omega
            simp [hes'] at h5 h6
            rw [h5] at h6; cases h6) i' hilt ⟨hilt, .inr rfl⟩ x.1 hxlt hb
        rcases hclosed.2 with h7 | h7
        · exact h7 (List.mem_map.2 ⟨x, by simp [hx], rfl⟩)
        · rw [List.map_append, List.map_cons] at hnd
          have := (List.nodup_append.1 hnd).2.2 x.1 (List.mem_map.2 ⟨x, hx, rfl⟩) i' (by simp)
          exact this h7
      have hrel : ∀ x ∈ L1, x.2.op.acts = false ∧ x.2.apart vo = true ∧ (vo.op.acts = true → x.2.op.reads = true → vo.agr = true) := fun x hx => by
        have h3 := hpw'.2.2 x hx (i', vo) (by simp)
        simp only [relOk, Bool.and_eq_true, Bool.or_eq_true, Bool.not_eq_true'] at h3
        rcases h3.2 with h4 | ⟨⟨h4, h5⟩, h6⟩
        · rw [hnotpre x hx] at h4; cases h4
        · refine ⟨h4, h5, fun q1 q2 => ?_⟩
          rcases h6 with h6 | h6
          · simp [q1, q2] at h6
          · exact h6
      have hv' : vops P (L1.map (·.2) ++ vo :: L2.map (·.2)) K env σ := by simpa using hv
      have hfront := front (L1.map (·.2)) env σ (fun y hy => by
        obtain ⟨x, hx, rfl⟩ := List.mem_map.1 hy
        exact hrel x hx) hv'
      have hck : chkOper P n ops o vo = true := by
        simp only [eachOk, List.all_eq_true] at hea
        have := hea (i', vo) (by simp)
        simp only [ho] at this; exact this
      refine op1_sound ho hst hck hfront (fun a' w' ⟨F', env', σ', hst', hx', hk'⟩ => ?_)
      have hsub : (L1 ++ L2).Sublist (L1 ++ (i', vo) :: L2) := List.Sublist.append (List.Sublist.refl _) (List.sublist_cons_self _ _)
      have hmemiff : ∀ j, j ∈ (L1 ++ L2).map (·.1) ↔ (j ∈ (L1 ++ (i', vo) :: L2).map (·.1) ∧ j ≠ i') := fun j => by
        constructor
        · intro hj
          refine ⟨(hsub.map _).subset hj, ?_⟩
          rintro rfl
          rw [List.map_append, List.map_cons] at hnd
          rw [List.map_append, List.mem_append] at hj
          rcases hj with hj | hj
          · exact (List.nodup_append.1 hnd).2.2 j hj j (by simp) rfl
          · exact (List.nodup_cons.1 (List.nodup_append.1 hnd).2.1).1 hj
        · rintro ⟨hj, hne⟩
          simp only [List.map_append, List.map_cons, List.mem_append, List.mem_cons] at hj ⊢
          rcases hj with hj | hj | hj
          · exact .inl hj
          · exact absurd hj hne
          · exact .inr hj
      refine ih (L1 ++ L2) (listed.setIfInBounds i' true) F' env' σ' a' w' (by simp at hle ⊢; omega) hst' (by simpa using hk') (fun a'' w'' ⟨F'', env'', σ'', q1, q2, q3⟩ => hq a'' w'' ⟨F'', env'', σ'', q1, hx'.trans q2, q3⟩) (by simpa using hz) (fun j hj => ?_) (fun p hp => hlt p (hsub.subset hp)) (fun j oj hoj hj e he hbe => ?_) (hpw.sublist hsub) (hnd.sublist (hsub.map _)) ?_
      · rw [hmemiff]
        by_cases hji : j = i'
        · subst hji
          have : j < listed.size := by omega
          simp [this]
        · rw [getD_set_ne true (fun e => hji e.symm), hl j hj]
          exact ⟨fun h => ⟨h, hji⟩, fun h => h.1⟩
      · rw [hmemiff]
        rintro ⟨hm, hne⟩
        by_cases hji : j = i'
        · subst hji
          have hoo : oj = o := by rw [ho] at hoj; exact (Option.some.inj hoj).symm
          subst hoo
          have h5 := hall e he hbe
          have hes : e.on < ops.size := by
            obtain ⟨q, hq1, hq2⟩ := List.mem_map.1 hm
            rw [← hq2]; exact hlt q hq1
          have h6 := (hl e.on hes).2 hm
          have hes' : e.on < listed.size := by omega
          simp [hes'] at h5 h6
          rw [h5] at h6; cases h6
        · exact hcl j oj hoj (fun h => hj ((hmemiff j).2 ⟨h, hji⟩)) e he hbe hm
      · simp only [eachOk, List.all_eq_true] at hea ⊢
        exact fun p hp => hea p (hsub.subset hp)

theorem draw_sound {P : Program} {n : Nat} {F : Nat → Nat → Prop} {env : Env} {σ : Store} {a : Act} {w : World} {K : Env → Store → Prop} {ops : Array Oper} {Q : Exit → Act → World → Prop} {vs : List VOper} {order : List Nat} {id : Nat}
    (hc : chkDraw P n ops vs order = true) (hst : St n F env σ a w) (h : vops P vs K env σ) (hq : ∀ a' w', PostE n F σ w K a' w' → Q .normal a' w') : (Code.region id ops true).wp P Q a w := by
  simp only [chkDraw, Bool.and_eq_true, beq_iff_eq, List.all_eq_true, List.mem_range] at hc
  obtain ⟨⟨⟨⟨⟨⟨⟨h1, h2⟩, h3⟩, h4⟩, h5⟩, h6⟩, h7⟩, h8⟩ := hc
  refine wp_region_any h1 ?_
  have hst' : St n F env σ a { w with drawn := w.drawn + 1 } := ⟨hst.size, fun i x hx => (hst.rel i x hx).drew, hst.sim.drew, hst.nodef⟩
  have hfst : (order.zip vs).map (·.1) = order := by rw [List.map_fst_zip]; omega
  have hsnd : (order.zip vs).map (·.2) = vs := by rw [List.map_snd_zip]; omega
  have hnd := nodupB_spec h7
  have hmem : ∀ i, i < ops.size → i ∈ order := fun i hi => by have := h8 i hi; simpa using this
  refine any_sound h2 ops.size (order.zip vs) _ F env σ a _ (by rw [List.length_zip]; omega) hst' (by rw [hsnd]; exact h) (fun a' w' ⟨F', env', σ', q1, q2, q3⟩ => hq a' w' ⟨F', env', σ', q1, (Ext.drew F σ w).trans q2, q3⟩) (by simp) (fun i hi => ?_) (fun p hp => ?_) (fun i o ho hi => ?_) (pairsOk_spec h3) (by rw [hfst]; exact hnd) h4
  · rw [hfst]; simp [hi, hmem i hi]
  · simp only [eachOk, List.all_eq_true] at h4
    have := h4 p hp
    split at this
    · rename_i o ho; exact (Array.getElem?_eq_some_iff.1 ho).1
    · cases this
  · rw [hfst] at hi
    exact absurd (hmem i (Array.getElem?_eq_some_iff.1 ho).1) hi

end Go.Vm
