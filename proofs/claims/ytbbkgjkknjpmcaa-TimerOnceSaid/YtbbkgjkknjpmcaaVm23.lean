/-
  VM 23: a variable that is written once, in the walk; a slice that is frozen as it is handed back.
-/
import Derived.Test.YtbbkgjkknjpmcaaVm22
set_option linter.unusedSimpArgs false
set_option linter.unusedVariables false
set_option linter.unusedSectionVars false
namespace Go.Vm
open Go

theorem v_var {P : Program} {rest : List VOper} {K : Env → Store → Prop} {env : Env} {σ : Store} {d n : Nat} {zero : List V} {x : Opd} {v : V} {cs : List V} (hv : x.ev env = v) (h1 : zero.all V.one = true) (h2 : zero.length = n) (hx : x ≠ .s d)
    (hf : v.flat = true) (hc : v.cells = cs) (hn : cs.length = n) (h : vops P rest K (env.put d (.fp cs)) σ) :
    vop P (.alloc zero) (Opd.ev env) σ (vcont P (some d) (⟨some d, .fst d n x, none, false⟩ :: rest) K env) := by
  subst hv; subst hc
  have := o_var (P := P) (K := K) (σ := σ) (by simpa using h1) h2 hx hf hn h
  rwa [o_none] at this

theorem Rets.freeze {R : V → Store → Prop} {σ : Store} {b len c e sl : Nat} {cs : List V} (hb : σ b = some (.row cs sl)) (hl : cs.length = len * e)
    (h : Rets R (.fz e ((List.range len).map fun i => (cs.drop (i * e)).take e) c none) (σ.erase b)) : Rets R (.sl b 0 len c) σ := by
  obtain ⟨v', σ2, h1, h2⟩ := h
  exact ⟨v', σ2, Conv.trans (by simpa using Conv.freeze (vs := [.sl b 0 len c]) 0 rfl hb hl) h1, h2⟩
theorem Rets.freezeP {R : V → Store → Prop} {σ : Store} {b sl : Nat} {cs : List V} (hb : σ b = some (.row cs sl)) (h : Rets R (.fp cs) (σ.erase b)) : Rets R (.ptr b 0) σ := by
  obtain ⟨v', σ2, h1, h2⟩ := h
  exact ⟨v', σ2, Conv.trans (by simpa using Conv.freezeP (vs := [.ptr b 0]) 0 rfl hb) h1, h2⟩
theorem Rets.less {R : V → Store → Prop} {v : V} {σ σ' : Store} (hl : σ'.le σ) (h : Rets R v σ') : Rets R v σ := by
  obtain ⟨v', σ2, h1, h2⟩ := h
  exact ⟨v', σ2, (Conv.less hl).trans h1, h2⟩
theorem elems_fz {σ : Store} {e c : Nat} {xs : List (List V)} {own : Option Nat} : elems σ e (.fz e xs c own) = some xs := by simp [elems]
/-- An append to a row: the first one; a further one. -/
theorem v_appr0 {P : Program} {ev : Opd → V} {σ : Store} {K : V → Store → Prop} {e bytes : Nat} {s x : Opd} {ys : List (List V)} (hs : ev s = .fz e [] 0 none) (hy : elems σ e (ev x) = some ys) (hn : ys ≠ []) (hb : ys.length * bytes ≤ 140737488355328)
    (hk : ∀ b' c', σ b' = none → ys.length ≤ c' → K (.sl b' 0 ys.length c') (σ.set b' (.row ys.flatten ((c' - ys.length) * e)))) : vop P (.appr e bytes s x) ev σ K := by
  simp only [vop]
  refine ⟨ys, hy, ?_⟩
  rw [hs]
  exact ⟨rfl, rfl, hb, fun h => absurd h hn, fun _ => hk⟩
theorem v_appr1 {P : Program} {ev : Opd → V} {σ : Store} {K : V → Store → Prop} {e bytes b len c : Nat} {s x : Opd} {cs : List V} {ys : List (List V)} (hs : ev s = .sl b 0 len c) (hy : elems σ e (ev x) = some ys) (hb : (len + ys.length) * bytes ≤ 140737488355328)
    (hl : cs.length = len * e) (hr : σ b = some (.row cs ((c - len) * e)))
    (hk : ∀ b' c', (σ.erase b) b' = none → len + ys.length ≤ c' → K (.sl b' 0 (len + ys.length) c') ((σ.erase b).set b' (.row (cs ++ ys.flatten) ((c' - (len + ys.length)) * e)))) : vop P (.appr e bytes s x) ev σ K := by
  simp only [vop]
  refine ⟨ys, hy, ?_⟩
  rw [hs]
  exact ⟨hb, cs, hl, hr, hk⟩
theorem v_fst' {P : Program} {ev : Opd → V} {σ : Store} {K : V → Store → Prop} {d n b : Nat} {x : Opd} {v : V} {cs : List V} (hd : ev (.s d) = .ptr b 0) (hv : ev x = v) (hf : v.flat = true) (hn : v.cells.length = n) (hr : σ b = some (.row cs 0)) (hl : cs.length = n)
    (hk : K (.fp v.cells) (σ.erase b)) : vop P (.fst d n x) ev σ K := by
  simp only [vop, hd, hv]
  exact ⟨hf, hn, cs, hr, hl, hk⟩
theorem Store.erase_set_ne (σ : Store) {a b : Nat} (o : Ob) (h : a ≠ b) : (σ.set b o).erase a = (σ.erase a).set b o := by
  funext k
  by_cases h1 : k = b
  · subst h1; simp [Store.set, Store.erase, Ne.symm h]
  · simp [Store.set, Store.erase, h1]
theorem nodup_of_map {α β : Type} {f : α → β} {l : List α} (h : (l.map f).Nodup) : l.Nodup := by
  induction l with
  | nil => exact .nil
  | cons a l ih =>
    rw [List.map_cons, List.nodup_cons] at h
    exact List.nodup_cons.2 ⟨fun hm => h.1 (List.mem_map_of_mem hm), ih h.2⟩
end Go.Vm
