/-
  Timers: the other's functions.
-/
import Derived.Test.YtbbkgjkknjpmcaaT10b
set_option linter.unusedSimpArgs false
set_option linter.unusedVariables false
set_option linter.unusedSectionVars false
namespace Go.Vm.T10
open Go Go.Vm

abbrev TL := List ((Int × Int) × Int)
def fi (k : Int × Int) (L : TL) : Option Nat := L.findIdx? (fun p => decide (p.1 = k))
theorem rfind_fi (k : Int × Int) (L : TL) : rfind k L = match fi k L with | some i => (i : Int) | none => -1 := rfl
theorem fi_lt {k : Int × Int} {L : TL} {i : Nat} (h : fi k L = some i) : i < L.length := (List.findIdx?_eq_some_iff_getElem.1 h).1
/-- What is set. -/
def rset (k : Int × Int) (a : Int) (L : TL) : Int × TL :=
  if a < 0 ∨ a > 9007199254740991 then (1, L) else match fi k L with
    | none => if 1024 ≤ L.length then (2, L) else (0, L ++ [(k, a)])
    | some i => (0, L.eraseIdx i ++ [(k, a)])
def rstop (k : Int × Int) (L : TL) : Bool × TL := match fi k L with
  | none => (false, L)
  | some i => (true, L.eraseIdx i)
def rat (k : Int × Int) (L : TL) : Int × Bool := match fi k L with
  | none => (0, false)
  | some i => ((L[i]?.map (·.2)).getD 0, true)

section other
variable {σ : Store} {x : Nat} {L : TL}

/-- The append of one. -/
theorem oc_one (k : Int × Int) (a : Int) : kv k ++ [.int .i64 a] = oc (k, a) := rfl

theorem oc_drop3 (p : (Int × Int) × Int) : (oc p).drop 3 = [] := rfl
theorem oc_get (p : (Int × Int) × Int) : (oc p).drop 2 = [.int .i64 p.2] := rfl
variable {c : Nat} {own : Option Nat}

theorem rset_do (k : Int × Int) (a : Int) (hn : L.length ≤ 1024) (h : RF σ x L c own) :
    VCalls PT 8 [.ptr x 0, .agg (kv k), .int .i64 a] σ (fun v σ' => v = .int .i64 (rset k a L).1 ∧ RS σ x own (rset k a L).2 σ') := by
  have h' := h
  obtain ⟨h1, h2⟩ := h
  have h1' := Store.rd_row h1
  refine vcalls_of ck8 (fun _ hok => ?_)
  -- the append
  have app : ∀ (env : Env) (σ1 : Store) (L1 : TL) (c1 : Nat) (own1 : Option Nat), RF σ1 x L1 c1 own1 → L1.length ≤ 1024 → env 0 = .ptr x 0 → env 2 = .int .i64 a → env 4 = .fp (kv k) →
      ∀ R : V → Store → Prop, (∀ σ', RS σ1 x own1 (L1 ++ [(k, a)]) σ' → R (.int .i64 0) σ') →
      vwp PT vc8_4 (vend [6] (Rets R)) env σ1 := by
    intro env σ1 L1 c1 own1 hr hl1 e0 e2 e4 R hR
    have hr' := hr
    obtain ⟨g1, g2⟩ := hr
    have g1' := Store.rd_row g1
    simp only [vsA, arith, cmpI, ldK, V.flat, V.one, V.cells, ↓reduceIte, reduceCtorEq, Nat.reduceEqDiff, Nat.reduceLeDiff, Nat.reduceAdd, Nat.reduceMul, fill, vc8, vc8_1, vc8_2, vc8_3, vc8_4, vc8_5, vc8_6, e0, e2, e4, g1', kv_len, kv_take, oc_one, oc_len, oc_take, oc_drop3]
    refine v_app (ys := [oc (k, a)]) rfl rfl ?_ (by simpa using g2) ?_
    · simp; omega
    intro c2 own2 σ2 ho2 hg2 hn2
    simp only [vsA, arith, cmpI, ldK, V.flat, V.one, V.cells, ↓reduceIte, reduceCtorEq, Nat.reduceEqDiff, Nat.reduceLeDiff, Nat.reduceAdd, Nat.reduceMul, fill, vc8, vc8_1, vc8_2, vc8_3, vc8_4, vc8_5, vc8_6, hg2 x _ hr'.ne g1]
    have : L1.map oc ++ [oc (k, a)] = (L1 ++ [(k, a)]).map oc := by simp
    rw [this] at ho2 ⊢
    exact Rets.of (hR _ (RS.app hr' ho2 hg2 hn2))
  simp only [vsA, arith, cmpI, ldK, V.flat, V.one, V.cells, ↓reduceIte, reduceCtorEq, Nat.reduceEqDiff, Nat.reduceLeDiff, Nat.reduceAdd, Nat.reduceMul, fill, vc8, vc8_1, vc8_2, vc8_3, vc8_5, vc8_6, h1', kv_len, kv_take]
  refine call_f (vs := [.ptr x 0, .agg (kv k)]) (by simp only [vsA, arith, cmpI, ldK, V.flat, V.one, V.cells, ↓reduceIte, reduceCtorEq, Nat.reduceEqDiff, Nat.reduceLeDiff, Nat.reduceAdd, Nat.reduceMul, fill]) (find_do k h1') ?_
  rintro _ σ0 ⟨rfl, hσ0⟩ _ _
  subst hσ0
  by_cases c1 : a < 0
  · simp only [vsA, arith, cmpI, ldK, V.flat, V.one, V.cells, ↓reduceIte, reduceCtorEq, Nat.reduceEqDiff, Nat.reduceLeDiff, Nat.reduceAdd, Nat.reduceMul, fill, vc8, vc8_1, vc8_2, vc8_3, vc8_5, vc8_6, c1, decide_true]
    exact Rets.of (by simp [rset, c1]; exact RS.refl h')
  by_cases c2 : a > 9007199254740991
  · simp only [vsA, arith, cmpI, ldK, V.flat, V.one, V.cells, ↓reduceIte, reduceCtorEq, Nat.reduceEqDiff, Nat.reduceLeDiff, Nat.reduceAdd, Nat.reduceMul, fill, vc8, vc8_1, vc8_2, vc8_3, vc8_5, vc8_6, c1, c2, decide_true, decide_false]
    exact Rets.of (by simp [rset, c2]; exact RS.refl h')
  have e1 : (1024 ≤ (L.length : Int)) = (1024 ≤ L.length) := by apply propext; omega
  have hb : ¬ (a < 0 ∨ a > 9007199254740991) := by omega
  cases hf : fi k L with
  | none =>
    have hr : rfind k L = -1 := by rw [rfind_fi, hf]
    by_cases c3 : 1024 ≤ L.length
    · simp only [vsA, arith, cmpI, ldK, V.flat, V.one, V.cells, ↓reduceIte, reduceCtorEq, Nat.reduceEqDiff, Nat.reduceLeDiff, Nat.reduceAdd, Nat.reduceMul, fill, vc8, vc8_1, vc8_2, vc8_3, vc8_5, vc8_6, hr, c1, c2, decide_true, decide_false, h1', ge_iff_le, e1, c3, show decide ((-1 : Int) < 0) = true from rfl]
      exact Rets.of (by simp only [rset, hb, if_false, hf, c3, if_true]; exact ⟨trivial, RS.refl h'⟩)
    · simp only [vsA, arith, cmpI, ldK, V.flat, V.one, V.cells, ↓reduceIte, reduceCtorEq, Nat.reduceEqDiff, Nat.reduceLeDiff, Nat.reduceAdd, Nat.reduceMul, fill, vc8, vc8_1, vc8_2, vc8_3, vc8_5, vc8_6, hr, c1, c2, decide_true, decide_false, h1', ge_iff_le, e1, c3, show decide ((-1 : Int) < 0) = true from rfl, show decide ((0 : Int) ≤ -1) = false from rfl]
      refine app _ _ L _ _ h' hn (by simp only [vsA, arith, cmpI, ldK, V.flat, V.one, V.cells, ↓reduceIte, reduceCtorEq, Nat.reduceEqDiff, Nat.reduceLeDiff, Nat.reduceAdd, Nat.reduceMul, fill]) (by simp only [vsA, arith, cmpI, ldK, V.flat, V.one, V.cells, ↓reduceIte, reduceCtorEq, Nat.reduceEqDiff, Nat.reduceLeDiff, Nat.reduceAdd, Nat.reduceMul, fill]) (by simp only [vsA, arith, cmpI, ldK, V.flat, V.one, V.cells, ↓reduceIte, reduceCtorEq, Nat.reduceEqDiff, Nat.reduceLeDiff, Nat.reduceAdd, Nat.reduceMul, fill]) _ (fun σ' hs => ?_)
      simp only [rset, hb, if_false, hf, c3]; exact ⟨trivial, hs⟩
  | some i =>
    have hr : rfind k L = i := by rw [rfind_fi, hf]
    have hi := fi_lt hf
    have e2 : decide ((i : Int) < 0) = false := by simp
    have e3 : decide (0 ≤ (i : Int)) = true := by simp
    simp only [vsA, arith, cmpI, ldK, V.flat, V.one, V.cells, ↓reduceIte, reduceCtorEq, Nat.reduceEqDiff, Nat.reduceLeDiff, Nat.reduceAdd, Nat.reduceMul, fill, vc8, vc8_1, vc8_2, vc8_3, vc8_5, vc8_6, hr, c1, c2, decide_true, decide_false, h1', ge_iff_le, e2, e3]
    refine call_f (vs := [.ptr x 0, .int .i64 i]) (by simp only [vsA, arith, cmpI, ldK, V.flat, V.one, V.cells, ↓reduceIte, reduceCtorEq, Nat.reduceEqDiff, Nat.reduceLeDiff, Nat.reduceAdd, Nat.reduceMul, fill]) (drop_do i hi hn h') ?_
    rintro _ σ1 ⟨rfl, c1', own1', hr1, hk1, hn1⟩ _ _
    simp only [vsA, arith, cmpI, ldK, V.flat, V.one, V.cells, ↓reduceIte, reduceCtorEq, Nat.reduceEqDiff, Nat.reduceLeDiff, Nat.reduceAdd, Nat.reduceMul, fill, vc8, vc8_1, vc8_2, vc8_3, vc8_5, vc8_6]
    refine app _ _ _ _ _ hr1 (by rw [List.length_eraseIdx]; split <;> omega) (by simp only [vsA, arith, cmpI, ldK, V.flat, V.one, V.cells, ↓reduceIte, reduceCtorEq, Nat.reduceEqDiff, Nat.reduceLeDiff, Nat.reduceAdd, Nat.reduceMul, fill]) (by simp only [vsA, arith, cmpI, ldK, V.flat, V.one, V.cells, ↓reduceIte, reduceCtorEq, Nat.reduceEqDiff, Nat.reduceLeDiff, Nat.reduceAdd, Nat.reduceMul, fill]) (by simp only [vsA, arith, cmpI, ldK, V.flat, V.one, V.cells, ↓reduceIte, reduceCtorEq, Nat.reduceEqDiff, Nat.reduceLeDiff, Nat.reduceAdd, Nat.reduceMul, fill]) _ (fun σ' hs => ?_)
    simp only [rset, hb, if_false, hf]
    exact ⟨trivial, RS.trans hr1 (fun k o h1 _ h3 => hk1 k o h1 (by simp) h3) (fun o ho => .inr ((hn1 o ho).resolve_left (by simp))) hs⟩

theorem rstop_do (k : Int × Int) (hn : L.length ≤ 1024) (h : RF σ x L c own) :
    VCalls PT 10 [.ptr x 0, .agg (kv k)] σ (fun v σ' => v = .bool (rstop k L).1 ∧ RS σ x own (rstop k L).2 σ') := by
  have h' := h
  obtain ⟨h1, h2⟩ := h
  have h1' := Store.rd_row h1
  refine vcalls_of ck10 (fun _ hok => ?_)
  simp only [vsA, arith, cmpI, ldK, V.flat, V.one, V.cells, ↓reduceIte, reduceCtorEq, Nat.reduceEqDiff, Nat.reduceLeDiff, Nat.reduceAdd, Nat.reduceMul, fill, vc10, vc10_1, vc10_2, vc10_3, vc10_4, vc10_5, h1', kv_len, kv_take]
  refine call_f (vs := [.ptr x 0, .agg (kv k)]) (by simp only [vsA, arith, cmpI, ldK, V.flat, V.one, V.cells, ↓reduceIte, reduceCtorEq, Nat.reduceEqDiff, Nat.reduceLeDiff, Nat.reduceAdd, Nat.reduceMul, fill]) (find_do k h1') ?_
  rintro _ σ0 ⟨rfl, hσ0⟩ _ _
  subst hσ0
  cases hf : fi k L with
  | none =>
    have hr : rfind k L = -1 := by rw [rfind_fi, hf]
    simp only [vsA, arith, cmpI, ldK, V.flat, V.one, V.cells, ↓reduceIte, reduceCtorEq, Nat.reduceEqDiff, Nat.reduceLeDiff, Nat.reduceAdd, Nat.reduceMul, fill, vc10, vc10_1, vc10_2, vc10_3, vc10_4, vc10_5, hr, show decide ((-1 : Int) < 0) = true from rfl]
    exact Rets.of (by simp only [rstop, hf]; exact ⟨trivial, RS.refl h'⟩)
  | some i =>
    have hr : rfind k L = i := by rw [rfind_fi, hf]
    have hi := fi_lt hf
    have e2 : decide ((i : Int) < 0) = false := by simp
    simp only [vsA, arith, cmpI, ldK, V.flat, V.one, V.cells, ↓reduceIte, reduceCtorEq, Nat.reduceEqDiff, Nat.reduceLeDiff, Nat.reduceAdd, Nat.reduceMul, fill, vc10, vc10_1, vc10_2, vc10_3, vc10_4, vc10_5, hr, e2]
    refine call_f (vs := [.ptr x 0, .int .i64 i]) (by simp only [vsA, arith, cmpI, ldK, V.flat, V.one, V.cells, ↓reduceIte, reduceCtorEq, Nat.reduceEqDiff, Nat.reduceLeDiff, Nat.reduceAdd, Nat.reduceMul, fill]) (drop_do i hi hn h') ?_
    rintro _ σ1 ⟨rfl, c1', own1', hr1, hk1, hn1⟩ _ _
    simp only [vsA, arith, cmpI, ldK, V.flat, V.one, V.cells, ↓reduceIte, reduceCtorEq, Nat.reduceEqDiff, Nat.reduceLeDiff, Nat.reduceAdd, Nat.reduceMul, fill, vc10, vc10_1, vc10_2, vc10_3, vc10_4, vc10_5]
    exact Rets.of (by simp only [rstop, hf]; exact ⟨trivial, c1', own1', hr1, fun k o h1 _ h3 => hk1 k o h1 (by simp) h3, fun o ho => .inr ((hn1 o ho).resolve_left (by simp))⟩)

theorem rat_do (k : Int × Int) (h1 : σ.rd x = some (.row [.fz 3 (L.map oc) c own] 0)) :
    VCalls PT 15 [.ptr x 0, .agg (kv k)] σ (fun v σ' => v = .tup [.int .i64 (rat k L).1, .bool (rat k L).2] ∧ σ' = σ) := by
  refine vcalls_of ck15 (fun _ hok => ?_)
  simp only [vsA, arith, cmpI, ldK, V.flat, V.one, V.cells, ↓reduceIte, reduceCtorEq, Nat.reduceEqDiff, Nat.reduceLeDiff, Nat.reduceAdd, Nat.reduceMul, fill, vc15, vc15_1, vc15_2, vc15_3, vc15_4, h1, kv_len, kv_take]
  refine call_f (vs := [.ptr x 0, .agg (kv k)]) (by simp only [vsA, arith, cmpI, ldK, V.flat, V.one, V.cells, ↓reduceIte, reduceCtorEq, Nat.reduceEqDiff, Nat.reduceLeDiff, Nat.reduceAdd, Nat.reduceMul, fill]) (find_do k h1) ?_
  rintro _ σ0 ⟨rfl, hσ0⟩ _ _
  subst hσ0
  cases hf : fi k L with
  | none =>
    have hr : rfind k L = -1 := by rw [rfind_fi, hf]
    simp only [vsA, arith, cmpI, ldK, V.flat, V.one, V.cells, ↓reduceIte, reduceCtorEq, Nat.reduceEqDiff, Nat.reduceLeDiff, Nat.reduceAdd, Nat.reduceMul, fill, vc15, vc15_1, vc15_2, vc15_3, vc15_4, hr, show decide ((-1 : Int) < 0) = true from rfl]
    exact Rets.of (by simp [rat, hf])
  | some i =>
    have hr : rfind k L = i := by rw [rfind_fi, hf]
    have hi := fi_lt hf
    have e2 : decide ((i : Int) < 0) = false := by simp
    have hg : (L.map oc)[i]? = some (oc L[i]) := by simp [hi]
    have h0 : (0 : Int) ≤ i := by omega
    simp only [vsA, arith, cmpI, ldK, V.flat, V.one, V.cells, ↓reduceIte, reduceCtorEq, Nat.reduceEqDiff, Nat.reduceLeDiff, Nat.reduceAdd, Nat.reduceMul, fill, vc15, vc15_1, vc15_2, vc15_3, vc15_4, hr, e2, h1, hg, h0, oc_get]
    exact Rets.of (by simp [rat, hf, hi])

/-- Is the one ahead of the other? -/
def before (p q : (Int × Int) × Int) : Bool :=
  if p.2 ≠ q.2 then decide (p.2 < q.2) else if p.1.1 ≠ q.1.1 then decide (p.1.1 < q.1.1) else decide (p.1.2 < q.1.2)
theorem less_do (p q : (Int × Int) × Int) (σ : Store) : VCalls PT 28 [.agg (oc p), .agg (oc q)] σ (fun v σ' => v = .bool (before p q) ∧ σ' = σ) := by
  refine vcalls_of ck28 (fun _ hok => ?_)
  by_cases c1 : p.2 = q.2
  · by_cases c2 : p.1.1 = q.1.1
    · have e1 : (p.2 != q.2) = false := by simp [c1]
      have e2 : (p.1.1 != q.1.1) = false := by simp [c2]
      simp only [vsA, arith, cmpI, ldK, V.flat, V.one, V.cells, ↓reduceIte, reduceCtorEq, Nat.reduceEqDiff, Nat.reduceLeDiff, Nat.reduceAdd, Nat.reduceMul, fill, vc28, vc28_1, vc28_2, vc28_3, vc28_4, oc, e1, e2]
      exact Rets.of (by simp [before, c1, c2])
    · have e1 : (p.2 != q.2) = false := by simp [c1]
      have e2 : (p.1.1 != q.1.1) = true := by simp [c2]
      simp only [vsA, arith, cmpI, ldK, V.flat, V.one, V.cells, ↓reduceIte, reduceCtorEq, Nat.reduceEqDiff, Nat.reduceLeDiff, Nat.reduceAdd, Nat.reduceMul, fill, vc28, vc28_1, vc28_2, vc28_3, vc28_4, oc, e1, e2]
      exact Rets.of (by simp [before, c1, c2])
  · have e1 : (p.2 != q.2) = true := by simp [c1]
    simp only [vsA, arith, cmpI, ldK, V.flat, V.one, V.cells, ↓reduceIte, reduceCtorEq, Nat.reduceEqDiff, Nat.reduceLeDiff, Nat.reduceAdd, Nat.reduceMul, fill, vc28, vc28_1, vc28_2, vc28_3, vc28_4, oc, e1]
    exact Rets.of (by simp [before, c1])
end other
end Go.Vm.T10
