/-
  Timers: what compares.
-/
import Derived.Test.YtbbkgjkknjpmcaaT10e
set_option linter.unusedSimpArgs false
set_option linter.unusedVariables false
set_option linter.unusedSectionVars false
namespace Go.Vm.T10
open Go Go.Vm

theorem nan_do (a : Int) (σ : Store) : VCalls PT 39 [.int .i64 a] σ (fun v σ' => v = .bool false ∧ σ' = σ) := by
  refine vcalls_of ck39 (fun _ _ => ?_)
  simp only [vsA, arith, cmpI, ldK, V.flat, V.one, V.cells, ↓reduceIte, reduceCtorEq, Nat.reduceEqDiff, Nat.reduceLeDiff, Nat.reduceAdd, Nat.reduceMul, fill, vc39, vc39_1, vc39_2, bne_self_eq_false]
  refine Rets.of ?_; exact ⟨rfl, rfl⟩
def icmp (a b : Int) : Int := if a < b then -1 else if a > b then 1 else 0
theorem icmp_do (a b : Int) (σ : Store) : VCalls PT 27 [.int .i64 a, .int .i64 b] σ (fun v σ' => v = .int .i64 (icmp a b) ∧ σ' = σ) := by
  refine vcalls_of ck27 (fun _ _ => ?_)
  simp only [vsA, arith, cmpI, ldK, V.flat, V.one, V.cells, ↓reduceIte, reduceCtorEq, Nat.reduceEqDiff, Nat.reduceLeDiff, Nat.reduceAdd, Nat.reduceMul, fill, vc27, vc27_1, vc27_2, vc27_3, vc27_4, vc27_5, vc27_6, vc27_7, vc27_8]
  refine call_f (vs := [.int .i64 a]) (by simp only [vsA, arith, cmpI, ldK, V.flat, V.one, V.cells, ↓reduceIte, reduceCtorEq, Nat.reduceEqDiff, Nat.reduceLeDiff, Nat.reduceAdd, Nat.reduceMul, fill]) (nan_do a σ) ?_
  rintro _ σ0 ⟨rfl, hσ0⟩ _ _
  subst hσ0
  simp only [vsA, arith, cmpI, ldK, V.flat, V.one, V.cells, ↓reduceIte, reduceCtorEq, Nat.reduceEqDiff, Nat.reduceLeDiff, Nat.reduceAdd, Nat.reduceMul, fill, vc27, vc27_1, vc27_2, vc27_3, vc27_4, vc27_5, vc27_6, vc27_7, vc27_8]
  refine call_f (vs := [.int .i64 b]) (by simp only [vsA, arith, cmpI, ldK, V.flat, V.one, V.cells, ↓reduceIte, reduceCtorEq, Nat.reduceEqDiff, Nat.reduceLeDiff, Nat.reduceAdd, Nat.reduceMul, fill]) (nan_do b σ0) ?_
  rintro _ σ1 ⟨rfl, hσ1⟩ _ _
  subst hσ1
  by_cases h1 : a < b
  · simp only [vsA, arith, cmpI, ldK, V.flat, V.one, V.cells, ↓reduceIte, reduceCtorEq, Nat.reduceEqDiff, Nat.reduceLeDiff, Nat.reduceAdd, Nat.reduceMul, fill, vc27, vc27_1, vc27_2, vc27_3, vc27_4, vc27_5, vc27_6, vc27_7, vc27_8, h1, decide_true]
    refine Rets.of ?_; exact ⟨by simp [icmp, h1], rfl⟩
  · by_cases h2 : a > b
    · simp only [vsA, arith, cmpI, ldK, V.flat, V.one, V.cells, ↓reduceIte, reduceCtorEq, Nat.reduceEqDiff, Nat.reduceLeDiff, Nat.reduceAdd, Nat.reduceMul, fill, vc27, vc27_1, vc27_2, vc27_3, vc27_4, vc27_5, vc27_6, vc27_7, vc27_8, h1, h2, decide_true, decide_false]
      refine Rets.of ?_; exact ⟨by simp [icmp, h1, h2], rfl⟩
    · simp only [vsA, arith, cmpI, ldK, V.flat, V.one, V.cells, ↓reduceIte, reduceCtorEq, Nat.reduceEqDiff, Nat.reduceLeDiff, Nat.reduceAdd, Nat.reduceMul, fill, vc27, vc27_1, vc27_2, vc27_3, vc27_4, vc27_5, vc27_6, vc27_7, vc27_8, h1, h2, decide_false]
      refine Rets.of ?_; exact ⟨by simp [icmp, h1, h2], rfl⟩

def ior (xs : List Int) : Int := (xs.find? fun x => decide (x ≠ 0)).getD 0
theorem or_do (xs : List Int) (c : Nat) (own : Option Nat) (σ : Store) : VCalls PT 26 [.fz 1 (xs.map fun x => [.int .i64 x]) c own] σ (fun v σ' => v = .int .i64 (ior xs) ∧ σ' = σ) := by
  refine vcalls_of ck26 (fun hv hok => ?_)
  have hfz := (hv (.fz 1 (xs.map fun x => [.int .i64 x]) c own) (by simp)).fz.1
  rw [List.length_map] at hfz
  simp only [vsA, arith, cmpI, ldK, V.flat, V.one, V.cells, ↓reduceIte, reduceCtorEq, Nat.reduceEqDiff, Nat.reduceLeDiff, Nat.reduceAdd, Nat.reduceMul, fill, vc26, vc26_1, vc26_2, vc26_3, vc26_4]
  refine w_loop (fun env' σ' => σ' = σ ∧ ∃ i : Nat, env' 6 = .fz 1 (xs.map fun x => [.int .i64 x]) c own ∧ env' 3 = .int .i64 0 ∧ env' 7 = .int .i64 xs.length ∧ env' 8 = .int .i64 i ∧ i ≤ xs.length ∧ ∀ x ∈ xs.take i, x = 0)
    (fun env' _ => xs.length - (env' 8).nat) ⟨rfl, 0, by simp only [vsA, arith, cmpI, ldK, V.flat, V.one, V.cells, ↓reduceIte, reduceCtorEq, Nat.reduceEqDiff, Nat.reduceLeDiff, Nat.reduceAdd, Nat.reduceMul, fill], by simp only [vsA, arith, cmpI, ldK, V.flat, V.one, V.cells, ↓reduceIte, reduceCtorEq, Nat.reduceEqDiff, Nat.reduceLeDiff, Nat.reduceAdd, Nat.reduceMul, fill], by simp only [vsA, arith, cmpI, ldK, V.flat, V.one, V.cells, ↓reduceIte, reduceCtorEq, Nat.reduceEqDiff, Nat.reduceLeDiff, Nat.reduceAdd, Nat.reduceMul, fill], by simp only [vsA, arith, cmpI, ldK, V.flat, V.one, V.cells, ↓reduceIte, reduceCtorEq, Nat.reduceEqDiff, Nat.reduceLeDiff, Nat.reduceAdd, Nat.reduceMul, fill]; rfl, by omega, by simp⟩ ?_
  rintro env' _ ⟨rfl, i, e6, e3, e7, e8, hi, hk⟩
  by_cases hlt : i < xs.length
  · have hd : decide ((i : Int) < (xs.length : Int)) = true := by simp; omega
    have hg : (xs.map fun x => [V.int .i64 x])[i]? = some [.int .i64 xs[i]] := by simp [hlt]
    have h0 : (0 : Int) ≤ i := by omega
    have htk : xs.take (i + 1) = xs.take i ++ [xs[i]] := (List.take_append_getElem hlt).symm
    by_cases he : xs[i] = 0
    · have e1 : (xs[i] != 0) = false := by simp [he]
      simp only [vsA, arith, cmpI, ldK, V.flat, V.one, V.cells, ↓reduceIte, reduceCtorEq, Nat.reduceEqDiff, Nat.reduceLeDiff, Nat.reduceAdd, Nat.reduceMul, fill, vc26, vc26_1, vc26_2, vc26_3, vc26_4, e6, e3, e7, e8, hd, hg, h0, e1, wrap_succ (show i ≤ 140737488355328 by omega), nat_int]
      refine ⟨⟨i + 1, rfl, by omega, fun x hx => ?_⟩, by omega⟩
      rw [htk, List.mem_append] at hx
      rcases hx with hx | hx
      · exact hk x hx
      · simp at hx; rw [hx]; exact he
    · have e1 : (xs[i] != 0) = true := by simp [he]
      simp only [vsA, arith, cmpI, ldK, V.flat, V.one, V.cells, ↓reduceIte, reduceCtorEq, Nat.reduceEqDiff, Nat.reduceLeDiff, Nat.reduceAdd, Nat.reduceMul, fill, vc26, vc26_1, vc26_2, vc26_3, vc26_4, e6, e3, e7, e8, hd, hg, h0, e1]
      refine Rets.of ?_
      refine ⟨?_, rfl⟩
      have : ior xs = xs[i] := by
        unfold ior
        have hx : xs = xs.take i ++ xs[i] :: xs.drop (i + 1) := by rw [List.getElem_cons_drop, List.take_append_drop]
        rw [show xs.find? (fun x => decide (x ≠ 0)) = (xs.take i ++ xs[i] :: xs.drop (i + 1)).find? (fun x => decide (x ≠ 0)) from congrArg _ hx, List.find?_append]
        have hn : (xs.take i).find? (fun x => decide (x ≠ 0)) = none := by
          rw [List.find?_eq_none]; intro x hx; simp [hk x hx]
        rw [hn]; simp only [Option.none_or, List.find?_cons]; simp [he]
      rw [this]
  · have hd : decide ((i : Int) < (xs.length : Int)) = false := by simp; omega
    simp only [vsA, arith, cmpI, ldK, V.flat, V.one, V.cells, ↓reduceIte, reduceCtorEq, Nat.reduceEqDiff, Nat.reduceLeDiff, Nat.reduceAdd, Nat.reduceMul, fill, vc26, vc26_1, vc26_2, vc26_3, vc26_4, e6, e3, e7, e8, hd]
    refine Rets.of ?_
    refine ⟨?_, rfl⟩
    rw [List.take_of_length_le (by omega)] at hk
    have hn : xs.find? (fun x => decide (x ≠ 0)) = none := by
      rw [List.find?_eq_none]; intro x hx; simp [hk x hx]
    rw [ior, hn]; rfl

/-- What compares two timers. -/
def kcmp (M : TL) (x y : Int × Int) : Int := ior [icmp ((lk x M).getD 0) ((lk y M).getD 0), icmp x.1 y.1, icmp x.2 y.2]
theorem v_bsl31 {P : Program} {ev : Opd → V} {σ : Store} {K : V → Store → Prop} {a b c : Opd} {x y z : Int} (h1 : ev a = .int .i64 x) (h2 : ev b = .int .i64 y) (h3 : ev c = .int .i64 z)
    (hk : K (.fz 1 [[.int .i64 x], [.int .i64 y], [.int .i64 z]] 3 none) σ) : vop P (.bsl [.int .i64 0] 1 3 [(0, a), (1, b), (2, c)]) ev σ K := by
  simp only [vop]
  refine ⟨by simp [V.one], rfl, by simp [h1, h2, h3, V.flat, V.one], [.int .i64 x, .int .i64 y, .int .i64 z], ?_, ?_⟩
  · simp [h1, h2, h3, fill, V.cells]
  · simpa [List.range_succ] using hk
theorem compare_do {σ : Store} {b m : Nat} {M : TL} {clk : Nat} (x y : Int × Int) (h1 : σ.rd b = some (.row [.mp m] 0)) (h2 : σ.rd m = some (.map (menc kk vi M) clk)) :
    VCalls PT 22 [.ptr b 0, .agg (kv x), .agg (kv y)] σ (fun v σ' => v = .int .i64 (kcmp M x y) ∧ σ' = σ) := by
  refine vcalls_of ck22 (fun hv hok => ?_)
  have fin : ∀ (u w : Int), (lk x M).getD 0 = u → (lk y M).getD 0 = w → ∀ env : Env, env 12 = .int .i64 u → env 18 = .int .i64 w → env 21 = .int .i64 x.1 → env 23 = .int .i64 y.1 → env 26 = .int .i64 x.2 → env 28 = .int .i64 y.2 →
      vops PT [⟨some 19, .call (.f 27) [.s 12, .s 18], none, false⟩, ⟨some 24, .call (.f 27) [.s 21, .s 23], none, false⟩, ⟨some 29, .call (.f 27) [.s 26, .s 28], none, false⟩,
        ⟨some 30, .bsl [.int .i64 0] 1 3 [(0, .s 19), (1, .s 24), (2, .s 29)], none, false⟩, ⟨some 31, .call (.f 26) [.s 30], none, false⟩, ⟨some 6, .mv (.s 31), none, false⟩]
        (vthen PT VC.ret (vend [6] (Rets fun v σ' => v = V.int IntKind.i64 (kcmp M x y) ∧ σ' = σ)) VExit.normal) env σ := by
    intro u w hu hw env e12 e18 e21 e23 e26 e28
    simp only [vsA, arith, cmpI, ldK, V.flat, V.one, V.cells, ↓reduceIte, reduceCtorEq, Nat.reduceEqDiff, Nat.reduceLeDiff, Nat.reduceAdd, Nat.reduceMul, fill]
    refine call_f (vs := [.int .i64 u, .int .i64 w]) (by simp only [vsA, arith, cmpI, ldK, V.flat, V.one, V.cells, ↓reduceIte, reduceCtorEq, Nat.reduceEqDiff, Nat.reduceLeDiff, Nat.reduceAdd, Nat.reduceMul, fill, e12, e18]) (icmp_do u w σ) ?_
    rintro _ σ0 ⟨rfl, hσ0⟩ _ _
    subst hσ0
    simp only [vsA, arith, cmpI, ldK, V.flat, V.one, V.cells, ↓reduceIte, reduceCtorEq, Nat.reduceEqDiff, Nat.reduceLeDiff, Nat.reduceAdd, Nat.reduceMul, fill]
    refine call_f (vs := [.int .i64 x.1, .int .i64 y.1]) (by simp only [vsA, arith, cmpI, ldK, V.flat, V.one, V.cells, ↓reduceIte, reduceCtorEq, Nat.reduceEqDiff, Nat.reduceLeDiff, Nat.reduceAdd, Nat.reduceMul, fill, e21, e23]) (icmp_do _ _ _) ?_
    rintro _ σ0 ⟨rfl, hσ0⟩ _ _
    subst hσ0
    simp only [vsA, arith, cmpI, ldK, V.flat, V.one, V.cells, ↓reduceIte, reduceCtorEq, Nat.reduceEqDiff, Nat.reduceLeDiff, Nat.reduceAdd, Nat.reduceMul, fill]
    refine call_f (vs := [.int .i64 x.2, .int .i64 y.2]) (by simp only [vsA, arith, cmpI, ldK, V.flat, V.one, V.cells, ↓reduceIte, reduceCtorEq, Nat.reduceEqDiff, Nat.reduceLeDiff, Nat.reduceAdd, Nat.reduceMul, fill, e26, e28]) (icmp_do _ _ _) ?_
    rintro _ σ0 ⟨rfl, hσ0⟩ _ _
    subst hσ0
    simp only [vsA, arith, cmpI, ldK, V.flat, V.one, V.cells, ↓reduceIte, reduceCtorEq, Nat.reduceEqDiff, Nat.reduceLeDiff, Nat.reduceAdd, Nat.reduceMul, fill]
    refine v_bsl31 (by simp only [vsA, arith, cmpI, ldK, V.flat, V.one, V.cells, ↓reduceIte, reduceCtorEq, Nat.reduceEqDiff, Nat.reduceLeDiff, Nat.reduceAdd, Nat.reduceMul, fill]; rfl) (by simp only [vsA, arith, cmpI, ldK, V.flat, V.one, V.cells, ↓reduceIte, reduceCtorEq, Nat.reduceEqDiff, Nat.reduceLeDiff, Nat.reduceAdd, Nat.reduceMul, fill]; rfl) (by simp only [vsA, arith, cmpI, ldK, V.flat, V.one, V.cells, ↓reduceIte, reduceCtorEq, Nat.reduceEqDiff, Nat.reduceLeDiff, Nat.reduceAdd, Nat.reduceMul, fill]; rfl) ?_
    simp only [vsA, arith, cmpI, ldK, V.flat, V.one, V.cells, ↓reduceIte, reduceCtorEq, Nat.reduceEqDiff, Nat.reduceLeDiff, Nat.reduceAdd, Nat.reduceMul, fill]
    refine call_f (vs := [.fz 1 ([icmp u w, icmp x.1 y.1, icmp x.2 y.2].map fun x => [.int .i64 x]) 3 none]) (by simp only [vsA, arith, cmpI, ldK, V.flat, V.one, V.cells, ↓reduceIte, reduceCtorEq, Nat.reduceEqDiff, Nat.reduceLeDiff, Nat.reduceAdd, Nat.reduceMul, fill]) (or_do _ _ _ _) ?_
    rintro _ σ0 ⟨rfl, hσ0⟩ _ _
    subst hσ0
    simp only [vsA, arith, cmpI, ldK, V.flat, V.one, V.cells, ↓reduceIte, reduceCtorEq, Nat.reduceEqDiff, Nat.reduceLeDiff, Nat.reduceAdd, Nat.reduceMul, fill]
    refine Rets.of ?_
    refine ⟨?_, rfl⟩
    rw [kcmp, hu, hw]
  cases hx : lk x M <;> cases hy : lk y M
  all_goals
    simp only [vsA, arith, cmpI, ldK, V.flat, V.one, V.cells, ↓reduceIte, reduceCtorEq, Nat.reduceEqDiff, Nat.reduceLeDiff, Nat.reduceAdd, Nat.reduceMul, fill, vc22, vc22_1, vc22_2, kv_len, kv_take, h1, h2, key_ok, keys_ok, get_kk, kv_0, kv_1, hx, hy, vi]
    refine Eq.mp o_none (fin _ _ (by rw [hx]) (by rw [hy]) _ ?_ ?_ ?_ ?_ ?_ ?_)
    all_goals simp only [vsA, arith, cmpI, ldK, V.flat, V.one, V.cells, ↓reduceIte, reduceCtorEq, Nat.reduceEqDiff, Nat.reduceLeDiff, Nat.reduceAdd, Nat.reduceMul, fill]
end Go.Vm.T10
