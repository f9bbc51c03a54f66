/-
  Timers: what must come of every program.
-/
import Derived.Test.YtbbkgjkknjpmcaaT10h
set_option linter.unusedSimpArgs false
set_option linter.unusedVariables false
set_option linter.unusedSectionVars false
namespace Go.Vm.T10
open Go Go.Vm

theorem set_tm {σ : Store} {b m : Nat} {M : TL} (k : Int × Int) (a : Int) (h : TM σ b m M) (h3 : M.length ≤ 1024) :
    VCalls PT 7 [.ptr b 0, .agg (kv k), .int .i64 a] σ (fun v σ' => v = .int .i64 (tset k a M).1 ∧ TS σ m (tset k a M).2 σ') := by
  obtain ⟨h1, clk, h2⟩ := h
  exact set_do k a h1 h2 h3
theorem at_tm {σ : Store} {b m : Nat} {M : TL} (k : Int × Int) (h : TM σ b m M) :
    VCalls PT 14 [.ptr b 0, .agg (kv k)] σ (fun v σ' => v = .tup [.int .i64 (tat k M).1, .bool (tat k M).2] ∧ σ' = σ) := by
  obtain ⟨h1, clk, h2⟩ := h
  exact at_do k (Store.rd_row h1) (Store.rd_map h2)
theorem len_tm {σ : Store} {b m : Nat} {M : TL} (h : TM σ b m M) (h3 : M.length ≤ 1024) : VCalls PT 18 [.ptr b 0] σ (fun v σ' => v = .int .i64 M.length ∧ σ' = σ) := by
  obtain ⟨h1, clk, h2⟩ := h
  exact len_do (Store.rd_row h1) (Store.rd_map h2) h3
theorem TS.le {σ σ1 σ2 : Store} {m : Nat} {M : TL} (h : σ.le σ1) (hm : σ m = none) (k : TS σ1 m M σ2) : σ.le σ2 := by
  obtain ⟨clk, rfl⟩ := k
  intro j o hj
  have : j ≠ m := by rintro rfl; rw [hm] at hj; cases hj
  rw [Store.get_set_ne _ _ this]; exact h j o hj

theorem new_tm (σ : Store) : VCalls PT 5 [] σ (fun v σ' => ∃ b m, v = .ptr b 0 ∧ TM σ' b m [] ∧ σ.le σ' ∧ σ m = none ∧ σ b = none) := by
  refine vcalls_of ck5 (fun _ _ => ?_)
  obtain ⟨R, hR⟩ : ∃ R : V → Store → Prop, R = (fun v σ' => ∃ b m, v = .ptr b 0 ∧ TM σ' b m [] ∧ σ.le σ' ∧ σ m = none ∧ σ b = none) := ⟨_, rfl⟩
  rw [← hR]
  simp only [vsA, arith, cmpI, ldK, V.flat, V.one, V.cells, ↓reduceIte, reduceCtorEq, Nat.reduceEqDiff, Nat.reduceLeDiff, Nat.reduceAdd, Nat.reduceMul, fill, vc5, vc5_1, vc5_2]
  refine v_mkmap' (fun m hm => ?_)
  simp only [vsA, arith, cmpI, ldK, V.flat, V.one, V.cells, ↓reduceIte, reduceCtorEq, Nat.reduceEqDiff, Nat.reduceLeDiff, Nat.reduceAdd, Nat.reduceMul, fill, vc5, vc5_1, vc5_2]
  refine v_box' rfl rfl (fun b hb => ?_)
  simp only [vsA, arith, cmpI, ldK, V.flat, V.one, V.cells, ↓reduceIte, reduceCtorEq, Nat.reduceEqDiff, Nat.reduceLeDiff, Nat.reduceAdd, Nat.reduceMul, fill, vc5, vc5_1, vc5_2]
  have hbm : m ≠ b := by rintro rfl; simp at hb
  rw [Store.get_set_ne _ _ hbm.symm] at hb
  refine Rets.of ?_
  rw [hR]
  refine ⟨b, m, rfl, ⟨by simp, 0, ?_⟩, ?_, hm, hb⟩
  · rw [Store.get_set_ne _ _ hbm]; simp [menc]
  · exact Store.le_trans (Store.le_set σ _ hm) (Store.le_set _ _ (by rw [Store.get_set_ne _ _ hbm.symm]; exact hb))

set_option maxHeartbeats 1000000 in
theorem lives_do (σ : Store) : VCalls PT 6 [] σ (fun v σ' => v = .bool true ∧ σ' = σ) := by
  refine vcalls_of ck6 (fun _ _ => ?_)
  simp only [vsA, arith, cmpI, ldK, V.flat, V.one, V.cells, ↓reduceIte, reduceCtorEq, Nat.reduceEqDiff, Nat.reduceLeDiff, Nat.reduceAdd, Nat.reduceMul, fill, vc6, vc6_1, vc6_2, vc6_3, vc6_4, vc6_5, vc6_6, vc6_7, vc6_8, vc6_9, vc6_10]
  refine call_f (vs := []) (by simp only [vsA, arith, cmpI, ldK, V.flat, V.one, V.cells, ↓reduceIte, reduceCtorEq, Nat.reduceEqDiff, Nat.reduceLeDiff, Nat.reduceAdd, Nat.reduceMul, fill]) (new_tm σ) ?_
  rintro _ σ1 ⟨b, m, rfl, h1, hle, hm, hb⟩ _ _
  simp only [vsA, arith, cmpI, ldK, V.flat, V.one, V.cells, ↓reduceIte, reduceCtorEq, Nat.reduceEqDiff, Nat.reduceLeDiff, Nat.reduceAdd, Nat.reduceMul, fill, vc6, vc6_1, vc6_2, vc6_3, vc6_4, vc6_5, vc6_6, vc6_7, vc6_8, vc6_9, vc6_10]
  refine v_alloc' rfl (fun x hx => ?_)
  simp only [vsA, arith, cmpI, ldK, V.flat, V.one, V.cells, ↓reduceIte, reduceCtorEq, Nat.reduceEqDiff, Nat.reduceLeDiff, Nat.reduceAdd, Nat.reduceMul, fill, vc6, vc6_1, vc6_2, vc6_3, vc6_4, vc6_5, vc6_6, vc6_7, vc6_8, vc6_9, vc6_10]
  refine v_alloc' rfl (fun y hy => ?_)
  have hxy : x ≠ y := by rintro rfl; simp at hy
  simp only [vsA, arith, cmpI, ldK, V.flat, V.one, V.cells, ↓reduceIte, reduceCtorEq, Nat.reduceEqDiff, Nat.reduceLeDiff, Nat.reduceAdd, Nat.reduceMul, fill, vc6, vc6_1, vc6_2, vc6_3, vc6_4, vc6_5, vc6_6, vc6_7, vc6_8, vc6_9, vc6_10]
  refine v_fst' (b := x) (cs := [.int .i64 0, .int .i64 0]) (v := .agg (kv (1, 2))) (by simp only [vsA, arith, cmpI, ldK, V.flat, V.one, V.cells, ↓reduceIte, reduceCtorEq, Nat.reduceEqDiff, Nat.reduceLeDiff, Nat.reduceAdd, Nat.reduceMul, fill]) (by simp only [vsA, arith, cmpI, ldK, V.flat, V.one, V.cells, ↓reduceIte, reduceCtorEq, Nat.reduceEqDiff, Nat.reduceLeDiff, Nat.reduceAdd, Nat.reduceMul, fill]; rfl) rfl rfl (by rw [Store.get_set_ne _ _ hxy]; simp) rfl ?_
  rw [Store.erase_set_ne _ _ hxy, Store.set_erase_new _ _ hx]
  rw [Store.get_set_ne _ _ hxy.symm] at hy
  simp only [vsA, arith, cmpI, ldK, V.flat, V.one, V.cells, ↓reduceIte, reduceCtorEq, Nat.reduceEqDiff, Nat.reduceLeDiff, Nat.reduceAdd, Nat.reduceMul, fill, vc6, vc6_1, vc6_2, vc6_3, vc6_4, vc6_5, vc6_6, vc6_7, vc6_8, vc6_9, vc6_10]
  refine v_fst' (b := y) (cs := [.int .i64 0, .int .i64 0]) (v := .agg (kv (2, 1))) (by simp only [vsA, arith, cmpI, ldK, V.flat, V.one, V.cells, ↓reduceIte, reduceCtorEq, Nat.reduceEqDiff, Nat.reduceLeDiff, Nat.reduceAdd, Nat.reduceMul, fill]) (by simp only [vsA, arith, cmpI, ldK, V.flat, V.one, V.cells, ↓reduceIte, reduceCtorEq, Nat.reduceEqDiff, Nat.reduceLeDiff, Nat.reduceAdd, Nat.reduceMul, fill]; rfl) rfl rfl (by simp) rfl ?_
  rw [Store.set_erase_new _ _ hy]
  clear hx hy hxy
  simp only [vsA, arith, cmpI, ldK, V.flat, V.one, V.cells, ↓reduceIte, reduceCtorEq, Nat.reduceEqDiff, Nat.reduceLeDiff, Nat.reduceAdd, Nat.reduceMul, fill, vc6, vc6_1, vc6_2, vc6_3, vc6_4, vc6_5, vc6_6, vc6_7, vc6_8, vc6_9, vc6_10, kv_len, kv_take]
  have t0 : (tset (1, 2) 5 []) = (0, [((1, 2), 5)]) := by decide
  have t1 : (tset (2, 1) 3 [((1, 2), 5)]) = (0, [((1, 2), 5), ((2, 1), 3)]) := by decide
  have t2 : (tset (1, 2) (-1) [((1, 2), 5), ((2, 1), 3)]) = (1, [((1, 2), 5), ((2, 1), 3)]) := by decide
  refine call_f (vs := [.ptr b 0, .agg (kv (1, 2)), .int .i64 5]) (by simp only [vsA, arith, cmpI, ldK, V.flat, V.one, V.cells, ↓reduceIte, reduceCtorEq, Nat.reduceEqDiff, Nat.reduceLeDiff, Nat.reduceAdd, Nat.reduceMul, fill]) (set_tm (1, 2) 5 h1 (by simp)) ?_
  rintro _ σ2 ⟨rfl, k2⟩ _ _
  have h2 := k2.tm h1
  have l2 := k2.le hle hm
  rw [t0] at h2 ⊢
  simp only [vsA, arith, cmpI, ldK, V.flat, V.one, V.cells, ↓reduceIte, reduceCtorEq, Nat.reduceEqDiff, Nat.reduceLeDiff, Nat.reduceAdd, Nat.reduceMul, fill, vc6, vc6_1, vc6_2, vc6_3, vc6_4, vc6_5, vc6_6, vc6_7, vc6_8, vc6_9, vc6_10, kv_len, kv_take]
  refine call_f (vs := [.ptr b 0, .agg (kv (2, 1)), .int .i64 3]) (by simp only [vsA, arith, cmpI, ldK, V.flat, V.one, V.cells, ↓reduceIte, reduceCtorEq, Nat.reduceEqDiff, Nat.reduceLeDiff, Nat.reduceAdd, Nat.reduceMul, fill]) (set_tm (2, 1) 3 h2 (by simp)) ?_
  rintro _ σ3 ⟨rfl, k3⟩ _ _
  have h3 := k3.tm h2
  have l3 := k3.le l2 hm
  rw [t1] at h3 ⊢
  simp only [vsA, arith, cmpI, ldK, V.flat, V.one, V.cells, ↓reduceIte, reduceCtorEq, Nat.reduceEqDiff, Nat.reduceLeDiff, Nat.reduceAdd, Nat.reduceMul, fill, vc6, vc6_1, vc6_2, vc6_3, vc6_4, vc6_5, vc6_6, vc6_7, vc6_8, vc6_9, vc6_10, kv_len, kv_take]
  refine call_f (vs := [.ptr b 0, .agg (kv (1, 2)), .int .i64 (-1)]) (by simp only [vsA, arith, cmpI, ldK, V.flat, V.one, V.cells, ↓reduceIte, reduceCtorEq, Nat.reduceEqDiff, Nat.reduceLeDiff, Nat.reduceAdd, Nat.reduceMul, fill]) (set_tm (1, 2) (-1) h3 (by simp)) ?_
  rintro _ σ4 ⟨rfl, k4⟩ _ _
  have h4 := k4.tm h3
  have l4 := k4.le l3 hm
  rw [t2] at h4 ⊢
  simp only [vsA, arith, cmpI, ldK, V.flat, V.one, V.cells, ↓reduceIte, reduceCtorEq, Nat.reduceEqDiff, Nat.reduceLeDiff, Nat.reduceAdd, Nat.reduceMul, fill, vc6, vc6_1, vc6_2, vc6_3, vc6_4, vc6_5, vc6_6, vc6_7, vc6_8, vc6_9, vc6_10]
  refine call_f (vs := [.ptr b 0]) (by simp only [vsA, arith, cmpI, ldK, V.flat, V.one, V.cells, ↓reduceIte, reduceCtorEq, Nat.reduceEqDiff, Nat.reduceLeDiff, Nat.reduceAdd, Nat.reduceMul, fill]) (next_do h4 (by simp) (by simp)) ?_
  rintro v σ5 ⟨hv, hσ5⟩ _ _
  subst hσ5
  have hv' : v = .tup [.int .i64 3, .bool true] := by
    rcases hv with ⟨h, _⟩ | ⟨p, hp, h, hmin⟩
    · cases h
    · have := hmin ((2, 1), 3) (by simp)
      have := hmin ((1, 2), 5) (by simp)
      simp only [List.mem_cons, List.not_mem_nil, or_false] at hp
      rcases hp with rfl | rfl
      · simp at *
      · exact h
  subst hv'
  simp only [vsA, arith, cmpI, ldK, V.flat, V.one, V.cells, ↓reduceIte, reduceCtorEq, Nat.reduceEqDiff, Nat.reduceLeDiff, Nat.reduceAdd, Nat.reduceMul, fill, vc6, vc6_1, vc6_2, vc6_3, vc6_4, vc6_5, vc6_6, vc6_7, vc6_8, vc6_9, vc6_10]
  refine call_f (vs := [.ptr b 0, .int .i64 4]) (by simp only [vsA, arith, cmpI, ldK, V.flat, V.one, V.cells, ↓reduceIte, reduceCtorEq, Nat.reduceEqDiff, Nat.reduceLeDiff, Nat.reduceAdd, Nat.reduceMul, fill]) (due_do 4 h4 (by simp)) ?_
  rintro _ σ6 ⟨D, L', hd, ⟨c, own, rfl⟩, k6⟩ _ _
  obtain ⟨f1, f2⟩ := due_filter hd
  have e1 : D = [((2, 1), 3)] := List.perm_singleton.1 (by simpa using f1)
  have e2 : L' = [((1, 2), 5)] := List.perm_singleton.1 (by simpa using f2)
  subst e1; subst e2
  have h6 := k6.tm h4
  have l6 := k6.le l4 hm
  simp only [vsA, arith, cmpI, ldK, V.flat, V.one, V.cells, ↓reduceIte, reduceCtorEq, Nat.reduceEqDiff, Nat.reduceLeDiff, Nat.reduceAdd, Nat.reduceMul, fill, vc6, vc6_1, vc6_2, vc6_3, vc6_4, vc6_5, vc6_6, vc6_7, vc6_8, vc6_9, vc6_10, kv_len, kv_take]
  refine call_f (vs := [.ptr b 0, .agg (kv (1, 2))]) (by simp only [vsA, arith, cmpI, ldK, V.flat, V.one, V.cells, ↓reduceIte, reduceCtorEq, Nat.reduceEqDiff, Nat.reduceLeDiff, Nat.reduceAdd, Nat.reduceMul, fill]) (at_tm (1, 2) h6) ?_
  rintro _ σ7 ⟨rfl, hσ7⟩ _ _
  subst hσ7
  have t3 : tat (1, 2) [((1, 2), 5)] = (5, true) := by decide
  rw [t3]
  simp only [vsA, arith, cmpI, ldK, V.flat, V.one, V.cells, ↓reduceIte, reduceCtorEq, Nat.reduceEqDiff, Nat.reduceLeDiff, Nat.reduceAdd, Nat.reduceMul, fill, vc6, vc6_1, vc6_2, vc6_3, vc6_4, vc6_5, vc6_6, vc6_7, vc6_8, vc6_9, vc6_10, kv_len, kv_take]
  refine call_f (vs := [.ptr b 0, .agg (kv (1, 2))]) (by simp only [vsA, arith, cmpI, ldK, V.flat, V.one, V.cells, ↓reduceIte, reduceCtorEq, Nat.reduceEqDiff, Nat.reduceLeDiff, Nat.reduceAdd, Nat.reduceMul, fill]) (stop_do (1, 2) h6) ?_
  rintro _ σ8 ⟨rfl, k8⟩ _ _
  have h8 := k8.tm h6
  have l8 := k8.le l6 hm
  have t4 : (lk ((1, 2) : Int × Int) [(((1, 2) : Int × Int), (5 : Int))]).isSome = true := by decide
  have t5 : del ((1, 2) : Int × Int) [(((1, 2) : Int × Int), (5 : Int))] = [] := by decide
  rw [t5] at h8
  rw [t4]
  simp only [vsA, arith, cmpI, ldK, V.flat, V.one, V.cells, ↓reduceIte, reduceCtorEq, Nat.reduceEqDiff, Nat.reduceLeDiff, Nat.reduceAdd, Nat.reduceMul, fill, vc6, vc6_1, vc6_2, vc6_3, vc6_4, vc6_5, vc6_6, vc6_7, vc6_8, vc6_9, vc6_10, kv_len, kv_take]
  refine call_f (vs := [.ptr b 0, .agg (kv (1, 2))]) (by simp only [vsA, arith, cmpI, ldK, V.flat, V.one, V.cells, ↓reduceIte, reduceCtorEq, Nat.reduceEqDiff, Nat.reduceLeDiff, Nat.reduceAdd, Nat.reduceMul, fill]) (stop_do (1, 2) h8) ?_
  rintro _ σ9 ⟨rfl, k9⟩ _ _
  have h9 := k9.tm h8
  have l9 := k9.le l8 hm
  have t6 : (lk ((1, 2) : Int × Int) ([] : TL)).isSome = false := by decide
  have t7 : del ((1, 2) : Int × Int) ([] : TL) = [] := by decide
  rw [t7] at h9
  rw [t6]
  simp only [vsA, arith, cmpI, ldK, V.flat, V.one, V.cells, ↓reduceIte, reduceCtorEq, Nat.reduceEqDiff, Nat.reduceLeDiff, Nat.reduceAdd, Nat.reduceMul, fill, vc6, vc6_1, vc6_2, vc6_3, vc6_4, vc6_5, vc6_6, vc6_7, vc6_8, vc6_9, vc6_10, kv_len, kv_take]
  refine call_f (vs := [.fz 2 ([(2, 1)].map kv) c own, .fz 2 ([(2, 1)].map kv) 1 none]) (by simp only [vsA, arith, cmpI, ldK, V.flat, V.one, V.cells, ↓reduceIte, reduceCtorEq, Nat.reduceEqDiff, Nat.reduceLeDiff, Nat.reduceAdd, Nat.reduceMul, fill]) (same_do _ _ _ _ _ _ _) ?_
  rintro _ σ10 ⟨rfl, hσ10⟩ _ _
  subst hσ10
  simp only [vsA, arith, cmpI, ldK, V.flat, V.one, V.cells, ↓reduceIte, reduceCtorEq, Nat.reduceEqDiff, Nat.reduceLeDiff, Nat.reduceAdd, Nat.reduceMul, fill, vc6, vc6_1, vc6_2, vc6_3, vc6_4, vc6_5, vc6_6, vc6_7, vc6_8, vc6_9, vc6_10, decide_true]
  refine call_f (vs := [.ptr b 0]) (by simp only [vsA, arith, cmpI, ldK, V.flat, V.one, V.cells, ↓reduceIte, reduceCtorEq, Nat.reduceEqDiff, Nat.reduceLeDiff, Nat.reduceAdd, Nat.reduceMul, fill]) (len_tm h9 (by simp)) ?_
  rintro _ σ11 ⟨rfl, hσ11⟩ _ _
  subst hσ11
  simp only [vsA, arith, cmpI, ldK, V.flat, V.one, V.cells, ↓reduceIte, reduceCtorEq, Nat.reduceEqDiff, Nat.reduceLeDiff, Nat.reduceAdd, Nat.reduceMul, fill, vc6, vc6_1, vc6_2, vc6_3, vc6_4, vc6_5, vc6_6, vc6_7, vc6_8, vc6_9, vc6_10, show (((0 : Nat) : Int) == 0) = true from rfl]
  exact Rets.le l9 ⟨rfl, rfl⟩
end Go.Vm.T10
