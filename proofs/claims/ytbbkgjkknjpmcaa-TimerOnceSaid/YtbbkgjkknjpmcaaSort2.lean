/-
  The sort: siftDownCmpFunc, heapSortCmpFunc.
-/
import Derived.Test.YtbbkgjkknjpmcaaSort1
set_option linter.unusedSimpArgs false
set_option linter.unusedVariables false
set_option linter.unusedSectionVars false
namespace Go.Vm.Srt
open Go Go.Vm Go.Sort

variable {P : Program} {e : Nat} {d : Row} {φ : Nat → Nat} {b sl c : Nat} {σ0 σ : Store} {T : List V → Prop} {cf : List V → List V → Int} {k : FuncId} {first cap : List V}

theorem wmul2 {i : Nat} (h : i ≤ 140737488355328) : IntKind.i64.wrap (2 * (i : Int)) = ((2 * i : Nat) : Int) := by
  rw [wrap64 (by omega) (by omega)]; omega

set_option maxHeartbeats 1000000 in
theorem sift_do (L : Lays P e φ) (hT : ∀ x, T x → x.length = e) (hc : CmpOk P b σ0 T cf k first cap) (h : RowOk e b σ0 σ T d sl) (hn : d.size ≤ 140737488355328) {lo hi fs : Nat} (hhi : fs + hi ≤ d.size) (hlo : lo ≤ d.size) :
    VCalls P (φ 40) [.sl b 0 d.size c, .int .i64 lo, .int .i64 hi, .int .i64 fs, .fn k first cap] σ (fun v σ' => v = .tup [] ∧ σ' = σ.set b (.row (flat (siftDown (ltc cf) hi fs lo d)) sl) ∧ RowOk e b σ0 σ' T (siftDown (ltc cf) hi fs lo d) sl) := by
  refine vcalls_of L.c40 (fun _ hok => ?_)
  simp only [vsA, arith, cmpI, ldK, V.flat, V.one, V.cells, ↓reduceIte, reduceCtorEq, Nat.reduceEqDiff, Nat.reduceLeDiff, Nat.reduceAdd, Nat.reduceMul, fill, vc40, vc40_1, vc40_101, vc40_102, vc40_103, vc40_104, vc40_105, vc40_106, vc40_107, vc40_108, vc40_109, vc40_110, vc40_111, vc40_112, vc40_113, vc40_114, vc40_115, vc40_116, vc40_1019, vc40_1043, vc40_1059]
  refine w_loop (fun env' σ' => ∃ (r : Nat) (d' : Row), env' 0 = .sl b 0 d.size c ∧ env' 2 = .int .i64 hi ∧ env' 3 = .int .i64 fs ∧ env' 4 = .fn k first cap ∧ env' 10 = .int .i64 r ∧ RowOk e b σ0 σ' T d' sl ∧ σ' = σ.set b (.row (flat d') sl) ∧
      d'.size = d.size ∧ r ≤ d.size ∧ siftDown (ltc cf) hi fs r d' = siftDown (ltc cf) hi fs lo d)
    (fun env' _ => hi - (env' 10).nat) ⟨lo, d, by simp only [vsA, arith, cmpI, ldK, V.flat, V.one, V.cells, ↓reduceIte, reduceCtorEq, Nat.reduceEqDiff, Nat.reduceLeDiff, Nat.reduceAdd, Nat.reduceMul, fill], by simp only [vsA, arith, cmpI, ldK, V.flat, V.one, V.cells, ↓reduceIte, reduceCtorEq, Nat.reduceEqDiff, Nat.reduceLeDiff, Nat.reduceAdd, Nat.reduceMul, fill], by simp only [vsA, arith, cmpI, ldK, V.flat, V.one, V.cells, ↓reduceIte, reduceCtorEq, Nat.reduceEqDiff, Nat.reduceLeDiff, Nat.reduceAdd, Nat.reduceMul, fill], by simp only [vsA, arith, cmpI, ldK, V.flat, V.one, V.cells, ↓reduceIte, reduceCtorEq, Nat.reduceEqDiff, Nat.reduceLeDiff, Nat.reduceAdd, Nat.reduceMul, fill], by simp only [vsA, arith, cmpI, ldK, V.flat, V.one, V.cells, ↓reduceIte, reduceCtorEq, Nat.reduceEqDiff, Nat.reduceLeDiff, Nat.reduceAdd, Nat.reduceMul, fill], h, (Store.set_same _ h.row).symm, rfl, hlo, rfl⟩ ?_
  rintro env' σ' ⟨r, d', e0, e2, e3, e4, e10, hr, hσ', hsz, hrd, hs⟩
  have hrow := Store.rd_row hr.row
  have hal := hr.len hT
  have w1 := wmul2 (show r ≤ 140737488355328 by omega)
  have w2 : IntKind.i64.wrap (((2 * r : Nat) : Int) + 1) = ((2 * r + 1 : Nat) : Int) := by rw [wrap64 (by omega) (by omega)]; omega
  have w3 : IntKind.i64.wrap (((2 * r + 1 : Nat) : Int) + 1) = ((2 * r + 2 : Nat) : Int) := by rw [wrap64 (by omega) (by omega)]; omega
  by_cases hge : 2 * r + 1 ≥ hi
  · have hd : decide (((2 * r + 1 : Nat) : Int) ≥ (hi : Int)) = true := by simp; omega
    simp only [vsA, arith, cmpI, ldK, V.flat, V.one, V.cells, ↓reduceIte, reduceCtorEq, Nat.reduceEqDiff, Nat.reduceLeDiff, Nat.reduceAdd, Nat.reduceMul, fill, vc40, vc40_1, vc40_101, vc40_102, vc40_103, vc40_104, vc40_105, vc40_106, vc40_107, vc40_108, vc40_109, vc40_110, vc40_111, vc40_112, vc40_113, vc40_114, vc40_115, vc40_116, vc40_1019, vc40_1043, vc40_1059, e0, e2, e3, e4, e10, w1, w2, hd]
    rw [siftDown, dif_pos hge] at hs; subst hs
    exact Rets.of (by exact ⟨rfl, hσ', hr⟩)
  have hd : decide (((2 * r + 1 : Nat) : Int) ≥ (hi : Int)) = false := by simp; omega
  have a1 : fs + (2 * r + 1) < d'.size := by omega
  have w4 := wadd (show fs ≤ 140737488355328 by omega) (show 2 * r + 1 ≤ 140737488355328 by omega)
  have w5 := wadd1 (show fs + (2 * r + 1) ≤ 140737488355328 by omega)
  have w6 := wadd (show fs ≤ 140737488355328 by omega) (show r ≤ 140737488355328 by omega)
  have a0 : fs + r < d'.size := by omega
  have p1 : (0 : Int) ≤ ((fs + (2 * r + 1) : Nat) : Int) := by omega
  have p2 : ((fs + (2 * r + 1) : Nat) : Int) < (d.size : Int) := by omega
  have p5 : (0 : Int) ≤ ((fs + r : Nat) : Int) := by omega
  have p6 : ((fs + r : Nat) : Int) < (d.size : Int) := by omega
  by_cases hin : 2 * r + 1 + 1 < hi
  · have hd3 : decide (((2 * r + 2 : Nat) : Int) < (hi : Int)) = true := by simp; omega
    have a2 : fs + (2 * r + 2) < d'.size := by omega
    have p3 : (0 : Int) ≤ ((fs + (2 * r + 2) : Nat) : Int) := by omega
    have p4 : ((fs + (2 * r + 2) : Nat) : Int) < (d.size : Int) := by omega
    have w7 : ((fs + (2 * r + 1) + 1 : Nat) : Int) = ((fs + (2 * r + 2) : Nat) : Int) := by omega
    have w8 := wadd (show fs ≤ 140737488355328 by omega) (show 2 * r + 2 ≤ 140737488355328 by omega)
    rw [w7] at w5
    simp only [vsA, arith, cmpI, ldK, V.flat, V.one, V.cells, ↓reduceIte, reduceCtorEq, Nat.reduceEqDiff, Nat.reduceLeDiff, Nat.reduceAdd, Nat.reduceMul, fill, vc40, vc40_1, vc40_101, vc40_102, vc40_103, vc40_104, vc40_105, vc40_106, vc40_107, vc40_108, vc40_109, vc40_110, vc40_111, vc40_112, vc40_113, vc40_114, vc40_115, vc40_116, vc40_1019, vc40_1043, vc40_1059, e0, e2, e3, e4, e10, w1, w2, w3, w4, w5, hd, hd3, hrow, p1, p2, p3, p4, le_flat hal a1, le_flat hal a2, get_flat hal a1, get_flat hal a2]
    refine o_call (k := k) (first := first) (cap := cap) (by simp only [vsA, arith, cmpI, ldK, V.flat, V.one, V.cells, ↓reduceIte, reduceCtorEq, Nat.reduceEqDiff, Nat.reduceLeDiff, Nat.reduceAdd, Nat.reduceMul, fill, e4]) (R := fun v σ1 => v = .int .i64 (cf d'[fs + (2 * r + 1)]! d'[fs + (2 * r + 2)]!) ∧ σ1 = σ') (by simp only [vsA, arith, cmpI, ldK, V.flat, V.one, V.cells, ↓reduceIte, reduceCtorEq, Nat.reduceEqDiff, Nat.reduceLeDiff, Nat.reduceAdd, Nat.reduceMul, fill]; exact hc σ' hr.off _ _ (hr.get a1) (hr.get a2)) ?_
    rintro _ σ2 ⟨rfl, hσ2⟩ _ _
    subst hσ2
    by_cases hc1 : cf d'[fs + (2 * r + 1)]! d'[fs + (2 * r + 2)]! < 0
    · have hd4 : decide (cf d'[fs + (2 * r + 1)]! d'[fs + (2 * r + 2)]! < 0) = true := by simpa using hc1
      have hif : (decide (2 * r + 1 + 1 < hi) && ltc cf d'[fs + (2 * r + 1)]! d'[fs + (2 * r + 1) + 1]!) = true := by
        rw [show fs + (2 * r + 1) + 1 = fs + (2 * r + 2) from by omega]; simp [ltc, hc1]; omega
      simp only [vsA, arith, cmpI, ldK, V.flat, V.one, V.cells, ↓reduceIte, reduceCtorEq, Nat.reduceEqDiff, Nat.reduceLeDiff, Nat.reduceAdd, Nat.reduceMul, fill, vc40, vc40_1, vc40_101, vc40_102, vc40_103, vc40_104, vc40_105, vc40_106, vc40_107, vc40_108, vc40_109, vc40_110, vc40_111, vc40_112, vc40_113, vc40_114, vc40_115, vc40_116, vc40_1019, vc40_1043, vc40_1059, e0, e2, e3, e4, e10, w1, w2, w3, hd4, hrow, w6, w8, p3, p4, p5, p6, le_flat hal a0, le_flat hal a2, get_flat hal a0, get_flat hal a2]
      refine o_call (k := k) (first := first) (cap := cap) (by simp only [vsA, arith, cmpI, ldK, V.flat, V.one, V.cells, ↓reduceIte, reduceCtorEq, Nat.reduceEqDiff, Nat.reduceLeDiff, Nat.reduceAdd, Nat.reduceMul, fill, e4]) (R := fun v σ1 => v = .int .i64 (cf d'[fs + r]! d'[fs + (2 * r + 2)]!) ∧ σ1 = σ2) (by simp only [vsA, arith, cmpI, ldK, V.flat, V.one, V.cells, ↓reduceIte, reduceCtorEq, Nat.reduceEqDiff, Nat.reduceLeDiff, Nat.reduceAdd, Nat.reduceMul, fill]; exact hc σ2 hr.off _ _ (hr.get a0) (hr.get a2)) ?_
      rintro _ σ3 ⟨rfl, hσ3⟩ _ _
      subst hσ3
      by_cases hcf : cf d'[fs + r]! d'[fs + (2 * r + 2)]! < 0
      · have hd2 : decide (cf d'[fs + r]! d'[fs + (2 * r + 2)]! < 0) = true := by simpa using hcf
        simp only [vsA, arith, cmpI, ldK, V.flat, V.one, V.cells, ↓reduceIte, reduceCtorEq, Nat.reduceEqDiff, Nat.reduceLeDiff, Nat.reduceAdd, Nat.reduceMul, fill, vc40, vc40_1, vc40_101, vc40_102, vc40_103, vc40_104, vc40_105, vc40_106, vc40_107, vc40_108, vc40_109, vc40_110, vc40_111, vc40_112, vc40_113, vc40_114, vc40_115, vc40_116, vc40_1019, vc40_1043, vc40_1059, e0, e2, e3, e4, e10, hd2, hrow, w6, w8, p3, p4, p5, p6, le_flat hal a0, le_flat hal a2, get_flat hal a0, get_flat hal a2,
          hr.row, set_flat hal a0, le2_flat hal a0, Store.get_set_same, Store.set_set, hal.get a0, hal.get a2, le2_flat (hal.set (i := fs + r) (hal.get a2)) (show fs + (2 * r + 2) < _ by rw [size_set]; exact a2), set_flat (hal.set (i := fs + r) (hal.get a2)) (show fs + (2 * r + 2) < _ by rw [size_set]; exact a2), nat_int]
        refine ⟨⟨2 * r + 2, rfl, swp d' (fs + r) (fs + (2 * r + 2)), hr.swp a0 a2, ?_, ?_, by omega, ?_⟩, by omega⟩
        · rw [hσ', Store.set_set]; rfl
        · simp [swp, hsz]
        · rw [← hs]
          rw [siftDown.eq_1 (ltc cf) hi fs r d', dif_neg hge, if_pos hif, if_neg (by simp [ltc, hcf]), dif_pos (by omega)]
      · have hd2 : decide (cf d'[fs + r]! d'[fs + (2 * r + 2)]! < 0) = false := by simpa using hcf
        simp only [vsA, arith, cmpI, ldK, V.flat, V.one, V.cells, ↓reduceIte, reduceCtorEq, Nat.reduceEqDiff, Nat.reduceLeDiff, Nat.reduceAdd, Nat.reduceMul, fill, vc40, vc40_1, vc40_101, vc40_102, vc40_103, vc40_104, vc40_105, vc40_106, vc40_107, vc40_108, vc40_109, vc40_110, vc40_111, vc40_112, vc40_113, vc40_114, vc40_115, vc40_116, vc40_1019, vc40_1043, vc40_1059, e0, e2, e3, e4, e10, hd2]
        have hstop : siftDown (ltc cf) hi fs r d' = d' := by
          rw [siftDown.eq_1 (ltc cf) hi fs r d', dif_neg hge, if_pos hif, if_pos (by simp [ltc]; omega)]
        rw [hstop] at hs; subst hs
        exact Rets.of (by exact ⟨rfl, hσ', hr⟩)
    · have hd4 : decide (cf d'[fs + (2 * r + 1)]! d'[fs + (2 * r + 2)]! < 0) = false := by simpa using hc1
      have hif : ¬ (decide (2 * r + 1 + 1 < hi) && ltc cf d'[fs + (2 * r + 1)]! d'[fs + (2 * r + 1) + 1]!) = true := by
        rw [show fs + (2 * r + 1) + 1 = fs + (2 * r + 2) from by omega]; simp [ltc]; intro _; omega
      simp only [vsA, arith, cmpI, ldK, V.flat, V.one, V.cells, ↓reduceIte, reduceCtorEq, Nat.reduceEqDiff, Nat.reduceLeDiff, Nat.reduceAdd, Nat.reduceMul, fill, vc40, vc40_1, vc40_101, vc40_102, vc40_103, vc40_104, vc40_105, vc40_106, vc40_107, vc40_108, vc40_109, vc40_110, vc40_111, vc40_112, vc40_113, vc40_114, vc40_115, vc40_116, vc40_1019, vc40_1043, vc40_1059, e0, e2, e3, e4, e10, w1, w2, w3, hd4, hrow, w6, w4, p1, p2, p5, p6, le_flat hal a0, le_flat hal a1, get_flat hal a0, get_flat hal a1]
      refine o_call (k := k) (first := first) (cap := cap) (by simp only [vsA, arith, cmpI, ldK, V.flat, V.one, V.cells, ↓reduceIte, reduceCtorEq, Nat.reduceEqDiff, Nat.reduceLeDiff, Nat.reduceAdd, Nat.reduceMul, fill, e4]) (R := fun v σ1 => v = .int .i64 (cf d'[fs + r]! d'[fs + (2 * r + 1)]!) ∧ σ1 = σ2) (by simp only [vsA, arith, cmpI, ldK, V.flat, V.one, V.cells, ↓reduceIte, reduceCtorEq, Nat.reduceEqDiff, Nat.reduceLeDiff, Nat.reduceAdd, Nat.reduceMul, fill]; exact hc σ2 hr.off _ _ (hr.get a0) (hr.get a1)) ?_
      rintro _ σ3 ⟨rfl, hσ3⟩ _ _
      subst hσ3
      by_cases hcf : cf d'[fs + r]! d'[fs + (2 * r + 1)]! < 0
      · have hd2 : decide (cf d'[fs + r]! d'[fs + (2 * r + 1)]! < 0) = true := by simpa using hcf
        simp only [vsA, arith, cmpI, ldK, V.flat, V.one, V.cells, ↓reduceIte, reduceCtorEq, Nat.reduceEqDiff, Nat.reduceLeDiff, Nat.reduceAdd, Nat.reduceMul, fill, vc40, vc40_1, vc40_101, vc40_102, vc40_103, vc40_104, vc40_105, vc40_106, vc40_107, vc40_108, vc40_109, vc40_110, vc40_111, vc40_112, vc40_113, vc40_114, vc40_115, vc40_116, vc40_1019, vc40_1043, vc40_1059, e0, e2, e3, e4, e10, hd2, hrow, w6, w4, p1, p2, p5, p6, le_flat hal a0, le_flat hal a1, get_flat hal a0, get_flat hal a1,
          hr.row, set_flat hal a0, le2_flat hal a0, Store.get_set_same, Store.set_set, hal.get a0, hal.get a1, le2_flat (hal.set (i := fs + r) (hal.get a1)) (show fs + (2 * r + 1) < _ by rw [size_set]; exact a1), set_flat (hal.set (i := fs + r) (hal.get a1)) (show fs + (2 * r + 1) < _ by rw [size_set]; exact a1), nat_int]
        refine ⟨⟨2 * r + 1, rfl, swp d' (fs + r) (fs + (2 * r + 1)), hr.swp a0 a1, ?_, ?_, by omega, ?_⟩, by omega⟩
        · rw [hσ', Store.set_set]; rfl
        · simp [swp, hsz]
        · rw [← hs]
          rw [siftDown.eq_1 (ltc cf) hi fs r d', dif_neg hge, if_neg hif, if_neg (by simp [ltc, hcf])]
      · have hd2 : decide (cf d'[fs + r]! d'[fs + (2 * r + 1)]! < 0) = false := by simpa using hcf
        simp only [vsA, arith, cmpI, ldK, V.flat, V.one, V.cells, ↓reduceIte, reduceCtorEq, Nat.reduceEqDiff, Nat.reduceLeDiff, Nat.reduceAdd, Nat.reduceMul, fill, vc40, vc40_1, vc40_101, vc40_102, vc40_103, vc40_104, vc40_105, vc40_106, vc40_107, vc40_108, vc40_109, vc40_110, vc40_111, vc40_112, vc40_113, vc40_114, vc40_115, vc40_116, vc40_1019, vc40_1043, vc40_1059, e0, e2, e3, e4, e10, hd2]
        have hstop : siftDown (ltc cf) hi fs r d' = d' := by
          rw [siftDown.eq_1 (ltc cf) hi fs r d', dif_neg hge, if_neg hif, if_pos (by simp [ltc]; omega)]
        rw [hstop] at hs; subst hs
        exact Rets.of (by exact ⟨rfl, hσ', hr⟩)
  · have hd3 : decide (((2 * r + 2 : Nat) : Int) < (hi : Int)) = false := by simp; omega
    have hif : ¬ (decide (2 * r + 1 + 1 < hi) && ltc cf d'[fs + (2 * r + 1)]! d'[fs + (2 * r + 1) + 1]!) = true := by simp; intro h; omega
    simp only [vsA, arith, cmpI, ldK, V.flat, V.one, V.cells, ↓reduceIte, reduceCtorEq, Nat.reduceEqDiff, Nat.reduceLeDiff, Nat.reduceAdd, Nat.reduceMul, fill, vc40, vc40_1, vc40_101, vc40_102, vc40_103, vc40_104, vc40_105, vc40_106, vc40_107, vc40_108, vc40_109, vc40_110, vc40_111, vc40_112, vc40_113, vc40_114, vc40_115, vc40_116, vc40_1019, vc40_1043, vc40_1059, e0, e2, e3, e4, e10, w1, w2, w3, hd, hd3, hrow, w6, w4, p1, p2, p5, p6, le_flat hal a0, le_flat hal a1, get_flat hal a0, get_flat hal a1]
    refine o_call (k := k) (first := first) (cap := cap) (by simp only [vsA, arith, cmpI, ldK, V.flat, V.one, V.cells, ↓reduceIte, reduceCtorEq, Nat.reduceEqDiff, Nat.reduceLeDiff, Nat.reduceAdd, Nat.reduceMul, fill, e4]) (R := fun v σ1 => v = .int .i64 (cf d'[fs + r]! d'[fs + (2 * r + 1)]!) ∧ σ1 = σ') (by simp only [vsA, arith, cmpI, ldK, V.flat, V.one, V.cells, ↓reduceIte, reduceCtorEq, Nat.reduceEqDiff, Nat.reduceLeDiff, Nat.reduceAdd, Nat.reduceMul, fill]; exact hc σ' hr.off _ _ (hr.get a0) (hr.get a1)) ?_
    rintro _ σ3 ⟨rfl, hσ3⟩ _ _
    subst hσ3
    by_cases hcf : cf d'[fs + r]! d'[fs + (2 * r + 1)]! < 0
    · have hd2 : decide (cf d'[fs + r]! d'[fs + (2 * r + 1)]! < 0) = true := by simpa using hcf
      simp only [vsA, arith, cmpI, ldK, V.flat, V.one, V.cells, ↓reduceIte, reduceCtorEq, Nat.reduceEqDiff, Nat.reduceLeDiff, Nat.reduceAdd, Nat.reduceMul, fill, vc40, vc40_1, vc40_101, vc40_102, vc40_103, vc40_104, vc40_105, vc40_106, vc40_107, vc40_108, vc40_109, vc40_110, vc40_111, vc40_112, vc40_113, vc40_114, vc40_115, vc40_116, vc40_1019, vc40_1043, vc40_1059, e0, e2, e3, e4, e10, hd2, hrow, w6, w4, p1, p2, p5, p6, le_flat hal a0, le_flat hal a1, get_flat hal a0, get_flat hal a1,
        hr.row, set_flat hal a0, le2_flat hal a0, Store.get_set_same, Store.set_set, hal.get a0, hal.get a1, le2_flat (hal.set (i := fs + r) (hal.get a1)) (show fs + (2 * r + 1) < _ by rw [size_set]; exact a1), set_flat (hal.set (i := fs + r) (hal.get a1)) (show fs + (2 * r + 1) < _ by rw [size_set]; exact a1), nat_int]
      refine ⟨⟨2 * r + 1, rfl, swp d' (fs + r) (fs + (2 * r + 1)), hr.swp a0 a1, ?_, ?_, by omega, ?_⟩, by omega⟩
      · rw [hσ', Store.set_set]; rfl
      · simp [swp, hsz]
      · rw [← hs]
        rw [siftDown.eq_1 (ltc cf) hi fs r d', dif_neg hge, if_neg hif, if_neg (by simp [ltc, hcf])]
    · have hd2 : decide (cf d'[fs + r]! d'[fs + (2 * r + 1)]! < 0) = false := by simpa using hcf
      simp only [vsA, arith, cmpI, ldK, V.flat, V.one, V.cells, ↓reduceIte, reduceCtorEq, Nat.reduceEqDiff, Nat.reduceLeDiff, Nat.reduceAdd, Nat.reduceMul, fill, vc40, vc40_1, vc40_101, vc40_102, vc40_103, vc40_104, vc40_105, vc40_106, vc40_107, vc40_108, vc40_109, vc40_110, vc40_111, vc40_112, vc40_113, vc40_114, vc40_115, vc40_116, vc40_1019, vc40_1043, vc40_1059, e0, e2, e3, e4, e10, hd2]
      have hstop : siftDown (ltc cf) hi fs r d' = d' := by
        rw [siftDown.eq_1 (ltc cf) hi fs r d', dif_neg hge, if_neg hif, if_pos (by simp [ltc]; omega)]
      rw [hstop] at hs; subst hs
      exact Rets.of (by exact ⟨rfl, hσ', hr⟩)

theorem size_insInner (lt : List V → List V → Bool) (a : Nat) : ∀ (j : Nat) (d : Row), (insInner lt a j d).size = d.size
  | 0, _ => rfl
  | j + 1, d => by
    rw [show insInner lt a (j + 1) d = if j + 1 > a && lt d[j + 1]! d[j]! then insInner lt a j (swp d (j + 1) j) else d from rfl]
    split
    · rw [size_insInner lt a j]; simp [swp]
    · rfl
theorem sift_size {lt : List V → List V → Bool} {hi fs : Nat} : ∀ (n r : Nat) (d : Row), hi - r ≤ n → (siftDown lt hi fs r d).size = d.size
  | 0, r, d, h => by rw [siftDown, dif_pos (by omega)]
  | n + 1, r, d, h => by
    rw [siftDown]
    split
    · rfl
    · split
      · split
        · rfl
        · split
          · rw [sift_size n _ _ (by omega)]; simp [swp]
          · rfl
      · split
        · rfl
        · rw [sift_size n _ _ (by omega)]; simp [swp]

theorem wdiv {i k : Nat} (h : i ≤ 140737488355328) : IntKind.i64.wrap ((i : Int).tdiv (k : Int)) = ((i / k : Nat) : Int) := by
  have : ((i : Int).tdiv (k : Int)) = ((i / k : Nat) : Int) := by
    rw [Int.tdiv_eq_ediv_of_nonneg (by omega)]; simp
  rw [this]
  have hle : i / k ≤ i := Nat.div_le_self i k
  generalize i / k = q at *
  rw [wrap64 (by omega) (by omega)]

set_option maxHeartbeats 1000000 in
theorem heap_do (L : Lays P e φ) (hT : ∀ x, T x → x.length = e) (hc : CmpOk P b σ0 T cf k first cap) (h : RowOk e b σ0 σ T d sl) (hn : d.size ≤ 140737488355328) {a z : Nat} (ha : a < z) (hz : z ≤ d.size) :
    VCalls P (φ 30) [.sl b 0 d.size c, .int .i64 a, .int .i64 z, .fn k first cap] σ (fun v σ' => v = .tup [] ∧ σ' = σ.set b (.row (flat (heapSort (ltc cf) d a z)) sl) ∧ RowOk e b σ0 σ' T (heapSort (ltc cf) d a z) sl) := by
  refine vcalls_of L.c30 (fun _ hok => ?_)
  have w1 := wsub (show z ≤ 140737488355328 by omega) (show a ≤ z by omega)
  have w2 := wsub1 (show z - a ≤ 140737488355328 by omega) (show 1 ≤ z - a by omega)
  have w3 : IntKind.i64.wrap (((z - a - 1 : Nat) : Int).tdiv 2) = (((z - a - 1) / 2 : Nat) : Int) := wdiv (i := z - a - 1) (k := 2) (by omega)
  have hdiv : (z - a - 1) / 2 ≤ z - a - 1 := Nat.div_le_self _ _
  simp only [vsA, arith, cmpI, ldK, V.flat, V.one, V.cells, ↓reduceIte, reduceCtorEq, Nat.reduceEqDiff, Nat.reduceLeDiff, Nat.reduceAdd, Nat.reduceMul, fill, vc30, vc30_1, vc30_2, vc30_3, vc30_4, vc30_5, vc30_101, vc30_102, vc30_103, vc30_104, vc30_105, vc30_106, vc30_107, vc30_108, vc30_109, vc30_110, vc30_111, vc30_112, vc30_113, vc30_114, vc30_115, vc30_116, vc30_1036, w1, w2, w3, show ((2 : Int) ≠ 0) = True by simp]
  refine w_loop (fun env' σ' => ∃ (m : Nat) (d' : Row), env' 0 = .sl b 0 d.size c ∧ env' 3 = .fn k first cap ∧ env' 8 = .int .i64 a ∧ env' 9 = .int .i64 ((0 : Nat) : Int) ∧ env' 10 = .int .i64 ((z - a : Nat) : Int) ∧ env' 11 = .int .i64 ((m : Int) - 1) ∧ RowOk e b σ0 σ' T d' sl ∧ σ' = σ.set b (.row (flat d') sl) ∧
      d'.size = d.size ∧ m ≤ d.size ∧ heapBuild (ltc cf) (z - a) a m d' = heapBuild (ltc cf) (z - a) a ((z - a - 1) / 2 + 1) d)
    (fun env' _ => match env' 11 with | .int _ n => (n + 1).toNat | _ => 0) ⟨(z - a - 1) / 2 + 1, d, by simp only [vsA, arith, cmpI, ldK, V.flat, V.one, V.cells, ↓reduceIte, reduceCtorEq, Nat.reduceEqDiff, Nat.reduceLeDiff, Nat.reduceAdd, Nat.reduceMul, fill], by simp only [vsA, arith, cmpI, ldK, V.flat, V.one, V.cells, ↓reduceIte, reduceCtorEq, Nat.reduceEqDiff, Nat.reduceLeDiff, Nat.reduceAdd, Nat.reduceMul, fill], by simp only [vsA, arith, cmpI, ldK, V.flat, V.one, V.cells, ↓reduceIte, reduceCtorEq, Nat.reduceEqDiff, Nat.reduceLeDiff, Nat.reduceAdd, Nat.reduceMul, fill], by simp only [vsA, arith, cmpI, ldK, V.flat, V.one, V.cells, ↓reduceIte, reduceCtorEq, Nat.reduceEqDiff, Nat.reduceLeDiff, Nat.reduceAdd, Nat.reduceMul, fill]; rfl, by simp only [vsA, arith, cmpI, ldK, V.flat, V.one, V.cells, ↓reduceIte, reduceCtorEq, Nat.reduceEqDiff, Nat.reduceLeDiff, Nat.reduceAdd, Nat.reduceMul, fill], by simp only [vsA, arith, cmpI, ldK, V.flat, V.one, V.cells, ↓reduceIte, reduceCtorEq, Nat.reduceEqDiff, Nat.reduceLeDiff, Nat.reduceAdd, Nat.reduceMul, fill, w3]; omega, h, (Store.set_same _ h.row).symm, rfl, by omega, rfl⟩ ?_
  rintro env' σ' ⟨m, d', e0, e3, e8, e9, e10, e11, hr, hσ', hsz, hm, hbd⟩
  cases m with
  | succ m =>
    have em : (((m + 1 : Nat) : Int) - 1) = (m : Int) := by omega
    rw [em] at e11
    have hd : decide ((m : Int) ≥ 0) = true := by simp
    simp only [vsA, arith, cmpI, ldK, V.flat, V.one, V.cells, ↓reduceIte, reduceCtorEq, Nat.reduceEqDiff, Nat.reduceLeDiff, Nat.reduceAdd, Nat.reduceMul, fill, vc30, vc30_1, vc30_2, vc30_3, vc30_4, vc30_5, vc30_101, vc30_102, vc30_103, vc30_104, vc30_105, vc30_106, vc30_107, vc30_108, vc30_109, vc30_110, vc30_111, vc30_112, vc30_113, vc30_114, vc30_115, vc30_116, vc30_1036, e0, e3, e8, e9, e10, e11, hd]
    refine call_f (vs := [.sl b 0 d'.size c, .int .i64 m, .int .i64 ((z - a : Nat) : Int), .int .i64 a, .fn k first cap]) (by simp only [vsA, arith, cmpI, ldK, V.flat, V.one, V.cells, ↓reduceIte, reduceCtorEq, Nat.reduceEqDiff, Nat.reduceLeDiff, Nat.reduceAdd, Nat.reduceMul, fill, e0, e3, e8, e10, e11, hsz]) (sift_do L hT hc hr (by omega) (by omega) (by omega)) ?_
    rintro _ σ2 ⟨rfl, hσ2, hr2⟩ _ _
    have w5 : IntKind.i64.wrap ((m : Int) - 1) = (m : Int) - 1 := wrap64 (by omega) (by omega)
    simp only [vsA, arith, cmpI, ldK, V.flat, V.one, V.cells, ↓reduceIte, reduceCtorEq, Nat.reduceEqDiff, Nat.reduceLeDiff, Nat.reduceAdd, Nat.reduceMul, fill, vc30, vc30_1, vc30_2, vc30_3, vc30_4, vc30_5, vc30_101, vc30_102, vc30_103, vc30_104, vc30_105, vc30_106, vc30_107, vc30_108, vc30_109, vc30_110, vc30_111, vc30_112, vc30_113, vc30_114, vc30_115, vc30_116, vc30_1036, e0, e3, e8, e9, e10, e11, w5]
    refine ⟨⟨m, rfl, siftDown (ltc cf) (z - a) a m d', hr2, ?_, ?_, by omega, ?_⟩, ?_⟩
    · rw [hσ2, hσ', Store.set_set]
    · rw [sift_size _ _ _ (Nat.le_refl _), hsz]
    · rw [← hbd]; rfl
    · omega
  | zero =>
    have hd : decide ((((0 : Nat) : Int) - 1) ≥ 0) = false := rfl
    have hbd' : d' = heapBuild (ltc cf) (z - a) a ((z - a - 1) / 2 + 1) d := hbd
    simp only [vsA, arith, cmpI, ldK, V.flat, V.one, V.cells, ↓reduceIte, reduceCtorEq, Nat.reduceEqDiff, Nat.reduceLeDiff, Nat.reduceAdd, Nat.reduceMul, fill, vc30, vc30_1, vc30_2, vc30_3, vc30_4, vc30_5, vc30_101, vc30_102, vc30_103, vc30_104, vc30_105, vc30_106, vc30_107, vc30_108, vc30_109, vc30_110, vc30_111, vc30_112, vc30_113, vc30_114, vc30_115, vc30_116, vc30_1036, e0, e3, e8, e9, e10, e11, hd, w2]
    refine w_loop (fun env' σ' => ∃ (m : Nat) (d' : Row), env' 0 = .sl b 0 d.size c ∧ env' 3 = .fn k first cap ∧ env' 8 = .int .i64 a ∧ env' 9 = .int .i64 ((0 : Nat) : Int) ∧ env' 12 = .int .i64 ((m : Int) - 1) ∧ RowOk e b σ0 σ' T d' sl ∧ σ' = σ.set b (.row (flat d') sl) ∧
        d'.size = d.size ∧ m ≤ z - a ∧ heapPop (ltc cf) a m d' = heapSort (ltc cf) d a z)
      (fun env' _ => match env' 12 with | .int _ n => (n + 1).toNat | _ => 0) ⟨z - a, d', by simp only [vsA, arith, cmpI, ldK, V.flat, V.one, V.cells, ↓reduceIte, reduceCtorEq, Nat.reduceEqDiff, Nat.reduceLeDiff, Nat.reduceAdd, Nat.reduceMul, fill, e0], by simp only [vsA, arith, cmpI, ldK, V.flat, V.one, V.cells, ↓reduceIte, reduceCtorEq, Nat.reduceEqDiff, Nat.reduceLeDiff, Nat.reduceAdd, Nat.reduceMul, fill, e3], by simp only [vsA, arith, cmpI, ldK, V.flat, V.one, V.cells, ↓reduceIte, reduceCtorEq, Nat.reduceEqDiff, Nat.reduceLeDiff, Nat.reduceAdd, Nat.reduceMul, fill, e8], by simp only [vsA, arith, cmpI, ldK, V.flat, V.one, V.cells, ↓reduceIte, reduceCtorEq, Nat.reduceEqDiff, Nat.reduceLeDiff, Nat.reduceAdd, Nat.reduceMul, fill, e9], by simp only [vsA, arith, cmpI, ldK, V.flat, V.one, V.cells, ↓reduceIte, reduceCtorEq, Nat.reduceEqDiff, Nat.reduceLeDiff, Nat.reduceAdd, Nat.reduceMul, fill]; omega, hr, hσ', hsz, by omega, by rw [hbd']; rfl⟩ ?_
    rintro env'' σ'' ⟨m, d'', f0, f3, f8, f9, f12, hr'', hσ'', hsz'', hm', hpop⟩
    cases m with
    | zero =>
      have hd5 : decide ((((0 : Nat) : Int) - 1) ≥ 0) = false := rfl
      simp only [vsA, arith, cmpI, ldK, V.flat, V.one, V.cells, ↓reduceIte, reduceCtorEq, Nat.reduceEqDiff, Nat.reduceLeDiff, Nat.reduceAdd, Nat.reduceMul, fill, vc30, vc30_1, vc30_2, vc30_3, vc30_4, vc30_5, vc30_101, vc30_102, vc30_103, vc30_104, vc30_105, vc30_106, vc30_107, vc30_108, vc30_109, vc30_110, vc30_111, vc30_112, vc30_113, vc30_114, vc30_115, vc30_116, vc30_1036, f0, f3, f8, f9, f12, hd5]
      have : d'' = heapSort (ltc cf) d a z := hpop
      rw [← this]
      exact Rets.of (by exact ⟨rfl, hσ'', hr''⟩)
    | succ m =>
      have em : (((m + 1 : Nat) : Int) - 1) = (m : Int) := by omega
      rw [em] at f12
      have hd5 : decide ((m : Int) ≥ 0) = true := by simp
      have hrd := Store.rd_row hr''.row
      have hal := hr''.len hT
      have w6 := wadd (show a ≤ 140737488355328 by omega) (show m ≤ 140737488355328 by omega)
      have hj1 : a + m < d''.size := by omega
      have hi1 : a < d''.size := by omega
      have g1 : (0 : Int) ≤ ((a + m : Nat) : Int) := by omega
      have g2 : ((a + m : Nat) : Int) < (d.size : Int) := by omega
      have g3 : (0 : Int) ≤ (a : Int) := by omega
      have g4 : (a : Int) < (d.size : Int) := by omega
      simp only [vsA, arith, cmpI, ldK, V.flat, V.one, V.cells, ↓reduceIte, reduceCtorEq, Nat.reduceEqDiff, Nat.reduceLeDiff, Nat.reduceAdd, Nat.reduceMul, fill, vc30, vc30_1, vc30_2, vc30_3, vc30_4, vc30_5, vc30_101, vc30_102, vc30_103, vc30_104, vc30_105, vc30_106, vc30_107, vc30_108, vc30_109, vc30_110, vc30_111, vc30_112, vc30_113, vc30_114, vc30_115, vc30_116, vc30_1036, f0, f3, f8, f9, f12, hd5, w6, hrd, g1, g2, g3, g4, le_flat hal hj1, le_flat hal hi1, get_flat hal hj1, get_flat hal hi1, hr''.row, set_flat hal hi1, le2_flat hal hi1, Store.get_set_same, Store.set_set, hal.get hj1, hal.get hi1,
        le2_flat (hal.set (i := a) (hal.get hj1)) (show a + m < _ by rw [size_set]; exact hj1), set_flat (hal.set (i := a) (hal.get hj1)) (show a + m < _ by rw [size_set]; exact hj1)]
      have hszs : (swp d'' a (a + m)).size = d''.size := by simp [swp]
      refine call_f (vs := [.sl b 0 (swp d'' a (a + m)).size c, .int .i64 ((0 : Nat) : Int), .int .i64 m, .int .i64 a, .fn k first cap]) (by simp only [vsA, arith, cmpI, ldK, V.flat, V.one, V.cells, ↓reduceIte, reduceCtorEq, Nat.reduceEqDiff, Nat.reduceLeDiff, Nat.reduceAdd, Nat.reduceMul, fill, f0, f3, f8, f9, f12, hszs, hsz'']) (sift_do L hT hc (hr''.swp hi1 hj1) (by omega) (by omega) (by omega)) ?_
      rintro _ σ2 ⟨rfl, hσ2, hr2⟩ _ _
      have w5 : IntKind.i64.wrap ((m : Int) - 1) = (m : Int) - 1 := wrap64 (by omega) (by omega)
      simp only [vsA, arith, cmpI, ldK, V.flat, V.one, V.cells, ↓reduceIte, reduceCtorEq, Nat.reduceEqDiff, Nat.reduceLeDiff, Nat.reduceAdd, Nat.reduceMul, fill, vc30, vc30_1, vc30_2, vc30_3, vc30_4, vc30_5, vc30_101, vc30_102, vc30_103, vc30_104, vc30_105, vc30_106, vc30_107, vc30_108, vc30_109, vc30_110, vc30_111, vc30_112, vc30_113, vc30_114, vc30_115, vc30_116, vc30_1036, f0, f3, f8, f9, f12, w5]
      refine ⟨⟨m, rfl, siftDown (ltc cf) m a 0 (swp d'' a (a + m)), hr2, ?_, ?_, by omega, ?_⟩, ?_⟩
      · rw [hσ2, Store.set_set, hσ'', Store.set_set]
      · rw [sift_size _ _ _ (Nat.le_refl _), hszs, hsz'']
      · rw [← hpop]; rfl
      · omega
end Go.Vm.Srt
