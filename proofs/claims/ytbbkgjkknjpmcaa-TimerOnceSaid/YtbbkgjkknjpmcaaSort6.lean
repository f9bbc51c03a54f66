/-
  The sort: partitionCmpFunc, partitionEqualCmpFunc: the whole.
-/
import Derived.Test.YtbbkgjkknjpmcaaSort5
set_option linter.unusedSimpArgs false
set_option linter.unusedVariables false
set_option linter.unusedSectionVars false
namespace Go.Vm.Srt
open Go Go.Vm Go.Sort

variable {P : Program} {e : Nat} {d : Row} {φ : Nat → Nat} {b sl c : Nat} {σ0 σ : Store} {T : List V → Prop} {cf : List V → List V → Int} {k : FuncId} {first cap : List V}

theorem partition_eq (lt : List V → List V → Bool) (d : Row) (a z p : Nat) : partition lt d a z p =
    (if scanUp (fun x => lt x (swp d a p)[a]!) (swp d a p) (z - 1) (a + 1) > scanDown (fun x => !lt x (swp d a p)[a]!) (swp d a p) (scanUp (fun x => lt x (swp d a p)[a]!) (swp d a p) (z - 1) (a + 1)) (z - 1)
     then (scanDown (fun x => !lt x (swp d a p)[a]!) (swp d a p) (scanUp (fun x => lt x (swp d a p)[a]!) (swp d a p) (z - 1) (a + 1)) (z - 1), true, swp (swp d a p) (scanDown (fun x => !lt x (swp d a p)[a]!) (swp d a p) (scanUp (fun x => lt x (swp d a p)[a]!) (swp d a p) (z - 1) (a + 1)) (z - 1)) a)
     else ((partLoop lt a (scanUp (fun x => lt x (swp d a p)[a]!) (swp d a p) (z - 1) (a + 1) + 1) (scanDown (fun x => !lt x (swp d a p)[a]!) (swp d a p) (scanUp (fun x => lt x (swp d a p)[a]!) (swp d a p) (z - 1) (a + 1)) (z - 1) - 1) (swp (swp d a p) (scanUp (fun x => lt x (swp d a p)[a]!) (swp d a p) (z - 1) (a + 1)) (scanDown (fun x => !lt x (swp d a p)[a]!) (swp d a p) (scanUp (fun x => lt x (swp d a p)[a]!) (swp d a p) (z - 1) (a + 1)) (z - 1)))).1, false,
       swp (partLoop lt a (scanUp (fun x => lt x (swp d a p)[a]!) (swp d a p) (z - 1) (a + 1) + 1) (scanDown (fun x => !lt x (swp d a p)[a]!) (swp d a p) (scanUp (fun x => lt x (swp d a p)[a]!) (swp d a p) (z - 1) (a + 1)) (z - 1) - 1) (swp (swp d a p) (scanUp (fun x => lt x (swp d a p)[a]!) (swp d a p) (z - 1) (a + 1)) (scanDown (fun x => !lt x (swp d a p)[a]!) (swp d a p) (scanUp (fun x => lt x (swp d a p)[a]!) (swp d a p) (z - 1) (a + 1)) (z - 1)))).2
         (partLoop lt a (scanUp (fun x => lt x (swp d a p)[a]!) (swp d a p) (z - 1) (a + 1) + 1) (scanDown (fun x => !lt x (swp d a p)[a]!) (swp d a p) (scanUp (fun x => lt x (swp d a p)[a]!) (swp d a p) (z - 1) (a + 1)) (z - 1) - 1) (swp (swp d a p) (scanUp (fun x => lt x (swp d a p)[a]!) (swp d a p) (z - 1) (a + 1)) (scanDown (fun x => !lt x (swp d a p)[a]!) (swp d a p) (scanUp (fun x => lt x (swp d a p)[a]!) (swp d a p) (z - 1) (a + 1)) (z - 1)))).1 a)) := by
  unfold partition
  simp only []

set_option maxHeartbeats 1000000 in
theorem partition_do (L : Lays P e φ) (hT : ∀ x, T x → x.length = e) (hc : CmpOk P b σ0 T cf k first cap) (h : RowOk e b σ0 σ T d sl) (hn : d.size ≤ 140737488355328) {a z p : Nat} (hap : a ≤ p) (hpz : p < z) (hz : z ≤ d.size) :
    VCalls P (φ 36) [.sl b 0 d.size c, .int .i64 a, .int .i64 z, .int .i64 p, .fn k first cap] σ (fun v σ' => v = .tup [.int .i64 (partition (ltc cf) d a z p).1, .bool (partition (ltc cf) d a z p).2.1] ∧
      σ' = σ.set b (.row (flat (partition (ltc cf) d a z p).2.2) sl) ∧ RowOk e b σ0 σ' T (partition (ltc cf) d a z p).2.2 sl) := by
  refine vcalls_of L.c36 (fun _ hok => ?_)
  obtain ⟨R, hR⟩ : ∃ R : V → Store → Prop, R = (fun v σ' => v = .tup [.int .i64 (partition (ltc cf) d a z p).1, .bool (partition (ltc cf) d a z p).2.1] ∧
      σ' = σ.set b (.row (flat (partition (ltc cf) d a z p).2.2) sl) ∧ RowOk e b σ0 σ' T (partition (ltc cf) d a z p).2.2 sl) := ⟨_, rfl⟩
  rw [← hR]
  have hpe := partition_eq (ltc cf) d a z p
  simp only [vsA, arith, cmpI, ldK, V.flat, V.one, V.cells, ↓reduceIte, reduceCtorEq, Nat.reduceEqDiff, Nat.reduceLeDiff, Nat.reduceAdd, Nat.reduceMul, fill, vc36, vc36_1, vc36_2, vc36_3, vc36_4, vc36_5, vc36_6, vc36_7, vc36_8, vc36_9, vc36_10, vc36_11, vc36_12, vc36_101, vc36_102, vc36_103, vc36_105, vc36_106, vc36_107, vc36_109, vc36_110, vc36_111, vc36_112, vc36_113, vc36_114, vc36_115, vc36_116, vc36_117, vc36_118, vc36_119, vc36_120, vc36_121, vc36_122, vc36_123, vc36_124, vc36_125, vc36_126, vc36_127, vc36_128, vc36_129, vc36_131, vc36_132, vc36_133]
  refine sw36_14 (c := c) hT h rfl (show a < d.size by omega) (show p < d.size by omega) (by simp only [vsA, arith, cmpI, ldK, V.flat, V.one, V.cells, ↓reduceIte, reduceCtorEq, Nat.reduceEqDiff, Nat.reduceLeDiff, Nat.reduceAdd, Nat.reduceMul, fill]) (by simp only [vsA, arith, cmpI, ldK, V.flat, V.one, V.cells, ↓reduceIte, reduceCtorEq, Nat.reduceEqDiff, Nat.reduceLeDiff, Nat.reduceAdd, Nat.reduceMul, fill]) (by simp only [vsA, arith, cmpI, ldK, V.flat, V.one, V.cells, ↓reduceIte, reduceCtorEq, Nat.reduceEqDiff, Nat.reduceLeDiff, Nat.reduceAdd, Nat.reduceMul, fill]) ?_
  intro env1 he1
  have hr1 := h.swp (show a < d.size by omega) (show p < d.size by omega)
  generalize hd1 : swp d a p = d1 at *
  have hs1 : d1.size = d.size := by rw [← hd1]; simp [swp]
  have f0 : env1 0 = .sl b 0 d.size c := (he1 0 (by omega)).trans (by simp only [vsA, arith, cmpI, ldK, V.flat, V.one, V.cells, ↓reduceIte, reduceCtorEq, Nat.reduceEqDiff, Nat.reduceLeDiff, Nat.reduceAdd, Nat.reduceMul, fill])
  have f1 : env1 1 = .int .i64 a := (he1 1 (by omega)).trans (by simp only [vsA, arith, cmpI, ldK, V.flat, V.one, V.cells, ↓reduceIte, reduceCtorEq, Nat.reduceEqDiff, Nat.reduceLeDiff, Nat.reduceAdd, Nat.reduceMul, fill])
  have f2 : env1 2 = .int .i64 z := (he1 2 (by omega)).trans (by simp only [vsA, arith, cmpI, ldK, V.flat, V.one, V.cells, ↓reduceIte, reduceCtorEq, Nat.reduceEqDiff, Nat.reduceLeDiff, Nat.reduceAdd, Nat.reduceMul, fill])
  have f4 : env1 4 = .fn k first cap := (he1 4 (by omega)).trans (by simp only [vsA, arith, cmpI, ldK, V.flat, V.one, V.cells, ↓reduceIte, reduceCtorEq, Nat.reduceEqDiff, Nat.reduceLeDiff, Nat.reduceAdd, Nat.reduceMul, fill])
  simp only [vsA, arith, cmpI, ldK, V.flat, V.one, V.cells, ↓reduceIte, reduceCtorEq, Nat.reduceEqDiff, Nat.reduceLeDiff, Nat.reduceAdd, Nat.reduceMul, fill, vc36, vc36_1, vc36_2, vc36_3, vc36_4, vc36_5, vc36_6, vc36_7, vc36_8, vc36_9, vc36_10, vc36_11, vc36_12, vc36_101, vc36_102, vc36_103, vc36_105, vc36_106, vc36_107, vc36_109, vc36_110, vc36_111, vc36_112, vc36_113, vc36_114, vc36_115, vc36_116, vc36_117, vc36_118, vc36_119, vc36_120, vc36_121, vc36_122, vc36_123, vc36_124, vc36_125, vc36_126, vc36_127, vc36_128, vc36_129, vc36_131, vc36_132, vc36_133, f1, f2, wadd1 (show a ≤ 140737488355328 by omega), wsub1 (show z ≤ 140737488355328 by omega) (show 1 ≤ z by omega)]
  refine lp36_32 (c := c) hT hc hr1 hs1.symm (by omega) (i := a + 1) (j := z - 1) (a := a) (by omega) (by omega) (by simp only [vsA, arith, cmpI, ldK, V.flat, V.one, V.cells, ↓reduceIte, reduceCtorEq, Nat.reduceEqDiff, Nat.reduceLeDiff, Nat.reduceAdd, Nat.reduceMul, fill, f0]) (by simp only [vsA, arith, cmpI, ldK, V.flat, V.one, V.cells, ↓reduceIte, reduceCtorEq, Nat.reduceEqDiff, Nat.reduceLeDiff, Nat.reduceAdd, Nat.reduceMul, fill, f4]) (by simp only [vsA, arith, cmpI, ldK, V.flat, V.one, V.cells, ↓reduceIte, reduceCtorEq, Nat.reduceEqDiff, Nat.reduceLeDiff, Nat.reduceAdd, Nat.reduceMul, fill]) (by simp only [vsA, arith, cmpI, ldK, V.flat, V.one, V.cells, ↓reduceIte, reduceCtorEq, Nat.reduceEqDiff, Nat.reduceLeDiff, Nat.reduceAdd, Nat.reduceMul, fill]) (by simp only [vsA, arith, cmpI, ldK, V.flat, V.one, V.cells, ↓reduceIte, reduceCtorEq, Nat.reduceEqDiff, Nat.reduceLeDiff, Nat.reduceAdd, Nat.reduceMul, fill, f1]) ?_
  intro env2 he2 g12
  have g0 : env2 0 = .sl b 0 d.size c := (he2 0 (by omega) (by omega)).trans (by simp only [vsA, arith, cmpI, ldK, V.flat, V.one, V.cells, ↓reduceIte, reduceCtorEq, Nat.reduceEqDiff, Nat.reduceLeDiff, Nat.reduceAdd, Nat.reduceMul, fill, f0])
  have g1 : env2 1 = .int .i64 a := (he2 1 (by omega) (by omega)).trans (by simp only [vsA, arith, cmpI, ldK, V.flat, V.one, V.cells, ↓reduceIte, reduceCtorEq, Nat.reduceEqDiff, Nat.reduceLeDiff, Nat.reduceAdd, Nat.reduceMul, fill, f1])
  have g4 : env2 4 = .fn k first cap := (he2 4 (by omega) (by omega)).trans (by simp only [vsA, arith, cmpI, ldK, V.flat, V.one, V.cells, ↓reduceIte, reduceCtorEq, Nat.reduceEqDiff, Nat.reduceLeDiff, Nat.reduceAdd, Nat.reduceMul, fill, f4])
  have g13 : env2 13 = .int .i64 ((z - 1 : Nat) : Int) := (he2 13 (by omega) (by omega)).trans (by simp only [vsA, arith, cmpI, ldK, V.flat, V.one, V.cells, ↓reduceIte, reduceCtorEq, Nat.reduceEqDiff, Nat.reduceLeDiff, Nat.reduceAdd, Nat.reduceMul, fill])
  have hi1 := scanUp_ge (fun z => ltc cf z d1[a]!) d1 (z - 1) (a + 1)
  generalize hi : scanUp (fun z => ltc cf z d1[a]!) d1 (z - 1) (a + 1) = i1 at *
  simp only [vsA, arith, cmpI, ldK, V.flat, V.one, V.cells, ↓reduceIte, reduceCtorEq, Nat.reduceEqDiff, Nat.reduceLeDiff, Nat.reduceAdd, Nat.reduceMul, fill, vc36, vc36_1, vc36_2, vc36_3, vc36_4, vc36_5, vc36_6, vc36_7, vc36_8, vc36_9, vc36_10, vc36_11, vc36_12, vc36_101, vc36_102, vc36_103, vc36_105, vc36_106, vc36_107, vc36_109, vc36_110, vc36_111, vc36_112, vc36_113, vc36_114, vc36_115, vc36_116, vc36_117, vc36_118, vc36_119, vc36_120, vc36_121, vc36_122, vc36_123, vc36_124, vc36_125, vc36_126, vc36_127, vc36_128, vc36_129, vc36_131, vc36_132, vc36_133]
  refine lp36_50 (c := c) hT hc hr1 hs1.symm (by omega) (i := i1) (j := z - 1) (a := a) (by omega) (by omega) (by omega) g0 g4 g12 g13 g1 ?_
  intro env3 he3 k13
  have k0 : env3 0 = .sl b 0 d.size c := (he3 0 (by omega) (by omega)).trans g0
  have k1 : env3 1 = .int .i64 a := (he3 1 (by omega) (by omega)).trans g1
  have k4 : env3 4 = .fn k first cap := (he3 4 (by omega) (by omega)).trans g4
  have k12 : env3 12 = .int .i64 (i1 : Int) := (he3 12 (by omega) (by omega)).trans g12
  have hj1 := scanDown_le (fun z => !ltc cf z d1[a]!) d1 i1 (z - 1)
  generalize hj : scanDown (fun z => !ltc cf z d1[a]!) d1 i1 (z - 1) = j1 at *
  by_cases hij : i1 > j1
  · have hd : decide ((i1 : Int) > (j1 : Int)) = true := by simp; omega
    rw [if_pos hij] at hpe
    simp only [vsA, arith, cmpI, ldK, V.flat, V.one, V.cells, ↓reduceIte, reduceCtorEq, Nat.reduceEqDiff, Nat.reduceLeDiff, Nat.reduceAdd, Nat.reduceMul, fill, vc36, vc36_1, vc36_2, vc36_3, vc36_4, vc36_5, vc36_6, vc36_7, vc36_8, vc36_9, vc36_10, vc36_11, vc36_12, vc36_101, vc36_102, vc36_103, vc36_105, vc36_106, vc36_107, vc36_109, vc36_110, vc36_111, vc36_112, vc36_113, vc36_114, vc36_115, vc36_116, vc36_117, vc36_118, vc36_119, vc36_120, vc36_121, vc36_122, vc36_123, vc36_124, vc36_125, vc36_126, vc36_127, vc36_128, vc36_129, vc36_131, vc36_132, vc36_133, k12, k13, hd]
    refine sw36_72 (c := c) hT hr1 hs1.symm (i := j1) (j := a) (by omega) (by omega) (by simp only [vsA, arith, cmpI, ldK, V.flat, V.one, V.cells, ↓reduceIte, reduceCtorEq, Nat.reduceEqDiff, Nat.reduceLeDiff, Nat.reduceAdd, Nat.reduceMul, fill, k0]) (by simp only [vsA, arith, cmpI, ldK, V.flat, V.one, V.cells, ↓reduceIte, reduceCtorEq, Nat.reduceEqDiff, Nat.reduceLeDiff, Nat.reduceAdd, Nat.reduceMul, fill, k13]) (by simp only [vsA, arith, cmpI, ldK, V.flat, V.one, V.cells, ↓reduceIte, reduceCtorEq, Nat.reduceEqDiff, Nat.reduceLeDiff, Nat.reduceAdd, Nat.reduceMul, fill, k1]) ?_
    intro env4 he4
    have l13 : env4 13 = .int .i64 (j1 : Int) := (he4 13 (by omega)).trans (by simp only [vsA, arith, cmpI, ldK, V.flat, V.one, V.cells, ↓reduceIte, reduceCtorEq, Nat.reduceEqDiff, Nat.reduceLeDiff, Nat.reduceAdd, Nat.reduceMul, fill, k13])
    simp only [vsA, arith, cmpI, ldK, V.flat, V.one, V.cells, ↓reduceIte, reduceCtorEq, Nat.reduceEqDiff, Nat.reduceLeDiff, Nat.reduceAdd, Nat.reduceMul, fill, vc36, vc36_1, vc36_2, vc36_3, vc36_4, vc36_5, vc36_6, vc36_7, vc36_8, vc36_9, vc36_10, vc36_11, vc36_12, vc36_101, vc36_102, vc36_103, vc36_104, vc36_105, vc36_106, vc36_107, vc36_108, vc36_109, vc36_110, vc36_111, vc36_112, vc36_113, vc36_114, vc36_115, vc36_116, vc36_117, vc36_118, vc36_119, vc36_120, vc36_121, vc36_122, vc36_123, vc36_124, vc36_125, vc36_126, vc36_127, vc36_128, vc36_129, vc36_130, vc36_131, vc36_132, vc36_133, vc36_134, vc36_1014, vc36_1032, vc36_1050, vc36_1072, vc36_1087, vc36_1105, vc36_1123, vc36_1145, vc36_1163, l13]
    refine Rets.of ?_
    rw [hR, hpe]
    exact ⟨rfl, by simp only [Store.set_set], hr1.swp (by omega) (by omega)⟩
  · have hd : decide ((i1 : Int) > (j1 : Int)) = false := by simp; omega
    rw [if_neg hij] at hpe
    simp only [vsA, arith, cmpI, ldK, V.flat, V.one, V.cells, ↓reduceIte, reduceCtorEq, Nat.reduceEqDiff, Nat.reduceLeDiff, Nat.reduceAdd, Nat.reduceMul, fill, vc36, vc36_1, vc36_2, vc36_3, vc36_4, vc36_5, vc36_6, vc36_7, vc36_8, vc36_9, vc36_10, vc36_11, vc36_12, vc36_101, vc36_102, vc36_103, vc36_105, vc36_106, vc36_107, vc36_109, vc36_110, vc36_111, vc36_112, vc36_113, vc36_114, vc36_115, vc36_116, vc36_117, vc36_118, vc36_119, vc36_120, vc36_121, vc36_122, vc36_123, vc36_124, vc36_125, vc36_126, vc36_127, vc36_128, vc36_129, vc36_131, vc36_132, vc36_133, k12, k13, hd]
    refine sw36_87 (c := c) hT hr1 hs1.symm (i := i1) (j := j1) (by omega) (by omega) (by simp only [vsA, arith, cmpI, ldK, V.flat, V.one, V.cells, ↓reduceIte, reduceCtorEq, Nat.reduceEqDiff, Nat.reduceLeDiff, Nat.reduceAdd, Nat.reduceMul, fill, k0]) (by simp only [vsA, arith, cmpI, ldK, V.flat, V.one, V.cells, ↓reduceIte, reduceCtorEq, Nat.reduceEqDiff, Nat.reduceLeDiff, Nat.reduceAdd, Nat.reduceMul, fill, k12]) (by simp only [vsA, arith, cmpI, ldK, V.flat, V.one, V.cells, ↓reduceIte, reduceCtorEq, Nat.reduceEqDiff, Nat.reduceLeDiff, Nat.reduceAdd, Nat.reduceMul, fill, k13]) ?_
    intro env4 he4
    have l0 : env4 0 = .sl b 0 d.size c := (he4 0 (by omega)).trans (by simp only [vsA, arith, cmpI, ldK, V.flat, V.one, V.cells, ↓reduceIte, reduceCtorEq, Nat.reduceEqDiff, Nat.reduceLeDiff, Nat.reduceAdd, Nat.reduceMul, fill, k0])
    have l1 : env4 1 = .int .i64 a := (he4 1 (by omega)).trans (by simp only [vsA, arith, cmpI, ldK, V.flat, V.one, V.cells, ↓reduceIte, reduceCtorEq, Nat.reduceEqDiff, Nat.reduceLeDiff, Nat.reduceAdd, Nat.reduceMul, fill, k1])
    have l4 : env4 4 = .fn k first cap := (he4 4 (by omega)).trans (by simp only [vsA, arith, cmpI, ldK, V.flat, V.one, V.cells, ↓reduceIte, reduceCtorEq, Nat.reduceEqDiff, Nat.reduceLeDiff, Nat.reduceAdd, Nat.reduceMul, fill, k4])
    have l12 : env4 12 = .int .i64 (i1 : Int) := (he4 12 (by omega)).trans (by simp only [vsA, arith, cmpI, ldK, V.flat, V.one, V.cells, ↓reduceIte, reduceCtorEq, Nat.reduceEqDiff, Nat.reduceLeDiff, Nat.reduceAdd, Nat.reduceMul, fill, k12])
    have l13 : env4 13 = .int .i64 (j1 : Int) := (he4 13 (by omega)).trans (by simp only [vsA, arith, cmpI, ldK, V.flat, V.one, V.cells, ↓reduceIte, reduceCtorEq, Nat.reduceEqDiff, Nat.reduceLeDiff, Nat.reduceAdd, Nat.reduceMul, fill, k13])
    simp only [vsA, arith, cmpI, ldK, V.flat, V.one, V.cells, ↓reduceIte, reduceCtorEq, Nat.reduceEqDiff, Nat.reduceLeDiff, Nat.reduceAdd, Nat.reduceMul, fill, vc36, vc36_1, vc36_2, vc36_3, vc36_4, vc36_5, vc36_6, vc36_7, vc36_8, vc36_9, vc36_10, vc36_11, vc36_12, vc36_101, vc36_102, vc36_103, vc36_105, vc36_106, vc36_107, vc36_109, vc36_110, vc36_111, vc36_112, vc36_113, vc36_114, vc36_115, vc36_116, vc36_117, vc36_118, vc36_119, vc36_121, vc36_122, vc36_123, vc36_124, vc36_125, vc36_126, vc36_127, vc36_128, vc36_129, vc36_131, vc36_132, vc36_133, l12, l13, wadd1 (show i1 ≤ 140737488355328 by omega), wsub1 (show j1 ≤ 140737488355328 by omega) (show 1 ≤ j1 by omega)]
    have hr2 := hr1.swp (show i1 < d1.size by omega) (show j1 < d1.size by omega)
    generalize hd2 : swp d1 i1 j1 = d2 at *
    have hs2 : d2.size = d.size := by rw [← hd2]; simp [swp, hs1]
    refine w_loop (fun env' σ' => ∃ (i j : Nat) (d' : Row), env' 0 = .sl b 0 d.size c ∧ env' 1 = .int .i64 a ∧ env' 4 = .fn k first cap ∧ env' 12 = .int .i64 i ∧ env' 13 = .int .i64 j ∧ RowOk e b σ0 σ' T d' sl ∧ σ' = σ.set b (.row (flat d') sl) ∧
        d'.size = d.size ∧ a < i ∧ j < z ∧ partLoop (ltc cf) a i j d' = partLoop (ltc cf) a (i1 + 1) (j1 - 1) d2)
      (fun env' _ => (env' 13).nat + 1 - (env' 12).nat) ⟨i1 + 1, j1 - 1, d2, by simp only [vsA, arith, cmpI, ldK, V.flat, V.one, V.cells, ↓reduceIte, reduceCtorEq, Nat.reduceEqDiff, Nat.reduceLeDiff, Nat.reduceAdd, Nat.reduceMul, fill, l0], by simp only [vsA, arith, cmpI, ldK, V.flat, V.one, V.cells, ↓reduceIte, reduceCtorEq, Nat.reduceEqDiff, Nat.reduceLeDiff, Nat.reduceAdd, Nat.reduceMul, fill, l1], by simp only [vsA, arith, cmpI, ldK, V.flat, V.one, V.cells, ↓reduceIte, reduceCtorEq, Nat.reduceEqDiff, Nat.reduceLeDiff, Nat.reduceAdd, Nat.reduceMul, fill, l4], by simp only [vsA, arith, cmpI, ldK, V.flat, V.one, V.cells, ↓reduceIte, reduceCtorEq, Nat.reduceEqDiff, Nat.reduceLeDiff, Nat.reduceAdd, Nat.reduceMul, fill], by simp only [vsA, arith, cmpI, ldK, V.flat, V.one, V.cells, ↓reduceIte, reduceCtorEq, Nat.reduceEqDiff, Nat.reduceLeDiff, Nat.reduceAdd, Nat.reduceMul, fill], hr2, by simp only [Store.set_set], hs2, by omega, by omega, rfl⟩ ?_
    rintro env' σ' ⟨i, j, d', e0, e1, e4, e12, e13, hr, hσ', hsz, hai, hjz, hpl⟩
    rw [partLoop_eq] at hpl
    simp only [vsA, arith, cmpI, ldK, V.flat, V.one, V.cells, ↓reduceIte, reduceCtorEq, Nat.reduceEqDiff, Nat.reduceLeDiff, Nat.reduceAdd, Nat.reduceMul, fill, vc36, vc36_1, vc36_2, vc36_3, vc36_4, vc36_5, vc36_6, vc36_7, vc36_8, vc36_9, vc36_10, vc36_11, vc36_12, vc36_101, vc36_102, vc36_103, vc36_105, vc36_106, vc36_107, vc36_109, vc36_110, vc36_111, vc36_112, vc36_113, vc36_114, vc36_115, vc36_116, vc36_117, vc36_118, vc36_119, vc36_120, vc36_121, vc36_122, vc36_123, vc36_124, vc36_125, vc36_126, vc36_127, vc36_128, vc36_129, vc36_131, vc36_132, vc36_133]
    refine lp36_105 (c := c) hT hc hr hsz.symm (by omega) (i := i) (j := j) (a := a) (by omega) (by omega) e0 e4 e12 e13 e1 ?_
    intro env5 he5 m12
    have m0 : env5 0 = .sl b 0 d.size c := (he5 0 (by omega) (by omega)).trans e0
    have m1 : env5 1 = .int .i64 a := (he5 1 (by omega) (by omega)).trans e1
    have m4 : env5 4 = .fn k first cap := (he5 4 (by omega) (by omega)).trans e4
    have m13 : env5 13 = .int .i64 (j : Int) := (he5 13 (by omega) (by omega)).trans e13
    have hi2 := scanUp_ge (fun z => ltc cf z d'[a]!) d' j i
    generalize scanUp (fun z => ltc cf z d'[a]!) d' j i = i2 at *
    simp only [vsA, arith, cmpI, ldK, V.flat, V.one, V.cells, ↓reduceIte, reduceCtorEq, Nat.reduceEqDiff, Nat.reduceLeDiff, Nat.reduceAdd, Nat.reduceMul, fill, vc36, vc36_1, vc36_2, vc36_3, vc36_4, vc36_5, vc36_6, vc36_7, vc36_8, vc36_9, vc36_10, vc36_11, vc36_12, vc36_101, vc36_102, vc36_103, vc36_105, vc36_106, vc36_107, vc36_109, vc36_110, vc36_111, vc36_112, vc36_113, vc36_114, vc36_115, vc36_116, vc36_117, vc36_118, vc36_119, vc36_120, vc36_121, vc36_122, vc36_123, vc36_124, vc36_125, vc36_126, vc36_127, vc36_128, vc36_129, vc36_131, vc36_132, vc36_133]
    refine lp36_123 (c := c) hT hc hr hsz.symm (by omega) (i := i2) (j := j) (a := a) (by omega) (by omega) (by omega) m0 m4 m12 m13 m1 ?_
    intro env6 he6 q13
    have q0 : env6 0 = .sl b 0 d.size c := (he6 0 (by omega) (by omega)).trans m0
    have q1 : env6 1 = .int .i64 a := (he6 1 (by omega) (by omega)).trans m1
    have q4 : env6 4 = .fn k first cap := (he6 4 (by omega) (by omega)).trans m4
    have q12 : env6 12 = .int .i64 (i2 : Int) := (he6 12 (by omega) (by omega)).trans m12
    have hj2 := scanDown_le (fun z => !ltc cf z d'[a]!) d' i2 j
    generalize scanDown (fun z => !ltc cf z d'[a]!) d' i2 j = j2 at *
    by_cases hij2 : i2 > j2
    · have hdd : decide ((i2 : Int) > (j2 : Int)) = true := by simp; omega
      rw [if_pos hij2] at hpl
      simp only [vsA, arith, cmpI, ldK, V.flat, V.one, V.cells, ↓reduceIte, reduceCtorEq, Nat.reduceEqDiff, Nat.reduceLeDiff, Nat.reduceAdd, Nat.reduceMul, fill, vc36, vc36_1, vc36_2, vc36_3, vc36_4, vc36_5, vc36_6, vc36_7, vc36_8, vc36_9, vc36_10, vc36_11, vc36_12, vc36_101, vc36_102, vc36_103, vc36_105, vc36_106, vc36_107, vc36_109, vc36_110, vc36_111, vc36_112, vc36_113, vc36_114, vc36_115, vc36_116, vc36_117, vc36_118, vc36_119, vc36_120, vc36_121, vc36_122, vc36_123, vc36_124, vc36_125, vc36_126, vc36_127, vc36_128, vc36_129, vc36_131, vc36_132, vc36_133, q12, q13, hdd]
      refine sw36_163 (c := c) hT hr hsz.symm (i := j2) (j := a) (by omega) (by omega) (by simp only [vsA, arith, cmpI, ldK, V.flat, V.one, V.cells, ↓reduceIte, reduceCtorEq, Nat.reduceEqDiff, Nat.reduceLeDiff, Nat.reduceAdd, Nat.reduceMul, fill, q0]) (by simp only [vsA, arith, cmpI, ldK, V.flat, V.one, V.cells, ↓reduceIte, reduceCtorEq, Nat.reduceEqDiff, Nat.reduceLeDiff, Nat.reduceAdd, Nat.reduceMul, fill, q13]) (by simp only [vsA, arith, cmpI, ldK, V.flat, V.one, V.cells, ↓reduceIte, reduceCtorEq, Nat.reduceEqDiff, Nat.reduceLeDiff, Nat.reduceAdd, Nat.reduceMul, fill, q1]) ?_
      intro env7 he7
      have r13 : env7 13 = .int .i64 (j2 : Int) := (he7 13 (by omega)).trans (by simp only [vsA, arith, cmpI, ldK, V.flat, V.one, V.cells, ↓reduceIte, reduceCtorEq, Nat.reduceEqDiff, Nat.reduceLeDiff, Nat.reduceAdd, Nat.reduceMul, fill, q13])
      simp only [vsA, arith, cmpI, ldK, V.flat, V.one, V.cells, ↓reduceIte, reduceCtorEq, Nat.reduceEqDiff, Nat.reduceLeDiff, Nat.reduceAdd, Nat.reduceMul, fill, vc36, vc36_1, vc36_2, vc36_3, vc36_4, vc36_5, vc36_6, vc36_7, vc36_8, vc36_9, vc36_10, vc36_11, vc36_12, vc36_101, vc36_102, vc36_103, vc36_104, vc36_105, vc36_106, vc36_107, vc36_108, vc36_109, vc36_110, vc36_111, vc36_112, vc36_113, vc36_114, vc36_115, vc36_116, vc36_117, vc36_118, vc36_119, vc36_120, vc36_121, vc36_122, vc36_123, vc36_124, vc36_125, vc36_126, vc36_127, vc36_128, vc36_129, vc36_130, vc36_131, vc36_132, vc36_133, vc36_134, vc36_1014, vc36_1032, vc36_1050, vc36_1072, vc36_1087, vc36_1105, vc36_1123, vc36_1145, vc36_1163, r13]
      refine Rets.of ?_
      rw [hR, hpe, ← hpl]
      exact ⟨rfl, by rw [hσ', Store.set_set], hr.swp (by omega) (by omega)⟩
    · have hdd : decide ((i2 : Int) > (j2 : Int)) = false := by simp; omega
      rw [if_neg hij2] at hpl
      simp only [vsA, arith, cmpI, ldK, V.flat, V.one, V.cells, ↓reduceIte, reduceCtorEq, Nat.reduceEqDiff, Nat.reduceLeDiff, Nat.reduceAdd, Nat.reduceMul, fill, vc36, vc36_1, vc36_2, vc36_3, vc36_4, vc36_5, vc36_6, vc36_7, vc36_8, vc36_9, vc36_10, vc36_11, vc36_12, vc36_101, vc36_102, vc36_103, vc36_105, vc36_106, vc36_107, vc36_109, vc36_110, vc36_111, vc36_112, vc36_113, vc36_114, vc36_115, vc36_116, vc36_117, vc36_118, vc36_119, vc36_120, vc36_121, vc36_122, vc36_123, vc36_124, vc36_125, vc36_126, vc36_127, vc36_128, vc36_129, vc36_131, vc36_132, vc36_133, q12, q13, hdd]
      refine sw36_145 (c := c) hT hr hsz.symm (i := i2) (j := j2) (by omega) (by omega) (by simp only [vsA, arith, cmpI, ldK, V.flat, V.one, V.cells, ↓reduceIte, reduceCtorEq, Nat.reduceEqDiff, Nat.reduceLeDiff, Nat.reduceAdd, Nat.reduceMul, fill, q0]) (by simp only [vsA, arith, cmpI, ldK, V.flat, V.one, V.cells, ↓reduceIte, reduceCtorEq, Nat.reduceEqDiff, Nat.reduceLeDiff, Nat.reduceAdd, Nat.reduceMul, fill, q12]) (by simp only [vsA, arith, cmpI, ldK, V.flat, V.one, V.cells, ↓reduceIte, reduceCtorEq, Nat.reduceEqDiff, Nat.reduceLeDiff, Nat.reduceAdd, Nat.reduceMul, fill, q13]) ?_
      intro env7 he7
      have r0 : env7 0 = .sl b 0 d.size c := (he7 0 (by omega)).trans (by simp only [vsA, arith, cmpI, ldK, V.flat, V.one, V.cells, ↓reduceIte, reduceCtorEq, Nat.reduceEqDiff, Nat.reduceLeDiff, Nat.reduceAdd, Nat.reduceMul, fill, q0])
      have r1 : env7 1 = .int .i64 a := (he7 1 (by omega)).trans (by simp only [vsA, arith, cmpI, ldK, V.flat, V.one, V.cells, ↓reduceIte, reduceCtorEq, Nat.reduceEqDiff, Nat.reduceLeDiff, Nat.reduceAdd, Nat.reduceMul, fill, q1])
      have r4 : env7 4 = .fn k first cap := (he7 4 (by omega)).trans (by simp only [vsA, arith, cmpI, ldK, V.flat, V.one, V.cells, ↓reduceIte, reduceCtorEq, Nat.reduceEqDiff, Nat.reduceLeDiff, Nat.reduceAdd, Nat.reduceMul, fill, q4])
      have r12 : env7 12 = .int .i64 (i2 : Int) := (he7 12 (by omega)).trans (by simp only [vsA, arith, cmpI, ldK, V.flat, V.one, V.cells, ↓reduceIte, reduceCtorEq, Nat.reduceEqDiff, Nat.reduceLeDiff, Nat.reduceAdd, Nat.reduceMul, fill, q12])
      have r13 : env7 13 = .int .i64 (j2 : Int) := (he7 13 (by omega)).trans (by simp only [vsA, arith, cmpI, ldK, V.flat, V.one, V.cells, ↓reduceIte, reduceCtorEq, Nat.reduceEqDiff, Nat.reduceLeDiff, Nat.reduceAdd, Nat.reduceMul, fill, q13])
      simp only [vsA, arith, cmpI, ldK, V.flat, V.one, V.cells, ↓reduceIte, reduceCtorEq, Nat.reduceEqDiff, Nat.reduceLeDiff, Nat.reduceAdd, Nat.reduceMul, fill, vc36, vc36_1, vc36_2, vc36_3, vc36_4, vc36_5, vc36_6, vc36_7, vc36_8, vc36_9, vc36_10, vc36_11, vc36_12, vc36_101, vc36_102, vc36_103, vc36_104, vc36_105, vc36_106, vc36_107, vc36_108, vc36_109, vc36_110, vc36_111, vc36_112, vc36_113, vc36_114, vc36_115, vc36_116, vc36_117, vc36_118, vc36_119, vc36_120, vc36_121, vc36_122, vc36_123, vc36_124, vc36_125, vc36_126, vc36_127, vc36_128, vc36_129, vc36_130, vc36_131, vc36_132, vc36_133, vc36_134, vc36_1014, vc36_1032, vc36_1050, vc36_1072, vc36_1087, vc36_1105, vc36_1123, vc36_1145, vc36_1163, r0, r1, r4, r12, r13, wadd1 (show i2 ≤ 140737488355328 by omega), wsub1 (show j2 ≤ 140737488355328 by omega) (show 1 ≤ j2 by omega), e12, e13, nat_int]
      refine ⟨⟨i2 + 1, rfl, j2 - 1, rfl, swp d' i2 j2, hr.swp (by omega) (by omega), ?_, ?_, by omega, by omega, hpl⟩, by omega⟩
      · rw [hσ', Store.set_set]
      · simp [swp, hsz]

set_option maxHeartbeats 1000000 in
theorem parteq_do (L : Lays P e φ) (hT : ∀ x, T x → x.length = e) (hc : CmpOk P b σ0 T cf k first cap) (h : RowOk e b σ0 σ T d sl) (hn : d.size ≤ 140737488355328) {a z p : Nat} (hap : a ≤ p) (hpz : p < z) (hz : z ≤ d.size) :
    VCalls P (φ 35) [.sl b 0 d.size c, .int .i64 a, .int .i64 z, .int .i64 p, .fn k first cap] σ (fun v σ' => v = .int .i64 (partitionEqual (ltc cf) d a z p).1 ∧
      σ' = σ.set b (.row (flat (partitionEqual (ltc cf) d a z p).2) sl) ∧ RowOk e b σ0 σ' T (partitionEqual (ltc cf) d a z p).2 sl) := by
  refine vcalls_of L.c35 (fun _ hok => ?_)
  obtain ⟨R, hR⟩ : ∃ R : V → Store → Prop, R = (fun v σ' => v = .int .i64 (partitionEqual (ltc cf) d a z p).1 ∧
      σ' = σ.set b (.row (flat (partitionEqual (ltc cf) d a z p).2) sl) ∧ RowOk e b σ0 σ' T (partitionEqual (ltc cf) d a z p).2 sl) := ⟨_, rfl⟩
  rw [← hR]
  have hpe : partitionEqual (ltc cf) d a z p = partEqLoop (ltc cf) a (a + 1) (z - 1) (swp d a p) := rfl
  simp only [vsA, arith, cmpI, ldK, V.flat, V.one, V.cells, ↓reduceIte, reduceCtorEq, Nat.reduceEqDiff, Nat.reduceLeDiff, Nat.reduceAdd, Nat.reduceMul, fill, vc35, vc35_1, vc35_2, vc35_3, vc35_4, vc35_5, vc35_101, vc35_102, vc35_103, vc35_105, vc35_106, vc35_107, vc35_109, vc35_110, vc35_111, vc35_112, vc35_113, vc35_114, vc35_115, vc35_116, vc35_117, vc35_118, vc35_119]
  refine sw35_13 (c := c) hT h rfl (show a < d.size by omega) (show p < d.size by omega) (by simp only [vsA, arith, cmpI, ldK, V.flat, V.one, V.cells, ↓reduceIte, reduceCtorEq, Nat.reduceEqDiff, Nat.reduceLeDiff, Nat.reduceAdd, Nat.reduceMul, fill]) (by simp only [vsA, arith, cmpI, ldK, V.flat, V.one, V.cells, ↓reduceIte, reduceCtorEq, Nat.reduceEqDiff, Nat.reduceLeDiff, Nat.reduceAdd, Nat.reduceMul, fill]) (by simp only [vsA, arith, cmpI, ldK, V.flat, V.one, V.cells, ↓reduceIte, reduceCtorEq, Nat.reduceEqDiff, Nat.reduceLeDiff, Nat.reduceAdd, Nat.reduceMul, fill]) ?_
  intro env1 he1
  have hr1 := h.swp (show a < d.size by omega) (show p < d.size by omega)
  generalize hd1 : swp d a p = d1 at *
  have hs1 : d1.size = d.size := by rw [← hd1]; simp [swp]
  have f0 : env1 0 = .sl b 0 d.size c := (he1 0 (by omega)).trans (by simp only [vsA, arith, cmpI, ldK, V.flat, V.one, V.cells, ↓reduceIte, reduceCtorEq, Nat.reduceEqDiff, Nat.reduceLeDiff, Nat.reduceAdd, Nat.reduceMul, fill])
  have f1 : env1 1 = .int .i64 a := (he1 1 (by omega)).trans (by simp only [vsA, arith, cmpI, ldK, V.flat, V.one, V.cells, ↓reduceIte, reduceCtorEq, Nat.reduceEqDiff, Nat.reduceLeDiff, Nat.reduceAdd, Nat.reduceMul, fill])
  have f2 : env1 2 = .int .i64 z := (he1 2 (by omega)).trans (by simp only [vsA, arith, cmpI, ldK, V.flat, V.one, V.cells, ↓reduceIte, reduceCtorEq, Nat.reduceEqDiff, Nat.reduceLeDiff, Nat.reduceAdd, Nat.reduceMul, fill])
  have f4 : env1 4 = .fn k first cap := (he1 4 (by omega)).trans (by simp only [vsA, arith, cmpI, ldK, V.flat, V.one, V.cells, ↓reduceIte, reduceCtorEq, Nat.reduceEqDiff, Nat.reduceLeDiff, Nat.reduceAdd, Nat.reduceMul, fill])
  simp only [vsA, arith, cmpI, ldK, V.flat, V.one, V.cells, ↓reduceIte, reduceCtorEq, Nat.reduceEqDiff, Nat.reduceLeDiff, Nat.reduceAdd, Nat.reduceMul, fill, vc35, vc35_1, vc35_2, vc35_3, vc35_4, vc35_5, vc35_101, vc35_102, vc35_103, vc35_105, vc35_106, vc35_107, vc35_109, vc35_110, vc35_111, vc35_112, vc35_113, vc35_114, vc35_115, vc35_116, vc35_117, vc35_118, vc35_119, f1, f2, wadd1 (show a ≤ 140737488355328 by omega), wsub1 (show z ≤ 140737488355328 by omega) (show 1 ≤ z by omega)]
  refine w_loop (fun env' σ' => ∃ (i j : Nat) (d' : Row), env' 0 = .sl b 0 d.size c ∧ env' 1 = .int .i64 a ∧ env' 4 = .fn k first cap ∧ env' 11 = .int .i64 i ∧ env' 12 = .int .i64 j ∧ RowOk e b σ0 σ' T d' sl ∧ σ' = σ.set b (.row (flat d') sl) ∧
      d'.size = d.size ∧ a < i ∧ j < z ∧ partEqLoop (ltc cf) a i j d' = partEqLoop (ltc cf) a (a + 1) (z - 1) d1)
    (fun env' _ => (env' 12).nat + 1 - (env' 11).nat) ⟨a + 1, z - 1, d1, by simp only [vsA, arith, cmpI, ldK, V.flat, V.one, V.cells, ↓reduceIte, reduceCtorEq, Nat.reduceEqDiff, Nat.reduceLeDiff, Nat.reduceAdd, Nat.reduceMul, fill, f0], by simp only [vsA, arith, cmpI, ldK, V.flat, V.one, V.cells, ↓reduceIte, reduceCtorEq, Nat.reduceEqDiff, Nat.reduceLeDiff, Nat.reduceAdd, Nat.reduceMul, fill, f1], by simp only [vsA, arith, cmpI, ldK, V.flat, V.one, V.cells, ↓reduceIte, reduceCtorEq, Nat.reduceEqDiff, Nat.reduceLeDiff, Nat.reduceAdd, Nat.reduceMul, fill, f4], by simp only [vsA, arith, cmpI, ldK, V.flat, V.one, V.cells, ↓reduceIte, reduceCtorEq, Nat.reduceEqDiff, Nat.reduceLeDiff, Nat.reduceAdd, Nat.reduceMul, fill], by simp only [vsA, arith, cmpI, ldK, V.flat, V.one, V.cells, ↓reduceIte, reduceCtorEq, Nat.reduceEqDiff, Nat.reduceLeDiff, Nat.reduceAdd, Nat.reduceMul, fill], hr1, rfl, hs1, by omega, by omega, rfl⟩ ?_
  rintro env' σ' ⟨i, j, d', e0, e1, e4, e11, e12, hr, hσ', hsz, hai, hjz, hpl⟩
  rw [partEqLoop_eq] at hpl
  simp only [vsA, arith, cmpI, ldK, V.flat, V.one, V.cells, ↓reduceIte, reduceCtorEq, Nat.reduceEqDiff, Nat.reduceLeDiff, Nat.reduceAdd, Nat.reduceMul, fill, vc35, vc35_1, vc35_2, vc35_3, vc35_4, vc35_5, vc35_101, vc35_102, vc35_103, vc35_105, vc35_106, vc35_107, vc35_109, vc35_110, vc35_111, vc35_112, vc35_113, vc35_114, vc35_115, vc35_116, vc35_117, vc35_118, vc35_119, vc35_120]
  refine lp35_31 (c := c) hT hc hr hsz.symm (by omega) (i := i) (j := j) (a := a) (by omega) (by omega) e0 e4 e11 e12 e1 ?_
  intro env5 he5 m11
  have m0 : env5 0 = .sl b 0 d.size c := (he5 0 (by omega) (by omega)).trans e0
  have m1 : env5 1 = .int .i64 a := (he5 1 (by omega) (by omega)).trans e1
  have m4 : env5 4 = .fn k first cap := (he5 4 (by omega) (by omega)).trans e4
  have m12 : env5 12 = .int .i64 (j : Int) := (he5 12 (by omega) (by omega)).trans e12
  have hi2 := scanUp_ge (fun z => !ltc cf d'[a]! z) d' j i
  generalize scanUp (fun z => !ltc cf d'[a]! z) d' j i = i2 at *
  simp only [vsA, arith, cmpI, ldK, V.flat, V.one, V.cells, ↓reduceIte, reduceCtorEq, Nat.reduceEqDiff, Nat.reduceLeDiff, Nat.reduceAdd, Nat.reduceMul, fill, vc35, vc35_1, vc35_2, vc35_3, vc35_4, vc35_5, vc35_101, vc35_102, vc35_103, vc35_105, vc35_106, vc35_107, vc35_109, vc35_110, vc35_111, vc35_112, vc35_113, vc35_114, vc35_115, vc35_116, vc35_117, vc35_118, vc35_119, vc35_120]
  refine lp35_50 (c := c) hT hc hr hsz.symm (by omega) (i := i2) (j := j) (a := a) (by omega) (by omega) (by omega) m0 m4 m11 m12 m1 ?_
  intro env6 he6 q12
  have q0 : env6 0 = .sl b 0 d.size c := (he6 0 (by omega) (by omega)).trans m0
  have q1 : env6 1 = .int .i64 a := (he6 1 (by omega) (by omega)).trans m1
  have q4 : env6 4 = .fn k first cap := (he6 4 (by omega) (by omega)).trans m4
  have q11 : env6 11 = .int .i64 (i2 : Int) := (he6 11 (by omega) (by omega)).trans m11
  have hj2 := scanDown_le (fun z => ltc cf d'[a]! z) d' i2 j
  generalize scanDown (fun z => ltc cf d'[a]! z) d' i2 j = j2 at *
  by_cases hij2 : i2 > j2
  · have hdd : decide ((i2 : Int) > (j2 : Int)) = true := by simp; omega
    rw [if_pos hij2] at hpl
    simp only [vsA, arith, cmpI, ldK, V.flat, V.one, V.cells, ↓reduceIte, reduceCtorEq, Nat.reduceEqDiff, Nat.reduceLeDiff, Nat.reduceAdd, Nat.reduceMul, fill, vc35, vc35_1, vc35_2, vc35_3, vc35_4, vc35_5, vc35_101, vc35_102, vc35_103, vc35_104, vc35_105, vc35_106, vc35_107, vc35_108, vc35_109, vc35_110, vc35_111, vc35_112, vc35_113, vc35_114, vc35_115, vc35_116, vc35_117, vc35_118, vc35_119, vc35_120, vc35_1013, vc35_1031, vc35_1050, vc35_1071, q11, q12, hdd]
    refine Rets.of ?_
    rw [hR, hpe, ← hpl]
    exact ⟨rfl, hσ', hr⟩
  · have hdd : decide ((i2 : Int) > (j2 : Int)) = false := by simp; omega
    rw [if_neg hij2] at hpl
    simp only [vsA, arith, cmpI, ldK, V.flat, V.one, V.cells, ↓reduceIte, reduceCtorEq, Nat.reduceEqDiff, Nat.reduceLeDiff, Nat.reduceAdd, Nat.reduceMul, fill, vc35, vc35_1, vc35_2, vc35_3, vc35_4, vc35_5, vc35_101, vc35_102, vc35_103, vc35_105, vc35_106, vc35_107, vc35_109, vc35_110, vc35_111, vc35_112, vc35_113, vc35_114, vc35_115, vc35_116, vc35_117, vc35_118, vc35_119, vc35_120, q11, q12, hdd]
    refine sw35_71 (c := c) hT hr hsz.symm (i := i2) (j := j2) (by omega) (by omega) (by simp only [vsA, arith, cmpI, ldK, V.flat, V.one, V.cells, ↓reduceIte, reduceCtorEq, Nat.reduceEqDiff, Nat.reduceLeDiff, Nat.reduceAdd, Nat.reduceMul, fill, q0]) (by simp only [vsA, arith, cmpI, ldK, V.flat, V.one, V.cells, ↓reduceIte, reduceCtorEq, Nat.reduceEqDiff, Nat.reduceLeDiff, Nat.reduceAdd, Nat.reduceMul, fill, q11]) (by simp only [vsA, arith, cmpI, ldK, V.flat, V.one, V.cells, ↓reduceIte, reduceCtorEq, Nat.reduceEqDiff, Nat.reduceLeDiff, Nat.reduceAdd, Nat.reduceMul, fill, q12]) ?_
    intro env7 he7
    have r0 : env7 0 = .sl b 0 d.size c := (he7 0 (by omega)).trans (by simp only [vsA, arith, cmpI, ldK, V.flat, V.one, V.cells, ↓reduceIte, reduceCtorEq, Nat.reduceEqDiff, Nat.reduceLeDiff, Nat.reduceAdd, Nat.reduceMul, fill, q0])
    have r1 : env7 1 = .int .i64 a := (he7 1 (by omega)).trans (by simp only [vsA, arith, cmpI, ldK, V.flat, V.one, V.cells, ↓reduceIte, reduceCtorEq, Nat.reduceEqDiff, Nat.reduceLeDiff, Nat.reduceAdd, Nat.reduceMul, fill, q1])
    have r4 : env7 4 = .fn k first cap := (he7 4 (by omega)).trans (by simp only [vsA, arith, cmpI, ldK, V.flat, V.one, V.cells, ↓reduceIte, reduceCtorEq, Nat.reduceEqDiff, Nat.reduceLeDiff, Nat.reduceAdd, Nat.reduceMul, fill, q4])
    have r11 : env7 11 = .int .i64 (i2 : Int) := (he7 11 (by omega)).trans (by simp only [vsA, arith, cmpI, ldK, V.flat, V.one, V.cells, ↓reduceIte, reduceCtorEq, Nat.reduceEqDiff, Nat.reduceLeDiff, Nat.reduceAdd, Nat.reduceMul, fill, q11])
    have r12 : env7 12 = .int .i64 (j2 : Int) := (he7 12 (by omega)).trans (by simp only [vsA, arith, cmpI, ldK, V.flat, V.one, V.cells, ↓reduceIte, reduceCtorEq, Nat.reduceEqDiff, Nat.reduceLeDiff, Nat.reduceAdd, Nat.reduceMul, fill, q12])
    simp only [vsA, arith, cmpI, ldK, V.flat, V.one, V.cells, ↓reduceIte, reduceCtorEq, Nat.reduceEqDiff, Nat.reduceLeDiff, Nat.reduceAdd, Nat.reduceMul, fill, vc35, vc35_1, vc35_2, vc35_3, vc35_4, vc35_5, vc35_101, vc35_102, vc35_103, vc35_104, vc35_105, vc35_106, vc35_107, vc35_108, vc35_109, vc35_110, vc35_111, vc35_112, vc35_113, vc35_114, vc35_115, vc35_116, vc35_117, vc35_118, vc35_119, vc35_120, vc35_1013, vc35_1031, vc35_1050, vc35_1071, r0, r1, r4, r11, r12, wadd1 (show i2 ≤ 140737488355328 by omega), wsub1 (show j2 ≤ 140737488355328 by omega) (show 1 ≤ j2 by omega), e11, e12, nat_int]
    refine ⟨⟨i2 + 1, rfl, j2 - 1, rfl, swp d' i2 j2, hr.swp (by omega) (by omega), ?_, ?_, by omega, by omega, hpl⟩, by omega⟩
    · rw [hσ', Store.set_set]
    · simp [swp, hsz]
end Go.Vm.Srt
