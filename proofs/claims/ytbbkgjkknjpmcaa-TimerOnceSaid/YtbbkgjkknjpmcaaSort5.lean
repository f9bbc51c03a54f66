/-
  The sort: partitionCmpFunc, partitionEqualCmpFunc.
-/
import Derived.Test.YtbbkgjkknjpmcaaSort4
set_option linter.unusedSimpArgs false
set_option linter.unusedVariables false
set_option linter.unusedSectionVars false
namespace Go.Vm.Srt
open Go Go.Vm Go.Sort

variable {P : Program} {e : Nat} {d : Row} {φ : Nat → Nat} {b sl c : Nat} {σ0 σ : Store} {T : List V → Prop} {cf : List V → List V → Int} {k : FuncId} {first cap : List V}
variable {Q : VExit → Env → Store → Prop} {env : Env} {n : Nat}

theorem scanUp_eq (p : List V → Bool) (d : Row) (j i : Nat) : scanUp p d j i = if (decide (i ≤ j) && p d[i]!) = true then scanUp p d j (i + 1) else i := by rw [scanUp]
theorem scanDown_eq (p : List V → Bool) (d : Row) (i j : Nat) (hi : 1 ≤ i) : scanDown p d i j = if (decide (i ≤ j) && p d[j]!) = true then scanDown p d i (j - 1) else j := by
  cases j with
  | zero => simp [scanDown, show ¬ i ≤ 0 by omega]
  | succ j => rw [scanDown]; rfl

theorem sw36_14 (hT : ∀ x, T x → x.length = e) (h : RowOk e b σ0 σ T d sl) (hn : n = d.size) {i j : Nat} (hi : i < d.size) (hj : j < d.size) (e0 : env 0 = .sl b 0 n c) (eI : env 1 = .int .i64 i) (eJ : env 3 = .int .i64 j)
    (hQ : ∀ env', (∀ s, s < 14 → env' s = env s) → Q .normal env' (σ.set b (.row (flat (swp d i j)) sl))) : vwp P (vc36_1014 e φ) Q env σ := by
  subst hn
  have hrd := Store.rd_row h.row
  have hal := h.len hT
  have g1 : (0 : Int) ≤ (j : Int) := by omega
  have g2 : (j : Int) < (d.size : Int) := by omega
  have g3 : (0 : Int) ≤ (i : Int) := by omega
  have g4 : (i : Int) < (d.size : Int) := by omega
  simp only [vsA, arith, cmpI, ldK, V.flat, V.one, V.cells, ↓reduceIte, reduceCtorEq, Nat.reduceEqDiff, Nat.reduceLeDiff, Nat.reduceAdd, Nat.reduceMul, fill, vc36, vc36_1, vc36_2, vc36_3, vc36_4, vc36_5, vc36_6, vc36_7, vc36_8, vc36_9, vc36_10, vc36_11, vc36_12, vc36_101, vc36_102, vc36_103, vc36_104, vc36_105, vc36_106, vc36_107, vc36_108, vc36_109, vc36_110, vc36_111, vc36_112, vc36_113, vc36_114, vc36_115, vc36_116, vc36_117, vc36_118, vc36_119, vc36_120, vc36_121, vc36_122, vc36_123, vc36_124, vc36_125, vc36_126, vc36_127, vc36_128, vc36_129, vc36_130, vc36_131, vc36_132, vc36_133, vc36_134, vc36_1014, vc36_1032, vc36_1050, vc36_1072, vc36_1087, vc36_1105, vc36_1123, vc36_1145, vc36_1163, e0, eI, eJ, hrd, g1, g2, g3, g4, le_flat hal hj, le_flat hal hi, get_flat hal hj, get_flat hal hi, h.row, set_flat hal hi, le2_flat hal hi, Store.get_set_same, Store.set_set, hal.get hj, hal.get hi,
    le2_flat (hal.set (i := i) (hal.get hj)) (show j < _ by rw [size_set]; exact hj), set_flat (hal.set (i := i) (hal.get hj)) (show j < _ by rw [size_set]; exact hj)]
  refine hQ _ (fun s hs => ?_)
  simp only [e_put]
  repeat rw [if_neg (by omega)]

theorem sw36_72 (hT : ∀ x, T x → x.length = e) (h : RowOk e b σ0 σ T d sl) (hn : n = d.size) {i j : Nat} (hi : i < d.size) (hj : j < d.size) (e0 : env 0 = .sl b 0 n c) (eI : env 13 = .int .i64 i) (eJ : env 1 = .int .i64 j)
    (hQ : ∀ env', (∀ s, s < 72 → env' s = env s) → Q .normal env' (σ.set b (.row (flat (swp d i j)) sl))) : vwp P (vc36_1072 e φ) Q env σ := by
  subst hn
  have hrd := Store.rd_row h.row
  have hal := h.len hT
  have g1 : (0 : Int) ≤ (j : Int) := by omega
  have g2 : (j : Int) < (d.size : Int) := by omega
  have g3 : (0 : Int) ≤ (i : Int) := by omega
  have g4 : (i : Int) < (d.size : Int) := by omega
  simp only [vsA, arith, cmpI, ldK, V.flat, V.one, V.cells, ↓reduceIte, reduceCtorEq, Nat.reduceEqDiff, Nat.reduceLeDiff, Nat.reduceAdd, Nat.reduceMul, fill, vc36, vc36_1, vc36_2, vc36_3, vc36_4, vc36_5, vc36_6, vc36_7, vc36_8, vc36_9, vc36_10, vc36_11, vc36_12, vc36_101, vc36_102, vc36_103, vc36_104, vc36_105, vc36_106, vc36_107, vc36_108, vc36_109, vc36_110, vc36_111, vc36_112, vc36_113, vc36_114, vc36_115, vc36_116, vc36_117, vc36_118, vc36_119, vc36_120, vc36_121, vc36_122, vc36_123, vc36_124, vc36_125, vc36_126, vc36_127, vc36_128, vc36_129, vc36_130, vc36_131, vc36_132, vc36_133, vc36_134, vc36_1014, vc36_1032, vc36_1050, vc36_1072, vc36_1087, vc36_1105, vc36_1123, vc36_1145, vc36_1163, e0, eI, eJ, hrd, g1, g2, g3, g4, le_flat hal hj, le_flat hal hi, get_flat hal hj, get_flat hal hi, h.row, set_flat hal hi, le2_flat hal hi, Store.get_set_same, Store.set_set, hal.get hj, hal.get hi,
    le2_flat (hal.set (i := i) (hal.get hj)) (show j < _ by rw [size_set]; exact hj), set_flat (hal.set (i := i) (hal.get hj)) (show j < _ by rw [size_set]; exact hj)]
  refine hQ _ (fun s hs => ?_)
  simp only [e_put]
  repeat rw [if_neg (by omega)]

theorem sw36_87 (hT : ∀ x, T x → x.length = e) (h : RowOk e b σ0 σ T d sl) (hn : n = d.size) {i j : Nat} (hi : i < d.size) (hj : j < d.size) (e0 : env 0 = .sl b 0 n c) (eI : env 12 = .int .i64 i) (eJ : env 13 = .int .i64 j)
    (hQ : ∀ env', (∀ s, s < 87 → env' s = env s) → Q .normal env' (σ.set b (.row (flat (swp d i j)) sl))) : vwp P (vc36_1087 e φ) Q env σ := by
  subst hn
  have hrd := Store.rd_row h.row
  have hal := h.len hT
  have g1 : (0 : Int) ≤ (j : Int) := by omega
  have g2 : (j : Int) < (d.size : Int) := by omega
  have g3 : (0 : Int) ≤ (i : Int) := by omega
  have g4 : (i : Int) < (d.size : Int) := by omega
  simp only [vsA, arith, cmpI, ldK, V.flat, V.one, V.cells, ↓reduceIte, reduceCtorEq, Nat.reduceEqDiff, Nat.reduceLeDiff, Nat.reduceAdd, Nat.reduceMul, fill, vc36, vc36_1, vc36_2, vc36_3, vc36_4, vc36_5, vc36_6, vc36_7, vc36_8, vc36_9, vc36_10, vc36_11, vc36_12, vc36_101, vc36_102, vc36_103, vc36_104, vc36_105, vc36_106, vc36_107, vc36_108, vc36_109, vc36_110, vc36_111, vc36_112, vc36_113, vc36_114, vc36_115, vc36_116, vc36_117, vc36_118, vc36_119, vc36_120, vc36_121, vc36_122, vc36_123, vc36_124, vc36_125, vc36_126, vc36_127, vc36_128, vc36_129, vc36_130, vc36_131, vc36_132, vc36_133, vc36_134, vc36_1014, vc36_1032, vc36_1050, vc36_1072, vc36_1087, vc36_1105, vc36_1123, vc36_1145, vc36_1163, e0, eI, eJ, hrd, g1, g2, g3, g4, le_flat hal hj, le_flat hal hi, get_flat hal hj, get_flat hal hi, h.row, set_flat hal hi, le2_flat hal hi, Store.get_set_same, Store.set_set, hal.get hj, hal.get hi,
    le2_flat (hal.set (i := i) (hal.get hj)) (show j < _ by rw [size_set]; exact hj), set_flat (hal.set (i := i) (hal.get hj)) (show j < _ by rw [size_set]; exact hj)]
  refine hQ _ (fun s hs => ?_)
  simp only [e_put]
  repeat rw [if_neg (by omega)]

theorem sw36_145 (hT : ∀ x, T x → x.length = e) (h : RowOk e b σ0 σ T d sl) (hn : n = d.size) {i j : Nat} (hi : i < d.size) (hj : j < d.size) (e0 : env 0 = .sl b 0 n c) (eI : env 12 = .int .i64 i) (eJ : env 13 = .int .i64 j)
    (hQ : ∀ env', (∀ s, s < 145 → env' s = env s) → Q .normal env' (σ.set b (.row (flat (swp d i j)) sl))) : vwp P (vc36_1145 e φ) Q env σ := by
  subst hn
  have hrd := Store.rd_row h.row
  have hal := h.len hT
  have g1 : (0 : Int) ≤ (j : Int) := by omega
  have g2 : (j : Int) < (d.size : Int) := by omega
  have g3 : (0 : Int) ≤ (i : Int) := by omega
  have g4 : (i : Int) < (d.size : Int) := by omega
  simp only [vsA, arith, cmpI, ldK, V.flat, V.one, V.cells, ↓reduceIte, reduceCtorEq, Nat.reduceEqDiff, Nat.reduceLeDiff, Nat.reduceAdd, Nat.reduceMul, fill, vc36, vc36_1, vc36_2, vc36_3, vc36_4, vc36_5, vc36_6, vc36_7, vc36_8, vc36_9, vc36_10, vc36_11, vc36_12, vc36_101, vc36_102, vc36_103, vc36_104, vc36_105, vc36_106, vc36_107, vc36_108, vc36_109, vc36_110, vc36_111, vc36_112, vc36_113, vc36_114, vc36_115, vc36_116, vc36_117, vc36_118, vc36_119, vc36_120, vc36_121, vc36_122, vc36_123, vc36_124, vc36_125, vc36_126, vc36_127, vc36_128, vc36_129, vc36_130, vc36_131, vc36_132, vc36_133, vc36_134, vc36_1014, vc36_1032, vc36_1050, vc36_1072, vc36_1087, vc36_1105, vc36_1123, vc36_1145, vc36_1163, e0, eI, eJ, hrd, g1, g2, g3, g4, le_flat hal hj, le_flat hal hi, get_flat hal hj, get_flat hal hi, h.row, set_flat hal hi, le2_flat hal hi, Store.get_set_same, Store.set_set, hal.get hj, hal.get hi,
    le2_flat (hal.set (i := i) (hal.get hj)) (show j < _ by rw [size_set]; exact hj), set_flat (hal.set (i := i) (hal.get hj)) (show j < _ by rw [size_set]; exact hj)]
  refine hQ _ (fun s hs => ?_)
  simp only [e_put]
  repeat rw [if_neg (by omega)]

theorem sw36_163 (hT : ∀ x, T x → x.length = e) (h : RowOk e b σ0 σ T d sl) (hn : n = d.size) {i j : Nat} (hi : i < d.size) (hj : j < d.size) (e0 : env 0 = .sl b 0 n c) (eI : env 13 = .int .i64 i) (eJ : env 1 = .int .i64 j)
    (hQ : ∀ env', (∀ s, s < 163 → env' s = env s) → Q .normal env' (σ.set b (.row (flat (swp d i j)) sl))) : vwp P (vc36_1163 e φ) Q env σ := by
  subst hn
  have hrd := Store.rd_row h.row
  have hal := h.len hT
  have g1 : (0 : Int) ≤ (j : Int) := by omega
  have g2 : (j : Int) < (d.size : Int) := by omega
  have g3 : (0 : Int) ≤ (i : Int) := by omega
  have g4 : (i : Int) < (d.size : Int) := by omega
  simp only [vsA, arith, cmpI, ldK, V.flat, V.one, V.cells, ↓reduceIte, reduceCtorEq, Nat.reduceEqDiff, Nat.reduceLeDiff, Nat.reduceAdd, Nat.reduceMul, fill, vc36, vc36_1, vc36_2, vc36_3, vc36_4, vc36_5, vc36_6, vc36_7, vc36_8, vc36_9, vc36_10, vc36_11, vc36_12, vc36_101, vc36_102, vc36_103, vc36_104, vc36_105, vc36_106, vc36_107, vc36_108, vc36_109, vc36_110, vc36_111, vc36_112, vc36_113, vc36_114, vc36_115, vc36_116, vc36_117, vc36_118, vc36_119, vc36_120, vc36_121, vc36_122, vc36_123, vc36_124, vc36_125, vc36_126, vc36_127, vc36_128, vc36_129, vc36_130, vc36_131, vc36_132, vc36_133, vc36_134, vc36_1014, vc36_1032, vc36_1050, vc36_1072, vc36_1087, vc36_1105, vc36_1123, vc36_1145, vc36_1163, e0, eI, eJ, hrd, g1, g2, g3, g4, le_flat hal hj, le_flat hal hi, get_flat hal hj, get_flat hal hi, h.row, set_flat hal hi, le2_flat hal hi, Store.get_set_same, Store.set_set, hal.get hj, hal.get hi,
    le2_flat (hal.set (i := i) (hal.get hj)) (show j < _ by rw [size_set]; exact hj), set_flat (hal.set (i := i) (hal.get hj)) (show j < _ by rw [size_set]; exact hj)]
  refine hQ _ (fun s hs => ?_)
  simp only [e_put]
  repeat rw [if_neg (by omega)]

theorem sw35_13 (hT : ∀ x, T x → x.length = e) (h : RowOk e b σ0 σ T d sl) (hn : n = d.size) {i j : Nat} (hi : i < d.size) (hj : j < d.size) (e0 : env 0 = .sl b 0 n c) (eI : env 1 = .int .i64 i) (eJ : env 3 = .int .i64 j)
    (hQ : ∀ env', (∀ s, s < 13 → env' s = env s) → Q .normal env' (σ.set b (.row (flat (swp d i j)) sl))) : vwp P (vc35_1013 e φ) Q env σ := by
  subst hn
  have hrd := Store.rd_row h.row
  have hal := h.len hT
  have g1 : (0 : Int) ≤ (j : Int) := by omega
  have g2 : (j : Int) < (d.size : Int) := by omega
  have g3 : (0 : Int) ≤ (i : Int) := by omega
  have g4 : (i : Int) < (d.size : Int) := by omega
  simp only [vsA, arith, cmpI, ldK, V.flat, V.one, V.cells, ↓reduceIte, reduceCtorEq, Nat.reduceEqDiff, Nat.reduceLeDiff, Nat.reduceAdd, Nat.reduceMul, fill, vc35, vc35_1, vc35_2, vc35_3, vc35_4, vc35_5, vc35_101, vc35_102, vc35_103, vc35_104, vc35_105, vc35_106, vc35_107, vc35_108, vc35_109, vc35_110, vc35_111, vc35_112, vc35_113, vc35_114, vc35_115, vc35_116, vc35_117, vc35_118, vc35_119, vc35_120, vc35_1013, vc35_1031, vc35_1050, vc35_1071, e0, eI, eJ, hrd, g1, g2, g3, g4, le_flat hal hj, le_flat hal hi, get_flat hal hj, get_flat hal hi, h.row, set_flat hal hi, le2_flat hal hi, Store.get_set_same, Store.set_set, hal.get hj, hal.get hi,
    le2_flat (hal.set (i := i) (hal.get hj)) (show j < _ by rw [size_set]; exact hj), set_flat (hal.set (i := i) (hal.get hj)) (show j < _ by rw [size_set]; exact hj)]
  refine hQ _ (fun s hs => ?_)
  simp only [e_put]
  repeat rw [if_neg (by omega)]

theorem sw35_71 (hT : ∀ x, T x → x.length = e) (h : RowOk e b σ0 σ T d sl) (hn : n = d.size) {i j : Nat} (hi : i < d.size) (hj : j < d.size) (e0 : env 0 = .sl b 0 n c) (eI : env 11 = .int .i64 i) (eJ : env 12 = .int .i64 j)
    (hQ : ∀ env', (∀ s, s < 71 → env' s = env s) → Q .normal env' (σ.set b (.row (flat (swp d i j)) sl))) : vwp P (vc35_1071 e φ) Q env σ := by
  subst hn
  have hrd := Store.rd_row h.row
  have hal := h.len hT
  have g1 : (0 : Int) ≤ (j : Int) := by omega
  have g2 : (j : Int) < (d.size : Int) := by omega
  have g3 : (0 : Int) ≤ (i : Int) := by omega
  have g4 : (i : Int) < (d.size : Int) := by omega
  simp only [vsA, arith, cmpI, ldK, V.flat, V.one, V.cells, ↓reduceIte, reduceCtorEq, Nat.reduceEqDiff, Nat.reduceLeDiff, Nat.reduceAdd, Nat.reduceMul, fill, vc35, vc35_1, vc35_2, vc35_3, vc35_4, vc35_5, vc35_101, vc35_102, vc35_103, vc35_104, vc35_105, vc35_106, vc35_107, vc35_108, vc35_109, vc35_110, vc35_111, vc35_112, vc35_113, vc35_114, vc35_115, vc35_116, vc35_117, vc35_118, vc35_119, vc35_120, vc35_1013, vc35_1031, vc35_1050, vc35_1071, e0, eI, eJ, hrd, g1, g2, g3, g4, le_flat hal hj, le_flat hal hi, get_flat hal hj, get_flat hal hi, h.row, set_flat hal hi, le2_flat hal hi, Store.get_set_same, Store.set_set, hal.get hj, hal.get hi,
    le2_flat (hal.set (i := i) (hal.get hj)) (show j < _ by rw [size_set]; exact hj), set_flat (hal.set (i := i) (hal.get hj)) (show j < _ by rw [size_set]; exact hj)]
  refine hQ _ (fun s hs => ?_)
  simp only [e_put]
  repeat rw [if_neg (by omega)]

theorem sc36_32 (hT : ∀ x, T x → x.length = e) (hc : CmpOk P b σ0 T cf k first cap) (h : RowOk e b σ0 σ T d sl) (hn : n = d.size) {i j a : Nat} (ha : a < d.size) (hz : i ≤ j → i < d.size) (e0 : env 0 = .sl b 0 n c) (e4 : env 4 = .fn k first cap)
    (eI : env 12 = .int .i64 i) (eJ : env 13 = .int .i64 j) (eA : env 1 = .int .i64 a)
    (hQ : ∀ env', (∀ s, s < 32 → env' s = env s) → env' 47 = .bool (decide (i ≤ j) && ltc cf d[i]! d[a]!) → Q .normal env' σ) : vwp P (vc36_1032 e φ) Q env σ := by
  subst hn
  have hrd := Store.rd_row h.row
  have hal := h.len hT
  by_cases hij : i ≤ j
  · have hi := hz hij
    have hd : decide ((i : Int) ≤ (j : Int)) = true := by simp; omega
    have g1 : (0 : Int) ≤ (i : Int) := by omega
    have g2 : (i : Int) < (d.size : Int) := by omega
    have g3 : (0 : Int) ≤ (a : Int) := by omega
    have g4 : (a : Int) < (d.size : Int) := by omega
    simp only [vsA, arith, cmpI, ldK, V.flat, V.one, V.cells, ↓reduceIte, reduceCtorEq, Nat.reduceEqDiff, Nat.reduceLeDiff, Nat.reduceAdd, Nat.reduceMul, fill, vc36, vc36_1, vc36_2, vc36_3, vc36_4, vc36_5, vc36_6, vc36_7, vc36_8, vc36_9, vc36_10, vc36_11, vc36_12, vc36_101, vc36_102, vc36_103, vc36_104, vc36_105, vc36_106, vc36_107, vc36_108, vc36_109, vc36_110, vc36_111, vc36_112, vc36_113, vc36_114, vc36_115, vc36_116, vc36_117, vc36_118, vc36_119, vc36_120, vc36_121, vc36_122, vc36_123, vc36_124, vc36_125, vc36_126, vc36_127, vc36_128, vc36_129, vc36_130, vc36_131, vc36_132, vc36_133, vc36_134, vc36_1014, vc36_1032, vc36_1050, vc36_1072, vc36_1087, vc36_1105, vc36_1123, vc36_1145, vc36_1163, e0, e4, eI, eJ, eA, hd, hrd, g1, g2, g3, g4, le_flat hal hi, le_flat hal ha, get_flat hal hi, get_flat hal ha]
    refine o_call (k := k) (first := first) (cap := cap) (by simp only [vsA, arith, cmpI, ldK, V.flat, V.one, V.cells, ↓reduceIte, reduceCtorEq, Nat.reduceEqDiff, Nat.reduceLeDiff, Nat.reduceAdd, Nat.reduceMul, fill]) (R := fun v σ1 => v = .int .i64 (cf d[i]! d[a]!) ∧ σ1 = σ) (by simp only [vsA, arith, cmpI, ldK, V.flat, V.one, V.cells, ↓reduceIte, reduceCtorEq, Nat.reduceEqDiff, Nat.reduceLeDiff, Nat.reduceAdd, Nat.reduceMul, fill]; exact hc σ h.off _ _ (h.get hi) (h.get ha)) ?_
    rintro _ σ3 ⟨rfl, hσ3⟩ _ _
    subst hσ3
    simp only [vsA, arith, cmpI, ldK, V.flat, V.one, V.cells, ↓reduceIte, reduceCtorEq, Nat.reduceEqDiff, Nat.reduceLeDiff, Nat.reduceAdd, Nat.reduceMul, fill, vc36, vc36_1, vc36_2, vc36_3, vc36_4, vc36_5, vc36_6, vc36_7, vc36_8, vc36_9, vc36_10, vc36_11, vc36_12, vc36_101, vc36_102, vc36_103, vc36_104, vc36_105, vc36_106, vc36_107, vc36_108, vc36_109, vc36_110, vc36_111, vc36_112, vc36_113, vc36_114, vc36_115, vc36_116, vc36_117, vc36_118, vc36_119, vc36_120, vc36_121, vc36_122, vc36_123, vc36_124, vc36_125, vc36_126, vc36_127, vc36_128, vc36_129, vc36_130, vc36_131, vc36_132, vc36_133, vc36_134, vc36_1014, vc36_1032, vc36_1050, vc36_1072, vc36_1087, vc36_1105, vc36_1123, vc36_1145, vc36_1163]
    refine hQ _ (fun s hs => ?_) ?_
    · simp only [e_put]
      repeat rw [if_neg (by omega)]
    · simp only [vsA, arith, cmpI, ldK, V.flat, V.one, V.cells, ↓reduceIte, reduceCtorEq, Nat.reduceEqDiff, Nat.reduceLeDiff, Nat.reduceAdd, Nat.reduceMul, fill]
      simp [hij, ltc]
  · have hd : decide ((i : Int) ≤ (j : Int)) = false := by simp; omega
    simp only [vsA, arith, cmpI, ldK, V.flat, V.one, V.cells, ↓reduceIte, reduceCtorEq, Nat.reduceEqDiff, Nat.reduceLeDiff, Nat.reduceAdd, Nat.reduceMul, fill, vc36, vc36_1, vc36_2, vc36_3, vc36_4, vc36_5, vc36_6, vc36_7, vc36_8, vc36_9, vc36_10, vc36_11, vc36_12, vc36_101, vc36_102, vc36_103, vc36_104, vc36_105, vc36_106, vc36_107, vc36_108, vc36_109, vc36_110, vc36_111, vc36_112, vc36_113, vc36_114, vc36_115, vc36_116, vc36_117, vc36_118, vc36_119, vc36_120, vc36_121, vc36_122, vc36_123, vc36_124, vc36_125, vc36_126, vc36_127, vc36_128, vc36_129, vc36_130, vc36_131, vc36_132, vc36_133, vc36_134, vc36_1014, vc36_1032, vc36_1050, vc36_1072, vc36_1087, vc36_1105, vc36_1123, vc36_1145, vc36_1163, e0, e4, eI, eJ, eA, hd]
    refine hQ _ (fun s hs => ?_) ?_
    · simp only [e_put]
      repeat rw [if_neg (by omega)]
    · simp only [vsA, arith, cmpI, ldK, V.flat, V.one, V.cells, ↓reduceIte, reduceCtorEq, Nat.reduceEqDiff, Nat.reduceLeDiff, Nat.reduceAdd, Nat.reduceMul, fill]
      simp [hij]

theorem lp36_32 (hT : ∀ x, T x → x.length = e) (hc : CmpOk P b σ0 T cf k first cap) (h : RowOk e b σ0 σ T d sl) (hn : n = d.size) (hn2 : d.size ≤ 140737488355328) {i j a : Nat} (ha : a < d.size) (hj : j < d.size) (e0 : env 0 = .sl b 0 n c) (e4 : env 4 = .fn k first cap)
    (eI : env 12 = .int .i64 i) (eJ : env 13 = .int .i64 j) (eA : env 1 = .int .i64 a)
    (hQ : ∀ env', (∀ s, s < 14 → s ≠ 12 → env' s = env s) → env' 12 = .int .i64 (scanUp (fun z => ltc cf z d[a]!) d j i : Nat) → Q .normal env' σ) : vwp P (.loop (vc36_134 e φ)) (vblk 0 Q) env σ := by
  refine w_loop (fun env' σ' => σ' = σ ∧ (∀ s, s < 14 → s ≠ 12 → env' s = env s) ∧ ∃ i' : Nat, env' 12 = .int .i64 i' ∧ i' ≤ max (j + 1) i ∧ scanUp (fun z => ltc cf z d[a]!) d j i' = scanUp (fun z => ltc cf z d[a]!) d j i)
    (fun env' _ => j + 1 - (env' 12).nat) ⟨rfl, fun _ _ _ => rfl, i, eI, by omega, rfl⟩ ?_
  rintro env' _ ⟨rfl, he, i', eI', hij', hs⟩
  simp only [vc36_134, vc36_132, w_seq]
  refine sc36_32 hT hc h hn ha (fun _ => by omega) ((he 0 (by omega) (by omega)).trans e0) ((he 4 (by omega) (by omega)).trans e4) eI' ((he 13 (by omega) (by omega)).trans eJ) ((he 1 (by omega) (by omega)).trans eA) ?_
  intro env'' he2 hres
  by_cases hp : (decide (i' ≤ j) && ltc cf d[i']! d[a]!) = true
  · rw [hp] at hres
    have f := (he2 12 (by omega)).trans eI'
    have hp1 : i' ≤ j := by simp at hp; exact hp.1
    simp only [vsA, arith, cmpI, ldK, V.flat, V.one, V.cells, ↓reduceIte, reduceCtorEq, Nat.reduceEqDiff, Nat.reduceLeDiff, Nat.reduceAdd, Nat.reduceMul, fill, vc36, vc36_1, vc36_2, vc36_3, vc36_4, vc36_5, vc36_6, vc36_7, vc36_8, vc36_9, vc36_10, vc36_11, vc36_12, vc36_101, vc36_102, vc36_103, vc36_104, vc36_105, vc36_106, vc36_107, vc36_108, vc36_109, vc36_110, vc36_111, vc36_112, vc36_113, vc36_114, vc36_115, vc36_116, vc36_117, vc36_118, vc36_119, vc36_120, vc36_121, vc36_122, vc36_123, vc36_124, vc36_125, vc36_126, vc36_127, vc36_128, vc36_129, vc36_130, vc36_131, vc36_132, vc36_133, vc36_134, vc36_1014, vc36_1032, vc36_1050, vc36_1072, vc36_1087, vc36_1105, vc36_1123, vc36_1145, vc36_1163, hres, f, wadd1 (show i' ≤ 140737488355328 by omega), eI', nat_int]
    refine ⟨fun s hs1 hs2 => ?_, ⟨i' + 1, rfl, by omega, ?_⟩, by omega⟩
    · repeat rw [if_neg (by omega)]
      rw [he2 s (by omega)]; exact he s hs1 hs2
    · rw [← hs, scanUp_eq _ d j i', if_pos hp]
  · have hp' : (decide (i' ≤ j) && ltc cf d[i']! d[a]!) = false := by simpa using hp
    rw [hp'] at hres
    simp only [vsA, arith, cmpI, ldK, V.flat, V.one, V.cells, ↓reduceIte, reduceCtorEq, Nat.reduceEqDiff, Nat.reduceLeDiff, Nat.reduceAdd, Nat.reduceMul, fill, vc36, vc36_1, vc36_2, vc36_3, vc36_4, vc36_5, vc36_6, vc36_7, vc36_8, vc36_9, vc36_10, vc36_11, vc36_12, vc36_101, vc36_102, vc36_103, vc36_104, vc36_105, vc36_106, vc36_107, vc36_108, vc36_109, vc36_110, vc36_111, vc36_112, vc36_113, vc36_114, vc36_115, vc36_116, vc36_117, vc36_118, vc36_119, vc36_120, vc36_121, vc36_122, vc36_123, vc36_124, vc36_125, vc36_126, vc36_127, vc36_128, vc36_129, vc36_130, vc36_131, vc36_132, vc36_133, vc36_134, vc36_1014, vc36_1032, vc36_1050, vc36_1072, vc36_1087, vc36_1105, vc36_1123, vc36_1145, vc36_1163, hres]
    refine hQ _ (fun s hs1 hs2 => (he2 s (by omega)).trans (he s hs1 hs2)) ?_
    rw [he2 12 (by omega), eI', ← hs, scanUp_eq _ d j i', if_neg hp]

theorem sc36_50 (hT : ∀ x, T x → x.length = e) (hc : CmpOk P b σ0 T cf k first cap) (h : RowOk e b σ0 σ T d sl) (hn : n = d.size) {i j a : Nat} (ha : a < d.size) (hz : i ≤ j → j < d.size) (e0 : env 0 = .sl b 0 n c) (e4 : env 4 = .fn k first cap)
    (eI : env 12 = .int .i64 i) (eJ : env 13 = .int .i64 j) (eA : env 1 = .int .i64 a)
    (hQ : ∀ env', (∀ s, s < 50 → env' s = env s) → env' 66 = .bool (decide (i ≤ j) && !ltc cf d[j]! d[a]!) → Q .normal env' σ) : vwp P (vc36_1050 e φ) Q env σ := by
  subst hn
  have hrd := Store.rd_row h.row
  have hal := h.len hT
  by_cases hij : i ≤ j
  · have hi := hz hij
    have hd : decide ((i : Int) ≤ (j : Int)) = true := by simp; omega
    have g1 : (0 : Int) ≤ (j : Int) := by omega
    have g2 : (j : Int) < (d.size : Int) := by omega
    have g3 : (0 : Int) ≤ (a : Int) := by omega
    have g4 : (a : Int) < (d.size : Int) := by omega
    simp only [vsA, arith, cmpI, ldK, V.flat, V.one, V.cells, ↓reduceIte, reduceCtorEq, Nat.reduceEqDiff, Nat.reduceLeDiff, Nat.reduceAdd, Nat.reduceMul, fill, vc36, vc36_1, vc36_2, vc36_3, vc36_4, vc36_5, vc36_6, vc36_7, vc36_8, vc36_9, vc36_10, vc36_11, vc36_12, vc36_101, vc36_102, vc36_103, vc36_104, vc36_105, vc36_106, vc36_107, vc36_108, vc36_109, vc36_110, vc36_111, vc36_112, vc36_113, vc36_114, vc36_115, vc36_116, vc36_117, vc36_118, vc36_119, vc36_120, vc36_121, vc36_122, vc36_123, vc36_124, vc36_125, vc36_126, vc36_127, vc36_128, vc36_129, vc36_130, vc36_131, vc36_132, vc36_133, vc36_134, vc36_1014, vc36_1032, vc36_1050, vc36_1072, vc36_1087, vc36_1105, vc36_1123, vc36_1145, vc36_1163, e0, e4, eI, eJ, eA, hd, hrd, g1, g2, g3, g4, le_flat hal hi, le_flat hal ha, get_flat hal hi, get_flat hal ha]
    refine o_call (k := k) (first := first) (cap := cap) (by simp only [vsA, arith, cmpI, ldK, V.flat, V.one, V.cells, ↓reduceIte, reduceCtorEq, Nat.reduceEqDiff, Nat.reduceLeDiff, Nat.reduceAdd, Nat.reduceMul, fill]) (R := fun v σ1 => v = .int .i64 (cf d[j]! d[a]!) ∧ σ1 = σ) (by simp only [vsA, arith, cmpI, ldK, V.flat, V.one, V.cells, ↓reduceIte, reduceCtorEq, Nat.reduceEqDiff, Nat.reduceLeDiff, Nat.reduceAdd, Nat.reduceMul, fill]; exact hc σ h.off _ _ (h.get hi) (h.get ha)) ?_
    rintro _ σ3 ⟨rfl, hσ3⟩ _ _
    subst hσ3
    simp only [vsA, arith, cmpI, ldK, V.flat, V.one, V.cells, ↓reduceIte, reduceCtorEq, Nat.reduceEqDiff, Nat.reduceLeDiff, Nat.reduceAdd, Nat.reduceMul, fill, vc36, vc36_1, vc36_2, vc36_3, vc36_4, vc36_5, vc36_6, vc36_7, vc36_8, vc36_9, vc36_10, vc36_11, vc36_12, vc36_101, vc36_102, vc36_103, vc36_104, vc36_105, vc36_106, vc36_107, vc36_108, vc36_109, vc36_110, vc36_111, vc36_112, vc36_113, vc36_114, vc36_115, vc36_116, vc36_117, vc36_118, vc36_119, vc36_120, vc36_121, vc36_122, vc36_123, vc36_124, vc36_125, vc36_126, vc36_127, vc36_128, vc36_129, vc36_130, vc36_131, vc36_132, vc36_133, vc36_134, vc36_1014, vc36_1032, vc36_1050, vc36_1072, vc36_1087, vc36_1105, vc36_1123, vc36_1145, vc36_1163]
    refine hQ _ (fun s hs => ?_) ?_
    · simp only [e_put]
      repeat rw [if_neg (by omega)]
    · simp only [vsA, arith, cmpI, ldK, V.flat, V.one, V.cells, ↓reduceIte, reduceCtorEq, Nat.reduceEqDiff, Nat.reduceLeDiff, Nat.reduceAdd, Nat.reduceMul, fill]
      simp [hij, ltc]
  · have hd : decide ((i : Int) ≤ (j : Int)) = false := by simp; omega
    simp only [vsA, arith, cmpI, ldK, V.flat, V.one, V.cells, ↓reduceIte, reduceCtorEq, Nat.reduceEqDiff, Nat.reduceLeDiff, Nat.reduceAdd, Nat.reduceMul, fill, vc36, vc36_1, vc36_2, vc36_3, vc36_4, vc36_5, vc36_6, vc36_7, vc36_8, vc36_9, vc36_10, vc36_11, vc36_12, vc36_101, vc36_102, vc36_103, vc36_104, vc36_105, vc36_106, vc36_107, vc36_108, vc36_109, vc36_110, vc36_111, vc36_112, vc36_113, vc36_114, vc36_115, vc36_116, vc36_117, vc36_118, vc36_119, vc36_120, vc36_121, vc36_122, vc36_123, vc36_124, vc36_125, vc36_126, vc36_127, vc36_128, vc36_129, vc36_130, vc36_131, vc36_132, vc36_133, vc36_134, vc36_1014, vc36_1032, vc36_1050, vc36_1072, vc36_1087, vc36_1105, vc36_1123, vc36_1145, vc36_1163, e0, e4, eI, eJ, eA, hd]
    refine hQ _ (fun s hs => ?_) ?_
    · simp only [e_put]
      repeat rw [if_neg (by omega)]
    · simp only [vsA, arith, cmpI, ldK, V.flat, V.one, V.cells, ↓reduceIte, reduceCtorEq, Nat.reduceEqDiff, Nat.reduceLeDiff, Nat.reduceAdd, Nat.reduceMul, fill]
      simp [hij]

theorem lp36_50 (hT : ∀ x, T x → x.length = e) (hc : CmpOk P b σ0 T cf k first cap) (h : RowOk e b σ0 σ T d sl) (hn : n = d.size) (hn2 : d.size ≤ 140737488355328) {i j a : Nat} (ha : a < d.size) (hj : j < d.size) (hi1 : 1 ≤ i) (e0 : env 0 = .sl b 0 n c) (e4 : env 4 = .fn k first cap)
    (eI : env 12 = .int .i64 i) (eJ : env 13 = .int .i64 j) (eA : env 1 = .int .i64 a)
    (hQ : ∀ env', (∀ s, s < 14 → s ≠ 13 → env' s = env s) → env' 13 = .int .i64 (scanDown (fun z => !ltc cf z d[a]!) d i j : Nat) → Q .normal env' σ) : vwp P (.loop (vc36_130 e φ)) (vblk 2 Q) env σ := by
  refine w_loop (fun env' σ' => σ' = σ ∧ (∀ s, s < 14 → s ≠ 13 → env' s = env s) ∧ ∃ j' : Nat, env' 13 = .int .i64 j' ∧ j' ≤ j ∧ scanDown (fun z => !ltc cf z d[a]!) d i j' = scanDown (fun z => !ltc cf z d[a]!) d i j)
    (fun env' _ => (env' 13).nat) ⟨rfl, fun _ _ _ => rfl, j, eJ, Nat.le_refl _, rfl⟩ ?_
  rintro env' _ ⟨rfl, he, j', eJ', hij', hs⟩
  simp only [vc36_130, vc36_128, w_seq]
  refine sc36_50 hT hc h hn ha (fun _ => by omega) ((he 0 (by omega) (by omega)).trans e0) ((he 4 (by omega) (by omega)).trans e4) ((he 12 (by omega) (by omega)).trans eI) eJ' ((he 1 (by omega) (by omega)).trans eA) ?_
  intro env'' he2 hres
  by_cases hp : (decide (i ≤ j') && !ltc cf d[j']! d[a]!) = true
  · rw [hp] at hres
    have f := (he2 13 (by omega)).trans eJ'
    have hp1 : i ≤ j' := by simp at hp; exact hp.1
    simp only [vsA, arith, cmpI, ldK, V.flat, V.one, V.cells, ↓reduceIte, reduceCtorEq, Nat.reduceEqDiff, Nat.reduceLeDiff, Nat.reduceAdd, Nat.reduceMul, fill, vc36, vc36_1, vc36_2, vc36_3, vc36_4, vc36_5, vc36_6, vc36_7, vc36_8, vc36_9, vc36_10, vc36_11, vc36_12, vc36_101, vc36_102, vc36_103, vc36_104, vc36_105, vc36_106, vc36_107, vc36_108, vc36_109, vc36_110, vc36_111, vc36_112, vc36_113, vc36_114, vc36_115, vc36_116, vc36_117, vc36_118, vc36_119, vc36_120, vc36_121, vc36_122, vc36_123, vc36_124, vc36_125, vc36_126, vc36_127, vc36_128, vc36_129, vc36_130, vc36_131, vc36_132, vc36_133, vc36_134, vc36_1014, vc36_1032, vc36_1050, vc36_1072, vc36_1087, vc36_1105, vc36_1123, vc36_1145, vc36_1163, hres, f, wsub1 (show j' ≤ 140737488355328 by omega) (show 1 ≤ j' by omega), eJ', nat_int]
    refine ⟨fun s hs1 hs2 => ?_, ⟨j' - 1, rfl, by omega, ?_⟩, by omega⟩
    · repeat rw [if_neg (by omega)]
      rw [he2 s (by omega)]; exact he s hs1 hs2
    · rw [← hs, scanDown_eq _ d i j' hi1, if_pos hp]
  · have hp' : (decide (i ≤ j') && !ltc cf d[j']! d[a]!) = false := by simpa using hp
    rw [hp'] at hres
    simp only [vsA, arith, cmpI, ldK, V.flat, V.one, V.cells, ↓reduceIte, reduceCtorEq, Nat.reduceEqDiff, Nat.reduceLeDiff, Nat.reduceAdd, Nat.reduceMul, fill, vc36, vc36_1, vc36_2, vc36_3, vc36_4, vc36_5, vc36_6, vc36_7, vc36_8, vc36_9, vc36_10, vc36_11, vc36_12, vc36_101, vc36_102, vc36_103, vc36_104, vc36_105, vc36_106, vc36_107, vc36_108, vc36_109, vc36_110, vc36_111, vc36_112, vc36_113, vc36_114, vc36_115, vc36_116, vc36_117, vc36_118, vc36_119, vc36_120, vc36_121, vc36_122, vc36_123, vc36_124, vc36_125, vc36_126, vc36_127, vc36_128, vc36_129, vc36_130, vc36_131, vc36_132, vc36_133, vc36_134, vc36_1014, vc36_1032, vc36_1050, vc36_1072, vc36_1087, vc36_1105, vc36_1123, vc36_1145, vc36_1163, hres]
    refine hQ _ (fun s hs1 hs2 => (he2 s (by omega)).trans (he s hs1 hs2)) ?_
    rw [he2 13 (by omega), eJ', ← hs, scanDown_eq _ d i j' hi1, if_neg hp]

theorem sc36_105 (hT : ∀ x, T x → x.length = e) (hc : CmpOk P b σ0 T cf k first cap) (h : RowOk e b σ0 σ T d sl) (hn : n = d.size) {i j a : Nat} (ha : a < d.size) (hz : i ≤ j → i < d.size) (e0 : env 0 = .sl b 0 n c) (e4 : env 4 = .fn k first cap)
    (eI : env 12 = .int .i64 i) (eJ : env 13 = .int .i64 j) (eA : env 1 = .int .i64 a)
    (hQ : ∀ env', (∀ s, s < 105 → env' s = env s) → env' 120 = .bool (decide (i ≤ j) && ltc cf d[i]! d[a]!) → Q .normal env' σ) : vwp P (vc36_1105 e φ) Q env σ := by
  subst hn
  have hrd := Store.rd_row h.row
  have hal := h.len hT
  by_cases hij : i ≤ j
  · have hi := hz hij
    have hd : decide ((i : Int) ≤ (j : Int)) = true := by simp; omega
    have g1 : (0 : Int) ≤ (i : Int) := by omega
    have g2 : (i : Int) < (d.size : Int) := by omega
    have g3 : (0 : Int) ≤ (a : Int) := by omega
    have g4 : (a : Int) < (d.size : Int) := by omega
    simp only [vsA, arith, cmpI, ldK, V.flat, V.one, V.cells, ↓reduceIte, reduceCtorEq, Nat.reduceEqDiff, Nat.reduceLeDiff, Nat.reduceAdd, Nat.reduceMul, fill, vc36, vc36_1, vc36_2, vc36_3, vc36_4, vc36_5, vc36_6, vc36_7, vc36_8, vc36_9, vc36_10, vc36_11, vc36_12, vc36_101, vc36_102, vc36_103, vc36_104, vc36_105, vc36_106, vc36_107, vc36_108, vc36_109, vc36_110, vc36_111, vc36_112, vc36_113, vc36_114, vc36_115, vc36_116, vc36_117, vc36_118, vc36_119, vc36_120, vc36_121, vc36_122, vc36_123, vc36_124, vc36_125, vc36_126, vc36_127, vc36_128, vc36_129, vc36_130, vc36_131, vc36_132, vc36_133, vc36_134, vc36_1014, vc36_1032, vc36_1050, vc36_1072, vc36_1087, vc36_1105, vc36_1123, vc36_1145, vc36_1163, e0, e4, eI, eJ, eA, hd, hrd, g1, g2, g3, g4, le_flat hal hi, le_flat hal ha, get_flat hal hi, get_flat hal ha]
    refine o_call (k := k) (first := first) (cap := cap) (by simp only [vsA, arith, cmpI, ldK, V.flat, V.one, V.cells, ↓reduceIte, reduceCtorEq, Nat.reduceEqDiff, Nat.reduceLeDiff, Nat.reduceAdd, Nat.reduceMul, fill]) (R := fun v σ1 => v = .int .i64 (cf d[i]! d[a]!) ∧ σ1 = σ) (by simp only [vsA, arith, cmpI, ldK, V.flat, V.one, V.cells, ↓reduceIte, reduceCtorEq, Nat.reduceEqDiff, Nat.reduceLeDiff, Nat.reduceAdd, Nat.reduceMul, fill]; exact hc σ h.off _ _ (h.get hi) (h.get ha)) ?_
    rintro _ σ3 ⟨rfl, hσ3⟩ _ _
    subst hσ3
    simp only [vsA, arith, cmpI, ldK, V.flat, V.one, V.cells, ↓reduceIte, reduceCtorEq, Nat.reduceEqDiff, Nat.reduceLeDiff, Nat.reduceAdd, Nat.reduceMul, fill, vc36, vc36_1, vc36_2, vc36_3, vc36_4, vc36_5, vc36_6, vc36_7, vc36_8, vc36_9, vc36_10, vc36_11, vc36_12, vc36_101, vc36_102, vc36_103, vc36_104, vc36_105, vc36_106, vc36_107, vc36_108, vc36_109, vc36_110, vc36_111, vc36_112, vc36_113, vc36_114, vc36_115, vc36_116, vc36_117, vc36_118, vc36_119, vc36_120, vc36_121, vc36_122, vc36_123, vc36_124, vc36_125, vc36_126, vc36_127, vc36_128, vc36_129, vc36_130, vc36_131, vc36_132, vc36_133, vc36_134, vc36_1014, vc36_1032, vc36_1050, vc36_1072, vc36_1087, vc36_1105, vc36_1123, vc36_1145, vc36_1163]
    refine hQ _ (fun s hs => ?_) ?_
    · simp only [e_put]
      repeat rw [if_neg (by omega)]
    · simp only [vsA, arith, cmpI, ldK, V.flat, V.one, V.cells, ↓reduceIte, reduceCtorEq, Nat.reduceEqDiff, Nat.reduceLeDiff, Nat.reduceAdd, Nat.reduceMul, fill]
      simp [hij, ltc]
  · have hd : decide ((i : Int) ≤ (j : Int)) = false := by simp; omega
    simp only [vsA, arith, cmpI, ldK, V.flat, V.one, V.cells, ↓reduceIte, reduceCtorEq, Nat.reduceEqDiff, Nat.reduceLeDiff, Nat.reduceAdd, Nat.reduceMul, fill, vc36, vc36_1, vc36_2, vc36_3, vc36_4, vc36_5, vc36_6, vc36_7, vc36_8, vc36_9, vc36_10, vc36_11, vc36_12, vc36_101, vc36_102, vc36_103, vc36_104, vc36_105, vc36_106, vc36_107, vc36_108, vc36_109, vc36_110, vc36_111, vc36_112, vc36_113, vc36_114, vc36_115, vc36_116, vc36_117, vc36_118, vc36_119, vc36_120, vc36_121, vc36_122, vc36_123, vc36_124, vc36_125, vc36_126, vc36_127, vc36_128, vc36_129, vc36_130, vc36_131, vc36_132, vc36_133, vc36_134, vc36_1014, vc36_1032, vc36_1050, vc36_1072, vc36_1087, vc36_1105, vc36_1123, vc36_1145, vc36_1163, e0, e4, eI, eJ, eA, hd]
    refine hQ _ (fun s hs => ?_) ?_
    · simp only [e_put]
      repeat rw [if_neg (by omega)]
    · simp only [vsA, arith, cmpI, ldK, V.flat, V.one, V.cells, ↓reduceIte, reduceCtorEq, Nat.reduceEqDiff, Nat.reduceLeDiff, Nat.reduceAdd, Nat.reduceMul, fill]
      simp [hij]

theorem lp36_105 (hT : ∀ x, T x → x.length = e) (hc : CmpOk P b σ0 T cf k first cap) (h : RowOk e b σ0 σ T d sl) (hn : n = d.size) (hn2 : d.size ≤ 140737488355328) {i j a : Nat} (ha : a < d.size) (hj : j < d.size) (e0 : env 0 = .sl b 0 n c) (e4 : env 4 = .fn k first cap)
    (eI : env 12 = .int .i64 i) (eJ : env 13 = .int .i64 j) (eA : env 1 = .int .i64 a)
    (hQ : ∀ env', (∀ s, s < 14 → s ≠ 12 → env' s = env s) → env' 12 = .int .i64 (scanUp (fun z => ltc cf z d[a]!) d j i : Nat) → Q .normal env' σ) : vwp P (.loop (vc36_104 e φ)) (vblk 6 Q) env σ := by
  refine w_loop (fun env' σ' => σ' = σ ∧ (∀ s, s < 14 → s ≠ 12 → env' s = env s) ∧ ∃ i' : Nat, env' 12 = .int .i64 i' ∧ i' ≤ max (j + 1) i ∧ scanUp (fun z => ltc cf z d[a]!) d j i' = scanUp (fun z => ltc cf z d[a]!) d j i)
    (fun env' _ => j + 1 - (env' 12).nat) ⟨rfl, fun _ _ _ => rfl, i, eI, by omega, rfl⟩ ?_
  rintro env' _ ⟨rfl, he, i', eI', hij', hs⟩
  simp only [vc36_104, vc36_102, w_seq]
  refine sc36_105 hT hc h hn ha (fun _ => by omega) ((he 0 (by omega) (by omega)).trans e0) ((he 4 (by omega) (by omega)).trans e4) eI' ((he 13 (by omega) (by omega)).trans eJ) ((he 1 (by omega) (by omega)).trans eA) ?_
  intro env'' he2 hres
  by_cases hp : (decide (i' ≤ j) && ltc cf d[i']! d[a]!) = true
  · rw [hp] at hres
    have f := (he2 12 (by omega)).trans eI'
    have hp1 : i' ≤ j := by simp at hp; exact hp.1
    simp only [vsA, arith, cmpI, ldK, V.flat, V.one, V.cells, ↓reduceIte, reduceCtorEq, Nat.reduceEqDiff, Nat.reduceLeDiff, Nat.reduceAdd, Nat.reduceMul, fill, vc36, vc36_1, vc36_2, vc36_3, vc36_4, vc36_5, vc36_6, vc36_7, vc36_8, vc36_9, vc36_10, vc36_11, vc36_12, vc36_101, vc36_102, vc36_103, vc36_104, vc36_105, vc36_106, vc36_107, vc36_108, vc36_109, vc36_110, vc36_111, vc36_112, vc36_113, vc36_114, vc36_115, vc36_116, vc36_117, vc36_118, vc36_119, vc36_120, vc36_121, vc36_122, vc36_123, vc36_124, vc36_125, vc36_126, vc36_127, vc36_128, vc36_129, vc36_130, vc36_131, vc36_132, vc36_133, vc36_134, vc36_1014, vc36_1032, vc36_1050, vc36_1072, vc36_1087, vc36_1105, vc36_1123, vc36_1145, vc36_1163, hres, f, wadd1 (show i' ≤ 140737488355328 by omega), eI', nat_int]
    refine ⟨fun s hs1 hs2 => ?_, ⟨i' + 1, rfl, by omega, ?_⟩, by omega⟩
    · repeat rw [if_neg (by omega)]
      rw [he2 s (by omega)]; exact he s hs1 hs2
    · rw [← hs, scanUp_eq _ d j i', if_pos hp]
  · have hp' : (decide (i' ≤ j) && ltc cf d[i']! d[a]!) = false := by simpa using hp
    rw [hp'] at hres
    simp only [vsA, arith, cmpI, ldK, V.flat, V.one, V.cells, ↓reduceIte, reduceCtorEq, Nat.reduceEqDiff, Nat.reduceLeDiff, Nat.reduceAdd, Nat.reduceMul, fill, vc36, vc36_1, vc36_2, vc36_3, vc36_4, vc36_5, vc36_6, vc36_7, vc36_8, vc36_9, vc36_10, vc36_11, vc36_12, vc36_101, vc36_102, vc36_103, vc36_104, vc36_105, vc36_106, vc36_107, vc36_108, vc36_109, vc36_110, vc36_111, vc36_112, vc36_113, vc36_114, vc36_115, vc36_116, vc36_117, vc36_118, vc36_119, vc36_120, vc36_121, vc36_122, vc36_123, vc36_124, vc36_125, vc36_126, vc36_127, vc36_128, vc36_129, vc36_130, vc36_131, vc36_132, vc36_133, vc36_134, vc36_1014, vc36_1032, vc36_1050, vc36_1072, vc36_1087, vc36_1105, vc36_1123, vc36_1145, vc36_1163, hres]
    refine hQ _ (fun s hs1 hs2 => (he2 s (by omega)).trans (he s hs1 hs2)) ?_
    rw [he2 12 (by omega), eI', ← hs, scanUp_eq _ d j i', if_neg hp]

theorem sc36_123 (hT : ∀ x, T x → x.length = e) (hc : CmpOk P b σ0 T cf k first cap) (h : RowOk e b σ0 σ T d sl) (hn : n = d.size) {i j a : Nat} (ha : a < d.size) (hz : i ≤ j → j < d.size) (e0 : env 0 = .sl b 0 n c) (e4 : env 4 = .fn k first cap)
    (eI : env 12 = .int .i64 i) (eJ : env 13 = .int .i64 j) (eA : env 1 = .int .i64 a)
    (hQ : ∀ env', (∀ s, s < 123 → env' s = env s) → env' 139 = .bool (decide (i ≤ j) && !ltc cf d[j]! d[a]!) → Q .normal env' σ) : vwp P (vc36_1123 e φ) Q env σ := by
  subst hn
  have hrd := Store.rd_row h.row
  have hal := h.len hT
  by_cases hij : i ≤ j
  · have hi := hz hij
    have hd : decide ((i : Int) ≤ (j : Int)) = true := by simp; omega
    have g1 : (0 : Int) ≤ (j : Int) := by omega
    have g2 : (j : Int) < (d.size : Int) := by omega
    have g3 : (0 : Int) ≤ (a : Int) := by omega
    have g4 : (a : Int) < (d.size : Int) := by omega
    simp only [vsA, arith, cmpI, ldK, V.flat, V.one, V.cells, ↓reduceIte, reduceCtorEq, Nat.reduceEqDiff, Nat.reduceLeDiff, Nat.reduceAdd, Nat.reduceMul, fill, vc36, vc36_1, vc36_2, vc36_3, vc36_4, vc36_5, vc36_6, vc36_7, vc36_8, vc36_9, vc36_10, vc36_11, vc36_12, vc36_101, vc36_102, vc36_103, vc36_104, vc36_105, vc36_106, vc36_107, vc36_108, vc36_109, vc36_110, vc36_111, vc36_112, vc36_113, vc36_114, vc36_115, vc36_116, vc36_117, vc36_118, vc36_119, vc36_120, vc36_121, vc36_122, vc36_123, vc36_124, vc36_125, vc36_126, vc36_127, vc36_128, vc36_129, vc36_130, vc36_131, vc36_132, vc36_133, vc36_134, vc36_1014, vc36_1032, vc36_1050, vc36_1072, vc36_1087, vc36_1105, vc36_1123, vc36_1145, vc36_1163, e0, e4, eI, eJ, eA, hd, hrd, g1, g2, g3, g4, le_flat hal hi, le_flat hal ha, get_flat hal hi, get_flat hal ha]
    refine o_call (k := k) (first := first) (cap := cap) (by simp only [vsA, arith, cmpI, ldK, V.flat, V.one, V.cells, ↓reduceIte, reduceCtorEq, Nat.reduceEqDiff, Nat.reduceLeDiff, Nat.reduceAdd, Nat.reduceMul, fill]) (R := fun v σ1 => v = .int .i64 (cf d[j]! d[a]!) ∧ σ1 = σ) (by simp only [vsA, arith, cmpI, ldK, V.flat, V.one, V.cells, ↓reduceIte, reduceCtorEq, Nat.reduceEqDiff, Nat.reduceLeDiff, Nat.reduceAdd, Nat.reduceMul, fill]; exact hc σ h.off _ _ (h.get hi) (h.get ha)) ?_
    rintro _ σ3 ⟨rfl, hσ3⟩ _ _
    subst hσ3
    simp only [vsA, arith, cmpI, ldK, V.flat, V.one, V.cells, ↓reduceIte, reduceCtorEq, Nat.reduceEqDiff, Nat.reduceLeDiff, Nat.reduceAdd, Nat.reduceMul, fill, vc36, vc36_1, vc36_2, vc36_3, vc36_4, vc36_5, vc36_6, vc36_7, vc36_8, vc36_9, vc36_10, vc36_11, vc36_12, vc36_101, vc36_102, vc36_103, vc36_104, vc36_105, vc36_106, vc36_107, vc36_108, vc36_109, vc36_110, vc36_111, vc36_112, vc36_113, vc36_114, vc36_115, vc36_116, vc36_117, vc36_118, vc36_119, vc36_120, vc36_121, vc36_122, vc36_123, vc36_124, vc36_125, vc36_126, vc36_127, vc36_128, vc36_129, vc36_130, vc36_131, vc36_132, vc36_133, vc36_134, vc36_1014, vc36_1032, vc36_1050, vc36_1072, vc36_1087, vc36_1105, vc36_1123, vc36_1145, vc36_1163]
    refine hQ _ (fun s hs => ?_) ?_
    · simp only [e_put]
      repeat rw [if_neg (by omega)]
    · simp only [vsA, arith, cmpI, ldK, V.flat, V.one, V.cells, ↓reduceIte, reduceCtorEq, Nat.reduceEqDiff, Nat.reduceLeDiff, Nat.reduceAdd, Nat.reduceMul, fill]
      simp [hij, ltc]
  · have hd : decide ((i : Int) ≤ (j : Int)) = false := by simp; omega
    simp only [vsA, arith, cmpI, ldK, V.flat, V.one, V.cells, ↓reduceIte, reduceCtorEq, Nat.reduceEqDiff, Nat.reduceLeDiff, Nat.reduceAdd, Nat.reduceMul, fill, vc36, vc36_1, vc36_2, vc36_3, vc36_4, vc36_5, vc36_6, vc36_7, vc36_8, vc36_9, vc36_10, vc36_11, vc36_12, vc36_101, vc36_102, vc36_103, vc36_104, vc36_105, vc36_106, vc36_107, vc36_108, vc36_109, vc36_110, vc36_111, vc36_112, vc36_113, vc36_114, vc36_115, vc36_116, vc36_117, vc36_118, vc36_119, vc36_120, vc36_121, vc36_122, vc36_123, vc36_124, vc36_125, vc36_126, vc36_127, vc36_128, vc36_129, vc36_130, vc36_131, vc36_132, vc36_133, vc36_134, vc36_1014, vc36_1032, vc36_1050, vc36_1072, vc36_1087, vc36_1105, vc36_1123, vc36_1145, vc36_1163, e0, e4, eI, eJ, eA, hd]
    refine hQ _ (fun s hs => ?_) ?_
    · simp only [e_put]
      repeat rw [if_neg (by omega)]
    · simp only [vsA, arith, cmpI, ldK, V.flat, V.one, V.cells, ↓reduceIte, reduceCtorEq, Nat.reduceEqDiff, Nat.reduceLeDiff, Nat.reduceAdd, Nat.reduceMul, fill]
      simp [hij]

theorem lp36_123 (hT : ∀ x, T x → x.length = e) (hc : CmpOk P b σ0 T cf k first cap) (h : RowOk e b σ0 σ T d sl) (hn : n = d.size) (hn2 : d.size ≤ 140737488355328) {i j a : Nat} (ha : a < d.size) (hj : j < d.size) (hi1 : 1 ≤ i) (e0 : env 0 = .sl b 0 n c) (e4 : env 4 = .fn k first cap)
    (eI : env 12 = .int .i64 i) (eJ : env 13 = .int .i64 j) (eA : env 1 = .int .i64 a)
    (hQ : ∀ env', (∀ s, s < 14 → s ≠ 13 → env' s = env s) → env' 13 = .int .i64 (scanDown (fun z => !ltc cf z d[a]!) d i j : Nat) → Q .normal env' σ) : vwp P (.loop (vc36_108 e φ)) (vblk 8 Q) env σ := by
  refine w_loop (fun env' σ' => σ' = σ ∧ (∀ s, s < 14 → s ≠ 13 → env' s = env s) ∧ ∃ j' : Nat, env' 13 = .int .i64 j' ∧ j' ≤ j ∧ scanDown (fun z => !ltc cf z d[a]!) d i j' = scanDown (fun z => !ltc cf z d[a]!) d i j)
    (fun env' _ => (env' 13).nat) ⟨rfl, fun _ _ _ => rfl, j, eJ, Nat.le_refl _, rfl⟩ ?_
  rintro env' _ ⟨rfl, he, j', eJ', hij', hs⟩
  simp only [vc36_108, vc36_106, w_seq]
  refine sc36_123 hT hc h hn ha (fun _ => by omega) ((he 0 (by omega) (by omega)).trans e0) ((he 4 (by omega) (by omega)).trans e4) ((he 12 (by omega) (by omega)).trans eI) eJ' ((he 1 (by omega) (by omega)).trans eA) ?_
  intro env'' he2 hres
  by_cases hp : (decide (i ≤ j') && !ltc cf d[j']! d[a]!) = true
  · rw [hp] at hres
    have f := (he2 13 (by omega)).trans eJ'
    have hp1 : i ≤ j' := by simp at hp; exact hp.1
    simp only [vsA, arith, cmpI, ldK, V.flat, V.one, V.cells, ↓reduceIte, reduceCtorEq, Nat.reduceEqDiff, Nat.reduceLeDiff, Nat.reduceAdd, Nat.reduceMul, fill, vc36, vc36_1, vc36_2, vc36_3, vc36_4, vc36_5, vc36_6, vc36_7, vc36_8, vc36_9, vc36_10, vc36_11, vc36_12, vc36_101, vc36_102, vc36_103, vc36_104, vc36_105, vc36_106, vc36_107, vc36_108, vc36_109, vc36_110, vc36_111, vc36_112, vc36_113, vc36_114, vc36_115, vc36_116, vc36_117, vc36_118, vc36_119, vc36_120, vc36_121, vc36_122, vc36_123, vc36_124, vc36_125, vc36_126, vc36_127, vc36_128, vc36_129, vc36_130, vc36_131, vc36_132, vc36_133, vc36_134, vc36_1014, vc36_1032, vc36_1050, vc36_1072, vc36_1087, vc36_1105, vc36_1123, vc36_1145, vc36_1163, hres, f, wsub1 (show j' ≤ 140737488355328 by omega) (show 1 ≤ j' by omega), eJ', nat_int]
    refine ⟨fun s hs1 hs2 => ?_, ⟨j' - 1, rfl, by omega, ?_⟩, by omega⟩
    · repeat rw [if_neg (by omega)]
      rw [he2 s (by omega)]; exact he s hs1 hs2
    · rw [← hs, scanDown_eq _ d i j' hi1, if_pos hp]
  · have hp' : (decide (i ≤ j') && !ltc cf d[j']! d[a]!) = false := by simpa using hp
    rw [hp'] at hres
    simp only [vsA, arith, cmpI, ldK, V.flat, V.one, V.cells, ↓reduceIte, reduceCtorEq, Nat.reduceEqDiff, Nat.reduceLeDiff, Nat.reduceAdd, Nat.reduceMul, fill, vc36, vc36_1, vc36_2, vc36_3, vc36_4, vc36_5, vc36_6, vc36_7, vc36_8, vc36_9, vc36_10, vc36_11, vc36_12, vc36_101, vc36_102, vc36_103, vc36_104, vc36_105, vc36_106, vc36_107, vc36_108, vc36_109, vc36_110, vc36_111, vc36_112, vc36_113, vc36_114, vc36_115, vc36_116, vc36_117, vc36_118, vc36_119, vc36_120, vc36_121, vc36_122, vc36_123, vc36_124, vc36_125, vc36_126, vc36_127, vc36_128, vc36_129, vc36_130, vc36_131, vc36_132, vc36_133, vc36_134, vc36_1014, vc36_1032, vc36_1050, vc36_1072, vc36_1087, vc36_1105, vc36_1123, vc36_1145, vc36_1163, hres]
    refine hQ _ (fun s hs1 hs2 => (he2 s (by omega)).trans (he s hs1 hs2)) ?_
    rw [he2 13 (by omega), eJ', ← hs, scanDown_eq _ d i j' hi1, if_neg hp]

theorem sc35_31 (hT : ∀ x, T x → x.length = e) (hc : CmpOk P b σ0 T cf k first cap) (h : RowOk e b σ0 σ T d sl) (hn : n = d.size) {i j a : Nat} (ha : a < d.size) (hz : i ≤ j → i < d.size) (e0 : env 0 = .sl b 0 n c) (e4 : env 4 = .fn k first cap)
    (eI : env 11 = .int .i64 i) (eJ : env 12 = .int .i64 j) (eA : env 1 = .int .i64 a)
    (hQ : ∀ env', (∀ s, s < 31 → env' s = env s) → env' 47 = .bool (decide (i ≤ j) && !ltc cf d[a]! d[i]!) → Q .normal env' σ) : vwp P (vc35_1031 e φ) Q env σ := by
  subst hn
  have hrd := Store.rd_row h.row
  have hal := h.len hT
  by_cases hij : i ≤ j
  · have hi := hz hij
    have hd : decide ((i : Int) ≤ (j : Int)) = true := by simp; omega
    have g1 : (0 : Int) ≤ (i : Int) := by omega
    have g2 : (i : Int) < (d.size : Int) := by omega
    have g3 : (0 : Int) ≤ (a : Int) := by omega
    have g4 : (a : Int) < (d.size : Int) := by omega
    simp only [vsA, arith, cmpI, ldK, V.flat, V.one, V.cells, ↓reduceIte, reduceCtorEq, Nat.reduceEqDiff, Nat.reduceLeDiff, Nat.reduceAdd, Nat.reduceMul, fill, vc35, vc35_1, vc35_2, vc35_3, vc35_4, vc35_5, vc35_101, vc35_102, vc35_103, vc35_104, vc35_105, vc35_106, vc35_107, vc35_108, vc35_109, vc35_110, vc35_111, vc35_112, vc35_113, vc35_114, vc35_115, vc35_116, vc35_117, vc35_118, vc35_119, vc35_120, vc35_1013, vc35_1031, vc35_1050, vc35_1071, e0, e4, eI, eJ, eA, hd, hrd, g1, g2, g3, g4, le_flat hal hi, le_flat hal ha, get_flat hal hi, get_flat hal ha]
    refine o_call (k := k) (first := first) (cap := cap) (by simp only [vsA, arith, cmpI, ldK, V.flat, V.one, V.cells, ↓reduceIte, reduceCtorEq, Nat.reduceEqDiff, Nat.reduceLeDiff, Nat.reduceAdd, Nat.reduceMul, fill]) (R := fun v σ1 => v = .int .i64 (cf d[a]! d[i]!) ∧ σ1 = σ) (by simp only [vsA, arith, cmpI, ldK, V.flat, V.one, V.cells, ↓reduceIte, reduceCtorEq, Nat.reduceEqDiff, Nat.reduceLeDiff, Nat.reduceAdd, Nat.reduceMul, fill]; exact hc σ h.off _ _ (h.get ha) (h.get hi)) ?_
    rintro _ σ3 ⟨rfl, hσ3⟩ _ _
    subst hσ3
    simp only [vsA, arith, cmpI, ldK, V.flat, V.one, V.cells, ↓reduceIte, reduceCtorEq, Nat.reduceEqDiff, Nat.reduceLeDiff, Nat.reduceAdd, Nat.reduceMul, fill, vc35, vc35_1, vc35_2, vc35_3, vc35_4, vc35_5, vc35_101, vc35_102, vc35_103, vc35_104, vc35_105, vc35_106, vc35_107, vc35_108, vc35_109, vc35_110, vc35_111, vc35_112, vc35_113, vc35_114, vc35_115, vc35_116, vc35_117, vc35_118, vc35_119, vc35_120, vc35_1013, vc35_1031, vc35_1050, vc35_1071]
    refine hQ _ (fun s hs => ?_) ?_
    · simp only [e_put]
      repeat rw [if_neg (by omega)]
    · simp only [vsA, arith, cmpI, ldK, V.flat, V.one, V.cells, ↓reduceIte, reduceCtorEq, Nat.reduceEqDiff, Nat.reduceLeDiff, Nat.reduceAdd, Nat.reduceMul, fill]
      simp [hij, ltc]
  · have hd : decide ((i : Int) ≤ (j : Int)) = false := by simp; omega
    simp only [vsA, arith, cmpI, ldK, V.flat, V.one, V.cells, ↓reduceIte, reduceCtorEq, Nat.reduceEqDiff, Nat.reduceLeDiff, Nat.reduceAdd, Nat.reduceMul, fill, vc35, vc35_1, vc35_2, vc35_3, vc35_4, vc35_5, vc35_101, vc35_102, vc35_103, vc35_104, vc35_105, vc35_106, vc35_107, vc35_108, vc35_109, vc35_110, vc35_111, vc35_112, vc35_113, vc35_114, vc35_115, vc35_116, vc35_117, vc35_118, vc35_119, vc35_120, vc35_1013, vc35_1031, vc35_1050, vc35_1071, e0, e4, eI, eJ, eA, hd]
    refine hQ _ (fun s hs => ?_) ?_
    · simp only [e_put]
      repeat rw [if_neg (by omega)]
    · simp only [vsA, arith, cmpI, ldK, V.flat, V.one, V.cells, ↓reduceIte, reduceCtorEq, Nat.reduceEqDiff, Nat.reduceLeDiff, Nat.reduceAdd, Nat.reduceMul, fill]
      simp [hij]

theorem lp35_31 (hT : ∀ x, T x → x.length = e) (hc : CmpOk P b σ0 T cf k first cap) (h : RowOk e b σ0 σ T d sl) (hn : n = d.size) (hn2 : d.size ≤ 140737488355328) {i j a : Nat} (ha : a < d.size) (hj : j < d.size) (e0 : env 0 = .sl b 0 n c) (e4 : env 4 = .fn k first cap)
    (eI : env 11 = .int .i64 i) (eJ : env 12 = .int .i64 j) (eA : env 1 = .int .i64 a)
    (hQ : ∀ env', (∀ s, s < 13 → s ≠ 11 → env' s = env s) → env' 11 = .int .i64 (scanUp (fun z => !ltc cf d[a]! z) d j i : Nat) → Q .normal env' σ) : vwp P (.loop (vc35_104 e φ)) (vblk 2 Q) env σ := by
  refine w_loop (fun env' σ' => σ' = σ ∧ (∀ s, s < 13 → s ≠ 11 → env' s = env s) ∧ ∃ i' : Nat, env' 11 = .int .i64 i' ∧ i' ≤ max (j + 1) i ∧ scanUp (fun z => !ltc cf d[a]! z) d j i' = scanUp (fun z => !ltc cf d[a]! z) d j i)
    (fun env' _ => j + 1 - (env' 11).nat) ⟨rfl, fun _ _ _ => rfl, i, eI, by omega, rfl⟩ ?_
  rintro env' _ ⟨rfl, he, i', eI', hij', hs⟩
  simp only [vc35_104, vc35_102, w_seq]
  refine sc35_31 hT hc h hn ha (fun _ => by omega) ((he 0 (by omega) (by omega)).trans e0) ((he 4 (by omega) (by omega)).trans e4) eI' ((he 12 (by omega) (by omega)).trans eJ) ((he 1 (by omega) (by omega)).trans eA) ?_
  intro env'' he2 hres
  by_cases hp : (decide (i' ≤ j) && !ltc cf d[a]! d[i']!) = true
  · rw [hp] at hres
    have f := (he2 11 (by omega)).trans eI'
    have hp1 : i' ≤ j := by simp at hp; exact hp.1
    simp only [vsA, arith, cmpI, ldK, V.flat, V.one, V.cells, ↓reduceIte, reduceCtorEq, Nat.reduceEqDiff, Nat.reduceLeDiff, Nat.reduceAdd, Nat.reduceMul, fill, vc35, vc35_1, vc35_2, vc35_3, vc35_4, vc35_5, vc35_101, vc35_102, vc35_103, vc35_104, vc35_105, vc35_106, vc35_107, vc35_108, vc35_109, vc35_110, vc35_111, vc35_112, vc35_113, vc35_114, vc35_115, vc35_116, vc35_117, vc35_118, vc35_119, vc35_120, vc35_1013, vc35_1031, vc35_1050, vc35_1071, hres, f, wadd1 (show i' ≤ 140737488355328 by omega), eI', nat_int]
    refine ⟨fun s hs1 hs2 => ?_, ⟨i' + 1, rfl, by omega, ?_⟩, by omega⟩
    · repeat rw [if_neg (by omega)]
      rw [he2 s (by omega)]; exact he s hs1 hs2
    · rw [← hs, scanUp_eq _ d j i', if_pos hp]
  · have hp' : (decide (i' ≤ j) && !ltc cf d[a]! d[i']!) = false := by simpa using hp
    rw [hp'] at hres
    simp only [vsA, arith, cmpI, ldK, V.flat, V.one, V.cells, ↓reduceIte, reduceCtorEq, Nat.reduceEqDiff, Nat.reduceLeDiff, Nat.reduceAdd, Nat.reduceMul, fill, vc35, vc35_1, vc35_2, vc35_3, vc35_4, vc35_5, vc35_101, vc35_102, vc35_103, vc35_104, vc35_105, vc35_106, vc35_107, vc35_108, vc35_109, vc35_110, vc35_111, vc35_112, vc35_113, vc35_114, vc35_115, vc35_116, vc35_117, vc35_118, vc35_119, vc35_120, vc35_1013, vc35_1031, vc35_1050, vc35_1071, hres]
    refine hQ _ (fun s hs1 hs2 => (he2 s (by omega)).trans (he s hs1 hs2)) ?_
    rw [he2 11 (by omega), eI', ← hs, scanUp_eq _ d j i', if_neg hp]

theorem sc35_50 (hT : ∀ x, T x → x.length = e) (hc : CmpOk P b σ0 T cf k first cap) (h : RowOk e b σ0 σ T d sl) (hn : n = d.size) {i j a : Nat} (ha : a < d.size) (hz : i ≤ j → j < d.size) (e0 : env 0 = .sl b 0 n c) (e4 : env 4 = .fn k first cap)
    (eI : env 11 = .int .i64 i) (eJ : env 12 = .int .i64 j) (eA : env 1 = .int .i64 a)
    (hQ : ∀ env', (∀ s, s < 50 → env' s = env s) → env' 65 = .bool (decide (i ≤ j) && ltc cf d[a]! d[j]!) → Q .normal env' σ) : vwp P (vc35_1050 e φ) Q env σ := by
  subst hn
  have hrd := Store.rd_row h.row
  have hal := h.len hT
  by_cases hij : i ≤ j
  · have hi := hz hij
    have hd : decide ((i : Int) ≤ (j : Int)) = true := by simp; omega
    have g1 : (0 : Int) ≤ (j : Int) := by omega
    have g2 : (j : Int) < (d.size : Int) := by omega
    have g3 : (0 : Int) ≤ (a : Int) := by omega
    have g4 : (a : Int) < (d.size : Int) := by omega
    simp only [vsA, arith, cmpI, ldK, V.flat, V.one, V.cells, ↓reduceIte, reduceCtorEq, Nat.reduceEqDiff, Nat.reduceLeDiff, Nat.reduceAdd, Nat.reduceMul, fill, vc35, vc35_1, vc35_2, vc35_3, vc35_4, vc35_5, vc35_101, vc35_102, vc35_103, vc35_104, vc35_105, vc35_106, vc35_107, vc35_108, vc35_109, vc35_110, vc35_111, vc35_112, vc35_113, vc35_114, vc35_115, vc35_116, vc35_117, vc35_118, vc35_119, vc35_120, vc35_1013, vc35_1031, vc35_1050, vc35_1071, e0, e4, eI, eJ, eA, hd, hrd, g1, g2, g3, g4, le_flat hal hi, le_flat hal ha, get_flat hal hi, get_flat hal ha]
    refine o_call (k := k) (first := first) (cap := cap) (by simp only [vsA, arith, cmpI, ldK, V.flat, V.one, V.cells, ↓reduceIte, reduceCtorEq, Nat.reduceEqDiff, Nat.reduceLeDiff, Nat.reduceAdd, Nat.reduceMul, fill]) (R := fun v σ1 => v = .int .i64 (cf d[a]! d[j]!) ∧ σ1 = σ) (by simp only [vsA, arith, cmpI, ldK, V.flat, V.one, V.cells, ↓reduceIte, reduceCtorEq, Nat.reduceEqDiff, Nat.reduceLeDiff, Nat.reduceAdd, Nat.reduceMul, fill]; exact hc σ h.off _ _ (h.get ha) (h.get hi)) ?_
    rintro _ σ3 ⟨rfl, hσ3⟩ _ _
    subst hσ3
    simp only [vsA, arith, cmpI, ldK, V.flat, V.one, V.cells, ↓reduceIte, reduceCtorEq, Nat.reduceEqDiff, Nat.reduceLeDiff, Nat.reduceAdd, Nat.reduceMul, fill, vc35, vc35_1, vc35_2, vc35_3, vc35_4, vc35_5, vc35_101, vc35_102, vc35_103, vc35_104, vc35_105, vc35_106, vc35_107, vc35_108, vc35_109, vc35_110, vc35_111, vc35_112, vc35_113, vc35_114, vc35_115, vc35_116, vc35_117, vc35_118, vc35_119, vc35_120, vc35_1013, vc35_1031, vc35_1050, vc35_1071]
    refine hQ _ (fun s hs => ?_) ?_
    · simp only [e_put]
      repeat rw [if_neg (by omega)]
    · simp only [vsA, arith, cmpI, ldK, V.flat, V.one, V.cells, ↓reduceIte, reduceCtorEq, Nat.reduceEqDiff, Nat.reduceLeDiff, Nat.reduceAdd, Nat.reduceMul, fill]
      simp [hij, ltc]
  · have hd : decide ((i : Int) ≤ (j : Int)) = false := by simp; omega
    simp only [vsA, arith, cmpI, ldK, V.flat, V.one, V.cells, ↓reduceIte, reduceCtorEq, Nat.reduceEqDiff, Nat.reduceLeDiff, Nat.reduceAdd, Nat.reduceMul, fill, vc35, vc35_1, vc35_2, vc35_3, vc35_4, vc35_5, vc35_101, vc35_102, vc35_103, vc35_104, vc35_105, vc35_106, vc35_107, vc35_108, vc35_109, vc35_110, vc35_111, vc35_112, vc35_113, vc35_114, vc35_115, vc35_116, vc35_117, vc35_118, vc35_119, vc35_120, vc35_1013, vc35_1031, vc35_1050, vc35_1071, e0, e4, eI, eJ, eA, hd]
    refine hQ _ (fun s hs => ?_) ?_
    · simp only [e_put]
      repeat rw [if_neg (by omega)]
    · simp only [vsA, arith, cmpI, ldK, V.flat, V.one, V.cells, ↓reduceIte, reduceCtorEq, Nat.reduceEqDiff, Nat.reduceLeDiff, Nat.reduceAdd, Nat.reduceMul, fill]
      simp [hij]

theorem lp35_50 (hT : ∀ x, T x → x.length = e) (hc : CmpOk P b σ0 T cf k first cap) (h : RowOk e b σ0 σ T d sl) (hn : n = d.size) (hn2 : d.size ≤ 140737488355328) {i j a : Nat} (ha : a < d.size) (hj : j < d.size) (hi1 : 1 ≤ i) (e0 : env 0 = .sl b 0 n c) (e4 : env 4 = .fn k first cap)
    (eI : env 11 = .int .i64 i) (eJ : env 12 = .int .i64 j) (eA : env 1 = .int .i64 a)
    (hQ : ∀ env', (∀ s, s < 13 → s ≠ 12 → env' s = env s) → env' 12 = .int .i64 (scanDown (fun z => ltc cf d[a]! z) d i j : Nat) → Q .normal env' σ) : vwp P (.loop (vc35_108 e φ)) (vblk 4 Q) env σ := by
  refine w_loop (fun env' σ' => σ' = σ ∧ (∀ s, s < 13 → s ≠ 12 → env' s = env s) ∧ ∃ j' : Nat, env' 12 = .int .i64 j' ∧ j' ≤ j ∧ scanDown (fun z => ltc cf d[a]! z) d i j' = scanDown (fun z => ltc cf d[a]! z) d i j)
    (fun env' _ => (env' 12).nat) ⟨rfl, fun _ _ _ => rfl, j, eJ, Nat.le_refl _, rfl⟩ ?_
  rintro env' _ ⟨rfl, he, j', eJ', hij', hs⟩
  simp only [vc35_108, vc35_106, w_seq]
  refine sc35_50 hT hc h hn ha (fun _ => by omega) ((he 0 (by omega) (by omega)).trans e0) ((he 4 (by omega) (by omega)).trans e4) ((he 11 (by omega) (by omega)).trans eI) eJ' ((he 1 (by omega) (by omega)).trans eA) ?_
  intro env'' he2 hres
  by_cases hp : (decide (i ≤ j') && ltc cf d[a]! d[j']!) = true
  · rw [hp] at hres
    have f := (he2 12 (by omega)).trans eJ'
    have hp1 : i ≤ j' := by simp at hp; exact hp.1
    simp only [vsA, arith, cmpI, ldK, V.flat, V.one, V.cells, ↓reduceIte, reduceCtorEq, Nat.reduceEqDiff, Nat.reduceLeDiff, Nat.reduceAdd, Nat.reduceMul, fill, vc35, vc35_1, vc35_2, vc35_3, vc35_4, vc35_5, vc35_101, vc35_102, vc35_103, vc35_104, vc35_105, vc35_106, vc35_107, vc35_108, vc35_109, vc35_110, vc35_111, vc35_112, vc35_113, vc35_114, vc35_115, vc35_116, vc35_117, vc35_118, vc35_119, vc35_120, vc35_1013, vc35_1031, vc35_1050, vc35_1071, hres, f, wsub1 (show j' ≤ 140737488355328 by omega) (show 1 ≤ j' by omega), eJ', nat_int]
    refine ⟨fun s hs1 hs2 => ?_, ⟨j' - 1, rfl, by omega, ?_⟩, by omega⟩
    · repeat rw [if_neg (by omega)]
      rw [he2 s (by omega)]; exact he s hs1 hs2
    · rw [← hs, scanDown_eq _ d i j' hi1, if_pos hp]
  · have hp' : (decide (i ≤ j') && ltc cf d[a]! d[j']!) = false := by simpa using hp
    rw [hp'] at hres
    simp only [vsA, arith, cmpI, ldK, V.flat, V.one, V.cells, ↓reduceIte, reduceCtorEq, Nat.reduceEqDiff, Nat.reduceLeDiff, Nat.reduceAdd, Nat.reduceMul, fill, vc35, vc35_1, vc35_2, vc35_3, vc35_4, vc35_5, vc35_101, vc35_102, vc35_103, vc35_104, vc35_105, vc35_106, vc35_107, vc35_108, vc35_109, vc35_110, vc35_111, vc35_112, vc35_113, vc35_114, vc35_115, vc35_116, vc35_117, vc35_118, vc35_119, vc35_120, vc35_1013, vc35_1031, vc35_1050, vc35_1071, hres]
    refine hQ _ (fun s hs1 hs2 => (he2 s (by omega)).trans (he s hs1 hs2)) ?_
    rw [he2 12 (by omega), eJ', ← hs, scanDown_eq _ d i j' hi1, if_neg hp]
end Go.Vm.Srt
