/-
  The sort: partialInsertionSortCmpFunc.
-/
import Derived.Test.YtbbkgjkknjpmcaaSort6
set_option linter.unusedSimpArgs false
set_option linter.unusedVariables false
set_option linter.unusedSectionVars false
namespace Go.Vm.Srt
open Go Go.Vm Go.Sort

variable {P : Program} {e : Nat} {d : Row} {φ : Nat → Nat} {b sl c : Nat} {σ0 σ : Store} {T : List V → Prop} {cf : List V → List V → Int} {k : FuncId} {first cap : List V}
variable {Q : VExit → Env → Store → Prop} {env : Env} {n : Nat}

theorem scanSorted_eq (lt : List V → List V → Bool) (d : Row) (b i : Nat) : scanSorted lt d b i = if (decide (i < b) && !lt d[i]! d[i - 1]!) = true then scanSorted lt d b (i + 1) else i := by rw [scanSorted]

theorem swi_46 (hT : ∀ x, T x → x.length = e) (h : RowOk e b σ0 σ T d sl) (hn : n = d.size) (hn2 : d.size ≤ 140737488355328) {i : Nat} (hi : i < d.size) (hi1 : 1 ≤ i) (e0 : env 0 = .sl b 0 n c) (eI : env 9 = .int .i64 i)
    (hQ : ∀ env', (∀ s, s < 46 → env' s = env s) → Q .normal env' (σ.set b (.row (flat (swp d i (i - 1))) sl))) : vwp P (vc34_1046 e φ) Q env σ := by
  subst hn
  have hrd := Store.rd_row h.row
  have hal := h.len hT
  have hj : i - 1 < d.size := by omega
  have g1 : (0 : Int) ≤ ((i - 1 : Nat) : Int) := by omega
  have g2 : ((i - 1 : Nat) : Int) < (d.size : Int) := by omega
  have g3 : (0 : Int) ≤ (i : Int) := by omega
  have g4 : (i : Int) < (d.size : Int) := by omega
  simp only [vsA, arith, cmpI, ldK, V.flat, V.one, V.cells, ↓reduceIte, reduceCtorEq, Nat.reduceEqDiff, Nat.reduceLeDiff, Nat.reduceAdd, Nat.reduceMul, fill, vc34, vc34_1, vc34_2, vc34_3, vc34_4, vc34_101, vc34_102, vc34_103, vc34_104, vc34_105, vc34_106, vc34_107, vc34_108, vc34_109, vc34_110, vc34_111, vc34_112, vc34_113, vc34_114, vc34_115, vc34_116, vc34_117, vc34_118, vc34_119, vc34_120, vc34_121, vc34_122, vc34_123, vc34_124, vc34_125, vc34_126, vc34_127, vc34_128, vc34_129, vc34_130, vc34_131, vc34_132, vc34_133, vc34_134, vc34_135, vc34_136, vc34_137, vc34_138, vc34_139, vc34_140, vc34_141, vc34_142, vc34_143, vc34_144, vc34_145, vc34_146, vc34_147, vc34_148, vc34_149, vc34_150, vc34_151, vc34_152, vc34_153, vc34_154, vc34_155, vc34_156, vc34_157, vc34_158, vc34_1019, vc34_1046, vc34_1072, vc34_1085, vc34_1112, vc34_1125, e0, eI, hrd, g1, g2, g3, g4, wsub1 (show i ≤ 140737488355328 by omega) hi1, le_flat hal hj, le_flat hal hi, get_flat hal hj, get_flat hal hi, h.row, set_flat hal hi, le2_flat hal hi, Store.get_set_same, Store.set_set, hal.get hj, hal.get hi,
    le2_flat (hal.set (i := i) (hal.get hj)) (show i - 1 < _ by rw [size_set]; exact hj), set_flat (hal.set (i := i) (hal.get hj)) (show i - 1 < _ by rw [size_set]; exact hj)]
  refine hQ _ (fun s hs => ?_)
  simp only [e_put]
  repeat rw [if_neg (by omega)]

theorem lp_sorted (hT : ∀ x, T x → x.length = e) (hc : CmpOk P b σ0 T cf k first cap) (h : RowOk e b σ0 σ T d sl) (hn : n = d.size) (hn2 : d.size ≤ 140737488355328) {i z : Nat} (hi1 : 1 ≤ i) (hz : z ≤ d.size) (e0 : env 0 = .sl b 0 n c) (e3 : env 3 = .fn k first cap)
    (eI : env 9 = .int .i64 i) (eZ : env 2 = .int .i64 z)
    (hQ : ∀ env', (∀ s, s < 13 → s ≠ 9 → env' s = env s) → env' 9 = .int .i64 (scanSorted (ltc cf) d z i : Nat) → Q .normal env' σ) : vwp P (.loop (vc34_106 e φ)) (vblk 2 Q) env σ := by
  subst hn
  have hrd := Store.rd_row h.row
  have hal := h.len hT
  refine w_loop (fun env' σ' => σ' = σ ∧ (∀ s, s < 13 → s ≠ 9 → env' s = env s) ∧ ∃ i' : Nat, env' 9 = .int .i64 i' ∧ 1 ≤ i' ∧ scanSorted (ltc cf) d z i' = scanSorted (ltc cf) d z i)
    (fun env' _ => z - (env' 9).nat) ⟨rfl, fun _ _ _ => rfl, i, eI, hi1, rfl⟩ ?_
  rintro env' σ' ⟨hσ, he, i', eI', hi', hs⟩
  subst hσ
  have f0 := (he 0 (by omega) (by omega)).trans e0
  have f3 := (he 3 (by omega) (by omega)).trans e3
  have f2 := (he 2 (by omega) (by omega)).trans eZ
  by_cases hlt : i' < z
  · have hd : decide ((i' : Int) < (z : Int)) = true := by simp; omega
    have hi : i' < d.size := by omega
    have hj : i' - 1 < d.size := by omega
    have g1 : (0 : Int) ≤ ((i' - 1 : Nat) : Int) := by omega
    have g2 : ((i' - 1 : Nat) : Int) < (d.size : Int) := by omega
    have g3 : (0 : Int) ≤ (i' : Int) := by omega
    have g4 : (i' : Int) < (d.size : Int) := by omega
    simp only [vsA, arith, cmpI, ldK, V.flat, V.one, V.cells, ↓reduceIte, reduceCtorEq, Nat.reduceEqDiff, Nat.reduceLeDiff, Nat.reduceAdd, Nat.reduceMul, fill, vc34, vc34_1, vc34_2, vc34_3, vc34_4, vc34_101, vc34_102, vc34_103, vc34_104, vc34_105, vc34_106, vc34_107, vc34_108, vc34_109, vc34_110, vc34_111, vc34_112, vc34_113, vc34_114, vc34_115, vc34_116, vc34_117, vc34_118, vc34_119, vc34_120, vc34_121, vc34_122, vc34_123, vc34_124, vc34_125, vc34_126, vc34_127, vc34_128, vc34_129, vc34_130, vc34_131, vc34_132, vc34_133, vc34_134, vc34_135, vc34_136, vc34_137, vc34_138, vc34_139, vc34_140, vc34_141, vc34_142, vc34_143, vc34_144, vc34_145, vc34_146, vc34_147, vc34_148, vc34_149, vc34_150, vc34_151, vc34_152, vc34_153, vc34_154, vc34_155, vc34_156, vc34_157, vc34_158, vc34_1019, vc34_1046, vc34_1072, vc34_1085, vc34_1112, vc34_1125, f0, f2, f3, eI', hd, hrd, g1, g2, g3, g4, wsub1 (show i' ≤ 140737488355328 by omega) hi', le_flat hal hj, le_flat hal hi, get_flat hal hj, get_flat hal hi]
    refine o_call (k := k) (first := first) (cap := cap) (by simp only [vsA, arith, cmpI, ldK, V.flat, V.one, V.cells, ↓reduceIte, reduceCtorEq, Nat.reduceEqDiff, Nat.reduceLeDiff, Nat.reduceAdd, Nat.reduceMul, fill]) (R := fun v σ1 => v = .int .i64 (cf d[i']! d[i' - 1]!) ∧ σ1 = σ') (by simp only [vsA, arith, cmpI, ldK, V.flat, V.one, V.cells, ↓reduceIte, reduceCtorEq, Nat.reduceEqDiff, Nat.reduceLeDiff, Nat.reduceAdd, Nat.reduceMul, fill]; exact hc σ' h.off _ _ (h.get hi) (h.get hj)) ?_
    rintro _ σ3 ⟨rfl, hσ3⟩ _ _
    subst hσ3
    by_cases hcf : cf d[i']! d[i' - 1]! < 0
    · have hd2 : decide (cf d[i']! d[i' - 1]! < 0) = true := by simpa using hcf
      simp only [vsA, arith, cmpI, ldK, V.flat, V.one, V.cells, ↓reduceIte, reduceCtorEq, Nat.reduceEqDiff, Nat.reduceLeDiff, Nat.reduceAdd, Nat.reduceMul, fill, vc34, vc34_1, vc34_2, vc34_3, vc34_4, vc34_101, vc34_102, vc34_103, vc34_104, vc34_105, vc34_106, vc34_107, vc34_108, vc34_109, vc34_110, vc34_111, vc34_112, vc34_113, vc34_114, vc34_115, vc34_116, vc34_117, vc34_118, vc34_119, vc34_120, vc34_121, vc34_122, vc34_123, vc34_124, vc34_125, vc34_126, vc34_127, vc34_128, vc34_129, vc34_130, vc34_131, vc34_132, vc34_133, vc34_134, vc34_135, vc34_136, vc34_137, vc34_138, vc34_139, vc34_140, vc34_141, vc34_142, vc34_143, vc34_144, vc34_145, vc34_146, vc34_147, vc34_148, vc34_149, vc34_150, vc34_151, vc34_152, vc34_153, vc34_154, vc34_155, vc34_156, vc34_157, vc34_158, vc34_1019, vc34_1046, vc34_1072, vc34_1085, vc34_1112, vc34_1125, hd2]
      refine hQ _ (fun s hs1 hs2 => ?_) ?_
      · simp only [e_put]
        repeat rw [if_neg (by omega)]
        exact he s hs1 hs2
      · simp only [vsA, arith, cmpI, ldK, V.flat, V.one, V.cells, ↓reduceIte, reduceCtorEq, Nat.reduceEqDiff, Nat.reduceLeDiff, Nat.reduceAdd, Nat.reduceMul, fill, eI']
        rw [← hs, scanSorted_eq _ d z i', if_neg (by simp [ltc, hcf])]
    · have hd2 : decide (cf d[i']! d[i' - 1]! < 0) = false := by simpa using hcf
      simp only [vsA, arith, cmpI, ldK, V.flat, V.one, V.cells, ↓reduceIte, reduceCtorEq, Nat.reduceEqDiff, Nat.reduceLeDiff, Nat.reduceAdd, Nat.reduceMul, fill, vc34, vc34_1, vc34_2, vc34_3, vc34_4, vc34_101, vc34_102, vc34_103, vc34_104, vc34_105, vc34_106, vc34_107, vc34_108, vc34_109, vc34_110, vc34_111, vc34_112, vc34_113, vc34_114, vc34_115, vc34_116, vc34_117, vc34_118, vc34_119, vc34_120, vc34_121, vc34_122, vc34_123, vc34_124, vc34_125, vc34_126, vc34_127, vc34_128, vc34_129, vc34_130, vc34_131, vc34_132, vc34_133, vc34_134, vc34_135, vc34_136, vc34_137, vc34_138, vc34_139, vc34_140, vc34_141, vc34_142, vc34_143, vc34_144, vc34_145, vc34_146, vc34_147, vc34_148, vc34_149, vc34_150, vc34_151, vc34_152, vc34_153, vc34_154, vc34_155, vc34_156, vc34_157, vc34_158, vc34_1019, vc34_1046, vc34_1072, vc34_1085, vc34_1112, vc34_1125, hd2, eI', wadd1 (show i' ≤ 140737488355328 by omega), nat_int]
      refine ⟨fun s hs1 hs2 => ?_, ⟨i' + 1, rfl, by omega, ?_⟩, by omega⟩
      · repeat rw [if_neg (by omega)]
        exact he s hs1 hs2
      · rw [← hs, scanSorted_eq _ d z i', if_pos (by simp [ltc, hlt]; omega)]
  · have hd : decide ((i' : Int) < (z : Int)) = false := by simp; omega
    simp only [vsA, arith, cmpI, ldK, V.flat, V.one, V.cells, ↓reduceIte, reduceCtorEq, Nat.reduceEqDiff, Nat.reduceLeDiff, Nat.reduceAdd, Nat.reduceMul, fill, vc34, vc34_1, vc34_2, vc34_3, vc34_4, vc34_101, vc34_102, vc34_103, vc34_104, vc34_105, vc34_106, vc34_107, vc34_108, vc34_109, vc34_110, vc34_111, vc34_112, vc34_113, vc34_114, vc34_115, vc34_116, vc34_117, vc34_118, vc34_119, vc34_120, vc34_121, vc34_122, vc34_123, vc34_124, vc34_125, vc34_126, vc34_127, vc34_128, vc34_129, vc34_130, vc34_131, vc34_132, vc34_133, vc34_134, vc34_135, vc34_136, vc34_137, vc34_138, vc34_139, vc34_140, vc34_141, vc34_142, vc34_143, vc34_144, vc34_145, vc34_146, vc34_147, vc34_148, vc34_149, vc34_150, vc34_151, vc34_152, vc34_153, vc34_154, vc34_155, vc34_156, vc34_157, vc34_158, vc34_1019, vc34_1046, vc34_1072, vc34_1085, vc34_1112, vc34_1125, f0, f2, f3, eI', hd]
    refine hQ _ (fun s hs1 hs2 => ?_) ?_
    · simp only [e_put]
      repeat rw [if_neg (by omega)]
      exact he s hs1 hs2
    · simp only [vsA, arith, cmpI, ldK, V.flat, V.one, V.cells, ↓reduceIte, reduceCtorEq, Nat.reduceEqDiff, Nat.reduceLeDiff, Nat.reduceAdd, Nat.reduceMul, fill, eI']
      rw [← hs, scanSorted_eq _ d z i', if_neg (by simp [hlt])]

theorem lp_down (hT : ∀ x, T x → x.length = e) (hc : CmpOk P b σ0 T cf k first cap) (h : RowOk e b σ0 σ T d sl) (hn : n = d.size) (hn2 : d.size ≤ 140737488355328) {j : Nat} (hj : j < d.size) (e0 : env 0 = .sl b 0 n c) (e3 : env 3 = .fn k first cap)
    (eJ : env 11 = .int .i64 j)
    (hQ : ∀ env', (∀ s, s < 11 → env' s = env s) → RowOk e b σ0 (σ.set b (.row (flat (shiftDown (ltc cf) j d)) sl)) T (shiftDown (ltc cf) j d) sl → (shiftDown (ltc cf) j d).size = d.size → Q .normal env' (σ.set b (.row (flat (shiftDown (ltc cf) j d)) sl))) : vwp P (.loop (vc34_124 e φ)) (vblk 4 Q) env σ := by
  subst hn
  refine w_loop (fun env' σ' => (∀ s, s < 11 → env' s = env s) ∧ ∃ (j' : Nat) (d' : Row), env' 11 = .int .i64 j' ∧ j' < d.size ∧ d'.size = d.size ∧ RowOk e b σ0 σ' T d' sl ∧ σ' = σ.set b (.row (flat d') sl) ∧ shiftDown (ltc cf) j' d' = shiftDown (ltc cf) j d)
    (fun env' _ => (env' 11).nat) ⟨fun _ _ => rfl, j, d, eJ, hj, rfl, h, (Store.set_same _ h.row).symm, rfl⟩ ?_
  rintro env' σ' ⟨he, j', d', eJ', hj', hsz, hr, hσ', hs⟩
  have hrd := Store.rd_row hr.row
  have hal := hr.len hT
  have f0 := (he 0 (by omega)).trans e0
  have f3 := (he 3 (by omega)).trans e3
  cases j' with
  | zero =>
    have hd : decide (((0 : Nat) : Int) ≥ 1) = false := by simp
    simp only [vsA, arith, cmpI, ldK, V.flat, V.one, V.cells, ↓reduceIte, reduceCtorEq, Nat.reduceEqDiff, Nat.reduceLeDiff, Nat.reduceAdd, Nat.reduceMul, fill, vc34, vc34_1, vc34_2, vc34_3, vc34_4, vc34_101, vc34_102, vc34_103, vc34_104, vc34_105, vc34_106, vc34_107, vc34_108, vc34_109, vc34_110, vc34_111, vc34_112, vc34_113, vc34_114, vc34_115, vc34_116, vc34_117, vc34_118, vc34_119, vc34_120, vc34_121, vc34_122, vc34_123, vc34_124, vc34_125, vc34_126, vc34_127, vc34_128, vc34_129, vc34_130, vc34_131, vc34_132, vc34_133, vc34_134, vc34_135, vc34_136, vc34_137, vc34_138, vc34_139, vc34_140, vc34_141, vc34_142, vc34_143, vc34_144, vc34_145, vc34_146, vc34_147, vc34_148, vc34_149, vc34_150, vc34_151, vc34_152, vc34_153, vc34_154, vc34_155, vc34_156, vc34_157, vc34_158, vc34_1019, vc34_1046, vc34_1072, vc34_1085, vc34_1112, vc34_1125, f0, f3, eJ', hd]
    have hs' : shiftDown (ltc cf) 0 d' = d' := by rw [shiftDown]
    rw [hs'] at hs
    rw [hσ'] at hr
    rw [hs] at hr hsz
    rw [hσ', hs]
    refine hQ _ (fun s hs1 => ?_) hr hsz
    simp only [e_put]
    repeat rw [if_neg (by omega)]
    exact he s hs1
  | succ q =>
    have hd : decide (((q + 1 : Nat) : Int) ≥ 1) = true := by simp; omega
    have hi : q + 1 < d'.size := by omega
    have hq : q < d'.size := by omega
    have g1 : (0 : Int) ≤ (q : Int) := by omega
    have g2 : (q : Int) < (d.size : Int) := by omega
    have g3 : (0 : Int) ≤ ((q + 1 : Nat) : Int) := by omega
    have g4 : ((q + 1 : Nat) : Int) < (d.size : Int) := by omega
    have w1 : IntKind.i64.wrap (((q + 1 : Nat) : Int) - 1) = (q : Int) := by rw [wrap64 (by omega) (by omega)]; omega
    have hsd : shiftDown (ltc cf) (q + 1) d' = if (!ltc cf d'[q + 1]! d'[q]!) = true then d' else shiftDown (ltc cf) q (swp d' (q + 1) q) := by rw [shiftDown]
    simp only [vsA, arith, cmpI, ldK, V.flat, V.one, V.cells, ↓reduceIte, reduceCtorEq, Nat.reduceEqDiff, Nat.reduceLeDiff, Nat.reduceAdd, Nat.reduceMul, fill, vc34, vc34_1, vc34_2, vc34_3, vc34_4, vc34_101, vc34_102, vc34_103, vc34_104, vc34_105, vc34_106, vc34_107, vc34_108, vc34_109, vc34_110, vc34_111, vc34_112, vc34_113, vc34_114, vc34_115, vc34_116, vc34_117, vc34_118, vc34_119, vc34_120, vc34_121, vc34_122, vc34_123, vc34_124, vc34_125, vc34_126, vc34_127, vc34_128, vc34_129, vc34_130, vc34_131, vc34_132, vc34_133, vc34_134, vc34_135, vc34_136, vc34_137, vc34_138, vc34_139, vc34_140, vc34_141, vc34_142, vc34_143, vc34_144, vc34_145, vc34_146, vc34_147, vc34_148, vc34_149, vc34_150, vc34_151, vc34_152, vc34_153, vc34_154, vc34_155, vc34_156, vc34_157, vc34_158, vc34_1019, vc34_1046, vc34_1072, vc34_1085, vc34_1112, vc34_1125, f0, f3, eJ', hd, hrd, g1, g2, g3, g4, w1, le_flat hal hq, le_flat hal hi, get_flat hal hq, get_flat hal hi]
    refine o_call (k := k) (first := first) (cap := cap) (by simp only [vsA, arith, cmpI, ldK, V.flat, V.one, V.cells, ↓reduceIte, reduceCtorEq, Nat.reduceEqDiff, Nat.reduceLeDiff, Nat.reduceAdd, Nat.reduceMul, fill]) (R := fun v σ1 => v = .int .i64 (cf d'[q + 1]! d'[q]!) ∧ σ1 = σ') (by simp only [vsA, arith, cmpI, ldK, V.flat, V.one, V.cells, ↓reduceIte, reduceCtorEq, Nat.reduceEqDiff, Nat.reduceLeDiff, Nat.reduceAdd, Nat.reduceMul, fill]; exact hc σ' hr.off _ _ (hr.get hi) (hr.get hq)) ?_
    rintro _ σ3 ⟨rfl, hσ3⟩ _ _
    subst hσ3
    by_cases hcf : cf d'[q + 1]! d'[q]! < 0
    · have hd2 : decide (cf d'[q + 1]! d'[q]! < 0) = true := by simpa using hcf
      simp only [vsA, arith, cmpI, ldK, V.flat, V.one, V.cells, ↓reduceIte, reduceCtorEq, Nat.reduceEqDiff, Nat.reduceLeDiff, Nat.reduceAdd, Nat.reduceMul, fill, vc34, vc34_1, vc34_2, vc34_3, vc34_4, vc34_101, vc34_102, vc34_103, vc34_104, vc34_105, vc34_106, vc34_107, vc34_108, vc34_109, vc34_110, vc34_111, vc34_112, vc34_113, vc34_114, vc34_115, vc34_116, vc34_117, vc34_118, vc34_119, vc34_120, vc34_121, vc34_122, vc34_123, vc34_124, vc34_125, vc34_126, vc34_127, vc34_128, vc34_129, vc34_130, vc34_131, vc34_132, vc34_133, vc34_134, vc34_135, vc34_136, vc34_137, vc34_138, vc34_139, vc34_140, vc34_141, vc34_142, vc34_143, vc34_144, vc34_145, vc34_146, vc34_147, vc34_148, vc34_149, vc34_150, vc34_151, vc34_152, vc34_153, vc34_154, vc34_155, vc34_156, vc34_157, vc34_158, vc34_1019, vc34_1046, vc34_1072, vc34_1085, vc34_1112, vc34_1125, f0, f3, eJ', hd2, hrd, g1, g2, g3, g4, w1, le_flat hal hq, le_flat hal hi, get_flat hal hq, get_flat hal hi, hr.row, set_flat hal hi, le2_flat hal hi, Store.get_set_same, Store.set_set, hal.get hq, hal.get hi,
        le2_flat (hal.set (i := q + 1) (hal.get hq)) (show q < _ by rw [size_set]; exact hq), set_flat (hal.set (i := q + 1) (hal.get hq)) (show q < _ by rw [size_set]; exact hq), nat_int]
      refine ⟨fun s hs1 => ?_, ⟨q, rfl, by omega, swp d' (q + 1) q, by simp [swp, hsz], hr.swp hi hq, ?_, ?_⟩, by omega⟩
      · repeat rw [if_neg (by omega)]
        exact he s hs1
      · rw [hσ', Store.set_set]; rfl
      · rw [← hs, hsd, if_neg (by simp [ltc, hcf])]
    · have hd2 : decide (cf d'[q + 1]! d'[q]! < 0) = false := by simpa using hcf
      simp only [vsA, arith, cmpI, ldK, V.flat, V.one, V.cells, ↓reduceIte, reduceCtorEq, Nat.reduceEqDiff, Nat.reduceLeDiff, Nat.reduceAdd, Nat.reduceMul, fill, vc34, vc34_1, vc34_2, vc34_3, vc34_4, vc34_101, vc34_102, vc34_103, vc34_104, vc34_105, vc34_106, vc34_107, vc34_108, vc34_109, vc34_110, vc34_111, vc34_112, vc34_113, vc34_114, vc34_115, vc34_116, vc34_117, vc34_118, vc34_119, vc34_120, vc34_121, vc34_122, vc34_123, vc34_124, vc34_125, vc34_126, vc34_127, vc34_128, vc34_129, vc34_130, vc34_131, vc34_132, vc34_133, vc34_134, vc34_135, vc34_136, vc34_137, vc34_138, vc34_139, vc34_140, vc34_141, vc34_142, vc34_143, vc34_144, vc34_145, vc34_146, vc34_147, vc34_148, vc34_149, vc34_150, vc34_151, vc34_152, vc34_153, vc34_154, vc34_155, vc34_156, vc34_157, vc34_158, vc34_1019, vc34_1046, vc34_1072, vc34_1085, vc34_1112, vc34_1125, hd2]
      rw [hsd, if_pos (by simp [ltc]; omega)] at hs
      rw [hσ'] at hr
      rw [hs] at hr hsz
      rw [hσ', hs]
      refine hQ _ (fun s hs1 => ?_) hr hsz
      simp only [e_put]
      repeat rw [if_neg (by omega)]
      exact he s hs1

theorem shiftUp_eq (lt : List V → List V → Bool) (b j : Nat) (d : Row) : shiftUp lt b j d = if j < b then (if (!lt d[j]! d[j - 1]!) = true then d else shiftUp lt b (j + 1) (swp d j (j - 1))) else d := by rw [shiftUp]

theorem lp_up (hT : ∀ x, T x → x.length = e) (hc : CmpOk P b σ0 T cf k first cap) (h : RowOk e b σ0 σ T d sl) (hn : n = d.size) (hn2 : d.size ≤ 140737488355328) {j z : Nat} (hj : 1 ≤ j) (hz : z ≤ d.size) (e0 : env 0 = .sl b 0 n c) (e3 : env 3 = .fn k first cap)
    (e2 : env 2 = .int .i64 z) (eJ : env 12 = .int .i64 j)
    (hQ : ∀ env', (∀ s, s < 11 → env' s = env s) → RowOk e b σ0 (σ.set b (.row (flat (shiftUp (ltc cf) z j d)) sl)) T (shiftUp (ltc cf) z j d) sl → (shiftUp (ltc cf) z j d).size = d.size → Q .normal env' (σ.set b (.row (flat (shiftUp (ltc cf) z j d)) sl))) : vwp P (.loop (vc34_138 e φ)) (vblk 6 Q) env σ := by
  subst hn
  refine w_loop (fun env' σ' => (∀ s, s < 11 → env' s = env s) ∧ ∃ (j' : Nat) (d' : Row), env' 12 = .int .i64 j' ∧ 1 ≤ j' ∧ d'.size = d.size ∧ RowOk e b σ0 σ' T d' sl ∧ σ' = σ.set b (.row (flat d') sl) ∧ shiftUp (ltc cf) z j' d' = shiftUp (ltc cf) z j d)
    (fun env' _ => z - (env' 12).nat) ⟨fun _ _ => rfl, j, d, eJ, hj, rfl, h, (Store.set_same _ h.row).symm, rfl⟩ ?_
  rintro env' σ' ⟨he, q, d', eJ', hj', hsz, hr, hσ', hs⟩
  have hrd := Store.rd_row hr.row
  have hal := hr.len hT
  have f0 := (he 0 (by omega)).trans e0
  have f2 := (he 2 (by omega)).trans e2
  have f3 := (he 3 (by omega)).trans e3
  by_cases hlt : q < z
  · have hd : decide ((q : Int) < (z : Int)) = true := by simp; omega
    have hi : q < d'.size := by omega
    have hq : q - 1 < d'.size := by omega
    have g1 : (0 : Int) ≤ ((q - 1 : Nat) : Int) := by omega
    have g2 : ((q - 1 : Nat) : Int) < (d.size : Int) := by omega
    have g3 : (0 : Int) ≤ (q : Int) := by omega
    have g4 : (q : Int) < (d.size : Int) := by omega
    have w1 := wsub1 (show q ≤ 140737488355328 by omega) hj'
    rw [shiftUp_eq, if_pos hlt] at hs
    simp only [vsA, arith, cmpI, ldK, V.flat, V.one, V.cells, ↓reduceIte, reduceCtorEq, Nat.reduceEqDiff, Nat.reduceLeDiff, Nat.reduceAdd, Nat.reduceMul, fill, vc34, vc34_1, vc34_2, vc34_3, vc34_4, vc34_101, vc34_102, vc34_103, vc34_104, vc34_105, vc34_106, vc34_107, vc34_108, vc34_109, vc34_110, vc34_111, vc34_112, vc34_113, vc34_114, vc34_115, vc34_116, vc34_117, vc34_118, vc34_119, vc34_120, vc34_121, vc34_122, vc34_123, vc34_124, vc34_125, vc34_126, vc34_127, vc34_128, vc34_129, vc34_130, vc34_131, vc34_132, vc34_133, vc34_134, vc34_135, vc34_136, vc34_137, vc34_138, vc34_139, vc34_140, vc34_141, vc34_142, vc34_143, vc34_144, vc34_145, vc34_146, vc34_147, vc34_148, vc34_149, vc34_150, vc34_151, vc34_152, vc34_153, vc34_154, vc34_155, vc34_156, vc34_157, vc34_158, vc34_1019, vc34_1046, vc34_1072, vc34_1085, vc34_1112, vc34_1125, f0, f2, f3, eJ', hd, hrd, g1, g2, g3, g4, w1, le_flat hal hq, le_flat hal hi, get_flat hal hq, get_flat hal hi]
    refine o_call (k := k) (first := first) (cap := cap) (by simp only [vsA, arith, cmpI, ldK, V.flat, V.one, V.cells, ↓reduceIte, reduceCtorEq, Nat.reduceEqDiff, Nat.reduceLeDiff, Nat.reduceAdd, Nat.reduceMul, fill]) (R := fun v σ1 => v = .int .i64 (cf d'[q]! d'[q - 1]!) ∧ σ1 = σ') (by simp only [vsA, arith, cmpI, ldK, V.flat, V.one, V.cells, ↓reduceIte, reduceCtorEq, Nat.reduceEqDiff, Nat.reduceLeDiff, Nat.reduceAdd, Nat.reduceMul, fill]; exact hc σ' hr.off _ _ (hr.get hi) (hr.get hq)) ?_
    rintro _ σ3 ⟨rfl, hσ3⟩ _ _
    subst hσ3
    by_cases hcf : cf d'[q]! d'[q - 1]! < 0
    · have hd2 : decide (cf d'[q]! d'[q - 1]! < 0) = true := by simpa using hcf
      rw [if_neg (by simp [ltc, hcf])] at hs
      simp only [vsA, arith, cmpI, ldK, V.flat, V.one, V.cells, ↓reduceIte, reduceCtorEq, Nat.reduceEqDiff, Nat.reduceLeDiff, Nat.reduceAdd, Nat.reduceMul, fill, vc34, vc34_1, vc34_2, vc34_3, vc34_4, vc34_101, vc34_102, vc34_103, vc34_104, vc34_105, vc34_106, vc34_107, vc34_108, vc34_109, vc34_110, vc34_111, vc34_112, vc34_113, vc34_114, vc34_115, vc34_116, vc34_117, vc34_118, vc34_119, vc34_120, vc34_121, vc34_122, vc34_123, vc34_124, vc34_125, vc34_126, vc34_127, vc34_128, vc34_129, vc34_130, vc34_131, vc34_132, vc34_133, vc34_134, vc34_135, vc34_136, vc34_137, vc34_138, vc34_139, vc34_140, vc34_141, vc34_142, vc34_143, vc34_144, vc34_145, vc34_146, vc34_147, vc34_148, vc34_149, vc34_150, vc34_151, vc34_152, vc34_153, vc34_154, vc34_155, vc34_156, vc34_157, vc34_158, vc34_1019, vc34_1046, vc34_1072, vc34_1085, vc34_1112, vc34_1125, f0, f2, f3, eJ', hd2, hrd, g1, g2, g3, g4, w1, le_flat hal hq, le_flat hal hi, get_flat hal hq, get_flat hal hi, hr.row, set_flat hal hi, le2_flat hal hi, Store.get_set_same, Store.set_set, hal.get hq, hal.get hi,
        le2_flat (hal.set (i := q) (hal.get hq)) (show q - 1 < _ by rw [size_set]; exact hq), set_flat (hal.set (i := q) (hal.get hq)) (show q - 1 < _ by rw [size_set]; exact hq), nat_int, wadd1 (show q ≤ 140737488355328 by omega)]
      refine ⟨fun s hs1 => ?_, ⟨q + 1, rfl, by omega, swp d' q (q - 1), by simp [swp, hsz], hr.swp hi hq, ?_, hs⟩, by omega⟩
      · repeat rw [if_neg (by omega)]
        exact he s hs1
      · rw [hσ', Store.set_set]; rfl
    · have hd2 : decide (cf d'[q]! d'[q - 1]! < 0) = false := by simpa using hcf
      simp only [vsA, arith, cmpI, ldK, V.flat, V.one, V.cells, ↓reduceIte, reduceCtorEq, Nat.reduceEqDiff, Nat.reduceLeDiff, Nat.reduceAdd, Nat.reduceMul, fill, vc34, vc34_1, vc34_2, vc34_3, vc34_4, vc34_101, vc34_102, vc34_103, vc34_104, vc34_105, vc34_106, vc34_107, vc34_108, vc34_109, vc34_110, vc34_111, vc34_112, vc34_113, vc34_114, vc34_115, vc34_116, vc34_117, vc34_118, vc34_119, vc34_120, vc34_121, vc34_122, vc34_123, vc34_124, vc34_125, vc34_126, vc34_127, vc34_128, vc34_129, vc34_130, vc34_131, vc34_132, vc34_133, vc34_134, vc34_135, vc34_136, vc34_137, vc34_138, vc34_139, vc34_140, vc34_141, vc34_142, vc34_143, vc34_144, vc34_145, vc34_146, vc34_147, vc34_148, vc34_149, vc34_150, vc34_151, vc34_152, vc34_153, vc34_154, vc34_155, vc34_156, vc34_157, vc34_158, vc34_1019, vc34_1046, vc34_1072, vc34_1085, vc34_1112, vc34_1125, hd2]
      rw [if_pos (by simp [ltc]; omega)] at hs
      rw [hσ'] at hr
      rw [hs] at hr hsz
      rw [hσ', hs]
      refine hQ _ (fun s hs1 => ?_) hr hsz
      simp only [e_put]
      repeat rw [if_neg (by omega)]
      exact he s hs1
  · have hd : decide ((q : Int) < (z : Int)) = false := by simp; omega
    simp only [vsA, arith, cmpI, ldK, V.flat, V.one, V.cells, ↓reduceIte, reduceCtorEq, Nat.reduceEqDiff, Nat.reduceLeDiff, Nat.reduceAdd, Nat.reduceMul, fill, vc34, vc34_1, vc34_2, vc34_3, vc34_4, vc34_101, vc34_102, vc34_103, vc34_104, vc34_105, vc34_106, vc34_107, vc34_108, vc34_109, vc34_110, vc34_111, vc34_112, vc34_113, vc34_114, vc34_115, vc34_116, vc34_117, vc34_118, vc34_119, vc34_120, vc34_121, vc34_122, vc34_123, vc34_124, vc34_125, vc34_126, vc34_127, vc34_128, vc34_129, vc34_130, vc34_131, vc34_132, vc34_133, vc34_134, vc34_135, vc34_136, vc34_137, vc34_138, vc34_139, vc34_140, vc34_141, vc34_142, vc34_143, vc34_144, vc34_145, vc34_146, vc34_147, vc34_148, vc34_149, vc34_150, vc34_151, vc34_152, vc34_153, vc34_154, vc34_155, vc34_156, vc34_157, vc34_158, vc34_1019, vc34_1046, vc34_1072, vc34_1085, vc34_1112, vc34_1125, f0, f2, f3, eJ', hd]
    rw [shiftUp_eq, if_neg hlt] at hs
    rw [hσ'] at hr
    rw [hs] at hr hsz
    rw [hσ', hs]
    refine hQ _ (fun s hs1 => ?_) hr hsz
    simp only [e_put]
    repeat rw [if_neg (by omega)]
    exact he s hs1

theorem RowOk.set_row {d' : Row} (h : RowOk e b σ0 σ T d sl) (ha : ∀ x ∈ d'.toList, T x) : RowOk e b σ0 (σ.set b (.row (flat d') sl)) T d' sl :=
  ⟨by simp, ha, fun j o hj ho => by rw [Store.get_set_ne _ _ hj]; exact h.off j o hj ho⟩
theorem perm_all {d d' : Row} {a z : Nat} (h : PermIn a z d d') (hz : z ≤ d.size) (ha : ∀ x ∈ d.toList, T x) : ∀ x ∈ d'.toList, T x := by
  have all : ∀ i, i < d.size → T d[i]! := fun i hi => by
    have hl : i < d.toList.length := by simpa using hi
    have := ha _ (List.getElem_mem hl)
    simpa [hi] using this
  intro x hx
  obtain ⟨i, hi, rfl⟩ := List.mem_iff_getElem.1 hx
  have hi' : i < d'.size := by simpa using hi
  have hsz := h.1
  have : d'.toList[i] = d'[i]! := by simp [hi']
  rw [this]
  by_cases hin : a ≤ i ∧ i < z
  · exact permIn_all d d' a z T hz h (fun i _ hi2 => all i (by omega)) i hin.1 hin.2
  · rw [h.2.1 i (by omega)]; exact all i (by omega)
theorem ss_bound (lt : List V → List V → Bool) (d : Row) (z : Nat) : ∀ (n i : Nat), z - i = n → i ≤ z → i ≤ scanSorted lt d z i ∧ scanSorted lt d z i ≤ z
  | 0, i, hn, hi => by
    rw [scanSorted_eq, if_neg (by simp; intro; omega)]; omega
  | n + 1, i, hn, hi => by
    rw [scanSorted_eq]
    split
    · have := ss_bound lt d z n (i + 1) (by omega) (by omega); omega
    · omega

set_option maxHeartbeats 1000000 in
theorem partins_do (L : Lays P e φ) (hT : ∀ x, T x → x.length = e) (hc : CmpOk P b σ0 T cf k first cap) (h : RowOk e b σ0 σ T d sl) (hn : d.size ≤ 140737488355328) {a z : Nat} (ha : a < z) (hz : z ≤ d.size) :
    VCalls P (φ 34) [.sl b 0 d.size c, .int .i64 a, .int .i64 z, .fn k first cap] σ (fun v σ' => v = .bool (partialInsertionSort (ltc cf) d a z).2 ∧
      σ' = σ.set b (.row (flat (partialInsertionSort (ltc cf) d a z).1) sl) ∧ RowOk e b σ0 σ' T (partialInsertionSort (ltc cf) d a z).1 sl) := by
  refine vcalls_of L.c34 (fun _ hok => ?_)
  obtain ⟨R, hR⟩ : ∃ R : V → Store → Prop, R = (fun v σ' => v = .bool (partialInsertionSort (ltc cf) d a z).2 ∧
      σ' = σ.set b (.row (flat (partialInsertionSort (ltc cf) d a z).1) sl) ∧ RowOk e b σ0 σ' T (partialInsertionSort (ltc cf) d a z).1 sl) := ⟨_, rfl⟩
  rw [← hR]
  have hpe : partialInsertionSort (ltc cf) d a z = partialIns (ltc cf) a z 5 (a + 1) d := rfl
  have fin : ∀ (d' : Row) (r : Bool) (σ' : Store), RowOk e b σ0 σ' T d' sl → σ' = σ.set b (.row (flat d') sl) → (d', r) = partialIns (ltc cf) a z 5 (a + 1) d → Rets R (.bool r) σ' := by
    intro d' r σ' h1 h2 h3
    refine Rets.of ?_
    rw [hR, hpe, ← h3]
    exact ⟨rfl, h2, h1⟩
  simp only [vsA, arith, cmpI, ldK, V.flat, V.one, V.cells, ↓reduceIte, reduceCtorEq, Nat.reduceEqDiff, Nat.reduceLeDiff, Nat.reduceAdd, Nat.reduceMul, fill, vc34, vc34_1, vc34_2, vc34_4, vc34_101, vc34_102, vc34_103, vc34_104, vc34_105, vc34_107, vc34_108, vc34_109, vc34_110, vc34_111, vc34_112, vc34_113, vc34_114, vc34_115, vc34_116, vc34_117, vc34_118, vc34_119, vc34_120, vc34_121, vc34_122, vc34_123, vc34_125, vc34_126, vc34_127, vc34_128, vc34_129, vc34_130, vc34_131, vc34_132, vc34_133, vc34_134, vc34_135, vc34_136, vc34_137, vc34_139, vc34_140, vc34_141, vc34_142, vc34_143, vc34_145, vc34_146, vc34_147, vc34_148, vc34_149, vc34_150, vc34_151, vc34_152, vc34_154, vc34_155, vc34_157, vc34_158, vc34_1019, vc34_1072, vc34_1085, vc34_1112, vc34_1125, wadd1 (show a ≤ 140737488355328 by omega)]
  obtain ⟨I, hI⟩ : ∃ I : Env → Store → Prop, I = (fun env' σ' => ∃ (i m : Nat) (d' : Row), env' 0 = .sl b 0 d.size c ∧ env' 1 = .int .i64 a ∧ env' 2 = .int .i64 z ∧ env' 3 = .fn k first cap ∧ env' 9 = .int .i64 i ∧ env' 10 = .int .i64 m ∧ m ≤ 5 ∧ RowOk e b σ0 σ' T d' sl ∧ σ' = σ.set b (.row (flat d') sl) ∧
      d'.size = d.size ∧ a < i ∧ i ≤ z ∧ partialIns (ltc cf) a z (5 - m) i d' = partialIns (ltc cf) a z 5 (a + 1) d) := ⟨_, rfl⟩
  obtain ⟨μ, hμ⟩ : ∃ μ : Env → Store → Nat, μ = (fun env' _ => 5 - (env' 10).nat) := ⟨_, rfl⟩
  refine w_loop I μ (by rw [hI]; exact ⟨a + 1, 0, d, by simp only [vsA, arith, cmpI, ldK, V.flat, V.one, V.cells, ↓reduceIte, reduceCtorEq, Nat.reduceEqDiff, Nat.reduceLeDiff, Nat.reduceAdd, Nat.reduceMul, fill], by simp only [vsA, arith, cmpI, ldK, V.flat, V.one, V.cells, ↓reduceIte, reduceCtorEq, Nat.reduceEqDiff, Nat.reduceLeDiff, Nat.reduceAdd, Nat.reduceMul, fill], by simp only [vsA, arith, cmpI, ldK, V.flat, V.one, V.cells, ↓reduceIte, reduceCtorEq, Nat.reduceEqDiff, Nat.reduceLeDiff, Nat.reduceAdd, Nat.reduceMul, fill], by simp only [vsA, arith, cmpI, ldK, V.flat, V.one, V.cells, ↓reduceIte, reduceCtorEq, Nat.reduceEqDiff, Nat.reduceLeDiff, Nat.reduceAdd, Nat.reduceMul, fill], by simp only [vsA, arith, cmpI, ldK, V.flat, V.one, V.cells, ↓reduceIte, reduceCtorEq, Nat.reduceEqDiff, Nat.reduceLeDiff, Nat.reduceAdd, Nat.reduceMul, fill], by simp only [vsA, arith, cmpI, ldK, V.flat, V.one, V.cells, ↓reduceIte, reduceCtorEq, Nat.reduceEqDiff, Nat.reduceLeDiff, Nat.reduceAdd, Nat.reduceMul, fill]; rfl, by omega, h, (Store.set_same _ h.row).symm, rfl, by omega, by omega, rfl⟩) ?_
  intro env' σ' hinv
  have hinv' := hinv
  rw [hI] at hinv'
  obtain ⟨i, m, d', e0, e1, e2, e3, e9, e10, hm, hr, hσ', hsz, hai, hiz, hpi⟩ := hinv'
  by_cases hlt : m < 5
  · have hd : decide ((m : Int) < 5) = true := by simp; omega
    obtain ⟨q, hq⟩ : ∃ q, 5 - m = q + 1 := ⟨4 - m, by omega⟩
    rw [hq, partialIns_succ] at hpi
    simp only [vsA, arith, cmpI, ldK, V.flat, V.one, V.cells, ↓reduceIte, reduceCtorEq, Nat.reduceEqDiff, Nat.reduceLeDiff, Nat.reduceAdd, Nat.reduceMul, fill, vc34, vc34_1, vc34_2, vc34_4, vc34_101, vc34_102, vc34_103, vc34_104, vc34_105, vc34_107, vc34_108, vc34_109, vc34_110, vc34_111, vc34_112, vc34_113, vc34_114, vc34_115, vc34_116, vc34_117, vc34_118, vc34_119, vc34_120, vc34_121, vc34_122, vc34_123, vc34_125, vc34_126, vc34_127, vc34_128, vc34_129, vc34_130, vc34_131, vc34_132, vc34_133, vc34_134, vc34_135, vc34_136, vc34_137, vc34_139, vc34_140, vc34_141, vc34_142, vc34_143, vc34_145, vc34_146, vc34_147, vc34_148, vc34_149, vc34_150, vc34_151, vc34_152, vc34_154, vc34_155, vc34_156, vc34_157, vc34_158, vc34_1019, vc34_1072, vc34_1085, vc34_1112, vc34_1125, e10, hd]
    refine lp_sorted (c := c) hT hc hr hsz.symm (by omega) (i := i) (z := z) (by omega) (by omega) (by simp only [vsA, arith, cmpI, ldK, V.flat, V.one, V.cells, ↓reduceIte, reduceCtorEq, Nat.reduceEqDiff, Nat.reduceLeDiff, Nat.reduceAdd, Nat.reduceMul, fill, e0]) (by simp only [vsA, arith, cmpI, ldK, V.flat, V.one, V.cells, ↓reduceIte, reduceCtorEq, Nat.reduceEqDiff, Nat.reduceLeDiff, Nat.reduceAdd, Nat.reduceMul, fill, e3]) (by simp only [vsA, arith, cmpI, ldK, V.flat, V.one, V.cells, ↓reduceIte, reduceCtorEq, Nat.reduceEqDiff, Nat.reduceLeDiff, Nat.reduceAdd, Nat.reduceMul, fill, e9]) (by simp only [vsA, arith, cmpI, ldK, V.flat, V.one, V.cells, ↓reduceIte, reduceCtorEq, Nat.reduceEqDiff, Nat.reduceLeDiff, Nat.reduceAdd, Nat.reduceMul, fill, e2]) ?_
    intro env1 he1 f9
    have f0 : env1 0 = .sl b 0 d.size c := (he1 0 (by omega) (by omega)).trans (by simp only [vsA, arith, cmpI, ldK, V.flat, V.one, V.cells, ↓reduceIte, reduceCtorEq, Nat.reduceEqDiff, Nat.reduceLeDiff, Nat.reduceAdd, Nat.reduceMul, fill, e0])
    have f1 : env1 1 = .int .i64 a := (he1 1 (by omega) (by omega)).trans (by simp only [vsA, arith, cmpI, ldK, V.flat, V.one, V.cells, ↓reduceIte, reduceCtorEq, Nat.reduceEqDiff, Nat.reduceLeDiff, Nat.reduceAdd, Nat.reduceMul, fill, e1])
    have f2 : env1 2 = .int .i64 z := (he1 2 (by omega) (by omega)).trans (by simp only [vsA, arith, cmpI, ldK, V.flat, V.one, V.cells, ↓reduceIte, reduceCtorEq, Nat.reduceEqDiff, Nat.reduceLeDiff, Nat.reduceAdd, Nat.reduceMul, fill, e2])
    have f3 : env1 3 = .fn k first cap := (he1 3 (by omega) (by omega)).trans (by simp only [vsA, arith, cmpI, ldK, V.flat, V.one, V.cells, ↓reduceIte, reduceCtorEq, Nat.reduceEqDiff, Nat.reduceLeDiff, Nat.reduceAdd, Nat.reduceMul, fill, e3])
    have f10 : env1 10 = .int .i64 m := (he1 10 (by omega) (by omega)).trans (by simp only [vsA, arith, cmpI, ldK, V.flat, V.one, V.cells, ↓reduceIte, reduceCtorEq, Nat.reduceEqDiff, Nat.reduceLeDiff, Nat.reduceAdd, Nat.reduceMul, fill, e10])
    have hb := ss_bound (ltc cf) d' z _ i rfl hiz
    generalize scanSorted (ltc cf) d' z i = i2 at *
    by_cases hz2 : i2 = z
    · subst hz2
      rw [if_pos rfl] at hpi
      simp only [vsA, arith, cmpI, ldK, V.flat, V.one, V.cells, ↓reduceIte, reduceCtorEq, Nat.reduceEqDiff, Nat.reduceLeDiff, Nat.reduceAdd, Nat.reduceMul, fill, vc34, vc34_1, vc34_2, vc34_4, vc34_101, vc34_102, vc34_103, vc34_104, vc34_105, vc34_107, vc34_108, vc34_109, vc34_110, vc34_111, vc34_112, vc34_113, vc34_114, vc34_115, vc34_116, vc34_117, vc34_118, vc34_119, vc34_120, vc34_121, vc34_122, vc34_123, vc34_125, vc34_126, vc34_127, vc34_128, vc34_129, vc34_130, vc34_131, vc34_132, vc34_133, vc34_134, vc34_135, vc34_136, vc34_137, vc34_139, vc34_140, vc34_141, vc34_142, vc34_143, vc34_145, vc34_146, vc34_147, vc34_148, vc34_149, vc34_150, vc34_151, vc34_152, vc34_154, vc34_155, vc34_156, vc34_157, vc34_158, vc34_1019, vc34_1072, vc34_1085, vc34_1112, vc34_1125, f9, f2]
      exact fin d' true σ' hr hσ' hpi
    have hne : ((i2 : Int) == (z : Int)) = false := by simp; omega
    rw [if_neg hz2] at hpi
    have w1 := wsub (show z ≤ 140737488355328 by omega) (show a ≤ z by omega)
    by_cases h50 : z - a < 50
    · have hd5 : decide (((z - a : Nat) : Int) < 50) = true := by simp; omega
      rw [if_pos h50] at hpi
      simp only [vsA, arith, cmpI, ldK, V.flat, V.one, V.cells, ↓reduceIte, reduceCtorEq, Nat.reduceEqDiff, Nat.reduceLeDiff, Nat.reduceAdd, Nat.reduceMul, fill, vc34, vc34_1, vc34_2, vc34_4, vc34_101, vc34_102, vc34_103, vc34_104, vc34_105, vc34_107, vc34_108, vc34_109, vc34_110, vc34_111, vc34_112, vc34_113, vc34_114, vc34_115, vc34_116, vc34_117, vc34_118, vc34_119, vc34_120, vc34_121, vc34_122, vc34_123, vc34_125, vc34_126, vc34_127, vc34_128, vc34_129, vc34_130, vc34_131, vc34_132, vc34_133, vc34_134, vc34_135, vc34_136, vc34_137, vc34_139, vc34_140, vc34_141, vc34_142, vc34_143, vc34_145, vc34_146, vc34_147, vc34_148, vc34_149, vc34_150, vc34_151, vc34_152, vc34_154, vc34_155, vc34_156, vc34_157, vc34_158, vc34_1019, vc34_1072, vc34_1085, vc34_1112, vc34_1125, f9, f2, f1, hne, w1, hd5]
      exact fin d' false σ' hr hσ' hpi
    have hd5 : decide (((z - a : Nat) : Int) < 50) = false := by simp; omega
    rw [if_neg h50] at hpi
    simp only [vsA, arith, cmpI, ldK, V.flat, V.one, V.cells, ↓reduceIte, reduceCtorEq, Nat.reduceEqDiff, Nat.reduceLeDiff, Nat.reduceAdd, Nat.reduceMul, fill, vc34, vc34_1, vc34_2, vc34_4, vc34_101, vc34_102, vc34_103, vc34_104, vc34_105, vc34_107, vc34_108, vc34_109, vc34_110, vc34_111, vc34_112, vc34_113, vc34_114, vc34_115, vc34_116, vc34_117, vc34_118, vc34_119, vc34_120, vc34_121, vc34_122, vc34_123, vc34_125, vc34_126, vc34_127, vc34_128, vc34_129, vc34_130, vc34_131, vc34_132, vc34_133, vc34_134, vc34_135, vc34_136, vc34_137, vc34_139, vc34_140, vc34_141, vc34_142, vc34_143, vc34_145, vc34_146, vc34_147, vc34_148, vc34_149, vc34_150, vc34_151, vc34_152, vc34_154, vc34_155, vc34_156, vc34_157, vc34_158, vc34_1019, vc34_1072, vc34_1085, vc34_1112, vc34_1125, f9, f2, f1, hne, w1, hd5]
    refine swi_46 (c := c) hT hr hsz.symm (by omega) (i := i2) (by omega) (by omega) (by simp only [vsA, arith, cmpI, ldK, V.flat, V.one, V.cells, ↓reduceIte, reduceCtorEq, Nat.reduceEqDiff, Nat.reduceLeDiff, Nat.reduceAdd, Nat.reduceMul, fill, f0]) (by simp only [vsA, arith, cmpI, ldK, V.flat, V.one, V.cells, ↓reduceIte, reduceCtorEq, Nat.reduceEqDiff, Nat.reduceLeDiff, Nat.reduceAdd, Nat.reduceMul, fill, f9]) ?_
    intro env2 he2
    have hr1 := hr.swp (show i2 < d'.size by omega) (show i2 - 1 < d'.size by omega)
    have hs1 : (swp d' i2 (i2 - 1)).size = d.size := by simp [swp, hsz]
    generalize swp d' i2 (i2 - 1) = d1 at *
    have hσ1 : σ'.set b (.row (flat d1) sl) = σ.set b (.row (flat d1) sl) := by rw [hσ', Store.set_set]
    have g0 : env2 0 = .sl b 0 d.size c := (he2 0 (by omega)).trans (by simp only [vsA, arith, cmpI, ldK, V.flat, V.one, V.cells, ↓reduceIte, reduceCtorEq, Nat.reduceEqDiff, Nat.reduceLeDiff, Nat.reduceAdd, Nat.reduceMul, fill, f0])
    have g1 : env2 1 = .int .i64 a := (he2 1 (by omega)).trans (by simp only [vsA, arith, cmpI, ldK, V.flat, V.one, V.cells, ↓reduceIte, reduceCtorEq, Nat.reduceEqDiff, Nat.reduceLeDiff, Nat.reduceAdd, Nat.reduceMul, fill, f1])
    have g2 : env2 2 = .int .i64 z := (he2 2 (by omega)).trans (by simp only [vsA, arith, cmpI, ldK, V.flat, V.one, V.cells, ↓reduceIte, reduceCtorEq, Nat.reduceEqDiff, Nat.reduceLeDiff, Nat.reduceAdd, Nat.reduceMul, fill, f2])
    have g3 : env2 3 = .fn k first cap := (he2 3 (by omega)).trans (by simp only [vsA, arith, cmpI, ldK, V.flat, V.one, V.cells, ↓reduceIte, reduceCtorEq, Nat.reduceEqDiff, Nat.reduceLeDiff, Nat.reduceAdd, Nat.reduceMul, fill, f3])
    have g9 : env2 9 = .int .i64 i2 := (he2 9 (by omega)).trans (by simp only [vsA, arith, cmpI, ldK, V.flat, V.one, V.cells, ↓reduceIte, reduceCtorEq, Nat.reduceEqDiff, Nat.reduceLeDiff, Nat.reduceAdd, Nat.reduceMul, fill, f9])
    have g10 : env2 10 = .int .i64 m := (he2 10 (by omega)).trans (by simp only [vsA, arith, cmpI, ldK, V.flat, V.one, V.cells, ↓reduceIte, reduceCtorEq, Nat.reduceEqDiff, Nat.reduceLeDiff, Nat.reduceAdd, Nat.reduceMul, fill, f10])
    rw [hσ1] at hr1 ⊢
    clear he1 he2 f0 f1 f2 f3 f9 f10 hσ1
    -- the part behind the first shift
    obtain ⟨Q0, hQ0⟩ : ∃ Q0 : VExit → Env → Store → Prop, Q0 = vblk 1 (vthen P (vc34_153 e φ) (vrnd (vblk 0 (vthen P (vc34_3 e φ) (vend [8] (Rets R)))) I μ (μ env' σ'))) := ⟨_, rfl⟩
    have last : ∀ (env : Env) (d3 : Row), env 0 = .sl b 0 d.size c → env 1 = .int .i64 a → env 2 = .int .i64 z → env 3 = .fn k first cap → env 9 = .int .i64 i2 → env 10 = .int .i64 m → RowOk e b σ0 (σ.set b (.row (flat d3) sl)) T d3 sl → d3.size = d.size →
        partialIns (ltc cf) a z q i2 d3 = partialIns (ltc cf) a z 5 (a + 1) d → Q0 .normal env (σ.set b (.row (flat d3) sl)) := by
      intro env d3 k0 k1 k2 k3 k9 k10 hr3 hs3 hp3
      rw [hQ0]
      have wm : IntKind.i64.wrap ((m : Int) + 1) = ((m + 1 : Nat) : Int) := wadd1 (by omega)
      simp only [vsA, arith, cmpI, ldK, V.flat, V.one, V.cells, ↓reduceIte, reduceCtorEq, Nat.reduceEqDiff, Nat.reduceLeDiff, Nat.reduceAdd, Nat.reduceMul, fill, vc34, vc34_1, vc34_2, vc34_3, vc34_4, vc34_101, vc34_102, vc34_103, vc34_104, vc34_105, vc34_106, vc34_107, vc34_108, vc34_109, vc34_110, vc34_111, vc34_112, vc34_113, vc34_114, vc34_115, vc34_116, vc34_117, vc34_118, vc34_119, vc34_120, vc34_121, vc34_122, vc34_123, vc34_124, vc34_125, vc34_126, vc34_127, vc34_128, vc34_129, vc34_130, vc34_131, vc34_132, vc34_133, vc34_134, vc34_135, vc34_136, vc34_137, vc34_138, vc34_139, vc34_140, vc34_141, vc34_142, vc34_143, vc34_144, vc34_145, vc34_146, vc34_147, vc34_148, vc34_149, vc34_150, vc34_151, vc34_152, vc34_153, vc34_154, vc34_155, vc34_156, vc34_157, vc34_158, vc34_1019, vc34_1046, vc34_1072, vc34_1085, vc34_1112, vc34_1125, k0, k1, k2, k3, k9, k10, wm, nat_int]
      rw [hI, hμ]
      refine ⟨⟨i2, m + 1, d3, by simp only [vsA, arith, cmpI, ldK, V.flat, V.one, V.cells, ↓reduceIte, reduceCtorEq, Nat.reduceEqDiff, Nat.reduceLeDiff, Nat.reduceAdd, Nat.reduceMul, fill, k0], by simp only [vsA, arith, cmpI, ldK, V.flat, V.one, V.cells, ↓reduceIte, reduceCtorEq, Nat.reduceEqDiff, Nat.reduceLeDiff, Nat.reduceAdd, Nat.reduceMul, fill, k1], by simp only [vsA, arith, cmpI, ldK, V.flat, V.one, V.cells, ↓reduceIte, reduceCtorEq, Nat.reduceEqDiff, Nat.reduceLeDiff, Nat.reduceAdd, Nat.reduceMul, fill, k2], by simp only [vsA, arith, cmpI, ldK, V.flat, V.one, V.cells, ↓reduceIte, reduceCtorEq, Nat.reduceEqDiff, Nat.reduceLeDiff, Nat.reduceAdd, Nat.reduceMul, fill, k3], by simp only [vsA, arith, cmpI, ldK, V.flat, V.one, V.cells, ↓reduceIte, reduceCtorEq, Nat.reduceEqDiff, Nat.reduceLeDiff, Nat.reduceAdd, Nat.reduceMul, fill, k9], by simp only [vsA, arith, cmpI, ldK, V.flat, V.one, V.cells, ↓reduceIte, reduceCtorEq, Nat.reduceEqDiff, Nat.reduceLeDiff, Nat.reduceAdd, Nat.reduceMul, fill], by omega, hr3, rfl, hs3, by omega, by omega, ?_⟩, ?_⟩
      · rw [← hp3, show 5 - (m + 1) = q by omega]
      · simp only [vsA, arith, cmpI, ldK, V.flat, V.one, V.cells, ↓reduceIte, reduceCtorEq, Nat.reduceEqDiff, Nat.reduceLeDiff, Nat.reduceAdd, Nat.reduceMul, fill, e10, nat_int]
        omega
    have second : ∀ (env : Env) (d2 : Row), env 0 = .sl b 0 d.size c → env 1 = .int .i64 a → env 2 = .int .i64 z → env 3 = .fn k first cap → env 9 = .int .i64 i2 → env 10 = .int .i64 m → RowOk e b σ0 (σ.set b (.row (flat d2) sl)) T d2 sl → d2.size = d.size →
        partialIns (ltc cf) a z q i2 (fixUp (ltc cf) z i2 d2) = partialIns (ltc cf) a z 5 (a + 1) d → vwp P (vc34_142 e φ) Q0 env (σ.set b (.row (flat d2) sl)) := by
      intro env d2 k0 k1 k2 k3 k9 k10 hr2 hs2 hp2
      have w2 := wsub (show z ≤ 140737488355328 by omega) (show i2 ≤ z by omega)
      by_cases h2 : z - i2 ≥ 2
      · have hd2 : decide (((z - i2 : Nat) : Int) ≥ 2) = true := by simp; omega
        rw [fixUp, if_pos h2] at hp2
        simp only [vsA, arith, cmpI, ldK, V.flat, V.one, V.cells, ↓reduceIte, reduceCtorEq, Nat.reduceEqDiff, Nat.reduceLeDiff, Nat.reduceAdd, Nat.reduceMul, fill, vc34, vc34_1, vc34_2, vc34_3, vc34_4, vc34_101, vc34_102, vc34_103, vc34_104, vc34_105, vc34_106, vc34_107, vc34_108, vc34_109, vc34_110, vc34_111, vc34_112, vc34_113, vc34_114, vc34_115, vc34_116, vc34_117, vc34_118, vc34_119, vc34_120, vc34_121, vc34_122, vc34_123, vc34_124, vc34_125, vc34_126, vc34_127, vc34_128, vc34_129, vc34_130, vc34_131, vc34_132, vc34_133, vc34_134, vc34_135, vc34_136, vc34_137, vc34_139, vc34_140, vc34_141, vc34_142, vc34_143, vc34_144, vc34_145, vc34_146, vc34_147, vc34_148, vc34_149, vc34_150, vc34_151, vc34_152, vc34_153, vc34_154, vc34_155, vc34_156, vc34_157, vc34_158, vc34_1019, vc34_1046, vc34_1072, vc34_1085, vc34_1112, vc34_1125, k2, k9, w2, hd2, wadd1 (show i2 ≤ 140737488355328 by omega)]
        refine lp_up (c := c) hT hc hr2 hs2.symm (by omega) (j := i2 + 1) (z := z) (by omega) (by omega) (by simp only [vsA, arith, cmpI, ldK, V.flat, V.one, V.cells, ↓reduceIte, reduceCtorEq, Nat.reduceEqDiff, Nat.reduceLeDiff, Nat.reduceAdd, Nat.reduceMul, fill, k0]) (by simp only [vsA, arith, cmpI, ldK, V.flat, V.one, V.cells, ↓reduceIte, reduceCtorEq, Nat.reduceEqDiff, Nat.reduceLeDiff, Nat.reduceAdd, Nat.reduceMul, fill, k3]) (by simp only [vsA, arith, cmpI, ldK, V.flat, V.one, V.cells, ↓reduceIte, reduceCtorEq, Nat.reduceEqDiff, Nat.reduceLeDiff, Nat.reduceAdd, Nat.reduceMul, fill, k2]) (by simp only [vsA, arith, cmpI, ldK, V.flat, V.one, V.cells, ↓reduceIte, reduceCtorEq, Nat.reduceEqDiff, Nat.reduceLeDiff, Nat.reduceAdd, Nat.reduceMul, fill]) ?_
        intro env3 he3 hr3 hs3
        rw [Store.set_set] at hr3 ⊢
        exact last env3 _ ((he3 0 (by omega)).trans (by simp only [vsA, arith, cmpI, ldK, V.flat, V.one, V.cells, ↓reduceIte, reduceCtorEq, Nat.reduceEqDiff, Nat.reduceLeDiff, Nat.reduceAdd, Nat.reduceMul, fill, k0])) ((he3 1 (by omega)).trans (by simp only [vsA, arith, cmpI, ldK, V.flat, V.one, V.cells, ↓reduceIte, reduceCtorEq, Nat.reduceEqDiff, Nat.reduceLeDiff, Nat.reduceAdd, Nat.reduceMul, fill, k1])) ((he3 2 (by omega)).trans (by simp only [vsA, arith, cmpI, ldK, V.flat, V.one, V.cells, ↓reduceIte, reduceCtorEq, Nat.reduceEqDiff, Nat.reduceLeDiff, Nat.reduceAdd, Nat.reduceMul, fill, k2])) ((he3 3 (by omega)).trans (by simp only [vsA, arith, cmpI, ldK, V.flat, V.one, V.cells, ↓reduceIte, reduceCtorEq, Nat.reduceEqDiff, Nat.reduceLeDiff, Nat.reduceAdd, Nat.reduceMul, fill, k3])) ((he3 9 (by omega)).trans (by simp only [vsA, arith, cmpI, ldK, V.flat, V.one, V.cells, ↓reduceIte, reduceCtorEq, Nat.reduceEqDiff, Nat.reduceLeDiff, Nat.reduceAdd, Nat.reduceMul, fill, k9])) ((he3 10 (by omega)).trans (by simp only [vsA, arith, cmpI, ldK, V.flat, V.one, V.cells, ↓reduceIte, reduceCtorEq, Nat.reduceEqDiff, Nat.reduceLeDiff, Nat.reduceAdd, Nat.reduceMul, fill, k10])) hr3 (by omega) hp2
      · have hd2 : decide (((z - i2 : Nat) : Int) ≥ 2) = false := by simp; omega
        rw [fixUp, if_neg h2] at hp2
        simp only [vsA, arith, cmpI, ldK, V.flat, V.one, V.cells, ↓reduceIte, reduceCtorEq, Nat.reduceEqDiff, Nat.reduceLeDiff, Nat.reduceAdd, Nat.reduceMul, fill, vc34, vc34_1, vc34_2, vc34_3, vc34_4, vc34_101, vc34_102, vc34_103, vc34_104, vc34_105, vc34_106, vc34_107, vc34_108, vc34_109, vc34_110, vc34_111, vc34_112, vc34_113, vc34_114, vc34_115, vc34_116, vc34_117, vc34_118, vc34_119, vc34_120, vc34_121, vc34_122, vc34_123, vc34_124, vc34_125, vc34_126, vc34_127, vc34_128, vc34_129, vc34_130, vc34_131, vc34_132, vc34_133, vc34_134, vc34_135, vc34_136, vc34_137, vc34_139, vc34_140, vc34_141, vc34_142, vc34_143, vc34_144, vc34_145, vc34_146, vc34_147, vc34_148, vc34_149, vc34_150, vc34_151, vc34_152, vc34_153, vc34_154, vc34_155, vc34_156, vc34_157, vc34_158, vc34_1019, vc34_1046, vc34_1072, vc34_1085, vc34_1112, vc34_1125, k2, k9, w2, hd2]
        exact last _ _ (by simp only [vsA, arith, cmpI, ldK, V.flat, V.one, V.cells, ↓reduceIte, reduceCtorEq, Nat.reduceEqDiff, Nat.reduceLeDiff, Nat.reduceAdd, Nat.reduceMul, fill, k0]) (by simp only [vsA, arith, cmpI, ldK, V.flat, V.one, V.cells, ↓reduceIte, reduceCtorEq, Nat.reduceEqDiff, Nat.reduceLeDiff, Nat.reduceAdd, Nat.reduceMul, fill, k1]) (by simp only [vsA, arith, cmpI, ldK, V.flat, V.one, V.cells, ↓reduceIte, reduceCtorEq, Nat.reduceEqDiff, Nat.reduceLeDiff, Nat.reduceAdd, Nat.reduceMul, fill, k2]) (by simp only [vsA, arith, cmpI, ldK, V.flat, V.one, V.cells, ↓reduceIte, reduceCtorEq, Nat.reduceEqDiff, Nat.reduceLeDiff, Nat.reduceAdd, Nat.reduceMul, fill, k3]) (by simp only [vsA, arith, cmpI, ldK, V.flat, V.one, V.cells, ↓reduceIte, reduceCtorEq, Nat.reduceEqDiff, Nat.reduceLeDiff, Nat.reduceAdd, Nat.reduceMul, fill, k9]) (by simp only [vsA, arith, cmpI, ldK, V.flat, V.one, V.cells, ↓reduceIte, reduceCtorEq, Nat.reduceEqDiff, Nat.reduceLeDiff, Nat.reduceAdd, Nat.reduceMul, fill, k10]) hr2 hs2 hp2
    have first' : ∀ (env : Env), env 0 = .sl b 0 d.size c → env 1 = .int .i64 a → env 2 = .int .i64 z → env 3 = .fn k first cap → env 9 = .int .i64 i2 → env 10 = .int .i64 m → vwp P (vc34_144 e φ) Q0 env (σ.set b (.row (flat d1) sl)) := by
      intro env k0 k1 k2 k3 k9 k10
      have w2 := wsub (show i2 ≤ 140737488355328 by omega) (show a ≤ i2 by omega)
      by_cases h2 : i2 - a ≥ 2
      · have hd2 : decide (((i2 - a : Nat) : Int) ≥ 2) = true := by simp; omega
        rw [fixDown, if_pos h2] at hpi
        simp only [vsA, arith, cmpI, ldK, V.flat, V.one, V.cells, ↓reduceIte, reduceCtorEq, Nat.reduceEqDiff, Nat.reduceLeDiff, Nat.reduceAdd, Nat.reduceMul, fill, vc34, vc34_1, vc34_2, vc34_3, vc34_4, vc34_101, vc34_102, vc34_103, vc34_104, vc34_105, vc34_106, vc34_107, vc34_108, vc34_109, vc34_110, vc34_111, vc34_112, vc34_113, vc34_114, vc34_115, vc34_116, vc34_117, vc34_118, vc34_119, vc34_120, vc34_121, vc34_122, vc34_123, vc34_125, vc34_126, vc34_127, vc34_128, vc34_129, vc34_130, vc34_131, vc34_132, vc34_133, vc34_134, vc34_135, vc34_136, vc34_137, vc34_138, vc34_139, vc34_140, vc34_141, vc34_144, vc34_145, vc34_146, vc34_147, vc34_148, vc34_149, vc34_150, vc34_151, vc34_152, vc34_153, vc34_154, vc34_155, vc34_156, vc34_157, vc34_158, vc34_1019, vc34_1046, vc34_1072, vc34_1085, vc34_1112, vc34_1125, k1, k9, w2, hd2, wsub1 (show i2 ≤ 140737488355328 by omega) (show 1 ≤ i2 by omega)]
        refine lp_down (c := c) hT hc hr1 hs1.symm (by omega) (j := i2 - 1) (by omega) (by simp only [vsA, arith, cmpI, ldK, V.flat, V.one, V.cells, ↓reduceIte, reduceCtorEq, Nat.reduceEqDiff, Nat.reduceLeDiff, Nat.reduceAdd, Nat.reduceMul, fill, k0]) (by simp only [vsA, arith, cmpI, ldK, V.flat, V.one, V.cells, ↓reduceIte, reduceCtorEq, Nat.reduceEqDiff, Nat.reduceLeDiff, Nat.reduceAdd, Nat.reduceMul, fill, k3]) (by simp only [vsA, arith, cmpI, ldK, V.flat, V.one, V.cells, ↓reduceIte, reduceCtorEq, Nat.reduceEqDiff, Nat.reduceLeDiff, Nat.reduceAdd, Nat.reduceMul, fill]) ?_
        intro env3 he3 hr3 hs3
        rw [Store.set_set] at hr3 ⊢
        simp only [vsA, arith, cmpI, ldK, V.flat, V.one, V.cells, ↓reduceIte, reduceCtorEq, Nat.reduceEqDiff, Nat.reduceLeDiff, Nat.reduceAdd, Nat.reduceMul, fill, vc34, vc34_1, vc34_2, vc34_3, vc34_4, vc34_101, vc34_102, vc34_103, vc34_104, vc34_105, vc34_106, vc34_107, vc34_108, vc34_109, vc34_110, vc34_111, vc34_112, vc34_113, vc34_114, vc34_115, vc34_116, vc34_117, vc34_118, vc34_119, vc34_120, vc34_121, vc34_122, vc34_123, vc34_125, vc34_126, vc34_127, vc34_128, vc34_129, vc34_130, vc34_131, vc34_132, vc34_133, vc34_134, vc34_135, vc34_136, vc34_137, vc34_138, vc34_139, vc34_140, vc34_141, vc34_143, vc34_144, vc34_145, vc34_146, vc34_147, vc34_148, vc34_149, vc34_150, vc34_151, vc34_152, vc34_153, vc34_154, vc34_155, vc34_156, vc34_157, vc34_158, vc34_1019, vc34_1046, vc34_1072, vc34_1085, vc34_1112, vc34_1125]
        exact second env3 _ ((he3 0 (by omega)).trans (by simp only [vsA, arith, cmpI, ldK, V.flat, V.one, V.cells, ↓reduceIte, reduceCtorEq, Nat.reduceEqDiff, Nat.reduceLeDiff, Nat.reduceAdd, Nat.reduceMul, fill, k0])) ((he3 1 (by omega)).trans (by simp only [vsA, arith, cmpI, ldK, V.flat, V.one, V.cells, ↓reduceIte, reduceCtorEq, Nat.reduceEqDiff, Nat.reduceLeDiff, Nat.reduceAdd, Nat.reduceMul, fill, k1])) ((he3 2 (by omega)).trans (by simp only [vsA, arith, cmpI, ldK, V.flat, V.one, V.cells, ↓reduceIte, reduceCtorEq, Nat.reduceEqDiff, Nat.reduceLeDiff, Nat.reduceAdd, Nat.reduceMul, fill, k2])) ((he3 3 (by omega)).trans (by simp only [vsA, arith, cmpI, ldK, V.flat, V.one, V.cells, ↓reduceIte, reduceCtorEq, Nat.reduceEqDiff, Nat.reduceLeDiff, Nat.reduceAdd, Nat.reduceMul, fill, k3])) ((he3 9 (by omega)).trans (by simp only [vsA, arith, cmpI, ldK, V.flat, V.one, V.cells, ↓reduceIte, reduceCtorEq, Nat.reduceEqDiff, Nat.reduceLeDiff, Nat.reduceAdd, Nat.reduceMul, fill, k9])) ((he3 10 (by omega)).trans (by simp only [vsA, arith, cmpI, ldK, V.flat, V.one, V.cells, ↓reduceIte, reduceCtorEq, Nat.reduceEqDiff, Nat.reduceLeDiff, Nat.reduceAdd, Nat.reduceMul, fill, k10])) hr3 (by omega) hpi
      · have hd2 : decide (((i2 - a : Nat) : Int) ≥ 2) = false := by simp; omega
        rw [fixDown, if_neg h2] at hpi
        simp only [vsA, arith, cmpI, ldK, V.flat, V.one, V.cells, ↓reduceIte, reduceCtorEq, Nat.reduceEqDiff, Nat.reduceLeDiff, Nat.reduceAdd, Nat.reduceMul, fill, vc34, vc34_1, vc34_2, vc34_3, vc34_4, vc34_101, vc34_102, vc34_103, vc34_104, vc34_105, vc34_106, vc34_107, vc34_108, vc34_109, vc34_110, vc34_111, vc34_112, vc34_113, vc34_114, vc34_115, vc34_116, vc34_117, vc34_118, vc34_119, vc34_120, vc34_121, vc34_122, vc34_123, vc34_125, vc34_126, vc34_127, vc34_128, vc34_129, vc34_130, vc34_131, vc34_132, vc34_133, vc34_134, vc34_135, vc34_136, vc34_137, vc34_138, vc34_139, vc34_140, vc34_141, vc34_143, vc34_144, vc34_145, vc34_146, vc34_147, vc34_148, vc34_149, vc34_150, vc34_151, vc34_152, vc34_153, vc34_154, vc34_155, vc34_156, vc34_157, vc34_158, vc34_1019, vc34_1046, vc34_1072, vc34_1085, vc34_1112, vc34_1125, k1, k9, w2, hd2]
        exact second _ _ (by simp only [vsA, arith, cmpI, ldK, V.flat, V.one, V.cells, ↓reduceIte, reduceCtorEq, Nat.reduceEqDiff, Nat.reduceLeDiff, Nat.reduceAdd, Nat.reduceMul, fill, k0]) (by simp only [vsA, arith, cmpI, ldK, V.flat, V.one, V.cells, ↓reduceIte, reduceCtorEq, Nat.reduceEqDiff, Nat.reduceLeDiff, Nat.reduceAdd, Nat.reduceMul, fill, k1]) (by simp only [vsA, arith, cmpI, ldK, V.flat, V.one, V.cells, ↓reduceIte, reduceCtorEq, Nat.reduceEqDiff, Nat.reduceLeDiff, Nat.reduceAdd, Nat.reduceMul, fill, k2]) (by simp only [vsA, arith, cmpI, ldK, V.flat, V.one, V.cells, ↓reduceIte, reduceCtorEq, Nat.reduceEqDiff, Nat.reduceLeDiff, Nat.reduceAdd, Nat.reduceMul, fill, k3]) (by simp only [vsA, arith, cmpI, ldK, V.flat, V.one, V.cells, ↓reduceIte, reduceCtorEq, Nat.reduceEqDiff, Nat.reduceLeDiff, Nat.reduceAdd, Nat.reduceMul, fill, k9]) (by simp only [vsA, arith, cmpI, ldK, V.flat, V.one, V.cells, ↓reduceIte, reduceCtorEq, Nat.reduceEqDiff, Nat.reduceLeDiff, Nat.reduceAdd, Nat.reduceMul, fill, k10]) hr1 hs1 hpi
    have := first' env2 g0 g1 g2 g3 g9 g10
    rw [hQ0] at this
    simp only [vsA, arith, cmpI, ldK, V.flat, V.one, V.cells, ↓reduceIte, reduceCtorEq, Nat.reduceEqDiff, Nat.reduceLeDiff, Nat.reduceAdd, Nat.reduceMul, fill, vc34, vc34_1, vc34_2, vc34_4, vc34_101, vc34_102, vc34_103, vc34_104, vc34_105, vc34_107, vc34_108, vc34_109, vc34_110, vc34_111, vc34_112, vc34_113, vc34_114, vc34_115, vc34_116, vc34_117, vc34_118, vc34_119, vc34_120, vc34_121, vc34_122, vc34_123, vc34_125, vc34_126, vc34_127, vc34_128, vc34_129, vc34_130, vc34_131, vc34_132, vc34_133, vc34_134, vc34_135, vc34_136, vc34_137, vc34_139, vc34_140, vc34_141, vc34_142, vc34_143, vc34_145, vc34_146, vc34_147, vc34_148, vc34_149, vc34_150, vc34_151, vc34_152, vc34_154, vc34_155, vc34_156, vc34_157, vc34_158, vc34_1019, vc34_1072, vc34_1085, vc34_1112, vc34_1125]
    exact this
  · have hd : decide ((m : Int) < 5) = false := by simp; omega
    simp only [vsA, arith, cmpI, ldK, V.flat, V.one, V.cells, ↓reduceIte, reduceCtorEq, Nat.reduceEqDiff, Nat.reduceLeDiff, Nat.reduceAdd, Nat.reduceMul, fill, vc34, vc34_1, vc34_2, vc34_3, vc34_4, vc34_101, vc34_102, vc34_103, vc34_104, vc34_105, vc34_107, vc34_108, vc34_109, vc34_110, vc34_111, vc34_112, vc34_113, vc34_114, vc34_115, vc34_116, vc34_117, vc34_118, vc34_119, vc34_120, vc34_121, vc34_122, vc34_123, vc34_125, vc34_126, vc34_127, vc34_128, vc34_129, vc34_130, vc34_131, vc34_132, vc34_133, vc34_134, vc34_135, vc34_136, vc34_137, vc34_139, vc34_140, vc34_141, vc34_142, vc34_143, vc34_145, vc34_146, vc34_147, vc34_148, vc34_149, vc34_150, vc34_151, vc34_152, vc34_154, vc34_155, vc34_156, vc34_157, vc34_158, vc34_1019, vc34_1072, vc34_1085, vc34_1112, vc34_1125, e10, hd]
    rw [show 5 - m = 0 by omega] at hpi
    exact fin d' false σ' hr hσ' hpi
end Go.Vm.Srt
