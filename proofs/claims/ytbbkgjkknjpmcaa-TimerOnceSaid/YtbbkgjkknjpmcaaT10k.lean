/-
  Timers: each timer is due once, not ahead of its moment.
-/
import Derived.Test.YtbbkgjkknjpmcaaT10j
set_option linter.unusedSimpArgs false
set_option linter.unusedVariables false
set_option linter.unusedSectionVars false
namespace Go.Vm.T10
open Go Go.Vm

def one (a : Int) : List V := [.int .i64 a]
theorem one_0 (a : Int) : (one a)[0]? = some (.int .i64 a) := rfl
/-- The first so many. -/
def upto (ts : List Int) (i : Nat) : TL := (List.range i).map fun (j : Nat) => (((j : Int), 0), ts.getD j 0)
theorem upto_succ (ts : List Int) (i : Nat) : upto ts (i + 1) = upto ts i ++ [(((i : Int), 0), ts.getD i 0)] := by simp [upto, List.range_succ]
theorem upto_len (ts : List Int) (i : Nat) : (upto ts i).length = i := by simp [upto]
theorem upto_mem {ts : List Int} {i : Nat} {p : (Int × Int) × Int} (h : p ∈ upto ts i) : ∃ j : Nat, j < i ∧ p = (((j : Int), 0), ts.getD j 0) := by
  simp only [upto, List.mem_map, List.mem_range] at h
  obtain ⟨j, hj, rfl⟩ := h
  exact ⟨j, hj, rfl⟩
theorem upto_put (ts : List Int) (i : Nat) : put ((i : Int), 0) (ts.getD i 0) (upto ts i) = upto ts (i + 1) := by
  rw [upto_succ]; unfold put
  rw [if_neg]
  intro h
  obtain ⟨p, hp, e⟩ := List.mem_map.1 h
  obtain ⟨j, hj, rfl⟩ := upto_mem hp
  simp at e; omega
theorem upto_lk (ts : List Int) (i : Nat) : lk ((i : Int), 0) (upto ts i) = none := by
  rw [lk_none]
  intro h
  obtain ⟨p, hp, e⟩ := List.mem_map.1 h
  obtain ⟨j, hj, rfl⟩ := upto_mem hp
  simp at e; omega
theorem upto_nodup (ts : List Int) : ∀ i : Nat, ((upto ts i).map (·.1)).Nodup
  | 0 => .nil
  | i + 1 => by rw [← upto_put]; exact put_nodup _ _ (upto_nodup ts i)

set_option maxHeartbeats 2000000 in
theorem once_do (ts : List Int) (c0 : Nat) (step : Int) : VCalls PT 4 [.fz 1 (ts.map one) c0 none, .int .i64 step] S0 (fun v _ => v = .bool true) := by
  refine vcalls_of ck4 (fun hv hok => ?_)
  obtain ⟨R, hR⟩ : ∃ R : V → Store → Prop, R = (fun v _ => v = .bool true) := ⟨_, rfl⟩
  rw [← hR]
  have fin : ∀ (σ' : Store), Rets R (.bool true) σ' := fun σ' => by rw [hR]; exact Rets.of rfl
  by_cases g1 : ts.length > 200
  · have d1 : decide ((ts.length : Int) > 200) = true := by simp; omega
    simp only [vsA, false_implies, implies_true, decide_true, arith, cmpI, ldK, V.flat, V.one, V.cells, ↓reduceIte, reduceCtorEq, Nat.reduceEqDiff, Nat.reduceLeDiff, Nat.reduceAdd, Nat.reduceMul, fill, vc4, vc4_1, vc4_2, vc4_3, vc4_4, vc4_5, vc4_6, vc4_7, vc4_8, vc4_101, vc4_102, vc4_103, vc4_104, vc4_105, vc4_106, vc4_107, vc4_108, vc4_109, vc4_110, vc4_111, vc4_112, vc4_113, vc4_114, vc4_115, vc4_116, vc4_117, vc4_118, vc4_119, vc4_120, vc4_121, vc4_122, vc4_123, vc4_124, vc4_125, vc4_126, vc4_127, vc4_128, vc4_129, vc4_130, vc4_131, vc4_132, vc4_133, vc4_134, vc4_135, vc4_136, vc4_137, vc4_138, vc4_139, vc4_140, vc4_141, vc4_142, vc4_143, vc4_144, vc4_145, vc4_146, vc4_147, vc4_148, vc4_149, vc4_150, vc4_151, vc4_152, vc4_153, vc4_154, vc4_155, vc4_156, d1]
    refine call_f (vs := []) (by simp only [vsA, false_implies, implies_true, decide_true, arith, cmpI, ldK, V.flat, V.one, V.cells, ↓reduceIte, reduceCtorEq, Nat.reduceEqDiff, Nat.reduceLeDiff, Nat.reduceAdd, Nat.reduceMul, fill]) (lives_do _) ?_
    rintro _ σ1 ⟨rfl, hσ1⟩ _ _
    simp only [vsA, false_implies, implies_true, decide_true, arith, cmpI, ldK, V.flat, V.one, V.cells, ↓reduceIte, reduceCtorEq, Nat.reduceEqDiff, Nat.reduceLeDiff, Nat.reduceAdd, Nat.reduceMul, fill, vc4, vc4_1, vc4_2, vc4_3, vc4_4, vc4_5, vc4_6, vc4_7, vc4_8, vc4_101, vc4_102, vc4_103, vc4_104, vc4_105, vc4_106, vc4_107, vc4_108, vc4_109, vc4_110, vc4_111, vc4_112, vc4_113, vc4_114, vc4_115, vc4_116, vc4_117, vc4_118, vc4_119, vc4_120, vc4_121, vc4_122, vc4_123, vc4_124, vc4_125, vc4_126, vc4_127, vc4_128, vc4_129, vc4_130, vc4_131, vc4_132, vc4_133, vc4_134, vc4_135, vc4_136, vc4_137, vc4_138, vc4_139, vc4_140, vc4_141, vc4_142, vc4_143, vc4_144, vc4_145, vc4_146, vc4_147, vc4_148, vc4_149, vc4_150, vc4_151, vc4_152, vc4_153, vc4_154, vc4_155, vc4_156]
    exact fin _
  have d1 : decide ((ts.length : Int) > 200) = false := by simp; omega
  by_cases g2 : step < 1
  · have d2 : decide (step < 1) = true := by simpa using g2
    simp only [vsA, false_implies, implies_true, decide_true, arith, cmpI, ldK, V.flat, V.one, V.cells, ↓reduceIte, reduceCtorEq, Nat.reduceEqDiff, Nat.reduceLeDiff, Nat.reduceAdd, Nat.reduceMul, fill, vc4, vc4_1, vc4_2, vc4_3, vc4_4, vc4_5, vc4_6, vc4_7, vc4_8, vc4_101, vc4_102, vc4_103, vc4_104, vc4_105, vc4_106, vc4_107, vc4_108, vc4_109, vc4_110, vc4_111, vc4_112, vc4_113, vc4_114, vc4_115, vc4_116, vc4_117, vc4_118, vc4_119, vc4_120, vc4_121, vc4_122, vc4_123, vc4_124, vc4_125, vc4_126, vc4_127, vc4_128, vc4_129, vc4_130, vc4_131, vc4_132, vc4_133, vc4_134, vc4_135, vc4_136, vc4_137, vc4_138, vc4_139, vc4_140, vc4_141, vc4_142, vc4_143, vc4_144, vc4_145, vc4_146, vc4_147, vc4_148, vc4_149, vc4_150, vc4_151, vc4_152, vc4_153, vc4_154, vc4_155, vc4_156, d1, d2]
    refine call_f (vs := []) (by simp only [vsA, false_implies, implies_true, decide_true, arith, cmpI, ldK, V.flat, V.one, V.cells, ↓reduceIte, reduceCtorEq, Nat.reduceEqDiff, Nat.reduceLeDiff, Nat.reduceAdd, Nat.reduceMul, fill]) (lives_do _) ?_
    rintro _ σ1 ⟨rfl, hσ1⟩ _ _
    simp only [vsA, false_implies, implies_true, decide_true, arith, cmpI, ldK, V.flat, V.one, V.cells, ↓reduceIte, reduceCtorEq, Nat.reduceEqDiff, Nat.reduceLeDiff, Nat.reduceAdd, Nat.reduceMul, fill, vc4, vc4_1, vc4_2, vc4_3, vc4_4, vc4_5, vc4_6, vc4_7, vc4_8, vc4_101, vc4_102, vc4_103, vc4_104, vc4_105, vc4_106, vc4_107, vc4_108, vc4_109, vc4_110, vc4_111, vc4_112, vc4_113, vc4_114, vc4_115, vc4_116, vc4_117, vc4_118, vc4_119, vc4_120, vc4_121, vc4_122, vc4_123, vc4_124, vc4_125, vc4_126, vc4_127, vc4_128, vc4_129, vc4_130, vc4_131, vc4_132, vc4_133, vc4_134, vc4_135, vc4_136, vc4_137, vc4_138, vc4_139, vc4_140, vc4_141, vc4_142, vc4_143, vc4_144, vc4_145, vc4_146, vc4_147, vc4_148, vc4_149, vc4_150, vc4_151, vc4_152, vc4_153, vc4_154, vc4_155, vc4_156]
    exact fin _
  have d2 : decide (step < 1) = false := by simpa using g2
  by_cases g3 : step > 1000
  · have d3 : decide (step > 1000) = true := by simpa using g3
    simp only [vsA, false_implies, implies_true, decide_true, arith, cmpI, ldK, V.flat, V.one, V.cells, ↓reduceIte, reduceCtorEq, Nat.reduceEqDiff, Nat.reduceLeDiff, Nat.reduceAdd, Nat.reduceMul, fill, vc4, vc4_1, vc4_2, vc4_3, vc4_4, vc4_5, vc4_6, vc4_7, vc4_8, vc4_101, vc4_102, vc4_103, vc4_104, vc4_105, vc4_106, vc4_107, vc4_108, vc4_109, vc4_110, vc4_111, vc4_112, vc4_113, vc4_114, vc4_115, vc4_116, vc4_117, vc4_118, vc4_119, vc4_120, vc4_121, vc4_122, vc4_123, vc4_124, vc4_125, vc4_126, vc4_127, vc4_128, vc4_129, vc4_130, vc4_131, vc4_132, vc4_133, vc4_134, vc4_135, vc4_136, vc4_137, vc4_138, vc4_139, vc4_140, vc4_141, vc4_142, vc4_143, vc4_144, vc4_145, vc4_146, vc4_147, vc4_148, vc4_149, vc4_150, vc4_151, vc4_152, vc4_153, vc4_154, vc4_155, vc4_156, d1, d2, d3]
    refine call_f (vs := []) (by simp only [vsA, false_implies, implies_true, decide_true, arith, cmpI, ldK, V.flat, V.one, V.cells, ↓reduceIte, reduceCtorEq, Nat.reduceEqDiff, Nat.reduceLeDiff, Nat.reduceAdd, Nat.reduceMul, fill]) (lives_do _) ?_
    rintro _ σ1 ⟨rfl, hσ1⟩ _ _
    simp only [vsA, false_implies, implies_true, decide_true, arith, cmpI, ldK, V.flat, V.one, V.cells, ↓reduceIte, reduceCtorEq, Nat.reduceEqDiff, Nat.reduceLeDiff, Nat.reduceAdd, Nat.reduceMul, fill, vc4, vc4_1, vc4_2, vc4_3, vc4_4, vc4_5, vc4_6, vc4_7, vc4_8, vc4_101, vc4_102, vc4_103, vc4_104, vc4_105, vc4_106, vc4_107, vc4_108, vc4_109, vc4_110, vc4_111, vc4_112, vc4_113, vc4_114, vc4_115, vc4_116, vc4_117, vc4_118, vc4_119, vc4_120, vc4_121, vc4_122, vc4_123, vc4_124, vc4_125, vc4_126, vc4_127, vc4_128, vc4_129, vc4_130, vc4_131, vc4_132, vc4_133, vc4_134, vc4_135, vc4_136, vc4_137, vc4_138, vc4_139, vc4_140, vc4_141, vc4_142, vc4_143, vc4_144, vc4_145, vc4_146, vc4_147, vc4_148, vc4_149, vc4_150, vc4_151, vc4_152, vc4_153, vc4_154, vc4_155, vc4_156]
    exact fin _
  have d3 : decide (step > 1000) = false := by simpa using g3
  simp only [vsA, false_implies, implies_true, decide_true, arith, cmpI, ldK, V.flat, V.one, V.cells, ↓reduceIte, reduceCtorEq, Nat.reduceEqDiff, Nat.reduceLeDiff, Nat.reduceAdd, Nat.reduceMul, fill, vc4, vc4_1, vc4_2, vc4_3, vc4_4, vc4_6, vc4_8, vc4_101, vc4_102, vc4_103, vc4_104, vc4_105, vc4_106, vc4_107, vc4_108, vc4_109, vc4_110, vc4_111, vc4_112, vc4_113, vc4_114, vc4_115, vc4_116, vc4_117, vc4_119, vc4_120, vc4_121, vc4_122, vc4_123, vc4_124, vc4_125, vc4_126, vc4_127, vc4_129, vc4_130, vc4_131, vc4_132, vc4_133, vc4_134, vc4_135, vc4_136, vc4_137, vc4_138, vc4_139, vc4_140, vc4_141, vc4_142, vc4_143, vc4_144, vc4_145, vc4_147, vc4_148, vc4_149, vc4_150, vc4_151, vc4_152, vc4_153, vc4_154, vc4_155, vc4_156, d1, d2, d3]
  refine call_f (vs := []) (by simp only [vsA, false_implies, implies_true, decide_true, arith, cmpI, ldK, V.flat, V.one, V.cells, ↓reduceIte, reduceCtorEq, Nat.reduceEqDiff, Nat.reduceLeDiff, Nat.reduceAdd, Nat.reduceMul, fill]) (new_tm S0) ?_
  rintro _ σ1 ⟨b, m, rfl, h1, -, -, -⟩ _ _
  simp only [vsA, false_implies, implies_true, decide_true, arith, cmpI, ldK, V.flat, V.one, V.cells, ↓reduceIte, reduceCtorEq, Nat.reduceEqDiff, Nat.reduceLeDiff, Nat.reduceAdd, Nat.reduceMul, fill, vc4, vc4_1, vc4_2, vc4_3, vc4_4, vc4_6, vc4_8, vc4_101, vc4_102, vc4_103, vc4_104, vc4_105, vc4_106, vc4_107, vc4_108, vc4_109, vc4_110, vc4_111, vc4_112, vc4_113, vc4_114, vc4_115, vc4_116, vc4_117, vc4_119, vc4_120, vc4_121, vc4_122, vc4_123, vc4_124, vc4_125, vc4_126, vc4_127, vc4_129, vc4_130, vc4_131, vc4_132, vc4_133, vc4_134, vc4_135, vc4_136, vc4_137, vc4_138, vc4_139, vc4_140, vc4_141, vc4_142, vc4_143, vc4_144, vc4_145, vc4_147, vc4_148, vc4_149, vc4_150, vc4_151, vc4_152, vc4_153, vc4_154, vc4_155, vc4_156]
  refine call_f (vs := []) (by simp only [vsA, false_implies, implies_true, decide_true, arith, cmpI, ldK, V.flat, V.one, V.cells, ↓reduceIte, reduceCtorEq, Nat.reduceEqDiff, Nat.reduceLeDiff, Nat.reduceAdd, Nat.reduceMul, fill]) (lives_do _) ?_
  rintro _ σ2 ⟨rfl, hσ2⟩ _ _
  subst hσ2
  simp only [vsA, false_implies, implies_true, decide_true, arith, cmpI, ldK, V.flat, V.one, V.cells, ↓reduceIte, reduceCtorEq, Nat.reduceEqDiff, Nat.reduceLeDiff, Nat.reduceAdd, Nat.reduceMul, fill, vc4, vc4_1, vc4_2, vc4_3, vc4_4, vc4_6, vc4_8, vc4_101, vc4_102, vc4_103, vc4_104, vc4_105, vc4_106, vc4_107, vc4_108, vc4_109, vc4_110, vc4_111, vc4_112, vc4_113, vc4_114, vc4_115, vc4_116, vc4_117, vc4_119, vc4_120, vc4_121, vc4_122, vc4_123, vc4_124, vc4_125, vc4_126, vc4_127, vc4_129, vc4_130, vc4_131, vc4_132, vc4_133, vc4_134, vc4_135, vc4_136, vc4_137, vc4_138, vc4_139, vc4_140, vc4_141, vc4_142, vc4_143, vc4_144, vc4_145, vc4_147, vc4_148, vc4_149, vc4_150, vc4_151, vc4_152, vc4_153, vc4_154, vc4_155, vc4_156]
  -- the last look
  have last : ∀ (env : Env) (σ' : Store), env 0 = .fz 1 (ts.map one) c0 none → env 5 = .ptr b 0 → env 7 = .int .i64 ts.length → TM σ' b m [] → vwp PT vc4_7 (vend [4] (Rets R)) env σ' := by
    intro env σ' e0 e5 e7 hT
    simp only [vsA, false_implies, implies_true, decide_true, arith, cmpI, ldK, V.flat, V.one, V.cells, ↓reduceIte, reduceCtorEq, Nat.reduceEqDiff, Nat.reduceLeDiff, Nat.reduceAdd, Nat.reduceMul, fill, vc4, vc4_1, vc4_2, vc4_3, vc4_4, vc4_5, vc4_6, vc4_7, vc4_8, vc4_101, vc4_102, vc4_103, vc4_104, vc4_105, vc4_106, vc4_107, vc4_108, vc4_109, vc4_110, vc4_111, vc4_112, vc4_113, vc4_114, vc4_115, vc4_116, vc4_117, vc4_118, vc4_119, vc4_120, vc4_121, vc4_122, vc4_123, vc4_124, vc4_125, vc4_126, vc4_127, vc4_128, vc4_129, vc4_130, vc4_131, vc4_132, vc4_133, vc4_134, vc4_135, vc4_136, vc4_137, vc4_138, vc4_139, vc4_140, vc4_141, vc4_142, vc4_143, vc4_144, vc4_145, vc4_146, vc4_147, vc4_148, vc4_149, vc4_150, vc4_151, vc4_152, vc4_153, vc4_154, vc4_155, vc4_156, e0, e5, e7, beq_self_eq_true]
    refine call_f (vs := [.ptr b 0]) (by simp only [vsA, false_implies, implies_true, decide_true, arith, cmpI, ldK, V.flat, V.one, V.cells, ↓reduceIte, reduceCtorEq, Nat.reduceEqDiff, Nat.reduceLeDiff, Nat.reduceAdd, Nat.reduceMul, fill]) (len_tm hT (by simp)) ?_
    rintro _ σ3 ⟨rfl, hσ3⟩ _ _
    simp only [vsA, false_implies, implies_true, decide_true, arith, cmpI, ldK, V.flat, V.one, V.cells, ↓reduceIte, reduceCtorEq, Nat.reduceEqDiff, Nat.reduceLeDiff, Nat.reduceAdd, Nat.reduceMul, fill, vc4, vc4_1, vc4_2, vc4_3, vc4_4, vc4_5, vc4_6, vc4_7, vc4_8, vc4_101, vc4_102, vc4_103, vc4_104, vc4_105, vc4_106, vc4_107, vc4_108, vc4_109, vc4_110, vc4_111, vc4_112, vc4_113, vc4_114, vc4_115, vc4_116, vc4_117, vc4_118, vc4_119, vc4_120, vc4_121, vc4_122, vc4_123, vc4_124, vc4_125, vc4_126, vc4_127, vc4_128, vc4_129, vc4_130, vc4_131, vc4_132, vc4_133, vc4_134, vc4_135, vc4_136, vc4_137, vc4_138, vc4_139, vc4_140, vc4_141, vc4_142, vc4_143, vc4_144, vc4_145, vc4_146, vc4_147, vc4_148, vc4_149, vc4_150, vc4_151, vc4_152, vc4_153, vc4_154, vc4_155, vc4_156, show (((0 : Nat) : Int) == 0) = true from rfl]
    exact fin _
  -- the moments
  have wst : IntKind.i64.wrap (1000 + step) = 1000 + step := wrap64 (by omega) (by omega)
  have moments : ∀ (env : Env) (σ' : Store), env 0 = .fz 1 (ts.map one) c0 none → env 1 = .int .i64 step → env 5 = .ptr b 0 → TM σ' b m (upto ts ts.length) → (∀ j : Nat, j < ts.length → 0 ≤ ts.getD j 0 ∧ ts.getD j 0 ≤ 1000) → vwp PT vc4_5 (vend [4] (Rets R)) env σ' := by
    intro env σ' e0 e1 e5 hT hts
    simp only [vsA, false_implies, implies_true, decide_true, arith, cmpI, ldK, V.flat, V.one, V.cells, ↓reduceIte, reduceCtorEq, Nat.reduceEqDiff, Nat.reduceLeDiff, Nat.reduceAdd, Nat.reduceMul, fill, vc4, vc4_1, vc4_2, vc4_3, vc4_4, vc4_5, vc4_6, vc4_8, vc4_101, vc4_102, vc4_103, vc4_104, vc4_105, vc4_106, vc4_107, vc4_108, vc4_109, vc4_110, vc4_111, vc4_112, vc4_113, vc4_114, vc4_115, vc4_116, vc4_117, vc4_119, vc4_120, vc4_121, vc4_122, vc4_123, vc4_124, vc4_125, vc4_126, vc4_127, vc4_129, vc4_130, vc4_131, vc4_132, vc4_133, vc4_134, vc4_135, vc4_136, vc4_137, vc4_138, vc4_139, vc4_140, vc4_141, vc4_142, vc4_143, vc4_144, vc4_145, vc4_146, vc4_147, vc4_148, vc4_149, vc4_150, vc4_151, vc4_152, vc4_153, vc4_154, vc4_155, vc4_156]
    obtain ⟨I, hI⟩ : ∃ I : Env → Store → Prop, I = (fun env' σ' => ∃ (now : Int) (M : TL) (n : Nat), env' 0 = .fz 1 (ts.map one) c0 none ∧ env' 1 = .int .i64 step ∧ env' 5 = .ptr b 0 ∧ env' 7 = .int .i64 n ∧ env' 8 = .int .i64 now ∧ 0 ≤ now ∧ now ≤ 1000 + 2 * step ∧ TM σ' b m M ∧ (M.map (·.1)).Nodup ∧ n + M.length = ts.length ∧
      ∀ p ∈ M, ∃ j : Nat, j < ts.length ∧ p = (((j : Int), 0), ts.getD j 0) ∧ (step ≤ now → now - step < ts.getD j 0)) := ⟨_, rfl⟩
    obtain ⟨μ, hμ⟩ : ∃ μ : Env → Store → Nat, μ = (fun env' _ => match env' 8 with | .int _ n => (1001 + 2 * step - n).toNat | _ => 0) := ⟨_, rfl⟩
    refine w_loop I μ ?init ?_
    case init =>
      rw [hI]
      refine ⟨0, upto ts ts.length, 0, by simp only [vsA, false_implies, implies_true, decide_true, arith, cmpI, ldK, V.flat, V.one, V.cells, ↓reduceIte, reduceCtorEq, Nat.reduceEqDiff, Nat.reduceLeDiff, Nat.reduceAdd, Nat.reduceMul, fill, e0], by simp only [vsA, false_implies, implies_true, decide_true, arith, cmpI, ldK, V.flat, V.one, V.cells, ↓reduceIte, reduceCtorEq, Nat.reduceEqDiff, Nat.reduceLeDiff, Nat.reduceAdd, Nat.reduceMul, fill, e1], by simp only [vsA, false_implies, implies_true, decide_true, arith, cmpI, ldK, V.flat, V.one, V.cells, ↓reduceIte, reduceCtorEq, Nat.reduceEqDiff, Nat.reduceLeDiff, Nat.reduceAdd, Nat.reduceMul, fill, e5], by simp only [vsA, false_implies, implies_true, decide_true, arith, cmpI, ldK, V.flat, V.one, V.cells, ↓reduceIte, reduceCtorEq, Nat.reduceEqDiff, Nat.reduceLeDiff, Nat.reduceAdd, Nat.reduceMul, fill]; rfl, by simp only [vsA, false_implies, implies_true, decide_true, arith, cmpI, ldK, V.flat, V.one, V.cells, ↓reduceIte, reduceCtorEq, Nat.reduceEqDiff, Nat.reduceLeDiff, Nat.reduceAdd, Nat.reduceMul, fill], by omega, by omega, hT, upto_nodup _ _, by rw [upto_len]; omega, fun p hp => ?_⟩
      obtain ⟨j, hj, rfl⟩ := upto_mem hp
      exact ⟨j, hj, rfl, fun h => by omega⟩
    intro env' σ' hinv
    rw [hI] at hinv
    obtain ⟨now, M, n, e0, e1, e5, e7, e8, hn0, hn1, hT, hnd, hnM, hM⟩ := hinv
    by_cases hlt : now ≤ 1000 + step
    · have hd : decide (now ≤ 1000 + step) = true := by simpa using hlt
      simp only [vsA, false_implies, implies_true, decide_true, arith, cmpI, ldK, V.flat, V.one, V.cells, ↓reduceIte, reduceCtorEq, Nat.reduceEqDiff, Nat.reduceLeDiff, Nat.reduceAdd, Nat.reduceMul, fill, vc4, vc4_1, vc4_2, vc4_3, vc4_4, vc4_5, vc4_6, vc4_7, vc4_8, vc4_101, vc4_102, vc4_103, vc4_104, vc4_105, vc4_106, vc4_107, vc4_108, vc4_109, vc4_110, vc4_111, vc4_112, vc4_113, vc4_114, vc4_115, vc4_116, vc4_117, vc4_119, vc4_120, vc4_121, vc4_122, vc4_123, vc4_124, vc4_126, vc4_127, vc4_128, vc4_129, vc4_130, vc4_131, vc4_132, vc4_133, vc4_134, vc4_135, vc4_136, vc4_137, vc4_138, vc4_139, vc4_140, vc4_141, vc4_142, vc4_143, vc4_144, vc4_145, vc4_146, vc4_147, vc4_148, vc4_149, vc4_150, vc4_151, vc4_152, vc4_153, vc4_154, vc4_155, vc4_156, e0, e1, e5, e7, e8, wst, hd]
      refine call_f (vs := [.ptr b 0, .int .i64 now]) (by simp only [vsA, false_implies, implies_true, decide_true, arith, cmpI, ldK, V.flat, V.one, V.cells, ↓reduceIte, reduceCtorEq, Nat.reduceEqDiff, Nat.reduceLeDiff, Nat.reduceAdd, Nat.reduceMul, fill]) (due_do now hT (by omega)) ?_
      rintro _ σ3 ⟨D, M2, hD, ⟨cc, oo, rfl⟩, t3⟩ _ _
      have hT3 := t3.tm hT
      simp only [vsA, false_implies, implies_true, decide_true, arith, cmpI, ldK, V.flat, V.one, V.cells, ↓reduceIte, reduceCtorEq, Nat.reduceEqDiff, Nat.reduceLeDiff, Nat.reduceAdd, Nat.reduceMul, fill, vc4, vc4_1, vc4_2, vc4_3, vc4_4, vc4_5, vc4_6, vc4_7, vc4_8, vc4_101, vc4_102, vc4_103, vc4_104, vc4_105, vc4_106, vc4_107, vc4_108, vc4_109, vc4_110, vc4_111, vc4_112, vc4_113, vc4_114, vc4_115, vc4_116, vc4_117, vc4_119, vc4_120, vc4_121, vc4_122, vc4_123, vc4_124, vc4_126, vc4_127, vc4_128, vc4_129, vc4_130, vc4_131, vc4_132, vc4_133, vc4_134, vc4_135, vc4_136, vc4_137, vc4_138, vc4_139, vc4_140, vc4_141, vc4_142, vc4_143, vc4_144, vc4_145, vc4_146, vc4_147, vc4_148, vc4_149, vc4_150, vc4_151, vc4_152, vc4_153, vc4_154, vc4_155, vc4_156]
      obtain ⟨dp, dw, dl, dg⟩ := hD
      have hDM : ∀ p ∈ D, p ∈ M := fun p hp => dp.mem_iff.1 (List.mem_append_left _ hp)
      have hM2 : ∀ p ∈ M2, p ∈ M := fun p hp => dp.mem_iff.1 (List.mem_append_right _ hp)
      have hlen : D.length + M2.length = M.length := by rw [← dp.length_eq]; simp
      obtain ⟨J, hJ⟩ : ∃ J : Env → Store → Prop, J = (fun env2 σ2 => σ2 = σ3 ∧ ∃ (k : Nat) (la : Int), env2 0 = .fz 1 (ts.map one) c0 none ∧ env2 1 = .int .i64 step ∧ env2 5 = .ptr b 0 ∧ env2 7 = .int .i64 ((n + k : Nat) : Int) ∧ env2 8 = .int .i64 now ∧
        env2 9 = .fz 2 (D.map fun p => kv p.1) cc oo ∧ env2 10 = .int .i64 la ∧ env2 11 = .int .i64 k ∧ k ≤ D.length ∧ (k = 0 → la = 0) ∧ ∀ h : 0 < k ∧ k - 1 < D.length, la = D[k - 1].2) := ⟨_, rfl⟩
      obtain ⟨ν, hν⟩ : ∃ ν : Env → Store → Nat, ν = (fun env' _ => D.length - (env' 11).nat) := ⟨_, rfl⟩
      refine w_loop J ν ?jinit ?_
      case jinit =>
        rw [hJ]
        exact ⟨rfl, 0, 0, by simp only [vsA, false_implies, implies_true, decide_true, arith, cmpI, ldK, V.flat, V.one, V.cells, ↓reduceIte, reduceCtorEq, Nat.reduceEqDiff, Nat.reduceLeDiff, Nat.reduceAdd, Nat.reduceMul, fill, e0], by simp only [vsA, false_implies, implies_true, decide_true, arith, cmpI, ldK, V.flat, V.one, V.cells, ↓reduceIte, reduceCtorEq, Nat.reduceEqDiff, Nat.reduceLeDiff, Nat.reduceAdd, Nat.reduceMul, fill, e1], by simp only [vsA, false_implies, implies_true, decide_true, arith, cmpI, ldK, V.flat, V.one, V.cells, ↓reduceIte, reduceCtorEq, Nat.reduceEqDiff, Nat.reduceLeDiff, Nat.reduceAdd, Nat.reduceMul, fill, e5], by simp only [vsA, false_implies, implies_true, decide_true, arith, cmpI, ldK, V.flat, V.one, V.cells, ↓reduceIte, reduceCtorEq, Nat.reduceEqDiff, Nat.reduceLeDiff, Nat.reduceAdd, Nat.reduceMul, fill, e7], by simp only [vsA, false_implies, implies_true, decide_true, arith, cmpI, ldK, V.flat, V.one, V.cells, ↓reduceIte, reduceCtorEq, Nat.reduceEqDiff, Nat.reduceLeDiff, Nat.reduceAdd, Nat.reduceMul, fill, e8], by simp only [vsA, false_implies, implies_true, decide_true, arith, cmpI, ldK, V.flat, V.one, V.cells, ↓reduceIte, reduceCtorEq, Nat.reduceEqDiff, Nat.reduceLeDiff, Nat.reduceAdd, Nat.reduceMul, fill], by simp only [vsA, false_implies, implies_true, decide_true, arith, cmpI, ldK, V.flat, V.one, V.cells, ↓reduceIte, reduceCtorEq, Nat.reduceEqDiff, Nat.reduceLeDiff, Nat.reduceAdd, Nat.reduceMul, fill], by simp only [vsA, false_implies, implies_true, decide_true, arith, cmpI, ldK, V.flat, V.one, V.cells, ↓reduceIte, reduceCtorEq, Nat.reduceEqDiff, Nat.reduceLeDiff, Nat.reduceAdd, Nat.reduceMul, fill]; rfl, by omega, fun _ => rfl, fun h => by omega⟩
      intro env2 σ4 hinv
      rw [hJ] at hinv
      obtain ⟨hσ4, k, la, f0, f1, f5, f7, f8, f9, f10, f11, hk, hla0, hla⟩ := hinv
      subst hσ4
      by_cases hkl : k < D.length
      · have hd2 : decide ((k : Int) < (D.length : Int)) = true := by simp; omega
        obtain ⟨j, hj, hp, hgt⟩ := hM D[k] (hDM _ (List.getElem_mem hkl))
        have hg : (D.map fun p => kv p.1)[k]? = some (kv ((j : Int), 0)) := by
          rw [List.getElem?_map, List.getElem?_eq_getElem hkl, hp]; rfl
        have k0 : (0 : Int) ≤ (k : Int) := by omega
        have j0 : (0 : Int) ≤ (j : Int) := by omega
        have dn : decide ((j : Int) < 0) = false := by simp
        have dl1 : decide ((j : Int) ≥ (ts.length : Int)) = false := by simp; omega
        have hgt1 : (ts.map one)[j]? = some (one (ts.getD j 0)) := by
          rw [List.getElem?_map, List.getElem?_eq_getElem hj]; simp [hj]
        have hle1 := dl D[k] (List.getElem_mem hkl)
        rw [hp] at hle1
        have dd1 : decide (ts.getD j 0 > now) = false := by simp; exact hle1
        have wns : IntKind.i64.wrap (now - step) = now - step := wrap64 (by omega) (by omega)
        have dla : decide (ts.getD j 0 < la) = false := by
          simp only [decide_eq_false_iff_not, Int.not_lt]
          by_cases hk0 : k = 0
          · rw [hla0 hk0]; exact (hts j hj).1
          · rw [hla ⟨by omega, by omega⟩]
            have h1 : k - 1 < D.length := by omega
            have := List.pairwise_iff_getElem.1 dw (k - 1) k h1 hkl (by omega)
            have := before_at this
            rw [hp] at this; exact this
        have wk : IntKind.i64.wrap ((k : Int) + 1) = ((k + 1 : Nat) : Int) := wrap_succ (by omega)
        have wn : IntKind.i64.wrap (((n + k : Nat) : Int) + 1) = ((n + k + 1 : Nat) : Int) := wrap_succ (by omega)
        have close : ∀ env3 : Env, env3 0 = .fz 1 (ts.map one) c0 none → env3 1 = .int .i64 step → env3 5 = .ptr b 0 → env3 7 = .int .i64 ((n + k + 1 : Nat) : Int) → env3 8 = .int .i64 now → env3 9 = .fz 2 (D.map fun p => kv p.1) cc oo → env3 10 = .int .i64 (ts.getD j 0) → env3 11 = .int .i64 ((k + 1 : Nat) : Int) →
            J env3 σ4 ∧ ν env3 σ4 < ν env2 σ4 := by
          intro env3 q0 q1 q5 q7 q8 q9 q10 q11
          rw [hJ, hν]
          refine ⟨⟨rfl, k + 1, _, q0, q1, q5, by rw [q7]; rfl, q8, q9, q10, q11, by omega, by omega, fun h => ?_⟩, ?_⟩
          · simp only [Nat.add_sub_cancel, hp]
          · simp only [q11, f11, nat_int]; omega
        by_cases hge : now ≥ step
        · have dge : decide (now ≥ step) = true := by simpa using hge
          have dns : decide (ts.getD j 0 ≤ now - step) = false := by simp; exact hgt hge
          simp only [vsA, false_implies, implies_true, decide_true, arith, cmpI, ldK, V.flat, V.one, V.cells, ↓reduceIte, reduceCtorEq, Nat.reduceEqDiff, Nat.reduceLeDiff, Nat.reduceAdd, Nat.reduceMul, fill, vc4, vc4_1, vc4_2, vc4_3, vc4_4, vc4_5, vc4_6, vc4_7, vc4_8, vc4_101, vc4_102, vc4_103, vc4_104, vc4_105, vc4_106, vc4_107, vc4_108, vc4_109, vc4_110, vc4_111, vc4_112, vc4_113, vc4_114, vc4_115, vc4_116, vc4_117, vc4_118, vc4_119, vc4_120, vc4_121, vc4_122, vc4_123, vc4_124, vc4_125, vc4_126, vc4_127, vc4_128, vc4_129, vc4_130, vc4_131, vc4_132, vc4_133, vc4_134, vc4_135, vc4_136, vc4_137, vc4_138, vc4_139, vc4_140, vc4_141, vc4_142, vc4_143, vc4_144, vc4_145, vc4_146, vc4_147, vc4_148, vc4_149, vc4_150, vc4_151, vc4_152, vc4_153, vc4_154, vc4_155, vc4_156, f0, f1, f5, f7, f8, f9, f10, f11, hd2, hg, k0, kv_0, dn, dl1, j0, hgt1, one_0, dd1, dge, wns, dns, dla, wk, wn]
          exact close _ (by simp only [vsA, false_implies, implies_true, decide_true, arith, cmpI, ldK, V.flat, V.one, V.cells, ↓reduceIte, reduceCtorEq, Nat.reduceEqDiff, Nat.reduceLeDiff, Nat.reduceAdd, Nat.reduceMul, fill, f0]) (by simp only [vsA, false_implies, implies_true, decide_true, arith, cmpI, ldK, V.flat, V.one, V.cells, ↓reduceIte, reduceCtorEq, Nat.reduceEqDiff, Nat.reduceLeDiff, Nat.reduceAdd, Nat.reduceMul, fill, f1]) (by simp only [vsA, false_implies, implies_true, decide_true, arith, cmpI, ldK, V.flat, V.one, V.cells, ↓reduceIte, reduceCtorEq, Nat.reduceEqDiff, Nat.reduceLeDiff, Nat.reduceAdd, Nat.reduceMul, fill, f5]) (by simp only [vsA, false_implies, implies_true, decide_true, arith, cmpI, ldK, V.flat, V.one, V.cells, ↓reduceIte, reduceCtorEq, Nat.reduceEqDiff, Nat.reduceLeDiff, Nat.reduceAdd, Nat.reduceMul, fill]) (by simp only [vsA, false_implies, implies_true, decide_true, arith, cmpI, ldK, V.flat, V.one, V.cells, ↓reduceIte, reduceCtorEq, Nat.reduceEqDiff, Nat.reduceLeDiff, Nat.reduceAdd, Nat.reduceMul, fill, f8]) (by simp only [vsA, false_implies, implies_true, decide_true, arith, cmpI, ldK, V.flat, V.one, V.cells, ↓reduceIte, reduceCtorEq, Nat.reduceEqDiff, Nat.reduceLeDiff, Nat.reduceAdd, Nat.reduceMul, fill, f9]) (by simp only [vsA, false_implies, implies_true, decide_true, arith, cmpI, ldK, V.flat, V.one, V.cells, ↓reduceIte, reduceCtorEq, Nat.reduceEqDiff, Nat.reduceLeDiff, Nat.reduceAdd, Nat.reduceMul, fill]) (by simp only [vsA, false_implies, implies_true, decide_true, arith, cmpI, ldK, V.flat, V.one, V.cells, ↓reduceIte, reduceCtorEq, Nat.reduceEqDiff, Nat.reduceLeDiff, Nat.reduceAdd, Nat.reduceMul, fill])
        · have dge : decide (now ≥ step) = false := by simpa using hge
          simp only [vsA, false_implies, implies_true, decide_true, arith, cmpI, ldK, V.flat, V.one, V.cells, ↓reduceIte, reduceCtorEq, Nat.reduceEqDiff, Nat.reduceLeDiff, Nat.reduceAdd, Nat.reduceMul, fill, vc4, vc4_1, vc4_2, vc4_3, vc4_4, vc4_5, vc4_6, vc4_7, vc4_8, vc4_101, vc4_102, vc4_103, vc4_104, vc4_105, vc4_106, vc4_107, vc4_108, vc4_109, vc4_110, vc4_111, vc4_112, vc4_113, vc4_114, vc4_115, vc4_116, vc4_117, vc4_118, vc4_119, vc4_120, vc4_121, vc4_122, vc4_123, vc4_124, vc4_125, vc4_126, vc4_127, vc4_128, vc4_129, vc4_130, vc4_131, vc4_132, vc4_133, vc4_134, vc4_135, vc4_136, vc4_137, vc4_138, vc4_139, vc4_140, vc4_141, vc4_142, vc4_143, vc4_144, vc4_145, vc4_146, vc4_147, vc4_148, vc4_149, vc4_150, vc4_151, vc4_152, vc4_153, vc4_154, vc4_155, vc4_156, f0, f1, f5, f7, f8, f9, f10, f11, hd2, hg, k0, kv_0, dn, dl1, j0, hgt1, one_0, dd1, dge, dla, wk, wn]
          exact close _ (by simp only [vsA, false_implies, implies_true, decide_true, arith, cmpI, ldK, V.flat, V.one, V.cells, ↓reduceIte, reduceCtorEq, Nat.reduceEqDiff, Nat.reduceLeDiff, Nat.reduceAdd, Nat.reduceMul, fill, f0]) (by simp only [vsA, false_implies, implies_true, decide_true, arith, cmpI, ldK, V.flat, V.one, V.cells, ↓reduceIte, reduceCtorEq, Nat.reduceEqDiff, Nat.reduceLeDiff, Nat.reduceAdd, Nat.reduceMul, fill, f1]) (by simp only [vsA, false_implies, implies_true, decide_true, arith, cmpI, ldK, V.flat, V.one, V.cells, ↓reduceIte, reduceCtorEq, Nat.reduceEqDiff, Nat.reduceLeDiff, Nat.reduceAdd, Nat.reduceMul, fill, f5]) (by simp only [vsA, false_implies, implies_true, decide_true, arith, cmpI, ldK, V.flat, V.one, V.cells, ↓reduceIte, reduceCtorEq, Nat.reduceEqDiff, Nat.reduceLeDiff, Nat.reduceAdd, Nat.reduceMul, fill]) (by simp only [vsA, false_implies, implies_true, decide_true, arith, cmpI, ldK, V.flat, V.one, V.cells, ↓reduceIte, reduceCtorEq, Nat.reduceEqDiff, Nat.reduceLeDiff, Nat.reduceAdd, Nat.reduceMul, fill, f8]) (by simp only [vsA, false_implies, implies_true, decide_true, arith, cmpI, ldK, V.flat, V.one, V.cells, ↓reduceIte, reduceCtorEq, Nat.reduceEqDiff, Nat.reduceLeDiff, Nat.reduceAdd, Nat.reduceMul, fill, f9]) (by simp only [vsA, false_implies, implies_true, decide_true, arith, cmpI, ldK, V.flat, V.one, V.cells, ↓reduceIte, reduceCtorEq, Nat.reduceEqDiff, Nat.reduceLeDiff, Nat.reduceAdd, Nat.reduceMul, fill]) (by simp only [vsA, false_implies, implies_true, decide_true, arith, cmpI, ldK, V.flat, V.one, V.cells, ↓reduceIte, reduceCtorEq, Nat.reduceEqDiff, Nat.reduceLeDiff, Nat.reduceAdd, Nat.reduceMul, fill])
      · have hd2 : decide ((k : Int) < (D.length : Int)) = false := by simp; omega
        have hkD : k = D.length := by omega
        have wns : IntKind.i64.wrap (now + step) = now + step := wrap64 (by omega) (by omega)
        simp only [vsA, false_implies, implies_true, decide_true, arith, cmpI, ldK, V.flat, V.one, V.cells, ↓reduceIte, reduceCtorEq, Nat.reduceEqDiff, Nat.reduceLeDiff, Nat.reduceAdd, Nat.reduceMul, fill, vc4, vc4_1, vc4_2, vc4_3, vc4_4, vc4_5, vc4_6, vc4_7, vc4_8, vc4_101, vc4_102, vc4_103, vc4_104, vc4_105, vc4_106, vc4_107, vc4_108, vc4_109, vc4_110, vc4_111, vc4_112, vc4_113, vc4_114, vc4_115, vc4_116, vc4_117, vc4_118, vc4_119, vc4_120, vc4_121, vc4_122, vc4_123, vc4_124, vc4_125, vc4_126, vc4_127, vc4_128, vc4_129, vc4_130, vc4_131, vc4_132, vc4_133, vc4_134, vc4_135, vc4_136, vc4_137, vc4_138, vc4_139, vc4_140, vc4_141, vc4_142, vc4_143, vc4_144, vc4_145, vc4_146, vc4_147, vc4_148, vc4_149, vc4_150, vc4_151, vc4_152, vc4_153, vc4_154, vc4_155, vc4_156, f0, f1, f5, f7, f8, f9, f10, f11, hd2, wns]
        rw [hI, hμ]
        refine ⟨⟨now + step, M2, n + k, by simp only [vsA, false_implies, implies_true, decide_true, arith, cmpI, ldK, V.flat, V.one, V.cells, ↓reduceIte, reduceCtorEq, Nat.reduceEqDiff, Nat.reduceLeDiff, Nat.reduceAdd, Nat.reduceMul, fill, f0], by simp only [vsA, false_implies, implies_true, decide_true, arith, cmpI, ldK, V.flat, V.one, V.cells, ↓reduceIte, reduceCtorEq, Nat.reduceEqDiff, Nat.reduceLeDiff, Nat.reduceAdd, Nat.reduceMul, fill, f1], by simp only [vsA, false_implies, implies_true, decide_true, arith, cmpI, ldK, V.flat, V.one, V.cells, ↓reduceIte, reduceCtorEq, Nat.reduceEqDiff, Nat.reduceLeDiff, Nat.reduceAdd, Nat.reduceMul, fill, f5], by simp only [vsA, false_implies, implies_true, decide_true, arith, cmpI, ldK, V.flat, V.one, V.cells, ↓reduceIte, reduceCtorEq, Nat.reduceEqDiff, Nat.reduceLeDiff, Nat.reduceAdd, Nat.reduceMul, fill, f7], by simp only [vsA, false_implies, implies_true, decide_true, arith, cmpI, ldK, V.flat, V.one, V.cells, ↓reduceIte, reduceCtorEq, Nat.reduceEqDiff, Nat.reduceLeDiff, Nat.reduceAdd, Nat.reduceMul, fill], by omega, by omega, hT3, ?_, by omega, fun p hp => ?_⟩, ?_⟩
        · have := (dp.map (·.1)).nodup_iff.2 hnd
          rw [List.map_append, List.nodup_append] at this
          exact this.2.1
        · obtain ⟨j, hj, rfl, _⟩ := hM p (hM2 p hp)
          have hdg : now < ts.getD j 0 := dg _ hp
          exact ⟨j, hj, rfl, fun _ => by omega⟩
        · simp only [vsA, false_implies, implies_true, decide_true, arith, cmpI, ldK, V.flat, V.one, V.cells, ↓reduceIte, reduceCtorEq, Nat.reduceEqDiff, Nat.reduceLeDiff, Nat.reduceAdd, Nat.reduceMul, fill, e8]
          exact (Int.toNat_lt_toNat (by omega)).2 (by omega)
    · have hd : decide (now ≤ 1000 + step) = false := by simp; omega
      simp only [vsA, false_implies, implies_true, decide_true, arith, cmpI, ldK, V.flat, V.one, V.cells, ↓reduceIte, reduceCtorEq, Nat.reduceEqDiff, Nat.reduceLeDiff, Nat.reduceAdd, Nat.reduceMul, fill, vc4, vc4_1, vc4_2, vc4_3, vc4_4, vc4_5, vc4_6, vc4_8, vc4_101, vc4_102, vc4_103, vc4_104, vc4_105, vc4_106, vc4_107, vc4_108, vc4_109, vc4_110, vc4_111, vc4_112, vc4_113, vc4_114, vc4_115, vc4_116, vc4_117, vc4_119, vc4_120, vc4_121, vc4_122, vc4_123, vc4_124, vc4_125, vc4_126, vc4_127, vc4_128, vc4_129, vc4_130, vc4_131, vc4_132, vc4_133, vc4_134, vc4_135, vc4_136, vc4_137, vc4_138, vc4_139, vc4_140, vc4_141, vc4_142, vc4_143, vc4_144, vc4_145, vc4_146, vc4_147, vc4_148, vc4_149, vc4_150, vc4_151, vc4_152, vc4_153, vc4_154, vc4_155, vc4_156, e0, e1, e5, e7, e8, wst, hd]
      have hM0 : M = [] := by
        cases M with
        | nil => rfl
        | cons p M =>
          obtain ⟨j, hj, _, h⟩ := hM p (by simp)
          have := h (by omega)
          have := (hts j hj).2
          omega
      subst hM0
      simp only [List.length_nil, Nat.add_zero] at hnM
      exact last _ _ (by simp only [vsA, false_implies, implies_true, decide_true, arith, cmpI, ldK, V.flat, V.one, V.cells, ↓reduceIte, reduceCtorEq, Nat.reduceEqDiff, Nat.reduceLeDiff, Nat.reduceAdd, Nat.reduceMul, fill, e0]) (by simp only [vsA, false_implies, implies_true, decide_true, arith, cmpI, ldK, V.flat, V.one, V.cells, ↓reduceIte, reduceCtorEq, Nat.reduceEqDiff, Nat.reduceLeDiff, Nat.reduceAdd, Nat.reduceMul, fill, e5]) (by simp only [vsA, false_implies, implies_true, decide_true, arith, cmpI, ldK, V.flat, V.one, V.cells, ↓reduceIte, reduceCtorEq, Nat.reduceEqDiff, Nat.reduceLeDiff, Nat.reduceAdd, Nat.reduceMul, fill, e7, hnM]) hT
  -- the timers are set
  obtain ⟨I, hI⟩ : ∃ I : Env → Store → Prop, I = (fun env' σ' => ∃ i : Nat, env' 0 = .fz 1 (ts.map one) c0 none ∧ env' 1 = .int .i64 step ∧ env' 5 = .ptr b 0 ∧ env' 6 = .int .i64 i ∧ i ≤ ts.length ∧ TM σ' b m (upto ts i) ∧ ∀ j : Nat, j < i → 0 ≤ ts.getD j 0 ∧ ts.getD j 0 ≤ 1000) := ⟨_, rfl⟩
  obtain ⟨μ, hμ⟩ : ∃ μ : Env → Store → Nat, μ = (fun env' _ => ts.length - (env' 6).nat) := ⟨_, rfl⟩
  refine w_loop I μ (by rw [hI]; exact ⟨0, by simp only [vsA, false_implies, implies_true, decide_true, arith, cmpI, ldK, V.flat, V.one, V.cells, ↓reduceIte, reduceCtorEq, Nat.reduceEqDiff, Nat.reduceLeDiff, Nat.reduceAdd, Nat.reduceMul, fill], by simp only [vsA, false_implies, implies_true, decide_true, arith, cmpI, ldK, V.flat, V.one, V.cells, ↓reduceIte, reduceCtorEq, Nat.reduceEqDiff, Nat.reduceLeDiff, Nat.reduceAdd, Nat.reduceMul, fill], by simp only [vsA, false_implies, implies_true, decide_true, arith, cmpI, ldK, V.flat, V.one, V.cells, ↓reduceIte, reduceCtorEq, Nat.reduceEqDiff, Nat.reduceLeDiff, Nat.reduceAdd, Nat.reduceMul, fill], by simp only [vsA, false_implies, implies_true, decide_true, arith, cmpI, ldK, V.flat, V.one, V.cells, ↓reduceIte, reduceCtorEq, Nat.reduceEqDiff, Nat.reduceLeDiff, Nat.reduceAdd, Nat.reduceMul, fill]; rfl, by omega, h1, by omega⟩) ?_
  intro env' σ' hinv
  rw [hI] at hinv
  obtain ⟨i, e0, e1, e5, e6, hi, hT, hts⟩ := hinv
  by_cases hlt : i < ts.length
  · have hd : decide ((i : Int) < (ts.length : Int)) = true := by simp; omega
    have hg : (ts.map one)[i]? = some (one (ts.getD i 0)) := by
      rw [List.getElem?_map, List.getElem?_eq_getElem hlt]; simp [hlt]
    have i0 : (0 : Int) ≤ (i : Int) := by omega
    by_cases h3 : ts.getD i 0 < 0
    · have d4 : decide (ts.getD i 0 < 0) = true := by simpa using h3
      simp only [vsA, false_implies, implies_true, decide_true, arith, cmpI, ldK, V.flat, V.one, V.cells, ↓reduceIte, reduceCtorEq, Nat.reduceEqDiff, Nat.reduceLeDiff, Nat.reduceAdd, Nat.reduceMul, fill, vc4, vc4_1, vc4_2, vc4_3, vc4_4, vc4_5, vc4_6, vc4_7, vc4_8, vc4_101, vc4_102, vc4_103, vc4_104, vc4_105, vc4_106, vc4_107, vc4_108, vc4_109, vc4_110, vc4_111, vc4_112, vc4_113, vc4_114, vc4_115, vc4_116, vc4_117, vc4_118, vc4_119, vc4_120, vc4_121, vc4_122, vc4_123, vc4_124, vc4_125, vc4_126, vc4_127, vc4_128, vc4_129, vc4_130, vc4_131, vc4_132, vc4_133, vc4_134, vc4_135, vc4_136, vc4_137, vc4_138, vc4_139, vc4_140, vc4_141, vc4_142, vc4_143, vc4_144, vc4_145, vc4_146, vc4_147, vc4_148, vc4_149, vc4_150, vc4_151, vc4_152, vc4_153, vc4_154, vc4_155, vc4_156, e0, e1, e5, e6, hd, hg, i0, one_0, d4]
      exact fin _
    have d4 : decide (ts.getD i 0 < 0) = false := by simpa using h3
    by_cases h4 : ts.getD i 0 > 1000
    · have d5 : decide (ts.getD i 0 > 1000) = true := by simpa using h4
      simp only [vsA, false_implies, implies_true, decide_true, arith, cmpI, ldK, V.flat, V.one, V.cells, ↓reduceIte, reduceCtorEq, Nat.reduceEqDiff, Nat.reduceLeDiff, Nat.reduceAdd, Nat.reduceMul, fill, vc4, vc4_1, vc4_2, vc4_3, vc4_4, vc4_5, vc4_6, vc4_7, vc4_8, vc4_101, vc4_102, vc4_103, vc4_104, vc4_105, vc4_106, vc4_107, vc4_108, vc4_109, vc4_110, vc4_111, vc4_112, vc4_113, vc4_114, vc4_115, vc4_116, vc4_117, vc4_118, vc4_119, vc4_120, vc4_121, vc4_122, vc4_123, vc4_124, vc4_125, vc4_126, vc4_127, vc4_128, vc4_129, vc4_130, vc4_131, vc4_132, vc4_133, vc4_134, vc4_135, vc4_136, vc4_137, vc4_138, vc4_139, vc4_140, vc4_141, vc4_142, vc4_143, vc4_144, vc4_145, vc4_146, vc4_147, vc4_148, vc4_149, vc4_150, vc4_151, vc4_152, vc4_153, vc4_154, vc4_155, vc4_156, e0, e1, e5, e6, hd, hg, i0, one_0, d4, d5]
      exact fin _
    have d5 : decide (ts.getD i 0 > 1000) = false := by simpa using h4
    simp only [vsA, false_implies, implies_true, decide_true, arith, cmpI, ldK, V.flat, V.one, V.cells, ↓reduceIte, reduceCtorEq, Nat.reduceEqDiff, Nat.reduceLeDiff, Nat.reduceAdd, Nat.reduceMul, fill, vc4, vc4_1, vc4_2, vc4_3, vc4_4, vc4_5, vc4_6, vc4_7, vc4_8, vc4_101, vc4_102, vc4_103, vc4_104, vc4_105, vc4_106, vc4_107, vc4_108, vc4_109, vc4_110, vc4_111, vc4_112, vc4_113, vc4_114, vc4_115, vc4_116, vc4_117, vc4_118, vc4_119, vc4_120, vc4_121, vc4_122, vc4_123, vc4_124, vc4_125, vc4_126, vc4_127, vc4_128, vc4_129, vc4_130, vc4_131, vc4_132, vc4_133, vc4_134, vc4_135, vc4_136, vc4_137, vc4_138, vc4_139, vc4_140, vc4_141, vc4_142, vc4_143, vc4_144, vc4_145, vc4_146, vc4_147, vc4_148, vc4_149, vc4_150, vc4_151, vc4_152, vc4_153, vc4_154, vc4_155, vc4_156, e0, e1, e5, e6, hd, hg, i0, one_0, d4, d5]
    refine call_f (vs := [.ptr b 0, .agg (kv ((i : Int), 0)), .int .i64 (ts.getD i 0)]) (by simp only [vsA, false_implies, implies_true, decide_true, arith, cmpI, ldK, V.flat, V.one, V.cells, ↓reduceIte, reduceCtorEq, Nat.reduceEqDiff, Nat.reduceLeDiff, Nat.reduceAdd, Nat.reduceMul, fill]; rfl) (set_tm ((i : Int), 0) (ts.getD i 0) hT (by rw [upto_len]; omega)) ?_
    rintro _ σ3 ⟨rfl, t3⟩ _ _
    have ht : tset ((i : Int), 0) (ts.getD i 0) (upto ts i) = (0, upto ts (i + 1)) := by
      unfold tset
      rw [if_neg (by omega), if_neg (by rw [upto_len]; omega), upto_put]
    rw [ht] at t3 ⊢
    have hT3 := t3.tm hT
    simp only [vsA, false_implies, implies_true, decide_true, arith, cmpI, ldK, V.flat, V.one, V.cells, ↓reduceIte, reduceCtorEq, Nat.reduceEqDiff, Nat.reduceLeDiff, Nat.reduceAdd, Nat.reduceMul, fill, vc4, vc4_1, vc4_2, vc4_3, vc4_4, vc4_5, vc4_6, vc4_7, vc4_8, vc4_101, vc4_102, vc4_103, vc4_104, vc4_105, vc4_106, vc4_107, vc4_108, vc4_109, vc4_110, vc4_111, vc4_112, vc4_113, vc4_114, vc4_115, vc4_116, vc4_117, vc4_118, vc4_119, vc4_120, vc4_121, vc4_122, vc4_123, vc4_124, vc4_125, vc4_126, vc4_127, vc4_128, vc4_129, vc4_130, vc4_131, vc4_132, vc4_133, vc4_134, vc4_135, vc4_136, vc4_137, vc4_138, vc4_139, vc4_140, vc4_141, vc4_142, vc4_143, vc4_144, vc4_145, vc4_146, vc4_147, vc4_148, vc4_149, vc4_150, vc4_151, vc4_152, vc4_153, vc4_154, vc4_155, vc4_156, bne_self_eq_false, e6, wrap_succ (show i ≤ 140737488355328 by omega)]
    rw [hI, hμ]
    refine ⟨⟨i + 1, by simp only [vsA, false_implies, implies_true, decide_true, arith, cmpI, ldK, V.flat, V.one, V.cells, ↓reduceIte, reduceCtorEq, Nat.reduceEqDiff, Nat.reduceLeDiff, Nat.reduceAdd, Nat.reduceMul, fill, e0], by simp only [vsA, false_implies, implies_true, decide_true, arith, cmpI, ldK, V.flat, V.one, V.cells, ↓reduceIte, reduceCtorEq, Nat.reduceEqDiff, Nat.reduceLeDiff, Nat.reduceAdd, Nat.reduceMul, fill, e1], by simp only [vsA, false_implies, implies_true, decide_true, arith, cmpI, ldK, V.flat, V.one, V.cells, ↓reduceIte, reduceCtorEq, Nat.reduceEqDiff, Nat.reduceLeDiff, Nat.reduceAdd, Nat.reduceMul, fill, e5], by simp only [vsA, false_implies, implies_true, decide_true, arith, cmpI, ldK, V.flat, V.one, V.cells, ↓reduceIte, reduceCtorEq, Nat.reduceEqDiff, Nat.reduceLeDiff, Nat.reduceAdd, Nat.reduceMul, fill], by omega, hT3, fun j hj => ?_⟩, ?_⟩
    · by_cases hji : j = i
      · subst hji; omega
      · exact hts j (by omega)
    · simp only [vsA, false_implies, implies_true, decide_true, arith, cmpI, ldK, V.flat, V.one, V.cells, ↓reduceIte, reduceCtorEq, Nat.reduceEqDiff, Nat.reduceLeDiff, Nat.reduceAdd, Nat.reduceMul, fill, e6, nat_int]; omega
  · have hd : decide ((i : Int) < (ts.length : Int)) = false := by simp; omega
    obtain rfl : i = ts.length := by omega
    simp only [vsA, false_implies, implies_true, decide_true, arith, cmpI, ldK, V.flat, V.one, V.cells, ↓reduceIte, reduceCtorEq, Nat.reduceEqDiff, Nat.reduceLeDiff, Nat.reduceAdd, Nat.reduceMul, fill, vc4, vc4_1, vc4_2, vc4_3, vc4_4, vc4_6, vc4_8, vc4_101, vc4_102, vc4_103, vc4_104, vc4_105, vc4_106, vc4_107, vc4_108, vc4_109, vc4_110, vc4_111, vc4_112, vc4_113, vc4_114, vc4_115, vc4_116, vc4_117, vc4_119, vc4_120, vc4_121, vc4_122, vc4_123, vc4_124, vc4_125, vc4_126, vc4_127, vc4_129, vc4_130, vc4_131, vc4_132, vc4_133, vc4_134, vc4_135, vc4_136, vc4_137, vc4_138, vc4_139, vc4_140, vc4_141, vc4_142, vc4_143, vc4_144, vc4_145, vc4_146, vc4_147, vc4_148, vc4_149, vc4_150, vc4_151, vc4_152, vc4_153, vc4_154, vc4_155, vc4_156, e0, e1, e5, e6, hd]
    exact moments _ _ (by simp only [vsA, false_implies, implies_true, decide_true, arith, cmpI, ldK, V.flat, V.one, V.cells, ↓reduceIte, reduceCtorEq, Nat.reduceEqDiff, Nat.reduceLeDiff, Nat.reduceAdd, Nat.reduceMul, fill, e0]) (by simp only [vsA, false_implies, implies_true, decide_true, arith, cmpI, ldK, V.flat, V.one, V.cells, ↓reduceIte, reduceCtorEq, Nat.reduceEqDiff, Nat.reduceLeDiff, Nat.reduceAdd, Nat.reduceMul, fill, e1]) (by simp only [vsA, false_implies, implies_true, decide_true, arith, cmpI, ldK, V.flat, V.one, V.cells, ↓reduceIte, reduceCtorEq, Nat.reduceEqDiff, Nat.reduceLeDiff, Nat.reduceAdd, Nat.reduceMul, fill, e5]) hT hts
end Go.Vm.T10
