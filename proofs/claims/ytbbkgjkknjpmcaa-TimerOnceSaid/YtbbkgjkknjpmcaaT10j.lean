/-
  Timers: any calls of timers.
-/
import Derived.Test.YtbbkgjkknjpmcaaT10i
import Derived.Test.YtbbkgjkknjpmcaaVm20
set_option linter.unusedSimpArgs false
set_option linter.unusedVariables false
set_option linter.unusedSectionVars false
namespace Go.Vm.T10
open Go Go.Vm

/-- A call. -/
def opv (o : Int × (Int × Int) × Int) : List V := [.int .i64 o.1, .int .i64 o.2.1.1, .int .i64 o.2.1.2, .int .i64 o.2.2]
theorem opv_len (o : Int × (Int × Int) × Int) : (opv o).length = 4 := rfl
theorem opv_take (o : Int × (Int × Int) × Int) : (opv o).take 4 = opv o := rfl
theorem opv_0 (o : Int × (Int × Int) × Int) : (opv o)[0]? = some (.int .i64 o.1) := rfl
theorem opv_1 (o : Int × (Int × Int) × Int) : ((opv o).drop 1).take 2 = kv o.2.1 := rfl
theorem opv_1l (o : Int × (Int × Int) × Int) : (2 ≤ ((opv o).drop 1).length) = True := by simp [opv]
theorem opv_3 (o : Int × (Int × Int) × Int) : (opv o).drop 3 = [.int .i64 o.2.2] := rfl

section
variable {σ : Store} {b m x c : Nat} {own : Option Nat} {M L : TL}
theorem tm_rs {σ' : Store} {L' : TL} (h : TM σ b m M) (h2 : RF σ x L c own) (k : RS σ x own L' σ') : TM σ' b m M ∧ ∃ c own, RF σ' x L' c own := by
  obtain ⟨h1, clk, h3⟩ := h
  obtain ⟨c2, own2, a1, a2, a3⟩ := k
  refine ⟨⟨a2 b _ ?_ ?_ h1, clk, a2 m _ ?_ ?_ h3⟩, c2, own2, a1⟩
  · rintro rfl; rw [h2.1] at h1; cases h1
  · intro e; have := h2.2.2 b e; rw [h1] at this; cases this
  · rintro rfl; rw [h2.1] at h3; cases h3
  · intro e; have := h2.2.2 m e; rw [h3] at this; cases this
theorem rf_ts {σ' : Store} {M' : TL} (h2 : RF σ x L c own) (h : TM σ b m M) (k : TS σ m M' σ') : RF σ' x L c own := by
  obtain ⟨clk', rfl⟩ := k
  obtain ⟨h1, clk, h3⟩ := h
  have hxm : x ≠ m := by rintro rfl; rw [h2.1] at h3; cases h3
  refine ⟨by rw [Store.get_set_ne _ _ hxm]; exact h2.1, h2.2.1, fun o e => ?_⟩
  have : o ≠ m := by rintro rfl; have := h2.2.2 o e; rw [h3] at this; cases this
  rw [Store.get_set_ne _ _ this]; exact h2.2.2 o e

/-- What a round looks at. -/
theorem look_do {Q : VExit → Env → Store → Prop} {env : Env} {o : Int × (Int × Int) × Int} (h : TM σ b m M) (h2 : RF σ x L c own) (hp : Pair M L) (e3 : env 3 = .ptr b 0) (e4 : env 4 = .ptr x 0) (e6 : env 6 = .fp (opv o))
    (hQ : ∀ env', (∀ s, s < 6 → env' s = env s) → Q .normal env' σ) : vwp PT vc3_134 Q env σ := by
  have hr := Store.rd_row h2.1
  simp only [vsA, false_implies, implies_true, decide_true, arith, cmpI, ldK, V.flat, V.one, V.cells, ↓reduceIte, reduceCtorEq, Nat.reduceEqDiff, Nat.reduceLeDiff, Nat.reduceAdd, Nat.reduceMul, fill, vc3, vc3_1, vc3_2, vc3_3, vc3_4, vc3_5, vc3_101, vc3_102, vc3_103, vc3_104, vc3_105, vc3_106, vc3_107, vc3_108, vc3_109, vc3_110, vc3_111, vc3_112, vc3_113, vc3_114, vc3_115, vc3_116, vc3_117, vc3_118, vc3_119, vc3_120, vc3_121, vc3_122, vc3_123, vc3_124, vc3_125, vc3_126, vc3_127, vc3_128, vc3_129, vc3_130, vc3_131, vc3_132, vc3_133, vc3_134, vc3_135, vc3_136, vc3_137, vc3_138, vc3_139, vc3_140, vc3_141, vc3_142, vc3_143, vc3_144, vc3_145, vc3_146, vc3_147, vc3_148, vc3_1042, vc3_1057, vc3_1068, vc3_1102, e3, e4, e6, opv_1, opv_1l]
  refine call_f (vs := [.ptr b 0, .agg (kv o.2.1)]) (by simp only [vsA, false_implies, implies_true, decide_true, arith, cmpI, ldK, V.flat, V.one, V.cells, ↓reduceIte, reduceCtorEq, Nat.reduceEqDiff, Nat.reduceLeDiff, Nat.reduceAdd, Nat.reduceMul, fill]) (at_tm o.2.1 h) ?_
  rintro _ σ1 ⟨rfl, hσ1⟩ _ _
  subst hσ1
  simp only [vsA, false_implies, implies_true, decide_true, arith, cmpI, ldK, V.flat, V.one, V.cells, ↓reduceIte, reduceCtorEq, Nat.reduceEqDiff, Nat.reduceLeDiff, Nat.reduceAdd, Nat.reduceMul, fill, vc3, vc3_1, vc3_2, vc3_3, vc3_4, vc3_5, vc3_101, vc3_102, vc3_103, vc3_104, vc3_105, vc3_106, vc3_107, vc3_108, vc3_109, vc3_110, vc3_111, vc3_112, vc3_113, vc3_114, vc3_115, vc3_116, vc3_117, vc3_118, vc3_119, vc3_120, vc3_121, vc3_122, vc3_123, vc3_124, vc3_125, vc3_126, vc3_127, vc3_128, vc3_129, vc3_130, vc3_131, vc3_132, vc3_133, vc3_134, vc3_135, vc3_136, vc3_137, vc3_138, vc3_139, vc3_140, vc3_141, vc3_142, vc3_143, vc3_144, vc3_145, vc3_146, vc3_147, vc3_148, vc3_1042, vc3_1057, vc3_1068, vc3_1102, e3, e4, e6, opv_1, opv_1l]
  refine call_f (vs := [.ptr x 0, .agg (kv o.2.1)]) (by simp only [vsA, false_implies, implies_true, decide_true, arith, cmpI, ldK, V.flat, V.one, V.cells, ↓reduceIte, reduceCtorEq, Nat.reduceEqDiff, Nat.reduceLeDiff, Nat.reduceAdd, Nat.reduceMul, fill]) (rat_do o.2.1 hr) ?_
  rintro _ σ1 ⟨rfl, hσ1⟩ _ _
  subst hσ1
  rw [pair_at hp]
  simp only [vsA, false_implies, implies_true, decide_true, arith, cmpI, ldK, V.flat, V.one, V.cells, ↓reduceIte, reduceCtorEq, Nat.reduceEqDiff, Nat.reduceLeDiff, Nat.reduceAdd, Nat.reduceMul, fill, vc3, vc3_1, vc3_2, vc3_3, vc3_4, vc3_5, vc3_101, vc3_102, vc3_103, vc3_104, vc3_105, vc3_106, vc3_107, vc3_108, vc3_109, vc3_110, vc3_111, vc3_112, vc3_113, vc3_114, vc3_115, vc3_116, vc3_117, vc3_118, vc3_119, vc3_120, vc3_121, vc3_122, vc3_123, vc3_124, vc3_125, vc3_126, vc3_127, vc3_128, vc3_129, vc3_130, vc3_131, vc3_132, vc3_133, vc3_134, vc3_135, vc3_136, vc3_137, vc3_138, vc3_139, vc3_140, vc3_141, vc3_142, vc3_143, vc3_144, vc3_145, vc3_146, vc3_147, vc3_148, vc3_1042, vc3_1057, vc3_1068, vc3_1102, e3, e4, e6]
  refine call_f (vs := [.ptr b 0]) (by simp only [vsA, false_implies, implies_true, decide_true, arith, cmpI, ldK, V.flat, V.one, V.cells, ↓reduceIte, reduceCtorEq, Nat.reduceEqDiff, Nat.reduceLeDiff, Nat.reduceAdd, Nat.reduceMul, fill]) (next_do h hp.le hp.hi) ?_
  rintro v σ1 ⟨hv, hσ1⟩ _ _
  subst hσ1
  obtain ⟨n1, q1, hv1⟩ : ∃ n q, v = .tup [.int .i64 n, .bool q] := by
    rcases hv with ⟨_, h⟩ | ⟨p, _, h, _⟩
    · exact ⟨_, _, h⟩
    · exact ⟨_, _, h⟩
  subst hv1
  simp only [vsA, false_implies, implies_true, decide_true, arith, cmpI, ldK, V.flat, V.one, V.cells, ↓reduceIte, reduceCtorEq, Nat.reduceEqDiff, Nat.reduceLeDiff, Nat.reduceAdd, Nat.reduceMul, fill, vc3, vc3_1, vc3_2, vc3_3, vc3_4, vc3_5, vc3_101, vc3_102, vc3_103, vc3_104, vc3_105, vc3_106, vc3_107, vc3_108, vc3_109, vc3_110, vc3_111, vc3_112, vc3_113, vc3_114, vc3_115, vc3_116, vc3_117, vc3_118, vc3_119, vc3_120, vc3_121, vc3_122, vc3_123, vc3_124, vc3_125, vc3_126, vc3_127, vc3_128, vc3_129, vc3_130, vc3_131, vc3_132, vc3_133, vc3_134, vc3_135, vc3_136, vc3_137, vc3_138, vc3_139, vc3_140, vc3_141, vc3_142, vc3_143, vc3_144, vc3_145, vc3_146, vc3_147, vc3_148, vc3_1042, vc3_1057, vc3_1068, vc3_1102, e3, e4, e6]
  refine call_f (vs := [.ptr x 0]) (by simp only [vsA, false_implies, implies_true, decide_true, arith, cmpI, ldK, V.flat, V.one, V.cells, ↓reduceIte, reduceCtorEq, Nat.reduceEqDiff, Nat.reduceLeDiff, Nat.reduceAdd, Nat.reduceMul, fill]) (rnext_do hr) ?_
  rintro w σ1 ⟨hw, hσ1⟩ _ _
  subst hσ1
  obtain ⟨n2, q2, h3, rfl⟩ := pair_next hp hv hw
  obtain ⟨rfl, rfl⟩ : n1 = n2 ∧ q1 = q2 := by simpa using h3
  have hle := hp.pm.length_eq
  simp only [vsA, false_implies, implies_true, decide_true, arith, cmpI, ldK, V.flat, V.one, V.cells, ↓reduceIte, reduceCtorEq, Nat.reduceEqDiff, Nat.reduceLeDiff, Nat.reduceAdd, Nat.reduceMul, fill, vc3, vc3_1, vc3_2, vc3_3, vc3_4, vc3_5, vc3_101, vc3_102, vc3_103, vc3_104, vc3_105, vc3_106, vc3_107, vc3_108, vc3_109, vc3_110, vc3_111, vc3_112, vc3_113, vc3_114, vc3_115, vc3_116, vc3_117, vc3_118, vc3_119, vc3_120, vc3_121, vc3_122, vc3_123, vc3_124, vc3_125, vc3_126, vc3_127, vc3_128, vc3_129, vc3_130, vc3_131, vc3_132, vc3_133, vc3_134, vc3_135, vc3_136, vc3_137, vc3_138, vc3_139, vc3_140, vc3_141, vc3_142, vc3_143, vc3_144, vc3_145, vc3_146, vc3_147, vc3_148, vc3_1042, vc3_1057, vc3_1068, vc3_1102, e3, e4, e6, bne_self_eq_false, hr]
  refine call_f (vs := [.ptr b 0]) (by simp only [vsA, false_implies, implies_true, decide_true, arith, cmpI, ldK, V.flat, V.one, V.cells, ↓reduceIte, reduceCtorEq, Nat.reduceEqDiff, Nat.reduceLeDiff, Nat.reduceAdd, Nat.reduceMul, fill, e3]) (len_tm h hp.le) ?_
  rintro _ σ1 ⟨rfl, hσ1⟩ _ _
  subst hσ1
  rw [hle]
  simp only [vsA, false_implies, implies_true, decide_true, arith, cmpI, ldK, V.flat, V.one, V.cells, ↓reduceIte, reduceCtorEq, Nat.reduceEqDiff, Nat.reduceLeDiff, Nat.reduceAdd, Nat.reduceMul, fill, vc3, vc3_1, vc3_2, vc3_3, vc3_4, vc3_5, vc3_101, vc3_102, vc3_103, vc3_104, vc3_105, vc3_106, vc3_107, vc3_108, vc3_109, vc3_110, vc3_111, vc3_112, vc3_113, vc3_114, vc3_115, vc3_116, vc3_117, vc3_118, vc3_119, vc3_120, vc3_121, vc3_122, vc3_123, vc3_124, vc3_125, vc3_126, vc3_127, vc3_128, vc3_129, vc3_130, vc3_131, vc3_132, vc3_133, vc3_134, vc3_135, vc3_136, vc3_137, vc3_138, vc3_139, vc3_140, vc3_141, vc3_142, vc3_143, vc3_144, vc3_145, vc3_146, vc3_147, vc3_148, vc3_1042, vc3_1057, vc3_1068, vc3_1102, e3, e4, e6, bne_self_eq_false]
  refine ⟨Store.le_refl _, hQ _ (fun s hs => ?_)⟩
  simp only [e_put]
  repeat rw [if_neg (by omega)]
end

set_option maxHeartbeats 1000000 in
theorem does_do (os : List (Int × (Int × Int) × Int)) (c0 : Nat) : VCalls PT 3 [.fz 4 (os.map opv) c0 none] S0 (fun v _ => v = .bool true) := by
  refine vcalls_of ck3 (fun hv hok => ?_)
  have hfz := (hv (.fz 4 (os.map opv) c0 none) (by simp)).fz.1
  rw [List.length_map] at hfz
  obtain ⟨R, hR⟩ : ∃ R : V → Store → Prop, R = (fun v _ => v = .bool true) := ⟨_, rfl⟩
  rw [← hR]
  simp only [vsA, false_implies, implies_true, decide_true, arith, cmpI, ldK, V.flat, V.one, V.cells, ↓reduceIte, reduceCtorEq, Nat.reduceEqDiff, Nat.reduceLeDiff, Nat.reduceAdd, Nat.reduceMul, fill, vc3, vc3_1, vc3_2, vc3_4, vc3_5, vc3_101, vc3_102, vc3_103, vc3_104, vc3_105, vc3_106, vc3_107, vc3_108, vc3_109, vc3_110, vc3_111, vc3_112, vc3_113, vc3_114, vc3_115, vc3_116, vc3_117, vc3_118, vc3_119, vc3_120, vc3_121, vc3_122, vc3_123, vc3_124, vc3_125, vc3_126, vc3_127, vc3_128, vc3_129, vc3_130, vc3_131, vc3_132, vc3_133, vc3_135, vc3_136, vc3_137, vc3_138, vc3_140, vc3_141, vc3_143, vc3_144, vc3_145, vc3_146, vc3_147, vc3_148, vc3_1042, vc3_1057, vc3_1068, vc3_1102]
  refine call_f (vs := []) (by simp only [vsA, false_implies, implies_true, decide_true, arith, cmpI, ldK, V.flat, V.one, V.cells, ↓reduceIte, reduceCtorEq, Nat.reduceEqDiff, Nat.reduceLeDiff, Nat.reduceAdd, Nat.reduceMul, fill]) (new_tm S0) ?_
  rintro _ σ1 ⟨b, m, rfl, h1, -, -, -⟩ _ _
  simp only [vsA, false_implies, implies_true, decide_true, arith, cmpI, ldK, V.flat, V.one, V.cells, ↓reduceIte, reduceCtorEq, Nat.reduceEqDiff, Nat.reduceLeDiff, Nat.reduceAdd, Nat.reduceMul, fill, vc3, vc3_1, vc3_2, vc3_4, vc3_5, vc3_101, vc3_102, vc3_103, vc3_104, vc3_105, vc3_106, vc3_107, vc3_108, vc3_109, vc3_110, vc3_111, vc3_112, vc3_113, vc3_114, vc3_115, vc3_116, vc3_117, vc3_118, vc3_119, vc3_120, vc3_121, vc3_122, vc3_123, vc3_124, vc3_125, vc3_126, vc3_127, vc3_128, vc3_129, vc3_130, vc3_131, vc3_132, vc3_133, vc3_135, vc3_136, vc3_137, vc3_138, vc3_140, vc3_141, vc3_143, vc3_144, vc3_145, vc3_146, vc3_147, vc3_148, vc3_1042, vc3_1057, vc3_1068, vc3_1102]
  refine v_box' rfl rfl (fun x hx => ?_)
  have h1' : TM (σ1.set x (.row [.fz 3 [] 0 none] 0)) b m [] := by
    obtain ⟨a1, clk, a2⟩ := h1
    refine ⟨?_, clk, ?_⟩
    · rw [Store.get_set_ne _ _ (by rintro rfl; rw [a1] at hx; cases hx)]; exact a1
    · rw [Store.get_set_ne _ _ (by rintro rfl; rw [a2] at hx; cases hx)]; exact a2
  have h2 : RF (σ1.set x (.row [.fz 3 [] 0 none] 0)) x [] 0 none := ⟨by simp, by simp, by simp⟩
  simp only [vsA, false_implies, implies_true, decide_true, arith, cmpI, ldK, V.flat, V.one, V.cells, ↓reduceIte, reduceCtorEq, Nat.reduceEqDiff, Nat.reduceLeDiff, Nat.reduceAdd, Nat.reduceMul, fill, vc3, vc3_1, vc3_2, vc3_4, vc3_5, vc3_101, vc3_102, vc3_103, vc3_104, vc3_105, vc3_106, vc3_107, vc3_108, vc3_109, vc3_110, vc3_111, vc3_112, vc3_113, vc3_114, vc3_115, vc3_116, vc3_117, vc3_118, vc3_119, vc3_120, vc3_121, vc3_122, vc3_123, vc3_124, vc3_125, vc3_126, vc3_127, vc3_128, vc3_129, vc3_130, vc3_131, vc3_132, vc3_133, vc3_135, vc3_136, vc3_137, vc3_138, vc3_140, vc3_141, vc3_143, vc3_144, vc3_145, vc3_146, vc3_147, vc3_148, vc3_1042, vc3_1057, vc3_1068, vc3_1102]
  refine call_f (vs := []) (by simp only [vsA, false_implies, implies_true, decide_true, arith, cmpI, ldK, V.flat, V.one, V.cells, ↓reduceIte, reduceCtorEq, Nat.reduceEqDiff, Nat.reduceLeDiff, Nat.reduceAdd, Nat.reduceMul, fill]) (lives_do _) ?_
  rintro _ σ2 ⟨rfl, hσ2⟩ _ _
  subst hσ2
  simp only [vsA, false_implies, implies_true, decide_true, arith, cmpI, ldK, V.flat, V.one, V.cells, ↓reduceIte, reduceCtorEq, Nat.reduceEqDiff, Nat.reduceLeDiff, Nat.reduceAdd, Nat.reduceMul, fill, vc3, vc3_1, vc3_2, vc3_5, vc3_101, vc3_102, vc3_103, vc3_104, vc3_105, vc3_106, vc3_107, vc3_108, vc3_109, vc3_110, vc3_111, vc3_112, vc3_113, vc3_114, vc3_115, vc3_116, vc3_117, vc3_118, vc3_119, vc3_120, vc3_121, vc3_122, vc3_123, vc3_124, vc3_125, vc3_126, vc3_127, vc3_128, vc3_129, vc3_130, vc3_131, vc3_132, vc3_133, vc3_135, vc3_136, vc3_137, vc3_138, vc3_140, vc3_141, vc3_143, vc3_144, vc3_145, vc3_146, vc3_147, vc3_148, vc3_1042, vc3_1057, vc3_1068, vc3_1102]
  simp only [vsA, false_implies, implies_true, decide_true, arith, cmpI, ldK, V.flat, V.one, V.cells, ↓reduceIte, reduceCtorEq, Nat.reduceEqDiff, Nat.reduceLeDiff, Nat.reduceAdd, Nat.reduceMul, fill, vc3, vc3_1, vc3_2, vc3_3, vc3_5, vc3_101, vc3_102, vc3_103, vc3_104, vc3_105, vc3_106, vc3_107, vc3_108, vc3_109, vc3_110, vc3_111, vc3_112, vc3_113, vc3_114, vc3_115, vc3_116, vc3_117, vc3_118, vc3_119, vc3_120, vc3_121, vc3_122, vc3_123, vc3_124, vc3_125, vc3_126, vc3_127, vc3_128, vc3_129, vc3_130, vc3_131, vc3_132, vc3_133, vc3_135, vc3_136, vc3_137, vc3_138, vc3_140, vc3_141, vc3_143, vc3_144, vc3_145, vc3_146, vc3_147, vc3_148, vc3_1042, vc3_1057, vc3_1068, vc3_1102]
  obtain ⟨I, hI⟩ : ∃ I : Env → Store → Prop, I = (fun env' σ' => ∃ (i : Nat) (M L : TL) (c : Nat) (own : Option Nat), env' 0 = .fz 4 (os.map opv) c0 none ∧ env' 3 = .ptr b 0 ∧ env' 4 = .ptr x 0 ∧ env' 5 = .int .i64 i ∧ i ≤ os.length ∧ TM σ' b m M ∧ RF σ' x L c own ∧ Pair M L) := ⟨_, rfl⟩
  obtain ⟨μ, hμ⟩ : ∃ μ : Env → Store → Nat, μ = (fun env' _ => os.length - (env' 5).nat) := ⟨_, rfl⟩
  refine w_loop I μ (by rw [hI]; exact ⟨0, [], [], 0, none, by simp only [vsA, false_implies, implies_true, decide_true, arith, cmpI, ldK, V.flat, V.one, V.cells, ↓reduceIte, reduceCtorEq, Nat.reduceEqDiff, Nat.reduceLeDiff, Nat.reduceAdd, Nat.reduceMul, fill], by simp only [vsA, false_implies, implies_true, decide_true, arith, cmpI, ldK, V.flat, V.one, V.cells, ↓reduceIte, reduceCtorEq, Nat.reduceEqDiff, Nat.reduceLeDiff, Nat.reduceAdd, Nat.reduceMul, fill], by simp only [vsA, false_implies, implies_true, decide_true, arith, cmpI, ldK, V.flat, V.one, V.cells, ↓reduceIte, reduceCtorEq, Nat.reduceEqDiff, Nat.reduceLeDiff, Nat.reduceAdd, Nat.reduceMul, fill], by simp only [vsA, false_implies, implies_true, decide_true, arith, cmpI, ldK, V.flat, V.one, V.cells, ↓reduceIte, reduceCtorEq, Nat.reduceEqDiff, Nat.reduceLeDiff, Nat.reduceAdd, Nat.reduceMul, fill]; rfl, by omega, h1', h2, pair0⟩) ?_
  intro env' σ' hinv
  rw [hI] at hinv
  obtain ⟨i, M, L, c, own, e0, e3, e4, e5, hi, hTM, hRF, hP⟩ := hinv
  have fin : ∀ (env : Env) (σ' : Store), Rets R (.bool true) σ' := fun env σ' => by rw [hR]; exact Rets.of rfl
  by_cases hlt : i < os.length
  · have hd : decide ((i : Int) < (os.length : Int)) = true := by simp; omega
    by_cases h200 : i < 200
    · have hd2 : decide ((i : Int) < 200) = true := by simp; omega
      have hg : (os.map opv)[i]? = some (opv os[i]) := by simp [hlt]
      have h0 : (0 : Int) ≤ i := by omega
      simp only [vsA, false_implies, implies_true, decide_true, arith, cmpI, ldK, V.flat, V.one, V.cells, ↓reduceIte, reduceCtorEq, Nat.reduceEqDiff, Nat.reduceLeDiff, Nat.reduceAdd, Nat.reduceMul, fill, vc3, vc3_1, vc3_2, vc3_3, vc3_4, vc3_5, vc3_101, vc3_102, vc3_103, vc3_104, vc3_105, vc3_106, vc3_107, vc3_108, vc3_109, vc3_110, vc3_111, vc3_112, vc3_113, vc3_114, vc3_115, vc3_116, vc3_117, vc3_118, vc3_119, vc3_120, vc3_121, vc3_122, vc3_123, vc3_124, vc3_125, vc3_126, vc3_127, vc3_128, vc3_129, vc3_130, vc3_131, vc3_132, vc3_133, vc3_135, vc3_136, vc3_137, vc3_138, vc3_140, vc3_141, vc3_142, vc3_143, vc3_144, vc3_145, vc3_146, vc3_147, vc3_148, vc3_1042, vc3_1057, vc3_1068, vc3_1102, e0, e5, hd, hd2, hg, h0, opv_len, opv_take]
      refine v_var (v := .agg (opv os[i])) (by simp only [vsA, false_implies, implies_true, decide_true, arith, cmpI, ldK, V.flat, V.one, V.cells, ↓reduceIte, reduceCtorEq, Nat.reduceEqDiff, Nat.reduceLeDiff, Nat.reduceAdd, Nat.reduceMul, fill]) rfl rfl (by intro h; cases h) rfl rfl rfl ?_
      -- behind the call: the round's end
      have back : ∀ (env : Env) (σ2 : Store) (M2 L2 : TL) (c2 : Nat) (own2 : Option Nat), env 0 = .fz 4 (os.map opv) c0 none → env 3 = .ptr b 0 → env 4 = .ptr x 0 → env 5 = .int .i64 i → env 6 = .fp (opv os[i]) → TM σ2 b m M2 → RF σ2 x L2 c2 own2 → Pair M2 L2 →
          vwp PT vc3_134 (vblk 1 (vthen PT vc3_139 (vrnd (vblk 0 (vthen PT vc3_4 (vend [2] (Rets R)))) I μ (μ env' σ')))) env σ2 := by
        intro env σ2 M2 L2 c2 own2 f0 f3 f4 f5 f6 g1 g2 g3
        refine look_do g1 g2 g3 f3 f4 f6 (fun env2 he => ?_)
        simp only [vsA, false_implies, implies_true, decide_true, arith, cmpI, ldK, V.flat, V.one, V.cells, ↓reduceIte, reduceCtorEq, Nat.reduceEqDiff, Nat.reduceLeDiff, Nat.reduceAdd, Nat.reduceMul, fill, vc3, vc3_1, vc3_2, vc3_3, vc3_4, vc3_5, vc3_101, vc3_102, vc3_103, vc3_104, vc3_105, vc3_106, vc3_107, vc3_108, vc3_109, vc3_110, vc3_111, vc3_112, vc3_113, vc3_114, vc3_115, vc3_116, vc3_117, vc3_118, vc3_119, vc3_120, vc3_121, vc3_122, vc3_123, vc3_124, vc3_125, vc3_126, vc3_127, vc3_128, vc3_129, vc3_130, vc3_131, vc3_132, vc3_133, vc3_134, vc3_135, vc3_136, vc3_137, vc3_138, vc3_139, vc3_140, vc3_141, vc3_142, vc3_143, vc3_144, vc3_145, vc3_146, vc3_147, vc3_148, vc3_1042, vc3_1057, vc3_1068, vc3_1102, (he 5 (by omega)).trans f5, wrap_succ (show i ≤ 140737488355328 by omega)]
        rw [hI, hμ]
        refine ⟨⟨i + 1, M2, L2, c2, own2, ?_, ?_, ?_, ?_, by omega, g1, g2, g3⟩, ?_⟩
        · simp only [vsA, false_implies, implies_true, decide_true, arith, cmpI, ldK, V.flat, V.one, V.cells, ↓reduceIte, reduceCtorEq, Nat.reduceEqDiff, Nat.reduceLeDiff, Nat.reduceAdd, Nat.reduceMul, fill, (he 0 (by omega)).trans f0]
        · simp only [vsA, false_implies, implies_true, decide_true, arith, cmpI, ldK, V.flat, V.one, V.cells, ↓reduceIte, reduceCtorEq, Nat.reduceEqDiff, Nat.reduceLeDiff, Nat.reduceAdd, Nat.reduceMul, fill, (he 3 (by omega)).trans f3]
        · simp only [vsA, false_implies, implies_true, decide_true, arith, cmpI, ldK, V.flat, V.one, V.cells, ↓reduceIte, reduceCtorEq, Nat.reduceEqDiff, Nat.reduceLeDiff, Nat.reduceAdd, Nat.reduceMul, fill, (he 4 (by omega)).trans f4]
        · simp only [vsA, false_implies, implies_true, decide_true, arith, cmpI, ldK, V.flat, V.one, V.cells, ↓reduceIte, reduceCtorEq, Nat.reduceEqDiff, Nat.reduceLeDiff, Nat.reduceAdd, Nat.reduceMul, fill]
        · simp only [vsA, false_implies, implies_true, decide_true, arith, cmpI, ldK, V.flat, V.one, V.cells, ↓reduceIte, reduceCtorEq, Nat.reduceEqDiff, Nat.reduceLeDiff, Nat.reduceAdd, Nat.reduceMul, fill, e5, nat_int]; omega
      obtain ⟨⟨kd, ky, at'⟩, ho⟩ : ∃ o, os[i] = o := ⟨_, rfl⟩
      rw [ho] at back ⊢
      by_cases k1 : kd = 1
      · subst k1
        simp only [vsA, false_implies, implies_true, decide_true, arith, cmpI, ldK, V.flat, V.one, V.cells, ↓reduceIte, reduceCtorEq, Nat.reduceEqDiff, Nat.reduceLeDiff, Nat.reduceAdd, Nat.reduceMul, fill, vc3, vc3_1, vc3_2, vc3_3, vc3_5, vc3_101, vc3_102, vc3_103, vc3_104, vc3_105, vc3_106, vc3_107, vc3_108, vc3_109, vc3_110, vc3_111, vc3_112, vc3_113, vc3_114, vc3_115, vc3_116, vc3_117, vc3_118, vc3_119, vc3_120, vc3_121, vc3_122, vc3_123, vc3_124, vc3_125, vc3_126, vc3_127, vc3_128, vc3_129, vc3_130, vc3_131, vc3_132, vc3_133, vc3_135, vc3_136, vc3_137, vc3_138, vc3_140, vc3_141, vc3_142, vc3_143, vc3_144, vc3_145, vc3_146, vc3_147, vc3_148, vc3_1042, vc3_1057, vc3_1068, vc3_1102, e0, e3, e4, e5, opv_0, opv_1, opv_1l, opv_3, show ((1 : Int) == 1) = true from rfl]
        refine call_f (vs := [.ptr b 0, .agg (kv ky), .int .i64 at']) (by simp only [vsA, false_implies, implies_true, decide_true, arith, cmpI, ldK, V.flat, V.one, V.cells, ↓reduceIte, reduceCtorEq, Nat.reduceEqDiff, Nat.reduceLeDiff, Nat.reduceAdd, Nat.reduceMul, fill]) (set_tm ky at' hTM hP.le) ?_
        rintro _ σ3 ⟨rfl, t3⟩ _ _
        simp only [vsA, false_implies, implies_true, decide_true, arith, cmpI, ldK, V.flat, V.one, V.cells, ↓reduceIte, reduceCtorEq, Nat.reduceEqDiff, Nat.reduceLeDiff, Nat.reduceAdd, Nat.reduceMul, fill, vc3, vc3_1, vc3_2, vc3_3, vc3_5, vc3_101, vc3_102, vc3_103, vc3_104, vc3_105, vc3_106, vc3_107, vc3_108, vc3_109, vc3_110, vc3_111, vc3_112, vc3_113, vc3_114, vc3_115, vc3_116, vc3_117, vc3_118, vc3_119, vc3_120, vc3_121, vc3_122, vc3_123, vc3_124, vc3_125, vc3_126, vc3_127, vc3_128, vc3_129, vc3_130, vc3_131, vc3_132, vc3_133, vc3_135, vc3_136, vc3_137, vc3_138, vc3_140, vc3_141, vc3_142, vc3_143, vc3_144, vc3_145, vc3_146, vc3_147, vc3_148, vc3_1042, vc3_1057, vc3_1068, vc3_1102]
        have hT3 := t3.tm hTM
        have hR3 := rf_ts hRF hTM t3
        refine call_f (vs := [.ptr x 0, .agg (kv ky), .int .i64 at']) (by simp only [vsA, false_implies, implies_true, decide_true, arith, cmpI, ldK, V.flat, V.one, V.cells, ↓reduceIte, reduceCtorEq, Nat.reduceEqDiff, Nat.reduceLeDiff, Nat.reduceAdd, Nat.reduceMul, fill]) (rset_do ky at' hP.len hR3) ?_
        rintro _ σ4 ⟨rfl, t4⟩ _ _
        obtain ⟨hT4, c4, own4, hR4⟩ := tm_rs hT3 hR3 t4
        obtain ⟨p1, p2⟩ := pair_set hP ky at'
        rw [p1]
        simp only [vsA, false_implies, implies_true, decide_true, arith, cmpI, ldK, V.flat, V.one, V.cells, ↓reduceIte, reduceCtorEq, Nat.reduceEqDiff, Nat.reduceLeDiff, Nat.reduceAdd, Nat.reduceMul, fill, vc3, vc3_1, vc3_2, vc3_3, vc3_5, vc3_101, vc3_102, vc3_103, vc3_104, vc3_105, vc3_106, vc3_107, vc3_108, vc3_109, vc3_110, vc3_111, vc3_112, vc3_113, vc3_114, vc3_115, vc3_116, vc3_117, vc3_118, vc3_119, vc3_120, vc3_121, vc3_122, vc3_123, vc3_124, vc3_125, vc3_126, vc3_127, vc3_128, vc3_129, vc3_130, vc3_131, vc3_132, vc3_133, vc3_135, vc3_136, vc3_137, vc3_138, vc3_140, vc3_141, vc3_142, vc3_143, vc3_144, vc3_145, vc3_146, vc3_147, vc3_148, vc3_1042, vc3_1057, vc3_1068, vc3_1102, bne_self_eq_false]
        exact back _ _ _ _ _ _ (by simp only [vsA, false_implies, implies_true, decide_true, arith, cmpI, ldK, V.flat, V.one, V.cells, ↓reduceIte, reduceCtorEq, Nat.reduceEqDiff, Nat.reduceLeDiff, Nat.reduceAdd, Nat.reduceMul, fill, e0]) (by simp only [vsA, false_implies, implies_true, decide_true, arith, cmpI, ldK, V.flat, V.one, V.cells, ↓reduceIte, reduceCtorEq, Nat.reduceEqDiff, Nat.reduceLeDiff, Nat.reduceAdd, Nat.reduceMul, fill, e3]) (by simp only [vsA, false_implies, implies_true, decide_true, arith, cmpI, ldK, V.flat, V.one, V.cells, ↓reduceIte, reduceCtorEq, Nat.reduceEqDiff, Nat.reduceLeDiff, Nat.reduceAdd, Nat.reduceMul, fill, e4]) (by simp only [vsA, false_implies, implies_true, decide_true, arith, cmpI, ldK, V.flat, V.one, V.cells, ↓reduceIte, reduceCtorEq, Nat.reduceEqDiff, Nat.reduceLeDiff, Nat.reduceAdd, Nat.reduceMul, fill, e5]) (by simp only [vsA, false_implies, implies_true, decide_true, arith, cmpI, ldK, V.flat, V.one, V.cells, ↓reduceIte, reduceCtorEq, Nat.reduceEqDiff, Nat.reduceLeDiff, Nat.reduceAdd, Nat.reduceMul, fill]) hT4 hR4 p2
      have k1' : (kd == 1) = false := by simpa using k1
      by_cases k2 : kd = 2
      · subst k2
        simp only [vsA, false_implies, implies_true, decide_true, arith, cmpI, ldK, V.flat, V.one, V.cells, ↓reduceIte, reduceCtorEq, Nat.reduceEqDiff, Nat.reduceLeDiff, Nat.reduceAdd, Nat.reduceMul, fill, vc3, vc3_1, vc3_2, vc3_3, vc3_5, vc3_101, vc3_102, vc3_103, vc3_104, vc3_105, vc3_106, vc3_107, vc3_108, vc3_109, vc3_110, vc3_111, vc3_112, vc3_113, vc3_114, vc3_115, vc3_116, vc3_117, vc3_118, vc3_119, vc3_120, vc3_121, vc3_122, vc3_123, vc3_124, vc3_125, vc3_126, vc3_127, vc3_128, vc3_129, vc3_130, vc3_131, vc3_132, vc3_133, vc3_135, vc3_136, vc3_137, vc3_138, vc3_140, vc3_141, vc3_142, vc3_143, vc3_144, vc3_145, vc3_146, vc3_147, vc3_148, vc3_1042, vc3_1057, vc3_1068, vc3_1102, e0, e3, e4, e5, opv_0, opv_1, opv_1l, opv_3, k1', show ((2 : Int) == 2) = true from rfl]
        refine call_f (vs := [.ptr b 0, .agg (kv ky)]) (by simp only [vsA, false_implies, implies_true, decide_true, arith, cmpI, ldK, V.flat, V.one, V.cells, ↓reduceIte, reduceCtorEq, Nat.reduceEqDiff, Nat.reduceLeDiff, Nat.reduceAdd, Nat.reduceMul, fill]) (stop_do ky hTM) ?_
        rintro _ σ3 ⟨rfl, t3⟩ _ _
        simp only [vsA, false_implies, implies_true, decide_true, arith, cmpI, ldK, V.flat, V.one, V.cells, ↓reduceIte, reduceCtorEq, Nat.reduceEqDiff, Nat.reduceLeDiff, Nat.reduceAdd, Nat.reduceMul, fill, vc3, vc3_1, vc3_2, vc3_3, vc3_5, vc3_101, vc3_102, vc3_103, vc3_104, vc3_105, vc3_106, vc3_107, vc3_108, vc3_109, vc3_110, vc3_111, vc3_112, vc3_113, vc3_114, vc3_115, vc3_116, vc3_117, vc3_118, vc3_119, vc3_120, vc3_121, vc3_122, vc3_123, vc3_124, vc3_125, vc3_126, vc3_127, vc3_128, vc3_129, vc3_130, vc3_131, vc3_132, vc3_133, vc3_135, vc3_136, vc3_137, vc3_138, vc3_140, vc3_141, vc3_142, vc3_143, vc3_144, vc3_145, vc3_146, vc3_147, vc3_148, vc3_1042, vc3_1057, vc3_1068, vc3_1102]
        have hT3 := t3.tm hTM
        have hR3 := rf_ts hRF hTM t3
        refine call_f (vs := [.ptr x 0, .agg (kv ky)]) (by simp only [vsA, false_implies, implies_true, decide_true, arith, cmpI, ldK, V.flat, V.one, V.cells, ↓reduceIte, reduceCtorEq, Nat.reduceEqDiff, Nat.reduceLeDiff, Nat.reduceAdd, Nat.reduceMul, fill]) (rstop_do ky hP.len hR3) ?_
        rintro _ σ4 ⟨rfl, t4⟩ _ _
        obtain ⟨hT4, c4, own4, hR4⟩ := tm_rs hT3 hR3 t4
        obtain ⟨p1, p2⟩ := pair_stop hP ky
        rw [p1]
        simp only [vsA, false_implies, implies_true, decide_true, arith, cmpI, ldK, V.flat, V.one, V.cells, ↓reduceIte, reduceCtorEq, Nat.reduceEqDiff, Nat.reduceLeDiff, Nat.reduceAdd, Nat.reduceMul, fill, vc3, vc3_1, vc3_2, vc3_3, vc3_5, vc3_101, vc3_102, vc3_103, vc3_104, vc3_105, vc3_106, vc3_107, vc3_108, vc3_109, vc3_110, vc3_111, vc3_112, vc3_113, vc3_114, vc3_115, vc3_116, vc3_117, vc3_118, vc3_119, vc3_120, vc3_121, vc3_122, vc3_123, vc3_124, vc3_125, vc3_126, vc3_127, vc3_128, vc3_129, vc3_130, vc3_131, vc3_132, vc3_133, vc3_135, vc3_136, vc3_137, vc3_138, vc3_140, vc3_141, vc3_142, vc3_143, vc3_144, vc3_145, vc3_146, vc3_147, vc3_148, vc3_1042, vc3_1057, vc3_1068, vc3_1102, beq_self_eq_true, Bool.not_true]
        exact back _ _ _ _ _ _ (by simp only [vsA, false_implies, implies_true, decide_true, arith, cmpI, ldK, V.flat, V.one, V.cells, ↓reduceIte, reduceCtorEq, Nat.reduceEqDiff, Nat.reduceLeDiff, Nat.reduceAdd, Nat.reduceMul, fill, e0]) (by simp only [vsA, false_implies, implies_true, decide_true, arith, cmpI, ldK, V.flat, V.one, V.cells, ↓reduceIte, reduceCtorEq, Nat.reduceEqDiff, Nat.reduceLeDiff, Nat.reduceAdd, Nat.reduceMul, fill, e3]) (by simp only [vsA, false_implies, implies_true, decide_true, arith, cmpI, ldK, V.flat, V.one, V.cells, ↓reduceIte, reduceCtorEq, Nat.reduceEqDiff, Nat.reduceLeDiff, Nat.reduceAdd, Nat.reduceMul, fill, e4]) (by simp only [vsA, false_implies, implies_true, decide_true, arith, cmpI, ldK, V.flat, V.one, V.cells, ↓reduceIte, reduceCtorEq, Nat.reduceEqDiff, Nat.reduceLeDiff, Nat.reduceAdd, Nat.reduceMul, fill, e5]) (by simp only [vsA, false_implies, implies_true, decide_true, arith, cmpI, ldK, V.flat, V.one, V.cells, ↓reduceIte, reduceCtorEq, Nat.reduceEqDiff, Nat.reduceLeDiff, Nat.reduceAdd, Nat.reduceMul, fill]) hT4 hR4 p2
      have k2' : (kd == 2) = false := by simpa using k2
      by_cases k3 : kd = 3
      · subst k3
        simp only [vsA, false_implies, implies_true, decide_true, arith, cmpI, ldK, V.flat, V.one, V.cells, ↓reduceIte, reduceCtorEq, Nat.reduceEqDiff, Nat.reduceLeDiff, Nat.reduceAdd, Nat.reduceMul, fill, vc3, vc3_1, vc3_2, vc3_3, vc3_5, vc3_101, vc3_102, vc3_103, vc3_104, vc3_105, vc3_106, vc3_107, vc3_108, vc3_109, vc3_110, vc3_111, vc3_112, vc3_113, vc3_114, vc3_115, vc3_116, vc3_117, vc3_118, vc3_119, vc3_120, vc3_121, vc3_122, vc3_123, vc3_124, vc3_125, vc3_126, vc3_127, vc3_128, vc3_129, vc3_130, vc3_131, vc3_132, vc3_133, vc3_135, vc3_136, vc3_137, vc3_138, vc3_140, vc3_141, vc3_142, vc3_143, vc3_144, vc3_145, vc3_146, vc3_147, vc3_148, vc3_1042, vc3_1057, vc3_1068, vc3_1102, e0, e3, e4, e5, opv_0, opv_1, opv_1l, opv_3, k1', k2', show ((3 : Int) == 3) = true from rfl]
        refine call_f (vs := [.ptr b 0, .int .i64 at']) (by simp only [vsA, false_implies, implies_true, decide_true, arith, cmpI, ldK, V.flat, V.one, V.cells, ↓reduceIte, reduceCtorEq, Nat.reduceEqDiff, Nat.reduceLeDiff, Nat.reduceAdd, Nat.reduceMul, fill]) (due_do at' hTM hP.le) ?_
        rintro _ σ3 ⟨D, M2, hD, ⟨cc, oo, rfl⟩, t3⟩ _ _
        simp only [vsA, false_implies, implies_true, decide_true, arith, cmpI, ldK, V.flat, V.one, V.cells, ↓reduceIte, reduceCtorEq, Nat.reduceEqDiff, Nat.reduceLeDiff, Nat.reduceAdd, Nat.reduceMul, fill, vc3, vc3_1, vc3_2, vc3_3, vc3_5, vc3_101, vc3_102, vc3_103, vc3_104, vc3_105, vc3_106, vc3_107, vc3_108, vc3_109, vc3_110, vc3_111, vc3_112, vc3_113, vc3_114, vc3_115, vc3_116, vc3_117, vc3_118, vc3_119, vc3_120, vc3_121, vc3_122, vc3_123, vc3_124, vc3_125, vc3_126, vc3_127, vc3_128, vc3_129, vc3_130, vc3_131, vc3_132, vc3_133, vc3_135, vc3_136, vc3_137, vc3_138, vc3_140, vc3_141, vc3_142, vc3_143, vc3_144, vc3_145, vc3_146, vc3_147, vc3_148, vc3_1042, vc3_1057, vc3_1068, vc3_1102]
        have hT3 := t3.tm hTM
        have hR3 := rf_ts hRF hTM t3
        refine call_f (vs := [.ptr x 0, .int .i64 at']) (by simp only [vsA, false_implies, implies_true, decide_true, arith, cmpI, ldK, V.flat, V.one, V.cells, ↓reduceIte, reduceCtorEq, Nat.reduceEqDiff, Nat.reduceLeDiff, Nat.reduceAdd, Nat.reduceMul, fill]) (rdue_do at' hP.len hR3) ?_
        rintro _ σ4 ⟨D', L2, hD', ⟨cc', oo', rfl⟩, t4⟩ _ _
        obtain ⟨hT4, c4, own4, hR4⟩ := tm_rs hT3 hR3 t4
        obtain ⟨rfl, p2⟩ := pair_due hP hD hD'
        simp only [vsA, false_implies, implies_true, decide_true, arith, cmpI, ldK, V.flat, V.one, V.cells, ↓reduceIte, reduceCtorEq, Nat.reduceEqDiff, Nat.reduceLeDiff, Nat.reduceAdd, Nat.reduceMul, fill, vc3, vc3_1, vc3_2, vc3_3, vc3_5, vc3_101, vc3_102, vc3_103, vc3_104, vc3_105, vc3_106, vc3_107, vc3_108, vc3_109, vc3_110, vc3_111, vc3_112, vc3_113, vc3_114, vc3_115, vc3_116, vc3_117, vc3_118, vc3_119, vc3_120, vc3_121, vc3_122, vc3_123, vc3_124, vc3_125, vc3_126, vc3_127, vc3_128, vc3_129, vc3_130, vc3_131, vc3_132, vc3_133, vc3_135, vc3_136, vc3_137, vc3_138, vc3_140, vc3_141, vc3_142, vc3_143, vc3_144, vc3_145, vc3_146, vc3_147, vc3_148, vc3_1042, vc3_1057, vc3_1068, vc3_1102]
        refine call_f (vs := [.fz 2 ((D.map (·.1)).map kv) cc oo, .fz 2 ((D.map (·.1)).map kv) cc' oo']) (by simp only [vsA, false_implies, implies_true, decide_true, arith, cmpI, ldK, V.flat, V.one, V.cells, ↓reduceIte, reduceCtorEq, Nat.reduceEqDiff, Nat.reduceLeDiff, Nat.reduceAdd, Nat.reduceMul, fill]; simp) (same_do _ _ _ _ _ _ _) ?_
        rintro _ σ5 ⟨rfl, hσ5⟩ _ _
        subst hσ5
        simp only [vsA, false_implies, implies_true, decide_true, arith, cmpI, ldK, V.flat, V.one, V.cells, ↓reduceIte, reduceCtorEq, Nat.reduceEqDiff, Nat.reduceLeDiff, Nat.reduceAdd, Nat.reduceMul, fill, vc3, vc3_1, vc3_2, vc3_3, vc3_5, vc3_101, vc3_102, vc3_103, vc3_104, vc3_105, vc3_106, vc3_107, vc3_108, vc3_109, vc3_110, vc3_111, vc3_112, vc3_113, vc3_114, vc3_115, vc3_116, vc3_117, vc3_118, vc3_119, vc3_120, vc3_121, vc3_122, vc3_123, vc3_124, vc3_125, vc3_126, vc3_127, vc3_128, vc3_129, vc3_130, vc3_131, vc3_132, vc3_133, vc3_135, vc3_136, vc3_137, vc3_138, vc3_140, vc3_141, vc3_142, vc3_143, vc3_144, vc3_145, vc3_146, vc3_147, vc3_148, vc3_1042, vc3_1057, vc3_1068, vc3_1102, decide_true]
        exact back _ _ _ _ _ _ (by simp only [vsA, false_implies, implies_true, decide_true, arith, cmpI, ldK, V.flat, V.one, V.cells, ↓reduceIte, reduceCtorEq, Nat.reduceEqDiff, Nat.reduceLeDiff, Nat.reduceAdd, Nat.reduceMul, fill, e0]) (by simp only [vsA, false_implies, implies_true, decide_true, arith, cmpI, ldK, V.flat, V.one, V.cells, ↓reduceIte, reduceCtorEq, Nat.reduceEqDiff, Nat.reduceLeDiff, Nat.reduceAdd, Nat.reduceMul, fill, e3]) (by simp only [vsA, false_implies, implies_true, decide_true, arith, cmpI, ldK, V.flat, V.one, V.cells, ↓reduceIte, reduceCtorEq, Nat.reduceEqDiff, Nat.reduceLeDiff, Nat.reduceAdd, Nat.reduceMul, fill, e4]) (by simp only [vsA, false_implies, implies_true, decide_true, arith, cmpI, ldK, V.flat, V.one, V.cells, ↓reduceIte, reduceCtorEq, Nat.reduceEqDiff, Nat.reduceLeDiff, Nat.reduceAdd, Nat.reduceMul, fill, e5]) (by simp only [vsA, false_implies, implies_true, decide_true, arith, cmpI, ldK, V.flat, V.one, V.cells, ↓reduceIte, reduceCtorEq, Nat.reduceEqDiff, Nat.reduceLeDiff, Nat.reduceAdd, Nat.reduceMul, fill]) hT4 hR4 p2
      have k3' : (kd == 3) = false := by simpa using k3
      simp only [vsA, false_implies, implies_true, decide_true, arith, cmpI, ldK, V.flat, V.one, V.cells, ↓reduceIte, reduceCtorEq, Nat.reduceEqDiff, Nat.reduceLeDiff, Nat.reduceAdd, Nat.reduceMul, fill, vc3, vc3_1, vc3_2, vc3_3, vc3_5, vc3_101, vc3_102, vc3_103, vc3_104, vc3_105, vc3_106, vc3_107, vc3_108, vc3_109, vc3_110, vc3_111, vc3_112, vc3_113, vc3_114, vc3_115, vc3_116, vc3_117, vc3_118, vc3_119, vc3_120, vc3_121, vc3_122, vc3_123, vc3_124, vc3_125, vc3_126, vc3_127, vc3_128, vc3_129, vc3_130, vc3_131, vc3_132, vc3_133, vc3_135, vc3_136, vc3_137, vc3_138, vc3_140, vc3_141, vc3_142, vc3_143, vc3_144, vc3_145, vc3_146, vc3_147, vc3_148, vc3_1042, vc3_1057, vc3_1068, vc3_1102, e0, e3, e4, e5, opv_0, opv_1, opv_1l, opv_3, k1', k2', k3']
      exact back _ _ _ _ _ _ (by simp only [vsA, false_implies, implies_true, decide_true, arith, cmpI, ldK, V.flat, V.one, V.cells, ↓reduceIte, reduceCtorEq, Nat.reduceEqDiff, Nat.reduceLeDiff, Nat.reduceAdd, Nat.reduceMul, fill, e0]) (by simp only [vsA, false_implies, implies_true, decide_true, arith, cmpI, ldK, V.flat, V.one, V.cells, ↓reduceIte, reduceCtorEq, Nat.reduceEqDiff, Nat.reduceLeDiff, Nat.reduceAdd, Nat.reduceMul, fill, e3]) (by simp only [vsA, false_implies, implies_true, decide_true, arith, cmpI, ldK, V.flat, V.one, V.cells, ↓reduceIte, reduceCtorEq, Nat.reduceEqDiff, Nat.reduceLeDiff, Nat.reduceAdd, Nat.reduceMul, fill, e4]) (by simp only [vsA, false_implies, implies_true, decide_true, arith, cmpI, ldK, V.flat, V.one, V.cells, ↓reduceIte, reduceCtorEq, Nat.reduceEqDiff, Nat.reduceLeDiff, Nat.reduceAdd, Nat.reduceMul, fill, e5]) (by simp only [vsA, false_implies, implies_true, decide_true, arith, cmpI, ldK, V.flat, V.one, V.cells, ↓reduceIte, reduceCtorEq, Nat.reduceEqDiff, Nat.reduceLeDiff, Nat.reduceAdd, Nat.reduceMul, fill]) hTM hRF hP
    · have hd2 : decide ((i : Int) < 200) = false := by simp; omega
      simp only [vsA, false_implies, implies_true, decide_true, arith, cmpI, ldK, V.flat, V.one, V.cells, ↓reduceIte, reduceCtorEq, Nat.reduceEqDiff, Nat.reduceLeDiff, Nat.reduceAdd, Nat.reduceMul, fill, vc3, vc3_1, vc3_2, vc3_3, vc3_4, vc3_5, vc3_101, vc3_102, vc3_103, vc3_104, vc3_105, vc3_106, vc3_107, vc3_108, vc3_109, vc3_110, vc3_111, vc3_112, vc3_113, vc3_114, vc3_115, vc3_116, vc3_117, vc3_118, vc3_119, vc3_120, vc3_121, vc3_122, vc3_123, vc3_124, vc3_125, vc3_126, vc3_127, vc3_128, vc3_129, vc3_130, vc3_131, vc3_132, vc3_133, vc3_134, vc3_135, vc3_136, vc3_137, vc3_138, vc3_139, vc3_140, vc3_141, vc3_142, vc3_143, vc3_144, vc3_145, vc3_146, vc3_147, vc3_148, vc3_1042, vc3_1057, vc3_1068, vc3_1102, e0, e5, hd, hd2]
      exact fin env' _
  · have hd : decide ((i : Int) < (os.length : Int)) = false := by simp; omega
    simp only [vsA, false_implies, implies_true, decide_true, arith, cmpI, ldK, V.flat, V.one, V.cells, ↓reduceIte, reduceCtorEq, Nat.reduceEqDiff, Nat.reduceLeDiff, Nat.reduceAdd, Nat.reduceMul, fill, vc3, vc3_1, vc3_2, vc3_3, vc3_4, vc3_5, vc3_101, vc3_102, vc3_103, vc3_104, vc3_105, vc3_106, vc3_107, vc3_108, vc3_109, vc3_110, vc3_111, vc3_112, vc3_113, vc3_114, vc3_115, vc3_116, vc3_117, vc3_118, vc3_119, vc3_120, vc3_121, vc3_122, vc3_123, vc3_124, vc3_125, vc3_126, vc3_127, vc3_128, vc3_129, vc3_130, vc3_131, vc3_132, vc3_133, vc3_134, vc3_135, vc3_136, vc3_137, vc3_138, vc3_139, vc3_140, vc3_141, vc3_142, vc3_143, vc3_144, vc3_145, vc3_146, vc3_147, vc3_148, vc3_1042, vc3_1057, vc3_1068, vc3_1102, e0, e5, hd]
    exact fin env' _
end Go.Vm.T10
