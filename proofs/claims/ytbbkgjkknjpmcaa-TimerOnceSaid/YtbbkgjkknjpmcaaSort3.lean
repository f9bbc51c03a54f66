/-
  The sort: the pivot: order2CmpFunc, medianCmpFunc, medianAdjacentCmpFunc, choosePivotCmpFunc: where it lies.
-/
import Derived.Test.YtbbkgjkknjpmcaaSort2
set_option linter.unusedSimpArgs false
set_option linter.unusedVariables false
set_option linter.unusedSectionVars false
namespace Go.Vm.Srt
open Go Go.Vm Go.Sort

variable {P : Program} {e : Nat} {d : Row} {φ : Nat → Nat} {b sl c : Nat} {σ0 σ : Store} {T : List V → Prop} {cf : List V → List V → Int} {k : FuncId} {first cap : List V}

/-- The count of swaps: a variable of its own. -/
def Swp (σ0 σ : Store) (b s : Nat) : Prop := s ≠ b ∧ σ0 s = none ∧ ∃ n, σ s = some (.row [.int .i64 n] 0)
/-- It turns, and nothing else. -/
def SwpS (σ : Store) (s : Nat) (σ' : Store) : Prop := ∃ n, σ' = σ.set s (.row [.int .i64 n] 0)
theorem Swp.step {s : Nat} {σ' : Store} (h : Swp σ0 σ b s) (k : SwpS σ s σ') (hr : RowOk e b σ0 σ T d sl) : Swp σ0 σ' b s ∧ RowOk e b σ0 σ' T d sl := by
  obtain ⟨n, rfl⟩ := k
  refine ⟨⟨h.1, h.2.1, n, by simp⟩, ⟨by rw [Store.get_set_ne _ _ h.1.symm]; exact hr.row, hr.all, fun j o hj ho => ?_⟩⟩
  have : j ≠ s := by rintro rfl; rw [h.2.1] at ho; cases ho
  rw [Store.get_set_ne _ _ this]; exact hr.off j o hj ho
theorem SwpS.trans {s : Nat} {σ1 σ2 : Store} (h : SwpS σ s σ1) (k : SwpS σ1 s σ2) : SwpS σ s σ2 := by
  obtain ⟨n, rfl⟩ := h; obtain ⟨m, rfl⟩ := k; exact ⟨m, by rw [Store.set_set]⟩
theorem SwpS.refl {s : Nat} (h : Swp σ0 σ b s) : SwpS σ s σ := by obtain ⟨_, _, n, h⟩ := h; exact ⟨n, (Store.set_same _ h).symm⟩

theorem order2_do (L : Lays P e φ) (hT : ∀ x, T x → x.length = e) (hc : CmpOk P b σ0 T cf k first cap) (h : RowOk e b σ0 σ T d sl) {x y s : Nat} (hx : x < d.size) (hy : y < d.size) (hs : Swp σ0 σ b s) :
    VCalls P (φ 45) [.sl b 0 d.size c, .int .i64 x, .int .i64 y, .ptr s 0, .fn k first cap] σ (fun v σ' => (v = .tup [.int .i64 x, .int .i64 y] ∨ v = .tup [.int .i64 y, .int .i64 x]) ∧ SwpS σ s σ') := by
  refine vcalls_of L.c45 (fun _ hok => ?_)
  have hrd := Store.rd_row h.row
  have hal := h.len hT
  have g1 : (0 : Int) ≤ (x : Int) := by omega
  have g2 : (x : Int) < (d.size : Int) := by omega
  have g3 : (0 : Int) ≤ (y : Int) := by omega
  have g4 : (y : Int) < (d.size : Int) := by omega
  simp only [vsA, arith, cmpI, ldK, V.flat, V.one, V.cells, ↓reduceIte, reduceCtorEq, Nat.reduceEqDiff, Nat.reduceLeDiff, Nat.reduceAdd, Nat.reduceMul, fill, vc45, vc45_1, vc45_2, vc45_3, vc45_101, vc45_102, vc45_103, vc45_104, vc45_105, vc45_106, vc45_1012, hrd, g1, g2, g3, g4, le_flat hal hx, le_flat hal hy, get_flat hal hx, get_flat hal hy]
  refine o_call (k := k) (first := first) (cap := cap) (by simp only [vsA, arith, cmpI, ldK, V.flat, V.one, V.cells, ↓reduceIte, reduceCtorEq, Nat.reduceEqDiff, Nat.reduceLeDiff, Nat.reduceAdd, Nat.reduceMul, fill]) (R := fun v σ1 => v = .int .i64 (cf d[y]! d[x]!) ∧ σ1 = σ) (by simp only [vsA, arith, cmpI, ldK, V.flat, V.one, V.cells, ↓reduceIte, reduceCtorEq, Nat.reduceEqDiff, Nat.reduceLeDiff, Nat.reduceAdd, Nat.reduceMul, fill]; exact hc σ h.off _ _ (h.get hy) (h.get hx)) ?_
  rintro _ σ3 ⟨rfl, hσ3⟩ _ _
  subst hσ3
  obtain ⟨q1, q2, n, q3⟩ := hs
  by_cases hcf : cf d[y]! d[x]! < 0
  · have hd : decide (cf d[y]! d[x]! < 0) = true := by simpa using hcf
    simp only [vsA, arith, cmpI, ldK, V.flat, V.one, V.cells, ↓reduceIte, reduceCtorEq, Nat.reduceEqDiff, Nat.reduceLeDiff, Nat.reduceAdd, Nat.reduceMul, fill, vc45, vc45_1, vc45_2, vc45_3, vc45_101, vc45_102, vc45_103, vc45_104, vc45_105, vc45_106, vc45_1012, hd, Store.rd_row q3, q3]
    refine Rets.of ?_
    exact ⟨.inr rfl, _, rfl⟩
  · have hd : decide (cf d[y]! d[x]! < 0) = false := by simpa using hcf
    simp only [vsA, arith, cmpI, ldK, V.flat, V.one, V.cells, ↓reduceIte, reduceCtorEq, Nat.reduceEqDiff, Nat.reduceLeDiff, Nat.reduceAdd, Nat.reduceMul, fill, vc45, vc45_1, vc45_2, vc45_3, vc45_101, vc45_102, vc45_103, vc45_104, vc45_105, vc45_106, vc45_1012, hd]
    refine Rets.of ?_
    exact ⟨.inl rfl, n, (Store.set_same _ q3).symm⟩

theorem median_do (L : Lays P e φ) (hT : ∀ x, T x → x.length = e) (hc : CmpOk P b σ0 T cf k first cap) (h : RowOk e b σ0 σ T d sl) {x y z s : Nat} (hx : x < d.size) (hy : y < d.size) (hz : z < d.size) (hs : Swp σ0 σ b s) :
    VCalls P (φ 44) [.sl b 0 d.size c, .int .i64 x, .int .i64 y, .int .i64 z, .ptr s 0, .fn k first cap] σ (fun v σ' => (∃ r : Nat, v = .int .i64 r ∧ (r = x ∨ r = y ∨ r = z)) ∧ SwpS σ s σ') := by
  refine vcalls_of L.c44 (fun _ hok => ?_)
  simp only [vsA, arith, cmpI, ldK, V.flat, V.one, V.cells, ↓reduceIte, reduceCtorEq, Nat.reduceEqDiff, Nat.reduceLeDiff, Nat.reduceAdd, Nat.reduceMul, fill, vc44, vc44_1, vc44_2, vc44_3, vc44_4, vc44_5]
  refine call_f (vs := [.sl b 0 d.size c, .int .i64 x, .int .i64 y, .ptr s 0, .fn k first cap]) (by simp only [vsA, arith, cmpI, ldK, V.flat, V.one, V.cells, ↓reduceIte, reduceCtorEq, Nat.reduceEqDiff, Nat.reduceLeDiff, Nat.reduceAdd, Nat.reduceMul, fill]) (order2_do L hT hc h hx hy hs) ?_
  rintro v σ1 ⟨hv, hs1⟩ _ _
  obtain ⟨x1, y1, rfl, hxy⟩ : ∃ x1 y1 : Nat, v = .tup [.int .i64 x1, .int .i64 y1] ∧ ((x1 = x ∧ y1 = y) ∨ (x1 = y ∧ y1 = x)) := by
    rcases hv with rfl | rfl
    · exact ⟨x, y, rfl, .inl ⟨rfl, rfl⟩⟩
    · exact ⟨y, x, rfl, .inr ⟨rfl, rfl⟩⟩
  have hx1 : x1 < d.size := by omega
  have hy1 : y1 < d.size := by omega
  obtain ⟨ht1, hr1⟩ := hs.step hs1 h
  simp only [vsA, arith, cmpI, ldK, V.flat, V.one, V.cells, ↓reduceIte, reduceCtorEq, Nat.reduceEqDiff, Nat.reduceLeDiff, Nat.reduceAdd, Nat.reduceMul, fill, vc44, vc44_1, vc44_2, vc44_3, vc44_4, vc44_5]
  refine call_f (vs := [.sl b 0 d.size c, .int .i64 y1, .int .i64 z, .ptr s 0, .fn k first cap]) (by simp only [vsA, arith, cmpI, ldK, V.flat, V.one, V.cells, ↓reduceIte, reduceCtorEq, Nat.reduceEqDiff, Nat.reduceLeDiff, Nat.reduceAdd, Nat.reduceMul, fill]) (order2_do L hT hc hr1 hy1 hz ht1) ?_
  rintro v σ2 ⟨hv, hs2⟩ _ _
  obtain ⟨y2, z2, rfl, hyz⟩ : ∃ y2 z2 : Nat, v = .tup [.int .i64 y2, .int .i64 z2] ∧ ((y2 = y1 ∧ z2 = z) ∨ (y2 = z ∧ z2 = y1)) := by
    rcases hv with rfl | rfl
    · exact ⟨y1, z, rfl, .inl ⟨rfl, rfl⟩⟩
    · exact ⟨z, y1, rfl, .inr ⟨rfl, rfl⟩⟩
  have hy2 : y2 < d.size := by omega
  obtain ⟨ht2, hr2⟩ := ht1.step hs2 hr1
  simp only [vsA, arith, cmpI, ldK, V.flat, V.one, V.cells, ↓reduceIte, reduceCtorEq, Nat.reduceEqDiff, Nat.reduceLeDiff, Nat.reduceAdd, Nat.reduceMul, fill, vc44, vc44_1, vc44_2, vc44_3, vc44_4, vc44_5]
  refine call_f (vs := [.sl b 0 d.size c, .int .i64 x1, .int .i64 y2, .ptr s 0, .fn k first cap]) (by simp only [vsA, arith, cmpI, ldK, V.flat, V.one, V.cells, ↓reduceIte, reduceCtorEq, Nat.reduceEqDiff, Nat.reduceLeDiff, Nat.reduceAdd, Nat.reduceMul, fill]) (order2_do L hT hc hr2 hx1 hy2 ht2) ?_
  rintro v σ3 ⟨hv, hs3⟩ _ _
  obtain ⟨x3, y3, rfl, hxy3⟩ : ∃ x3 y3 : Nat, v = .tup [.int .i64 x3, .int .i64 y3] ∧ ((x3 = x1 ∧ y3 = y2) ∨ (x3 = y2 ∧ y3 = x1)) := by
    rcases hv with rfl | rfl
    · exact ⟨x1, y2, rfl, .inl ⟨rfl, rfl⟩⟩
    · exact ⟨y2, x1, rfl, .inr ⟨rfl, rfl⟩⟩
  simp only [vsA, arith, cmpI, ldK, V.flat, V.one, V.cells, ↓reduceIte, reduceCtorEq, Nat.reduceEqDiff, Nat.reduceLeDiff, Nat.reduceAdd, Nat.reduceMul, fill, vc44, vc44_1, vc44_2, vc44_3, vc44_4, vc44_5]
  refine Rets.of ?_
  exact ⟨⟨y3, rfl, by omega⟩, (hs1.trans hs2).trans hs3⟩

theorem medadj_do (L : Lays P e φ) (hT : ∀ x, T x → x.length = e) (hc : CmpOk P b σ0 T cf k first cap) (h : RowOk e b σ0 σ T d sl) (hn : d.size ≤ 140737488355328) {x s : Nat} (hx : x + 1 < d.size) (hx1 : 1 ≤ x) (hs : Swp σ0 σ b s) :
    VCalls P (φ 43) [.sl b 0 d.size c, .int .i64 x, .ptr s 0, .fn k first cap] σ (fun v σ' => (∃ r : Nat, v = .int .i64 r ∧ x ≤ r + 1 ∧ r ≤ x + 1) ∧ SwpS σ s σ') := by
  refine vcalls_of L.c43 (fun _ hok => ?_)
  simp only [vsA, arith, cmpI, ldK, V.flat, V.one, V.cells, ↓reduceIte, reduceCtorEq, Nat.reduceEqDiff, Nat.reduceLeDiff, Nat.reduceAdd, Nat.reduceMul, fill, vc43, vc43_1, vc43_2, wsub1 (show x ≤ 140737488355328 by omega) hx1, wadd1 (show x ≤ 140737488355328 by omega)]
  refine call_f (vs := [.sl b 0 d.size c, .int .i64 ((x - 1 : Nat) : Int), .int .i64 x, .int .i64 ((x + 1 : Nat) : Int), .ptr s 0, .fn k first cap]) (by simp only [vsA, arith, cmpI, ldK, V.flat, V.one, V.cells, ↓reduceIte, reduceCtorEq, Nat.reduceEqDiff, Nat.reduceLeDiff, Nat.reduceAdd, Nat.reduceMul, fill]) (median_do L hT hc h (by omega) (by omega) (by omega) hs) ?_
  rintro v σ1 ⟨⟨r, rfl, hr⟩, hs1⟩ _ _
  simp only [vsA, arith, cmpI, ldK, V.flat, V.one, V.cells, ↓reduceIte, reduceCtorEq, Nat.reduceEqDiff, Nat.reduceLeDiff, Nat.reduceAdd, Nat.reduceMul, fill, vc43, vc43_1, vc43_2]
  refine Rets.of ?_
  exact ⟨⟨r, rfl, by omega, by omega⟩, hs1⟩

theorem wmulk {i k : Nat} (h : i * k ≤ 140737488355328) : IntKind.i64.wrap ((i : Int) * (k : Int)) = ((i * k : Nat) : Int) := by
  rw [← Int.natCast_mul, wrap64 (by omega) (by omega)]

set_option maxHeartbeats 1000000 in
theorem pivot_do (L : Lays P e φ) (hT : ∀ x, T x → x.length = e) (hc : CmpOk P b σ0 T cf k first cap) (h : RowOk e b σ0 σ T d sl) (hn : d.size ≤ 140737488355328) {a z : Nat} (ha : a < z) (hz : z ≤ d.size) {R : V → Store → Prop}
    (hR : ∀ (r : Nat) (t : Int), a ≤ r → r < z → R (.tup [.int .i64 r, .int .i64 t]) σ) : VCalls P (φ 32) [.sl b 0 d.size c, .int .i64 a, .int .i64 z, .fn k first cap] σ R := by
  refine vcalls_of L.c32 (fun _ hok => ?_)
  have w1 := wsub (show z ≤ 140737488355328 by omega) (show a ≤ z by omega)
  have w2 : IntKind.i64.wrap (((z - a : Nat) : Int).tdiv 4) = (((z - a) / 4 : Nat) : Int) := wdiv (i := z - a) (k := 4) (by omega)
  have hq : 4 * ((z - a) / 4) ≤ z - a := Nat.mul_div_le _ _
  simp only [vsA, arith, cmpI, ldK, V.flat, V.one, V.cells, ↓reduceIte, reduceCtorEq, Nat.reduceEqDiff, Nat.reduceLeDiff, Nat.reduceAdd, Nat.reduceMul, fill, vc32, vc32_1, vc32_2, vc32_3, vc32_4, vc32_5, vc32_6, vc32_8, vc32_101, vc32_102, vc32_103, vc32_104, vc32_105, vc32_106, vc32_107, vc32_108, vc32_109, vc32_110, vc32_111, vc32_112, vc32_113, vc32_114, vc32_115, vc32_116, vc32_117, vc32_118, vc32_119, vc32_120, w1]
  refine v_alloc' rfl (fun s hs => ?_)
  have hsb : s ≠ b := by rintro rfl; rw [h.row] at hs; cases hs
  have hs0 : σ0 s = none := by
    cases h0 : σ0 s with
    | none => rfl
    | some o => rw [h.off s o hsb h0] at hs; cases hs
  generalize hq' : (z - a) / 4 = q at *
  have m1 : IntKind.i64.wrap ((q : Int) * 1) = ((q * 1 : Nat) : Int) := wmulk (k := 1) (by omega)
  have m2 : IntKind.i64.wrap ((q : Int) * 2) = ((q * 2 : Nat) : Int) := wmulk (k := 2) (by omega)
  have m3 : IntKind.i64.wrap ((q : Int) * 3) = ((q * 3 : Nat) : Int) := wmulk (k := 3) (by omega)
  have p1 := wadd (show a ≤ 140737488355328 by omega) (show q * 1 ≤ 140737488355328 by omega)
  have p2 := wadd (show a ≤ 140737488355328 by omega) (show q * 2 ≤ 140737488355328 by omega)
  have p3 := wadd (show a ≤ 140737488355328 by omega) (show q * 3 ≤ 140737488355328 by omega)
  have hsw0 : Swp σ0 (σ.set s (.row [.int .i64 0] 0)) b s := ⟨hsb, hs0, 0, by simp⟩
  have hr0 : RowOk e b σ0 (σ.set s (.row [.int .i64 0] 0)) T d sl := ⟨by rw [Store.get_set_ne _ _ hsb.symm]; exact h.row, h.all, fun j o hj ho => by
    have : j ≠ s := by rintro rfl; rw [hs0] at ho; cases ho
    rw [Store.get_set_ne _ _ this]; exact h.off j o hj ho⟩
  have fin : ∀ (env : Env) (σ1 : Store) (r : Nat), SwpS (σ.set s (.row [.int .i64 0] 0)) s σ1 → env 11 = .ptr s 0 → env 13 = .int .i64 r → a ≤ r → r < z →
      vwp P (vc32_7 e φ) (vend [8, 9] (Rets R)) env σ1 := by
    intro env σ1 r hsw e11 e13 h1 h2
    obtain ⟨n, rfl⟩ := hsw
    rw [Store.set_set]
    have hle : σ.le (σ.set s (.row [.int .i64 n] 0)) := Store.le_set _ _ hs
    by_cases c1 : n = 0
    · simp only [vsA, arith, cmpI, ldK, V.flat, V.one, V.cells, ↓reduceIte, reduceCtorEq, Nat.reduceEqDiff, Nat.reduceLeDiff, Nat.reduceAdd, Nat.reduceMul, fill, vc32, vc32_1, vc32_2, vc32_3, vc32_4, vc32_5, vc32_6, vc32_7, vc32_8, vc32_101, vc32_102, vc32_103, vc32_104, vc32_105, vc32_106, vc32_107, vc32_108, vc32_109, vc32_110, vc32_111, vc32_112, vc32_113, vc32_114, vc32_115, vc32_116, vc32_117, vc32_118, vc32_119, vc32_120, e11, e13, Store.rd_set_same, Ob.strip, c1]
      exact Rets.le (by rw [c1] at hle; exact hle) (hR r _ h1 h2)
    · have d1 : (n == 0) = false := by simpa using c1
      by_cases c2 : n = 12
      · have d2 : (n == 12) = true := by simpa using c2
        simp only [vsA, arith, cmpI, ldK, V.flat, V.one, V.cells, ↓reduceIte, reduceCtorEq, Nat.reduceEqDiff, Nat.reduceLeDiff, Nat.reduceAdd, Nat.reduceMul, fill, vc32, vc32_1, vc32_2, vc32_3, vc32_4, vc32_5, vc32_6, vc32_7, vc32_8, vc32_101, vc32_102, vc32_103, vc32_104, vc32_105, vc32_106, vc32_107, vc32_108, vc32_109, vc32_110, vc32_111, vc32_112, vc32_113, vc32_114, vc32_115, vc32_116, vc32_117, vc32_118, vc32_119, vc32_120, e11, e13, Store.rd_set_same, Ob.strip, d1, d2]
        exact Rets.le hle (hR r _ h1 h2)
      · have d2 : (n == 12) = false := by simpa using c2
        simp only [vsA, arith, cmpI, ldK, V.flat, V.one, V.cells, ↓reduceIte, reduceCtorEq, Nat.reduceEqDiff, Nat.reduceLeDiff, Nat.reduceAdd, Nat.reduceMul, fill, vc32, vc32_1, vc32_2, vc32_3, vc32_4, vc32_5, vc32_6, vc32_7, vc32_8, vc32_101, vc32_102, vc32_103, vc32_104, vc32_105, vc32_106, vc32_107, vc32_108, vc32_109, vc32_110, vc32_111, vc32_112, vc32_113, vc32_114, vc32_115, vc32_116, vc32_117, vc32_118, vc32_119, vc32_120, e11, e13, Store.rd_set_same, Ob.strip, d1, d2]
        exact Rets.le hle (hR r _ h1 h2)
  by_cases h8 : z - a ≥ 8
  · have g8 : decide (((z - a : Nat) : Int) ≥ 8) = true := by simp; omega
    by_cases h50 : z - a ≥ 50
    · have g50 : decide (((z - a : Nat) : Int) ≥ 50) = true := by simp; omega
      simp only [vsA, arith, cmpI, ldK, V.flat, V.one, V.cells, ↓reduceIte, reduceCtorEq, Nat.reduceEqDiff, Nat.reduceLeDiff, Nat.reduceAdd, Nat.reduceMul, fill, vc32, vc32_1, vc32_2, vc32_3, vc32_4, vc32_5, vc32_6, vc32_8, vc32_101, vc32_102, vc32_103, vc32_104, vc32_105, vc32_106, vc32_107, vc32_108, vc32_109, vc32_110, vc32_111, vc32_112, vc32_113, vc32_114, vc32_115, vc32_116, vc32_117, vc32_118, vc32_119, vc32_120, w1, w2, m1, m2, m3, p1, p2, p3, g8, g50, show ((4 : Int) ≠ 0) = True by simp]
      refine call_f (vs := [.sl b 0 d.size c, .int .i64 ((a + q * 1 : Nat) : Int), .ptr s 0, .fn k first cap]) (by simp only [vsA, arith, cmpI, ldK, V.flat, V.one, V.cells, ↓reduceIte, reduceCtorEq, Nat.reduceEqDiff, Nat.reduceLeDiff, Nat.reduceAdd, Nat.reduceMul, fill]) (medadj_do L hT hc hr0 hn (by omega) (by omega) hsw0) ?_
      rintro v σ1 ⟨⟨r1, rfl, hr1⟩, hs1⟩ _ _
      obtain ⟨ht1, hk1⟩ := hsw0.step hs1 hr0
      simp only [vsA, arith, cmpI, ldK, V.flat, V.one, V.cells, ↓reduceIte, reduceCtorEq, Nat.reduceEqDiff, Nat.reduceLeDiff, Nat.reduceAdd, Nat.reduceMul, fill, vc32, vc32_1, vc32_2, vc32_3, vc32_4, vc32_5, vc32_6, vc32_8, vc32_101, vc32_102, vc32_103, vc32_104, vc32_105, vc32_106, vc32_107, vc32_108, vc32_109, vc32_110, vc32_111, vc32_112, vc32_113, vc32_114, vc32_115, vc32_116, vc32_117, vc32_118, vc32_119, vc32_120]
      refine call_f (vs := [.sl b 0 d.size c, .int .i64 ((a + q * 2 : Nat) : Int), .ptr s 0, .fn k first cap]) (by simp only [vsA, arith, cmpI, ldK, V.flat, V.one, V.cells, ↓reduceIte, reduceCtorEq, Nat.reduceEqDiff, Nat.reduceLeDiff, Nat.reduceAdd, Nat.reduceMul, fill]) (medadj_do L hT hc hk1 hn (by omega) (by omega) ht1) ?_
      rintro v σ2 ⟨⟨r2, rfl, hr2⟩, hs2⟩ _ _
      obtain ⟨ht2, hk2⟩ := ht1.step hs2 hk1
      simp only [vsA, arith, cmpI, ldK, V.flat, V.one, V.cells, ↓reduceIte, reduceCtorEq, Nat.reduceEqDiff, Nat.reduceLeDiff, Nat.reduceAdd, Nat.reduceMul, fill, vc32, vc32_1, vc32_2, vc32_3, vc32_4, vc32_5, vc32_6, vc32_8, vc32_101, vc32_102, vc32_103, vc32_104, vc32_105, vc32_106, vc32_107, vc32_108, vc32_109, vc32_110, vc32_111, vc32_112, vc32_113, vc32_114, vc32_115, vc32_116, vc32_117, vc32_118, vc32_119, vc32_120]
      refine call_f (vs := [.sl b 0 d.size c, .int .i64 ((a + q * 3 : Nat) : Int), .ptr s 0, .fn k first cap]) (by simp only [vsA, arith, cmpI, ldK, V.flat, V.one, V.cells, ↓reduceIte, reduceCtorEq, Nat.reduceEqDiff, Nat.reduceLeDiff, Nat.reduceAdd, Nat.reduceMul, fill]) (medadj_do L hT hc hk2 hn (by omega) (by omega) ht2) ?_
      rintro v σ3 ⟨⟨r3, rfl, hr3⟩, hs3⟩ _ _
      obtain ⟨ht3, hk3⟩ := ht2.step hs3 hk2
      simp only [vsA, arith, cmpI, ldK, V.flat, V.one, V.cells, ↓reduceIte, reduceCtorEq, Nat.reduceEqDiff, Nat.reduceLeDiff, Nat.reduceAdd, Nat.reduceMul, fill, vc32, vc32_1, vc32_2, vc32_3, vc32_4, vc32_5, vc32_6, vc32_8, vc32_101, vc32_102, vc32_103, vc32_104, vc32_105, vc32_106, vc32_107, vc32_108, vc32_109, vc32_110, vc32_111, vc32_112, vc32_113, vc32_114, vc32_115, vc32_116, vc32_117, vc32_118, vc32_119, vc32_120]
      refine call_f (vs := [.sl b 0 d.size c, .int .i64 r1, .int .i64 r2, .int .i64 r3, .ptr s 0, .fn k first cap]) (by simp only [vsA, arith, cmpI, ldK, V.flat, V.one, V.cells, ↓reduceIte, reduceCtorEq, Nat.reduceEqDiff, Nat.reduceLeDiff, Nat.reduceAdd, Nat.reduceMul, fill]) (median_do L hT hc hk3 (by omega) (by omega) (by omega) ht3) ?_
      rintro v σ4 ⟨⟨r4, rfl, hr4⟩, hs4⟩ _ _
      simp only [vsA, arith, cmpI, ldK, V.flat, V.one, V.cells, ↓reduceIte, reduceCtorEq, Nat.reduceEqDiff, Nat.reduceLeDiff, Nat.reduceAdd, Nat.reduceMul, fill, vc32, vc32_1, vc32_2, vc32_3, vc32_4, vc32_5, vc32_6, vc32_8, vc32_101, vc32_102, vc32_103, vc32_104, vc32_105, vc32_106, vc32_107, vc32_108, vc32_109, vc32_110, vc32_111, vc32_112, vc32_113, vc32_114, vc32_115, vc32_116, vc32_117, vc32_118, vc32_119, vc32_120]
      exact fin _ _ r4 (((hs1.trans hs2).trans hs3).trans hs4) (by simp only [vsA, arith, cmpI, ldK, V.flat, V.one, V.cells, ↓reduceIte, reduceCtorEq, Nat.reduceEqDiff, Nat.reduceLeDiff, Nat.reduceAdd, Nat.reduceMul, fill]) (by simp only [vsA, arith, cmpI, ldK, V.flat, V.one, V.cells, ↓reduceIte, reduceCtorEq, Nat.reduceEqDiff, Nat.reduceLeDiff, Nat.reduceAdd, Nat.reduceMul, fill]) (by omega) (by omega)
    · have g50 : decide (((z - a : Nat) : Int) ≥ 50) = false := by simp; omega
      simp only [vsA, arith, cmpI, ldK, V.flat, V.one, V.cells, ↓reduceIte, reduceCtorEq, Nat.reduceEqDiff, Nat.reduceLeDiff, Nat.reduceAdd, Nat.reduceMul, fill, vc32, vc32_1, vc32_2, vc32_3, vc32_4, vc32_5, vc32_6, vc32_8, vc32_101, vc32_102, vc32_103, vc32_104, vc32_105, vc32_106, vc32_107, vc32_108, vc32_109, vc32_110, vc32_111, vc32_112, vc32_113, vc32_114, vc32_115, vc32_116, vc32_117, vc32_118, vc32_119, vc32_120, w1, w2, m1, m2, m3, p1, p2, p3, g8, g50, show ((4 : Int) ≠ 0) = True by simp]
      refine call_f (vs := [.sl b 0 d.size c, .int .i64 ((a + q * 1 : Nat) : Int), .int .i64 ((a + q * 2 : Nat) : Int), .int .i64 ((a + q * 3 : Nat) : Int), .ptr s 0, .fn k first cap]) (by simp only [vsA, arith, cmpI, ldK, V.flat, V.one, V.cells, ↓reduceIte, reduceCtorEq, Nat.reduceEqDiff, Nat.reduceLeDiff, Nat.reduceAdd, Nat.reduceMul, fill]) (median_do L hT hc hr0 (by omega) (by omega) (by omega) hsw0) ?_
      rintro v σ4 ⟨⟨r4, rfl, hr4⟩, hs4⟩ _ _
      simp only [vsA, arith, cmpI, ldK, V.flat, V.one, V.cells, ↓reduceIte, reduceCtorEq, Nat.reduceEqDiff, Nat.reduceLeDiff, Nat.reduceAdd, Nat.reduceMul, fill, vc32, vc32_1, vc32_2, vc32_3, vc32_4, vc32_5, vc32_6, vc32_8, vc32_101, vc32_102, vc32_103, vc32_104, vc32_105, vc32_106, vc32_107, vc32_108, vc32_109, vc32_110, vc32_111, vc32_112, vc32_113, vc32_114, vc32_115, vc32_116, vc32_117, vc32_118, vc32_119, vc32_120]
      exact fin _ _ r4 hs4 (by simp only [vsA, arith, cmpI, ldK, V.flat, V.one, V.cells, ↓reduceIte, reduceCtorEq, Nat.reduceEqDiff, Nat.reduceLeDiff, Nat.reduceAdd, Nat.reduceMul, fill]) (by simp only [vsA, arith, cmpI, ldK, V.flat, V.one, V.cells, ↓reduceIte, reduceCtorEq, Nat.reduceEqDiff, Nat.reduceLeDiff, Nat.reduceAdd, Nat.reduceMul, fill]) (by omega) (by omega)
  · have g8 : decide (((z - a : Nat) : Int) ≥ 8) = false := by simp; omega
    simp only [vsA, arith, cmpI, ldK, V.flat, V.one, V.cells, ↓reduceIte, reduceCtorEq, Nat.reduceEqDiff, Nat.reduceLeDiff, Nat.reduceAdd, Nat.reduceMul, fill, vc32, vc32_1, vc32_2, vc32_3, vc32_4, vc32_5, vc32_6, vc32_8, vc32_101, vc32_102, vc32_103, vc32_104, vc32_105, vc32_106, vc32_107, vc32_108, vc32_109, vc32_110, vc32_111, vc32_112, vc32_113, vc32_114, vc32_115, vc32_116, vc32_117, vc32_118, vc32_119, vc32_120, w1, w2, m1, m2, m3, p1, p2, p3, g8, show ((4 : Int) ≠ 0) = True by simp]
    exact fin _ _ (a + q * 2) (SwpS.refl hsw0) (by simp only [vsA, arith, cmpI, ldK, V.flat, V.one, V.cells, ↓reduceIte, reduceCtorEq, Nat.reduceEqDiff, Nat.reduceLeDiff, Nat.reduceAdd, Nat.reduceMul, fill]) (by simp only [vsA, arith, cmpI, ldK, V.flat, V.one, V.cells, ↓reduceIte, reduceCtorEq, Nat.reduceEqDiff, Nat.reduceLeDiff, Nat.reduceAdd, Nat.reduceMul, fill]) (by omega) (by omega)
end Go.Vm.Srt
