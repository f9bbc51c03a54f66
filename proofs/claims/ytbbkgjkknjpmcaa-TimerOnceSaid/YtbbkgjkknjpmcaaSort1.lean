/-
  The sort: rows of elements; insertionSortCmpFunc.
-/
import Derived.Test.YtbbkgjkknjpmcaaSort0
import Derived.Sort.LotA
import Derived.Sort.LotB
import Derived.Sort.LotC
set_option linter.unusedSimpArgs false
set_option linter.unusedVariables false
set_option linter.unusedSectionVars false
namespace Go.Vm.Srt
open Go Go.Vm Go.Sort

abbrev Row := Array (List V)
def flat (d : Row) : List V := d.toList.flatten
def AllLen (e : Nat) (d : Row) : Prop := ∀ x ∈ d.toList, x.length = e

theorem flatten_len {e : Nat} : ∀ {l : List (List V)}, (∀ x ∈ l, x.length = e) → l.flatten.length = l.length * e
  | [], _ => by simp
  | x :: l, h => by
    have h1 := h x (by simp)
    have h2 := flatten_len (l := l) (fun y hy => h y (by simp [hy]))
    simp only [List.flatten_cons, List.length_append, List.length_cons, Nat.succ_mul] at *
    omega
theorem flatten_drop {e : Nat} : ∀ {l : List (List V)} (i : Nat), (∀ x ∈ l, x.length = e) → l.flatten.drop (i * e) = (l.drop i).flatten
  | [], i, _ => by simp
  | x :: l, 0, _ => by simp
  | x :: l, i + 1, h => by
    have h1 := h x (by simp)
    have h2 := flatten_drop (l := l) i (fun y hy => h y (by simp [hy]))
    rw [List.flatten_cons, List.drop_succ_cons, ← h2, Nat.succ_mul, Nat.add_comm, ← List.drop_drop, ← h1, List.drop_left]
theorem flatten_take {e : Nat} : ∀ {l : List (List V)} (i : Nat), (∀ x ∈ l, x.length = e) → l.flatten.take (i * e) = (l.take i).flatten
  | [], i, _ => by simp
  | x :: l, 0, _ => by simp
  | x :: l, i + 1, h => by
    have h1 := h x (by simp)
    have h2 := flatten_take (l := l) i (fun y hy => h y (by simp [hy]))
    rw [List.flatten_cons, List.take_succ_cons, List.flatten_cons, ← h2, Nat.succ_mul, Nat.add_comm, ← h1, List.take_append, List.take_of_length_le (by omega)]
    simp
variable {e : Nat} {d : Row}
theorem flat_len (h : AllLen e d) : (flat d).length = d.size * e := by
  have := flatten_len h; simpa [flat] using this
theorem le_flat {i : Nat} (h : AllLen e d) (hi : i < d.size) : (e ≤ ((flat d).drop (i * e)).length) = True := by
  rw [List.length_drop, flat_len h, eq_iff_iff, iff_true]
  have : (i + 1) * e ≤ d.size * e := Nat.mul_le_mul_right e hi
  rw [Nat.succ_mul] at this; omega
theorem le2_flat {i : Nat} (h : AllLen e d) (hi : i < d.size) : (i * e + e ≤ (flat d).length) = True := by
  rw [flat_len h, eq_iff_iff, iff_true]
  have : (i + 1) * e ≤ d.size * e := Nat.mul_le_mul_right e hi
  rw [Nat.succ_mul] at this; omega
theorem get_flat {i : Nat} (h : AllLen e d) (hi : i < d.size) : ((flat d).drop (i * e)).take e = d[i]! := by
  rw [flat, flatten_drop i h]
  have hl : i < d.toList.length := by simpa using hi
  rw [List.drop_eq_getElem_cons hl, List.flatten_cons]
  have : (d.toList[i]).length = e := h _ (List.getElem_mem hl)
  rw [← this, List.take_left]
  simp [hi]
theorem set_flat {i : Nat} {x : List V} (h : AllLen e d) (hi : i < d.size) : (flat d).take (i * e) ++ x ++ (flat d).drop (i * e + e) = flat (d.setIfInBounds i x) := by
  rw [← Nat.succ_mul, flat, flatten_take i h, flatten_drop (i + 1) h, flat]
  have hl : i < d.toList.length := by simpa using hi
  rw [Array.toList_setIfInBounds, List.set_eq_take_append_cons_drop, if_pos hl]
  simp
theorem AllLen.set {i : Nat} {x : List V} (h : AllLen e d) (hx : x.length = e) : AllLen e (d.setIfInBounds i x) := by
  intro y hy
  rw [Array.toList_setIfInBounds] at hy
  rcases List.mem_or_eq_of_mem_set hy with h1 | h1
  · exact h y h1
  · rw [h1]; exact hx
theorem AllLen.get {i : Nat} (h : AllLen e d) (hi : i < d.size) : (d[i]!).length = e := by
  have hl : i < d.toList.length := by simpa using hi
  have := h _ (List.getElem_mem hl)
  simpa [hi] using this
theorem AllLen.swp {i j : Nat} (h : AllLen e d) (hi : i < d.size) (hj : j < d.size) : AllLen e (swp d i j) := (h.set (h.get hj)).set (h.get hi)
theorem size_set {i : Nat} {x : List V} : (d.setIfInBounds i x).size = d.size := by simp

/-- What compares two elements: wherever the store is as it was but for the row. -/
def CmpOk (P : Program) (b : Nat) (σ0 : Store) (T : List V → Prop) (cf : List V → List V → Int) (k : FuncId) (first cap : List V) : Prop :=
  ∀ σ, (∀ j o, j ≠ b → σ0 j = some o → σ j = some o) → ∀ x y, T x → T y → VCalls P k (first ++ [.agg x, .agg y] ++ cap) σ (fun v σ' => v = .int .i64 (cf x y) ∧ σ' = σ)
def ltc (cf : List V → List V → Int) (x y : List V) : Bool := decide (cf x y < 0)
/-- The row, as it lies. -/
structure RowOk (e b : Nat) (σ0 σ : Store) (T : List V → Prop) (d : Row) (sl : Nat) : Prop where
  row : σ b = some (.row (flat d) sl)
  all : ∀ x ∈ d.toList, T x
  off : ∀ j o, j ≠ b → σ0 j = some o → σ j = some o
variable {P : Program} {φ : Nat → Nat} {b sl c : Nat} {σ0 σ : Store} {T : List V → Prop} {cf : List V → List V → Int} {k : FuncId} {first cap : List V}
theorem RowOk.len (h : RowOk e b σ0 σ T d sl) (hT : ∀ x, T x → x.length = e) : AllLen e d := fun x hx => hT x (h.all x hx)
theorem RowOk.get (h : RowOk e b σ0 σ T d sl) {i : Nat} (hi : i < d.size) : T d[i]! := by
  have hl : i < d.toList.length := by simpa using hi
  have := h.all _ (List.getElem_mem hl)
  simpa [hi] using this
theorem mem_set {i : Nat} {x y : List V} (h : y ∈ (d.setIfInBounds i x).toList) : y ∈ d.toList ∨ y = x := by
  rw [Array.toList_setIfInBounds] at h
  exact List.mem_or_eq_of_mem_set h
theorem RowOk.swp (h : RowOk e b σ0 σ T d sl) {i j : Nat} (hi : i < d.size) (hj : j < d.size) : RowOk e b σ0 (σ.set b (.row (flat (swp d i j)) sl)) T (swp d i j) sl where
  row := by simp
  all x hx := by
    rcases mem_set hx with hx | rfl
    · rcases mem_set hx with hx | rfl
      · exact h.all x hx
      · exact h.get hj
    · exact h.get hi
  off j o hj ho := by rw [Store.get_set_ne _ _ hj]; exact h.off j o hj ho
theorem wsub {i j : Nat} (h : i ≤ 140737488355328) (h' : j ≤ i) : IntKind.i64.wrap ((i : Int) - (j : Int)) = ((i - j : Nat) : Int) := by
  rw [wrap64 (by omega) (by omega)]; omega
theorem wadd {i j : Nat} (h : i ≤ 140737488355328) (h' : j ≤ 140737488355328) : IntKind.i64.wrap ((i : Int) + (j : Int)) = ((i + j : Nat) : Int) := by
  rw [wrap64 (by omega) (by omega)]; omega
theorem wsub1 {i : Nat} (h : i ≤ 140737488355328) (h' : 1 ≤ i) : IntKind.i64.wrap ((i : Int) - 1) = ((i - 1 : Nat) : Int) := by
  rw [wrap64 (by omega) (by omega)]; omega
theorem wadd1 {i : Nat} (h : i ≤ 140737488355328) : IntKind.i64.wrap ((i : Int) + 1) = ((i + 1 : Nat) : Int) := by
  rw [wrap64 (by omega) (by omega)]; omega

theorem insertion_do (L : Lays P e φ) (hT : ∀ x, T x → x.length = e) (hc : CmpOk P b σ0 T cf k first cap) (h : RowOk e b σ0 σ T d sl) (hn : d.size ≤ 140737488355328) {a z : Nat} (ha : a ≤ z) (hz : z ≤ d.size) :
    VCalls P (φ 29) [.sl b 0 d.size c, .int .i64 a, .int .i64 z, .fn k first cap] σ (fun v σ' => v = .tup [] ∧ σ' = σ.set b (.row (flat (insertionSort (ltc cf) d a z)) sl) ∧ RowOk e b σ0 σ' T (insertionSort (ltc cf) d a z) sl) := by
  refine vcalls_of L.c29 (fun _ hok => ?_)
  simp only [vsA, arith, cmpI, ldK, V.flat, V.one, V.cells, ↓reduceIte, reduceCtorEq, Nat.reduceEqDiff, Nat.reduceLeDiff, Nat.reduceAdd, Nat.reduceMul, fill, vc29, vc29_1, vc29_101, vc29_102, vc29_103, vc29_104, vc29_105, vc29_106, vc29_107, vc29_108, vc29_109, vc29_110, vc29_111, vc29_112, vc29_113, vc29_114, vc29_1018, vc29_1037, wadd1 (show a ≤ 140737488355328 by omega)]
  refine w_loop (fun env' σ' => ∃ (i : Nat) (d' : Row), env' 0 = .sl b 0 d.size c ∧ env' 1 = .int .i64 a ∧ env' 2 = .int .i64 z ∧ env' 3 = .fn k first cap ∧ env' 8 = .int .i64 i ∧ RowOk e b σ0 σ' T d' sl ∧ σ' = σ.set b (.row (flat d') sl) ∧
      d'.size = d.size ∧ a + 1 ≤ i ∧ i ≤ max z (a + 1) ∧ insOuter (ltc cf) a z i d' = insertionSort (ltc cf) d a z)
    (fun env' _ => z + 1 - (env' 8).nat) ⟨a + 1, d, by simp only [vsA, arith, cmpI, ldK, V.flat, V.one, V.cells, ↓reduceIte, reduceCtorEq, Nat.reduceEqDiff, Nat.reduceLeDiff, Nat.reduceAdd, Nat.reduceMul, fill], by simp only [vsA, arith, cmpI, ldK, V.flat, V.one, V.cells, ↓reduceIte, reduceCtorEq, Nat.reduceEqDiff, Nat.reduceLeDiff, Nat.reduceAdd, Nat.reduceMul, fill], by simp only [vsA, arith, cmpI, ldK, V.flat, V.one, V.cells, ↓reduceIte, reduceCtorEq, Nat.reduceEqDiff, Nat.reduceLeDiff, Nat.reduceAdd, Nat.reduceMul, fill], by simp only [vsA, arith, cmpI, ldK, V.flat, V.one, V.cells, ↓reduceIte, reduceCtorEq, Nat.reduceEqDiff, Nat.reduceLeDiff, Nat.reduceAdd, Nat.reduceMul, fill], by simp only [vsA, arith, cmpI, ldK, V.flat, V.one, V.cells, ↓reduceIte, reduceCtorEq, Nat.reduceEqDiff, Nat.reduceLeDiff, Nat.reduceAdd, Nat.reduceMul, fill], h, (Store.set_same _ h.row).symm, rfl, by omega, by omega, rfl⟩ ?_
  rintro env' σ' ⟨i, d', e0, e1, e2, e3, e8, hr, hσ', hsz, hai, hiz, hins⟩
  by_cases hlt : i < z
  · have hd : decide ((i : Int) < (z : Int)) = true := by simp; omega
    simp only [vsA, arith, cmpI, ldK, V.flat, V.one, V.cells, ↓reduceIte, reduceCtorEq, Nat.reduceEqDiff, Nat.reduceLeDiff, Nat.reduceAdd, Nat.reduceMul, fill, vc29, vc29_1, vc29_101, vc29_102, vc29_103, vc29_104, vc29_105, vc29_106, vc29_107, vc29_108, vc29_109, vc29_110, vc29_111, vc29_112, vc29_113, vc29_114, vc29_1018, vc29_1037, e0, e1, e2, e3, e8, hd]
    refine w_loop (fun env'' σ'' => ∃ (j : Nat) (d'' : Row), env'' 0 = .sl b 0 d.size c ∧ env'' 1 = .int .i64 a ∧ env'' 2 = .int .i64 z ∧ env'' 3 = .fn k first cap ∧ env'' 8 = .int .i64 i ∧ env'' 9 = .int .i64 j ∧ RowOk e b σ0 σ'' T d'' sl ∧
        σ'' = σ.set b (.row (flat d'') sl) ∧ d''.size = d.size ∧ j ≤ i ∧ insInner (ltc cf) a j d'' = insInner (ltc cf) a i d')
      (fun env'' _ => (env'' 9).nat) ⟨i, d', by simp only [vsA, arith, cmpI, ldK, V.flat, V.one, V.cells, ↓reduceIte, reduceCtorEq, Nat.reduceEqDiff, Nat.reduceLeDiff, Nat.reduceAdd, Nat.reduceMul, fill, e0], by simp only [vsA, arith, cmpI, ldK, V.flat, V.one, V.cells, ↓reduceIte, reduceCtorEq, Nat.reduceEqDiff, Nat.reduceLeDiff, Nat.reduceAdd, Nat.reduceMul, fill, e1], by simp only [vsA, arith, cmpI, ldK, V.flat, V.one, V.cells, ↓reduceIte, reduceCtorEq, Nat.reduceEqDiff, Nat.reduceLeDiff, Nat.reduceAdd, Nat.reduceMul, fill, e2], by simp only [vsA, arith, cmpI, ldK, V.flat, V.one, V.cells, ↓reduceIte, reduceCtorEq, Nat.reduceEqDiff, Nat.reduceLeDiff, Nat.reduceAdd, Nat.reduceMul, fill, e3], by simp only [vsA, arith, cmpI, ldK, V.flat, V.one, V.cells, ↓reduceIte, reduceCtorEq, Nat.reduceEqDiff, Nat.reduceLeDiff, Nat.reduceAdd, Nat.reduceMul, fill, e8], by simp only [vsA, arith, cmpI, ldK, V.flat, V.one, V.cells, ↓reduceIte, reduceCtorEq, Nat.reduceEqDiff, Nat.reduceLeDiff, Nat.reduceAdd, Nat.reduceMul, fill], hr, hσ', hsz, by omega, rfl⟩ ?_
    rintro env'' σ'' ⟨j, d'', f0, f1, f2, f3, f8, f9, hr'', hσ'', hsz'', hji, hinner⟩
    have hrd := Store.rd_row hr''.row
    have hal := hr''.len hT
    by_cases hja : j > a
    · have hd1 : decide ((j : Int) > (a : Int)) = true := by simp; omega
      have hj1 : j < d''.size := by omega
      have hj2 : j - 1 < d''.size := by omega
      have g1 : (0 : Int) ≤ (j : Int) := by omega
      have g2 : (j : Int) < (d.size : Int) := by omega
      have g3 : (0 : Int) ≤ ((j - 1 : Nat) : Int) := by omega
      have g4 : ((j - 1 : Nat) : Int) < (d.size : Int) := by omega
      simp only [vsA, arith, cmpI, ldK, V.flat, V.one, V.cells, ↓reduceIte, reduceCtorEq, Nat.reduceEqDiff, Nat.reduceLeDiff, Nat.reduceAdd, Nat.reduceMul, fill, vc29, vc29_1, vc29_101, vc29_102, vc29_103, vc29_104, vc29_105, vc29_106, vc29_107, vc29_108, vc29_109, vc29_110, vc29_111, vc29_112, vc29_113, vc29_114, vc29_1018, vc29_1037, f0, f1, f2, f3, f8, f9, hd1, hrd, wsub1 (show j ≤ 140737488355328 by omega) (show 1 ≤ j by omega), g1, g2, g3, g4, le_flat hal hj1, le_flat hal hj2, get_flat hal hj1, get_flat hal hj2]
      refine o_call (k := k) (first := first) (cap := cap) (by simp only [vsA, arith, cmpI, ldK, V.flat, V.one, V.cells, ↓reduceIte, reduceCtorEq, Nat.reduceEqDiff, Nat.reduceLeDiff, Nat.reduceAdd, Nat.reduceMul, fill, f3]) (R := fun v σ' => v = .int .i64 (cf d''[j]! d''[j - 1]!) ∧ σ' = σ'') (by simp only [vsA, arith, cmpI, ldK, V.flat, V.one, V.cells, ↓reduceIte, reduceCtorEq, Nat.reduceEqDiff, Nat.reduceLeDiff, Nat.reduceAdd, Nat.reduceMul, fill]; exact hc σ'' hr''.off _ _ (hr''.get hj1) (hr''.get hj2)) ?_
      rintro _ σ3 ⟨rfl, hσ3⟩ _ _
      subst hσ3
      by_cases hcf : cf d''[j]! d''[j - 1]! < 0
      · have hd2 : decide (cf d''[j]! d''[j - 1]! < 0) = true := by simpa using hcf
        simp only [vsA, arith, cmpI, ldK, V.flat, V.one, V.cells, ↓reduceIte, reduceCtorEq, Nat.reduceEqDiff, Nat.reduceLeDiff, Nat.reduceAdd, Nat.reduceMul, fill, vc29, vc29_1, vc29_101, vc29_102, vc29_103, vc29_104, vc29_105, vc29_106, vc29_107, vc29_108, vc29_109, vc29_110, vc29_111, vc29_112, vc29_113, vc29_114, vc29_1018, vc29_1037, f0, f1, f2, f3, f8, f9, hd2, hrd, wsub1 (show j ≤ 140737488355328 by omega) (show 1 ≤ j by omega), g1, g2, g3, g4, le_flat hal hj1, le_flat hal hj2, get_flat hal hj1, get_flat hal hj2,
          hr''.row, set_flat hal hj1, le2_flat hal hj1, Store.get_set_same, Store.set_set, hal.get hj1, hal.get hj2, le2_flat (hal.set (i := j) (hal.get hj2)) (show j - 1 < _ by rw [size_set]; exact hj2), set_flat (hal.set (i := j) (hal.get hj2)) (show j - 1 < _ by rw [size_set]; exact hj2), nat_int]
        refine ⟨⟨j - 1, rfl, swp d'' j (j - 1), hr''.swp hj1 hj2, ?_, ?_, by omega, ?_⟩, by omega⟩
        · rw [hσ'', Store.set_set]; rfl
        · simp [swp, hsz'']
        · rw [← hinner]
          obtain ⟨j', rfl⟩ : ∃ j', j = j' + 1 := ⟨j - 1, by omega⟩
          simp only [Nat.add_sub_cancel] at hcf ⊢
          rw [show insInner (ltc cf) a (j' + 1) d'' = if j' + 1 > a && ltc cf d''[j' + 1]! d''[j']! then insInner (ltc cf) a j' (swp d'' (j' + 1) j') else d'' from rfl]
          rw [if_pos (by simp [ltc, hcf]; omega)]
      · have hd2 : decide (cf d''[j]! d''[j - 1]! < 0) = false := by simpa using hcf
        simp only [vsA, arith, cmpI, ldK, V.flat, V.one, V.cells, ↓reduceIte, reduceCtorEq, Nat.reduceEqDiff, Nat.reduceLeDiff, Nat.reduceAdd, Nat.reduceMul, fill, vc29, vc29_1, vc29_101, vc29_102, vc29_103, vc29_104, vc29_105, vc29_106, vc29_107, vc29_108, vc29_109, vc29_110, vc29_111, vc29_112, vc29_113, vc29_114, vc29_1018, vc29_1037, f0, f1, f2, f3, f8, f9, hd2, wadd1 (show i ≤ 140737488355328 by omega), nat_int]
        have hstop : insInner (ltc cf) a j d'' = d'' := by
          obtain ⟨j', rfl⟩ : ∃ j', j = j' + 1 := ⟨j - 1, by omega⟩
          simp only [Nat.add_sub_cancel] at hcf
          rw [show insInner (ltc cf) a (j' + 1) d'' = if j' + 1 > a && ltc cf d''[j' + 1]! d''[j']! then insInner (ltc cf) a j' (swp d'' (j' + 1) j') else d'' from rfl]
          rw [if_neg (by simp [ltc]; intro _; omega)]
        refine ⟨⟨i + 1, rfl, d'', hr'', hσ'', hsz'', by omega, by omega, ?_⟩, by omega⟩
        rw [← hins, insOuter.eq_1 (ltc cf) a z i d', if_pos hlt, ← hinner, hstop]
    · have hd1 : decide ((j : Int) > (a : Int)) = false := by simp; omega
      simp only [vsA, arith, cmpI, ldK, V.flat, V.one, V.cells, ↓reduceIte, reduceCtorEq, Nat.reduceEqDiff, Nat.reduceLeDiff, Nat.reduceAdd, Nat.reduceMul, fill, vc29, vc29_1, vc29_101, vc29_102, vc29_103, vc29_104, vc29_105, vc29_106, vc29_107, vc29_108, vc29_109, vc29_110, vc29_111, vc29_112, vc29_113, vc29_114, vc29_1018, vc29_1037, f0, f1, f2, f3, f8, f9, hd1, wadd1 (show i ≤ 140737488355328 by omega), nat_int]
      have hstop : insInner (ltc cf) a j d'' = d'' := by
        cases j with
        | zero => rfl
        | succ j' =>
          rw [show insInner (ltc cf) a (j' + 1) d'' = if j' + 1 > a && ltc cf d''[j' + 1]! d''[j']! then insInner (ltc cf) a j' (swp d'' (j' + 1) j') else d'' from rfl]
          rw [if_neg (by simp; omega)]
      refine ⟨⟨i + 1, rfl, d'', hr'', hσ'', hsz'', by omega, by omega, ?_⟩, by omega⟩
      rw [← hins, insOuter.eq_1 (ltc cf) a z i d', if_pos hlt, ← hinner, hstop]
  · have hd : decide ((i : Int) < (z : Int)) = false := by simp; omega
    simp only [vsA, arith, cmpI, ldK, V.flat, V.one, V.cells, ↓reduceIte, reduceCtorEq, Nat.reduceEqDiff, Nat.reduceLeDiff, Nat.reduceAdd, Nat.reduceMul, fill, vc29, vc29_1, vc29_101, vc29_102, vc29_103, vc29_104, vc29_105, vc29_106, vc29_107, vc29_108, vc29_109, vc29_110, vc29_111, vc29_112, vc29_113, vc29_114, vc29_1018, vc29_1037, e0, e1, e2, e3, e8, hd]
    have : insOuter (ltc cf) a z i d' = d' := by rw [insOuter]; simp [hlt]
    rw [this] at hins; subst hins
    exact Rets.of (by exact ⟨rfl, hσ', hr⟩)

theorem reverseLoop_eq (i j : Nat) (d : Row) : reverseLoop i j d = if i < j then reverseLoop (i + 1) (j - 1) (swp d i j) else d := by rw [reverseLoop]
theorem reverse_do (L : Lays P e φ) (hT : ∀ x, T x → x.length = e) (h : RowOk e b σ0 σ T d sl) (hn : d.size ≤ 140737488355328) {a z : Nat} (ha : a < z) (hz : z ≤ d.size) (f : V) :
    VCalls P (φ 33) [.sl b 0 d.size c, .int .i64 a, .int .i64 z, f] σ (fun v σ' => v = .tup [] ∧ σ' = σ.set b (.row (flat (reverseRange d a z)) sl) ∧ RowOk e b σ0 σ' T (reverseRange d a z) sl) := by
  refine vcalls_of L.c33 (fun _ hok => ?_)
  simp only [vsA, arith, cmpI, ldK, V.flat, V.one, V.cells, ↓reduceIte, reduceCtorEq, Nat.reduceEqDiff, Nat.reduceLeDiff, Nat.reduceAdd, Nat.reduceMul, fill, vc33, vc33_1, vc33_2, vc33_101, vc33_102, vc33_103, vc33_104, vc33_105, vc33_106, vc33_107, vc33_108, vc33_1016, wsub1 (show z ≤ 140737488355328 by omega) (show 1 ≤ z by omega)]
  refine w_loop (fun env' σ' => ∃ (i j : Nat) (d' : Row), env' 0 = .sl b 0 d.size c ∧ env' 8 = .int .i64 i ∧ env' 9 = .int .i64 j ∧ RowOk e b σ0 σ' T d' sl ∧ σ' = σ.set b (.row (flat d') sl) ∧
      d'.size = d.size ∧ j < d.size ∧ i ≤ d.size ∧ reverseLoop i j d' = reverseRange d a z)
    (fun env' _ => (env' 9).nat - (env' 8).nat) ⟨a, z - 1, d, by simp only [vsA, arith, cmpI, ldK, V.flat, V.one, V.cells, ↓reduceIte, reduceCtorEq, Nat.reduceEqDiff, Nat.reduceLeDiff, Nat.reduceAdd, Nat.reduceMul, fill], by simp only [vsA, arith, cmpI, ldK, V.flat, V.one, V.cells, ↓reduceIte, reduceCtorEq, Nat.reduceEqDiff, Nat.reduceLeDiff, Nat.reduceAdd, Nat.reduceMul, fill], by simp only [vsA, arith, cmpI, ldK, V.flat, V.one, V.cells, ↓reduceIte, reduceCtorEq, Nat.reduceEqDiff, Nat.reduceLeDiff, Nat.reduceAdd, Nat.reduceMul, fill], h, (Store.set_same _ h.row).symm, rfl, by omega, by omega, rfl⟩ ?_
  rintro env' σ' ⟨i, j, d', e0, e8, e9, hr, hσ', hsz, hj, hi, hrev⟩
  by_cases hlt : i < j
  · have hd : decide ((i : Int) < (j : Int)) = true := by simp; omega
    have hrd := Store.rd_row hr.row
    have hal := hr.len hT
    have hj1 : j < d'.size := by omega
    have hi1 : i < d'.size := by omega
    have g1 : (0 : Int) ≤ (j : Int) := by omega
    have g2 : (j : Int) < (d.size : Int) := by omega
    have g3 : (0 : Int) ≤ (i : Int) := by omega
    have g4 : (i : Int) < (d.size : Int) := by omega
    simp only [vsA, arith, cmpI, ldK, V.flat, V.one, V.cells, ↓reduceIte, reduceCtorEq, Nat.reduceEqDiff, Nat.reduceLeDiff, Nat.reduceAdd, Nat.reduceMul, fill, vc33, vc33_1, vc33_2, vc33_101, vc33_102, vc33_103, vc33_104, vc33_105, vc33_106, vc33_107, vc33_108, vc33_1016, e0, e8, e9, hd, hrd, g1, g2, g3, g4, le_flat hal hj1, le_flat hal hi1, get_flat hal hj1, get_flat hal hi1, hr.row, set_flat hal hi1, le2_flat hal hi1, Store.get_set_same, Store.set_set, hal.get hj1, hal.get hi1,
      le2_flat (hal.set (i := i) (hal.get hj1)) (show j < _ by rw [size_set]; exact hj1), set_flat (hal.set (i := i) (hal.get hj1)) (show j < _ by rw [size_set]; exact hj1), nat_int,
      wadd1 (show i ≤ 140737488355328 by omega), wsub1 (show j ≤ 140737488355328 by omega) (show 1 ≤ j by omega)]
    refine ⟨⟨i + 1, rfl, j - 1, rfl, swp d' i j, hr.swp hi1 hj1, ?_, ?_, by omega, by omega, ?_⟩, by omega⟩
    · rw [hσ', Store.set_set]; rfl
    · simp [swp, hsz]
    · rw [← hrev, reverseLoop_eq i j d', if_pos hlt]
  · have hd : decide ((i : Int) < (j : Int)) = false := by simp; omega
    simp only [vsA, arith, cmpI, ldK, V.flat, V.one, V.cells, ↓reduceIte, reduceCtorEq, Nat.reduceEqDiff, Nat.reduceLeDiff, Nat.reduceAdd, Nat.reduceMul, fill, vc33, vc33_1, vc33_2, vc33_101, vc33_102, vc33_103, vc33_104, vc33_105, vc33_106, vc33_107, vc33_108, vc33_1016, e0, e8, e9, hd]
    rw [reverseLoop_eq, if_neg hlt] at hrev; subst hrev
    exact Rets.of (by exact ⟨rfl, hσ', hr⟩)
end Go.Vm.Srt
