/-
  Timers: lists that are the same; new ones; stop; next; what compares.
-/
import Derived.Test.YtbbkgjkknjpmcaaT10d
set_option linter.unusedSimpArgs false
set_option linter.unusedVariables false
set_option linter.unusedSectionVars false
namespace Go.Vm.T10
open Go Go.Vm

theorem same_do (xs ys : List (Int × Int)) (c d : Nat) (o o' : Option Nat) (σ : Store) :
    VCalls PT 11 [.fz 2 (xs.map kv) c o, .fz 2 (ys.map kv) d o'] σ (fun v σ' => v = .bool (decide (xs = ys)) ∧ σ' = σ) := by
  refine vcalls_of ck11 (fun hv hok => ?_)
  have hfz := (hv (.fz 2 (xs.map kv) c o) (by simp)).fz.1
  rw [List.length_map] at hfz
  by_cases hl : xs.length = ys.length
  · have e1 : ((xs.length : Int) != (ys.length : Int)) = false := by simp; omega
    simp only [vsA, arith, cmpI, ldK, V.flat, V.one, V.cells, ↓reduceIte, reduceCtorEq, Nat.reduceEqDiff, Nat.reduceLeDiff, Nat.reduceAdd, Nat.reduceMul, fill, vc11, vc11_1, vc11_2, vc11_3, vc11_4, e1]
    refine w_loop (fun env' σ' => σ' = σ ∧ ∃ i : Nat, env' 0 = .fz 2 (xs.map kv) c o ∧ env' 1 = .fz 2 (ys.map kv) d o' ∧ env' 5 = .int .i64 i ∧ i ≤ xs.length ∧ xs.take i = ys.take i)
      (fun env' _ => xs.length - (env' 5).nat) ⟨rfl, 0, by simp only [vsA, arith, cmpI, ldK, V.flat, V.one, V.cells, ↓reduceIte, reduceCtorEq, Nat.reduceEqDiff, Nat.reduceLeDiff, Nat.reduceAdd, Nat.reduceMul, fill], by simp only [vsA, arith, cmpI, ldK, V.flat, V.one, V.cells, ↓reduceIte, reduceCtorEq, Nat.reduceEqDiff, Nat.reduceLeDiff, Nat.reduceAdd, Nat.reduceMul, fill], by simp only [vsA, arith, cmpI, ldK, V.flat, V.one, V.cells, ↓reduceIte, reduceCtorEq, Nat.reduceEqDiff, Nat.reduceLeDiff, Nat.reduceAdd, Nat.reduceMul, fill]; rfl, by omega, by simp⟩ ?_
    rintro env' _ ⟨rfl, i, e0, e1, e5, hi, hk⟩
    by_cases hlt : i < xs.length
    · have hd : decide ((i : Int) < (xs.length : Int)) = true := by simp; omega
      have hg : (xs.map kv)[i]? = some (kv xs[i]) := by simp [hlt]
      have hg' : (ys.map kv)[i]? = some (kv ys[i]) := by simp [show i < ys.length by omega]
      have h0 : (0 : Int) ≤ i := by omega
      by_cases he : xs[i] = ys[i]
      · simp only [vsA, arith, cmpI, ldK, V.flat, V.one, V.cells, ↓reduceIte, reduceCtorEq, Nat.reduceEqDiff, Nat.reduceLeDiff, Nat.reduceAdd, Nat.reduceMul, fill, vc11, vc11_1, vc11_2, vc11_3, vc11_4, e0, e1, e5, hd, hg, hg', h0, kv_len, kv_take, ceqs_kv, he, decide_true, wrap_succ (show i ≤ 140737488355328 by omega), nat_int]
        refine ⟨⟨i + 1, rfl, by omega, ?_⟩, by omega⟩
        rw [← List.take_append_getElem hlt, ← List.take_append_getElem (show i < ys.length by omega), hk, he]
      · simp only [vsA, arith, cmpI, ldK, V.flat, V.one, V.cells, ↓reduceIte, reduceCtorEq, Nat.reduceEqDiff, Nat.reduceLeDiff, Nat.reduceAdd, Nat.reduceMul, fill, vc11, vc11_1, vc11_2, vc11_3, vc11_4, e0, e1, e5, hd, hg, hg', h0, kv_len, kv_take, ceqs_kv, he, decide_false]
        refine Rets.of ?_; refine ⟨?_, rfl⟩
        have : xs ≠ ys := fun h => by subst h; exact he rfl
        simp [this]
    · have hd : decide ((i : Int) < (xs.length : Int)) = false := by simp; omega
      simp only [vsA, arith, cmpI, ldK, V.flat, V.one, V.cells, ↓reduceIte, reduceCtorEq, Nat.reduceEqDiff, Nat.reduceLeDiff, Nat.reduceAdd, Nat.reduceMul, fill, vc11, vc11_1, vc11_2, vc11_3, vc11_4, e0, e1, e5, hd]
      refine Rets.of ?_; refine ⟨?_, rfl⟩
      rw [List.take_of_length_le (by omega), List.take_of_length_le (by omega)] at hk
      simp [hk]
  · have e1 : ((xs.length : Int) != (ys.length : Int)) = true := by simp; omega
    simp only [vsA, arith, cmpI, ldK, V.flat, V.one, V.cells, ↓reduceIte, reduceCtorEq, Nat.reduceEqDiff, Nat.reduceLeDiff, Nat.reduceAdd, Nat.reduceMul, fill, vc11, vc11_1, vc11_2, vc11_3, vc11_4, e1]
    refine Rets.of ?_; refine ⟨?_, rfl⟩
    have : xs ≠ ys := fun h => hl (by rw [h])
    simp [this]

section timer
variable {σ : Store} {b m : Nat} {M : TL} {clk : Nat}

/-- The timers, as they lie. -/
def TM (σ : Store) (b m : Nat) (M : TL) : Prop := σ b = some (.row [.mp m] 0) ∧ ∃ clk, σ m = some (.map (menc kk vi M) clk)
/-- They turn, and nothing else. -/
def TS (σ : Store) (m : Nat) (M' : TL) (σ' : Store) : Prop := ∃ clk', σ' = σ.set m (.map (menc kk vi M') clk')
theorem TM.ne (h : TM σ b m M) : b ≠ m := by rintro rfl; obtain ⟨_, h2⟩ := h.2; rw [h.1] at h2; cases h2
theorem TS.tm {σ' : Store} {M' : TL} (h : TM σ b m M) (k : TS σ m M' σ') : TM σ' b m M' := by
  obtain ⟨clk', rfl⟩ := k
  exact ⟨by rw [Store.get_set_ne _ _ h.ne]; exact h.1, clk', by simp⟩
theorem TS.refl (h : TM σ b m M) : TS σ m M σ := by obtain ⟨_, clk, h⟩ := h; exact ⟨clk, (Store.set_same _ h).symm⟩

theorem stop_do (k : Int × Int) (h : TM σ b m M) :
    VCalls PT 9 [.ptr b 0, .agg (kv k)] σ (fun v σ' => v = .bool (lk k M).isSome ∧ TS σ m (del k M) σ') := by
  have h' := h
  obtain ⟨h1, clk, h2⟩ := h
  have h1' := Store.rd_row h1
  have h2' := Store.rd_map h2
  refine vcalls_of ck9 (fun _ _ => ?_)
  simp only [vsA, arith, cmpI, ldK, V.flat, V.one, V.cells, ↓reduceIte, reduceCtorEq, Nat.reduceEqDiff, Nat.reduceLeDiff, Nat.reduceAdd, Nat.reduceMul, fill, vc9, vc9_1, vc9_2, vc9_3, vc9_4, kv_len, kv_take]
  refine call_f (vs := [.ptr b 0, .agg (kv k)]) (by simp only [vsA, arith, cmpI, ldK, V.flat, V.one, V.cells, ↓reduceIte, reduceCtorEq, Nat.reduceEqDiff, Nat.reduceLeDiff, Nat.reduceAdd, Nat.reduceMul, fill]) (at_do k h1' h2') ?_
  rintro _ σ0 ⟨rfl, hσ0⟩ _ _
  subst hσ0
  cases hl : lk k M with
  | none =>
    have e : (tat k M).2 = false := by simp [tat, hl]
    simp only [vsA, arith, cmpI, ldK, V.flat, V.one, V.cells, ↓reduceIte, reduceCtorEq, Nat.reduceEqDiff, Nat.reduceLeDiff, Nat.reduceAdd, Nat.reduceMul, fill, vc9, vc9_1, vc9_2, vc9_3, vc9_4, e]
    refine Rets.of ?_; refine ⟨rfl, ?_⟩
    have : del k M = M := by
      rw [lk_none] at hl
      unfold del
      rw [List.filter_eq_self]
      intro p hp
      simp only [ne_eq, decide_not, Bool.not_eq_true', decide_eq_false_iff_not]
      exact fun e => hl (List.mem_map.2 ⟨p, hp, e⟩)
    rw [this]; exact TS.refl h'
  | some a =>
    have e : (tat k M).2 = true := by simp [tat, hl]
    simp only [vsA, arith, cmpI, ldK, V.flat, V.one, V.cells, ↓reduceIte, reduceCtorEq, Nat.reduceEqDiff, Nat.reduceLeDiff, Nat.reduceAdd, Nat.reduceMul, fill, vc9, vc9_1, vc9_2, vc9_3, vc9_4, e, h1', h2, kv_len, kv_take, key_ok, keys_ok, del_kk]
    refine Rets.of ?_; exact ⟨rfl, clk, rfl⟩

theorem new_do (σ : Store) : VCalls PT 5 [] σ (fun v σ' => ∃ b m, v = .ptr b 0 ∧ TM σ' b m [] ∧ σ.le σ') := by
  refine vcalls_of ck5 (fun _ _ => ?_)
  simp only [vsA, arith, cmpI, ldK, V.flat, V.one, V.cells, ↓reduceIte, reduceCtorEq, Nat.reduceEqDiff, Nat.reduceLeDiff, Nat.reduceAdd, Nat.reduceMul, fill, vc5, vc5_1, vc5_2]
  refine v_mkmap' (fun m hm => ?_)
  simp only [vsA, arith, cmpI, ldK, V.flat, V.one, V.cells, ↓reduceIte, reduceCtorEq, Nat.reduceEqDiff, Nat.reduceLeDiff, Nat.reduceAdd, Nat.reduceMul, fill, vc5, vc5_1, vc5_2]
  refine v_box' rfl rfl (fun b hb => ?_)
  simp only [vsA, arith, cmpI, ldK, V.flat, V.one, V.cells, ↓reduceIte, reduceCtorEq, Nat.reduceEqDiff, Nat.reduceLeDiff, Nat.reduceAdd, Nat.reduceMul, fill, vc5, vc5_1, vc5_2]
  have hbm : m ≠ b := by rintro rfl; simp at hb
  rw [Store.get_set_ne _ _ hbm.symm] at hb
  refine Rets.of ?_
  refine ⟨b, rfl, ⟨m, by simp, 0, ?_⟩, ?_⟩
  · rw [Store.get_set_ne _ _ hbm]; simp [menc]
  · exact Store.le_trans (Store.le_set σ _ hm) (Store.le_set _ _ (by rw [Store.get_set_ne _ _ hbm.symm]; exact hb))

/-- What an iterator has met. -/
def seenN (σ : Store) (it : Nat) : Nat := match σ it with | some (.iter _ _ s) => s.length | _ => 0
theorem kent_mem {k v : V} {M : TL} (h : (k, v) ∈ menc kk vi M) : ∃ p ∈ M, k = kk p.1 ∧ v = vi p.2 := by
  simp only [menc, List.mem_map] at h
  obtain ⟨p, hp, h⟩ := h
  cases h; exact ⟨p, hp, rfl, rfl⟩

theorem next_do (h : TM σ b m M) (hn : M.length ≤ 1024) (hm : ∀ p ∈ M, p.2 ≤ 9007199254740991) :
    VCalls PT 16 [.ptr b 0] σ (fun v σ' => ((M = [] ∧ v = .tup [.int .i64 0, .bool false]) ∨ ∃ p ∈ M, v = .tup [.int .i64 p.2, .bool true] ∧ ∀ q ∈ M, p.2 ≤ q.2) ∧ σ' = σ) := by
  obtain ⟨h1, clk, h2⟩ := h
  have h1' := Store.rd_row h1
  have h2' := Store.rd_map h2
  refine vcalls_of ck16 (fun _ hok => ?_)
  have hnd := nodup_menc (hok.map h2').1
  simp only [vsA, arith, cmpI, ldK, V.flat, V.one, V.cells, ↓reduceIte, reduceCtorEq, Nat.reduceEqDiff, Nat.reduceLeDiff, Nat.reduceAdd, Nat.reduceMul, fill, vc16, vc16_1, vc16_2, vc16_3, vc16_4, vc16_5]
  refine call_f (vs := [.ptr b 0]) (by simp only [vsA, arith, cmpI, ldK, V.flat, V.one, V.cells, ↓reduceIte, reduceCtorEq, Nat.reduceEqDiff, Nat.reduceLeDiff, Nat.reduceAdd, Nat.reduceMul, fill]) (len_do h1' h2' hn) ?_
  rintro _ σ0 ⟨rfl, hσ0⟩ _ _
  subst hσ0
  by_cases h0 : M = []
  · subst h0
    simp only [vsA, arith, cmpI, ldK, V.flat, V.one, V.cells, ↓reduceIte, reduceCtorEq, Nat.reduceEqDiff, Nat.reduceLeDiff, Nat.reduceAdd, Nat.reduceMul, fill, vc16, vc16_1, vc16_2, vc16_3, vc16_4, vc16_5, show (((0 : Nat) : Int) == 0) = true from rfl, List.length_nil]
    exact Rets.of (by simp)
  · have e : ((M.length : Int) == 0) = false := by
      cases M with
      | nil => exact absurd rfl h0
      | cons p M => simp; omega
    simp only [vsA, arith, cmpI, ldK, V.flat, V.one, V.cells, ↓reduceIte, reduceCtorEq, Nat.reduceEqDiff, Nat.reduceLeDiff, Nat.reduceAdd, Nat.reduceMul, fill, vc16, vc16_1, vc16_2, vc16_3, vc16_4, vc16_5, e, h1']
    refine v_range' (r := m) (by simp only [vsA, arith, cmpI, ldK, V.flat, V.one, V.cells, ↓reduceIte, reduceCtorEq, Nat.reduceEqDiff, Nat.reduceLeDiff, Nat.reduceAdd, Nat.reduceMul, fill]) h2 (fun it hit => ?_)
    simp only [vsA, arith, cmpI, ldK, V.flat, V.one, V.cells, ↓reduceIte, reduceCtorEq, Nat.reduceEqDiff, Nat.reduceLeDiff, Nat.reduceAdd, Nat.reduceMul, fill, vc16, vc16_1, vc16_2, vc16_3, vc16_4, vc16_5]
    have him : it ≠ m := by rintro rfl; rw [h2] at hit; cases hit
    refine w_loop (fun env' σ' => ∃ (seen : List (Int × Int)) (l : Int), env' 14 = .ptr it 0 ∧ env' 4 = .int .i64 l ∧ σ' = σ0.set it (.iter (some m) clk (seen.map kk)) ∧ seen.Nodup ∧
        (∀ k ∈ seen, k ∈ M.map (·.1)) ∧ (∀ p ∈ M, p.1 ∈ seen → l ≤ p.2) ∧ (l = 9007199254740991 ∨ ∃ p ∈ M, l = p.2))
      (fun _ σ' => M.length - seenN σ' it) ⟨[], 9007199254740991, by simp only [vsA, arith, cmpI, ldK, V.flat, V.one, V.cells, ↓reduceIte, reduceCtorEq, Nat.reduceEqDiff, Nat.reduceLeDiff, Nat.reduceAdd, Nat.reduceMul, fill], by simp only [vsA, arith, cmpI, ldK, V.flat, V.one, V.cells, ↓reduceIte, reduceCtorEq, Nat.reduceEqDiff, Nat.reduceLeDiff, Nat.reduceAdd, Nat.reduceMul, fill], by simp, .nil, by simp, by simp, .inl rfl⟩ ?_
    rintro env' _ ⟨seen, l, e14, e4, rfl, hsn, hsub, hmin, hl⟩
    simp only [vsA, arith, cmpI, ldK, V.flat, V.one, V.cells, ↓reduceIte, reduceCtorEq, Nat.reduceEqDiff, Nat.reduceLeDiff, Nat.reduceAdd, Nat.reduceMul, fill, vc16, vc16_1, vc16_2, vc16_3, vc16_4, vc16_5]
    refine v_next' (es := menc kk vi M) (r := m) (since := clk) (seen := seen.map kk) (b := it) (by simp only [vsA, arith, cmpI, ldK, V.flat, V.one, V.cells, ↓reduceIte, reduceCtorEq, Nat.reduceEqDiff, Nat.reduceLeDiff, Nat.reduceAdd, Nat.reduceMul, fill, e14]) (by simp) (by rw [Store.get_set_ne _ _ him.symm]; exact h2) ?_ ?_
    · intro hall
      simp only [vsA, arith, cmpI, ldK, V.flat, V.one, V.cells, ↓reduceIte, reduceCtorEq, Nat.reduceEqDiff, Nat.reduceLeDiff, Nat.reduceAdd, Nat.reduceMul, fill, vc16, vc16_1, vc16_2, vc16_3, vc16_4, vc16_5, e4]
      have hall' : ∀ p ∈ M, p.1 ∈ seen := fun p hp => by
        have := hall (kk p.1, vi p.2) (List.mem_map.2 ⟨p, hp, rfl⟩)
        obtain ⟨k, hk, e⟩ := List.mem_map.1 this
        rw [← kk_inj _ _ e]; exact hk
      refine Rets.le (Store.le_set σ0 _ hit) ⟨.inr ?_, rfl⟩
      obtain ⟨p0, M', hM⟩ := List.exists_cons_of_ne_nil h0
      rcases hl with rfl | ⟨p, hp, rfl⟩
      · have hp0 : p0 ∈ M := by rw [hM]; simp
        have := hmin p0 hp0 (hall' p0 hp0)
        have := hm p0 hp0
        exact ⟨p0, hp0, by rw [show p0.2 = 9007199254740991 by omega], fun q hq => by have := hmin q hq (hall' q hq); omega⟩
      · exact ⟨p, hp, rfl, fun q hq => hmin q hq (hall' q hq)⟩
    · intro k v hkv hns
      obtain ⟨p, hp, rfl, rfl⟩ := kent_mem hkv
      have hps : p.1 ∉ seen := fun hh => hns (List.mem_map_of_mem hh)
      simp only [vsA, arith, cmpI, ldK, V.flat, V.one, V.cells, ↓reduceIte, reduceCtorEq, Nat.reduceEqDiff, Nat.reduceLeDiff, Nat.reduceAdd, Nat.reduceMul, fill, vc16, vc16_1, vc16_2, vc16_3, vc16_4, vc16_5, Store.set_set]
      refine v_entry' (es := menc kk vi M) (r := m) (since := clk) (seen := seen.map kk) (b := it) (by simp only [vsA, arith, cmpI, ldK, V.flat, V.one, V.cells, ↓reduceIte, reduceCtorEq, Nat.reduceEqDiff, Nat.reduceLeDiff, Nat.reduceAdd, Nat.reduceMul, fill, e14]) (by simp) (by rw [Store.get_set_ne _ _ him.symm]; exact h2) hkv ?_
      simp only [vsA, arith, cmpI, ldK, V.flat, V.one, V.cells, ↓reduceIte, reduceCtorEq, Nat.reduceEqDiff, Nat.reduceLeDiff, Nat.reduceAdd, Nat.reduceMul, fill, vc16, vc16_1, vc16_2, vc16_3, vc16_4, vc16_5, vi, e4]
      have hlen : seen.length < M.length := by
        have hsub2 : (p.1 :: seen).length ≤ (M.map (·.1)).length := (List.nodup_cons.2 ⟨hps, hsn⟩).length_le_of_subset (fun k hk => by
          rcases List.mem_cons.1 hk with rfl | hk
          · exact List.mem_map_of_mem hp
          · exact hsub k hk)
        simp at hsub2; omega
      have hnd' : (p.1 :: seen).Nodup := List.nodup_cons.2 ⟨hps, hsn⟩
      refine ⟨e14, ⟨p.1 :: seen, by rw [List.map_cons], hnd', ?_, ?_, ?_⟩, ?_⟩
      · intro k hk
        rcases List.mem_cons.1 hk with rfl | hk
        · exact List.mem_map_of_mem hp
        · exact hsub k hk
      · intro q hq hqs
        rcases List.mem_cons.1 hqs with hqs | hqs
        · have h1 := (lk_mem hnd q.1 q.2).2 hq
          have h2 := (lk_mem hnd p.1 p.2).2 hp
          rw [hqs, h2] at h1
          have h1 : p.2 = q.2 := by simpa using h1
          split <;> omega
        · have := hmin q hq hqs
          split <;> omega
      · split
        · exact .inr ⟨p, hp, rfl⟩
        · exact hl
      · simp [seenN]; omega
end timer
end Go.Vm.T10
