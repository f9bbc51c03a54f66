/-
  Timers: what the functions do, but for what is due.
-/
import Derived.Test.YtbbkgjkknjpmcaaT10a
import Derived.Test.YtbbkgjkknjpmcaaVm18
set_option linter.unusedSimpArgs false
set_option linter.unusedVariables false
set_option linter.unusedSectionVars false
namespace Go.Vm.T10
open Go Go.Vm
noncomputable abbrev PT := Go.Proofs.Try.prog
abbrev KS : KSh := ⟨true, [true, true]⟩

/-- A timer's cells. -/
def kv (k : Int × Int) : List V := [.int .i64 k.1, .int .i64 k.2]
def kk (k : Int × Int) : V := .agg (kv k)
def vi (n : Int) : V := .int .i64 n
/-- An entry of the other's list. -/
def oc (p : (Int × Int) × Int) : List V := [.int .i64 p.1.1, .int .i64 p.1.2, .int .i64 p.2]
theorem kk_inj (a b : Int × Int) (h : kk a = kk b) : a = b := by
  cases a; cases b; simp [kk, kv] at h; simp [h]
theorem kv_len (k : Int × Int) : (kv k).length = 2 := rfl
theorem kv_take (k : Int × Int) : (kv k).take 2 = kv k := rfl
theorem kv_0 (k : Int × Int) : (kv k)[0]? = some (.int .i64 k.1) := rfl
theorem kv_1 (k : Int × Int) : (kv k).drop 1 = [.int .i64 k.2] := rfl
theorem oc_len (p : (Int × Int) × Int) : (oc p).length = 3 := rfl
theorem oc_take (p : (Int × Int) × Int) : (oc p).take 2 = kv p.1 := rfl
theorem oc_2 (p : (Int × Int) × Int) : (oc p).drop 2 = [.int .i64 p.2] := rfl
theorem ceqs_kv (a b : Int × Int) : V.ceqs [true, true] (kv a) (kv b) = some (decide (a = b)) := by
  cases a; cases b; simp [V.ceqs, kv, V.ceq, Prod.ext_iff]
  rename_i x y z w
  by_cases h1 : x = z <;> by_cases h2 : y = w <;> simp [h1, h2]
theorem keq_kk (a b : Int × Int) : (V.agg (kv a)).keq KS (kk b) = some (decide (a = b)) := by
  simp only [V.keq, kk, KS, if_true]; exact ceqs_kv a b
theorem keys_ok (k : Int × Int) (L : List ((Int × Int) × Int)) : (∀ p ∈ menc kk vi L, ((V.agg (kv k)).keq KS p.1).isSome = true) = True := by
  simp only [eq_iff_iff, iff_true]
  intro p hp
  simp only [menc, List.mem_map] at hp
  obtain ⟨q, _, rfl⟩ := hp
  rw [keq_kk]; rfl
theorem key_ok (k : Int × Int) : ((V.agg (kv k)).keq KS (V.agg (kv k))).isSome = true := by
  have := keq_kk k k; unfold kk at this; rw [this]; rfl
theorem get_kk (k : Int × Int) (L : List ((Int × Int) × Int)) : mget (V.agg (kv k)) (menc kk vi L) = (lk k L).map vi := mget_menc kk_inj k L
theorem put_kk (k : Int × Int) (a : Int) (L : List ((Int × Int) × Int)) : mput (V.agg (kv k)) (.int .i64 a) (menc kk vi L) = menc kk vi (put k a L) := mput_menc (vf := vi) kk_inj k a L
theorem del_kk (k : Int × Int) (L : List ((Int × Int) × Int)) : mdel (V.agg (kv k)) (menc kk vi L) = menc kk vi (del k L) := mdel_menc kk_inj k L

section timer
variable {σ : Store} {b m : Nat} {M : List ((Int × Int) × Int)} {clk : Nat}

theorem len_do (h1 : σ.rd b = some (.row [.mp m] 0)) (h2 : σ.rd m = some (.map (menc kk vi M) clk)) (h3 : M.length ≤ 1024) :
    VCalls PT 18 [.ptr b 0] σ (fun v σ' => v = .int .i64 M.length ∧ σ' = σ) := by
  have h3' : M.length ≤ 9223372036854775807 := by omega
  refine vcalls_of ck18 (fun _ _ => ?_)
  simp only [vsA, arith, cmpI, ldK, V.flat, V.one, V.cells, ↓reduceIte, reduceCtorEq, Nat.reduceEqDiff, Nat.reduceLeDiff, Nat.reduceAdd, Nat.reduceMul, fill, vc18, vc18_1, vc18_2, vc18_3, h1, h2, menc_length, h3']
  exact Rets.of (by exact ⟨rfl, rfl⟩)

def tat (k : Int × Int) (M : List ((Int × Int) × Int)) : Int × Bool := match lk k M with | some a => (a, true) | none => (0, false)

theorem at_do (k : Int × Int) (h1 : σ.rd b = some (.row [.mp m] 0)) (h2 : σ.rd m = some (.map (menc kk vi M) clk)) :
    VCalls PT 14 [.ptr b 0, .agg (kv k)] σ (fun v σ' => v = .tup [.int .i64 (tat k M).1, .bool (tat k M).2] ∧ σ' = σ) := by
  refine vcalls_of ck14 (fun _ _ => ?_)
  cases hl : lk k M with
  | none =>
    simp only [vsA, arith, cmpI, ldK, V.flat, V.one, V.cells, ↓reduceIte, reduceCtorEq, Nat.reduceEqDiff, Nat.reduceLeDiff, Nat.reduceAdd, Nat.reduceMul, fill, vc14, vc14_1, vc14_2, vc14_3, vc14_4, h1, h2, kv_len, kv_take, keys_ok, key_ok, get_kk, hl]
    exact Rets.of (by simp [tat, hl])
  | some a =>
    simp only [vsA, arith, cmpI, ldK, V.flat, V.one, V.cells, ↓reduceIte, reduceCtorEq, Nat.reduceEqDiff, Nat.reduceLeDiff, Nat.reduceAdd, Nat.reduceMul, fill, vc14, vc14_1, vc14_2, vc14_3, vc14_4, h1, h2, kv_len, kv_take, keys_ok, key_ok, get_kk, hl]
    exact Rets.of (by simp [tat, hl, vi])

def tset (k : Int × Int) (a : Int) (M : List ((Int × Int) × Int)) : Int × List ((Int × Int) × Int) :=
  if a < 0 ∨ a > 9007199254740991 then (1, M) else if lk k M = none ∧ 1024 ≤ M.length then (2, M) else (0, put k a M)

theorem set_do (k : Int × Int) (a : Int) (h1 : σ b = some (.row [.mp m] 0)) (h2 : σ m = some (.map (menc kk vi M) clk)) (h3 : M.length ≤ 1024) :
    VCalls PT 7 [.ptr b 0, .agg (kv k), .int .i64 a] σ (fun v σ' => v = .int .i64 (tset k a M).1 ∧ ∃ clk', σ' = σ.set m (.map (menc kk vi (tset k a M).2) clk')) := by
  have h1' := Store.rd_row h1
  have h2' := Store.rd_map h2
  have h3' : M.length ≤ 9223372036854775807 := by omega
  refine vcalls_of ck7 (fun _ _ => ?_)
  have e1 : (1024 ≤ (M.length : Int)) = (1024 ≤ M.length) := by apply propext; omega
  by_cases c1 : a < 0
  · cases hl : lk k M <;>
    · simp only [vsA, arith, cmpI, ldK, V.flat, V.one, V.cells, ↓reduceIte, reduceCtorEq, Nat.reduceEqDiff, Nat.reduceLeDiff, Nat.reduceAdd, Nat.reduceMul, fill, vc7, vc7_1, vc7_2, vc7_3, vc7_4, vc7_5, vc7_6, h1', h2', kv_len, kv_take, keys_ok, key_ok, get_kk, hl, c1, decide_true]
      exact Rets.of (by simp [tset, c1, Store.set_same _ h2]; exact ⟨clk, (Store.set_same _ h2).symm⟩)
  · by_cases c2 : a > 9007199254740991
    · cases hl : lk k M <;>
      · simp only [vsA, arith, cmpI, ldK, V.flat, V.one, V.cells, ↓reduceIte, reduceCtorEq, Nat.reduceEqDiff, Nat.reduceLeDiff, Nat.reduceAdd, Nat.reduceMul, fill, vc7, vc7_1, vc7_2, vc7_3, vc7_4, vc7_5, vc7_6, h1', h2', kv_len, kv_take, keys_ok, key_ok, get_kk, hl, c1, c2, decide_true, decide_false]
        exact Rets.of (by simp [tset, c2]; exact ⟨clk, (Store.set_same _ h2).symm⟩)
    · cases hl : lk k M with
      | none =>
        by_cases c3 : 1024 ≤ M.length
        · simp only [vsA, arith, cmpI, ldK, V.flat, V.one, V.cells, ↓reduceIte, reduceCtorEq, Nat.reduceEqDiff, Nat.reduceLeDiff, Nat.reduceAdd, Nat.reduceMul, fill, vc7, vc7_1, vc7_2, vc7_3, vc7_4, vc7_5, vc7_6, h1', h2', kv_len, kv_take, keys_ok, key_ok, get_kk, hl, c1, c2, decide_true, decide_false, h3', menc_length, ge_iff_le, e1, c3]
          exact Rets.of (by simp [tset, c1, c2, hl, c3]; exact ⟨clk, (Store.set_same _ h2).symm⟩)
        · simp only [vsA, arith, cmpI, ldK, V.flat, V.one, V.cells, ↓reduceIte, reduceCtorEq, Nat.reduceEqDiff, Nat.reduceLeDiff, Nat.reduceAdd, Nat.reduceMul, fill, vc7, vc7_1, vc7_2, vc7_3, vc7_4, vc7_5, vc7_6, h1', h2', kv_len, kv_take, keys_ok, key_ok, get_kk, hl, c1, c2, decide_true, decide_false, h3', menc_length, ge_iff_le, e1, c3, h2, put_kk]
          exact Rets.of (by simp [tset, c1, c2, hl, c3]; exact ⟨_, rfl⟩)
      | some q =>
        simp only [vsA, arith, cmpI, ldK, V.flat, V.one, V.cells, ↓reduceIte, reduceCtorEq, Nat.reduceEqDiff, Nat.reduceLeDiff, Nat.reduceAdd, Nat.reduceMul, fill, vc7, vc7_1, vc7_2, vc7_3, vc7_4, vc7_5, vc7_6, h1', h2', kv_len, kv_take, keys_ok, key_ok, get_kk, hl, c1, c2, decide_true, decide_false, h3', menc_length, h2, put_kk]
        exact Rets.of (by simp [tset, c1, c2, hl]; exact ⟨_, rfl⟩)
end timer

/-! The other. -/
def rfind (k : Int × Int) (L : List ((Int × Int) × Int)) : Int := match L.findIdx? (fun p => decide (p.1 = k)) with | some i => i | none => -1
section other
variable {σ : Store} {x : Nat} {L : List ((Int × Int) × Int)} {c : Nat} {own : Option Nat}

theorem rfind_at {k : Int × Int} {L : List ((Int × Int) × Int)} {i : Nat} (hi : i < L.length) (h : L[i].1 = k) (hk : ∀ j p, j < i → L[j]? = some p → p.1 ≠ k) : rfind k L = i := by
  have : L.findIdx? (fun p => decide (p.1 = k)) = some i := by
    rw [List.findIdx?_eq_some_iff_getElem]
    exact ⟨hi, by simpa using h, fun j hj => by simpa using hk j _ hj (List.getElem?_eq_getElem (by omega))⟩
  simp [rfind, this]
theorem rfind_none {k : Int × Int} {L : List ((Int × Int) × Int)} (hk : ∀ j p, j < L.length → L[j]? = some p → p.1 ≠ k) : rfind k L = -1 := by
  have : L.findIdx? (fun p => decide (p.1 = k)) = none := by
    rw [List.findIdx?_eq_none_iff]
    intro p hp
    obtain ⟨j, hj, rfl⟩ := List.mem_iff_getElem.1 hp
    simpa using hk j _ hj (List.getElem?_eq_getElem hj)
  simp [rfind, this]
theorem wrap_succ {i : Nat} (h : i ≤ 140737488355328) : IntKind.i64.wrap ((i : Int) + 1) = ((i + 1 : Nat) : Int) := by
  rw [wrap64 (by omega) (by omega)]; omega
theorem find_do (k : Int × Int) (h1 : σ.rd x = some (.row [.fz 3 (L.map oc) c own] 0)) :
    VCalls PT 19 [.ptr x 0, .agg (kv k)] σ (fun v σ' => v = .int .i64 (rfind k L) ∧ σ' = σ) := by
  refine vcalls_of ck19 (fun _ hok => ?_)
  have hfz := (hok.row h1 _ (List.mem_singleton.2 rfl)).fz.1
  rw [List.length_map] at hfz
  simp only [vsA, arith, cmpI, ldK, V.flat, V.one, V.cells, ↓reduceIte, reduceCtorEq, Nat.reduceEqDiff, Nat.reduceLeDiff, Nat.reduceAdd, Nat.reduceMul, fill, vc19, vc19_1, vc19_2, vc19_3, h1, kv_len, kv_take]
  refine w_loop (fun env' σ' => σ' = σ ∧ ∃ i : Nat, env' 0 = .ptr x 0 ∧ env' 3 = .fp (kv k) ∧ env' 5 = .int .i64 i ∧ i ≤ L.length ∧ ∀ j p, j < i → L[j]? = some p → p.1 ≠ k)
    (fun env' _ => L.length - (env' 5).nat) ⟨rfl, 0, by simp only [vsA, arith, cmpI, ldK, V.flat, V.one, V.cells, ↓reduceIte, reduceCtorEq, Nat.reduceEqDiff, Nat.reduceLeDiff, Nat.reduceAdd, Nat.reduceMul, fill, vc19, vc19_1, vc19_2, vc19_3], by simp only [vsA, arith, cmpI, ldK, V.flat, V.one, V.cells, ↓reduceIte, reduceCtorEq, Nat.reduceEqDiff, Nat.reduceLeDiff, Nat.reduceAdd, Nat.reduceMul, fill, vc19, vc19_1, vc19_2, vc19_3], by simp only [vsA, arith, cmpI, ldK, V.flat, V.one, V.cells, ↓reduceIte, reduceCtorEq, Nat.reduceEqDiff, Nat.reduceLeDiff, Nat.reduceAdd, Nat.reduceMul, fill, vc19, vc19_1, vc19_2, vc19_3]; rfl, by omega, by omega⟩ ?_
  rintro env' _ ⟨rfl, i, e0, e3, e5, hi, hk⟩
  by_cases hlt : i < L.length
  · have hd : decide ((i : Int) < (L.length : Int)) = true := by simp; omega
    have hg : (L.map oc)[i]? = some (oc L[i]) := by simp [hlt]
    have h0 : (0 : Int) ≤ i := by omega
    by_cases he : L[i].1 = k
    · simp only [vsA, arith, cmpI, ldK, V.flat, V.one, V.cells, ↓reduceIte, reduceCtorEq, Nat.reduceEqDiff, Nat.reduceLeDiff, Nat.reduceAdd, Nat.reduceMul, fill, vc19, vc19_1, vc19_2, vc19_3, e0, e3, e5, h1, hd, hg, h0, oc_len, oc_take, kv_len, kv_take, ceqs_kv, he, decide_true]
      exact Rets.of (by rw [rfind_at hlt he hk]; exact ⟨rfl, rfl⟩)
    · simp only [vsA, arith, cmpI, ldK, V.flat, V.one, V.cells, ↓reduceIte, reduceCtorEq, Nat.reduceEqDiff, Nat.reduceLeDiff, Nat.reduceAdd, Nat.reduceMul, fill, vc19, vc19_1, vc19_2, vc19_3, e0, e3, e5, h1, hd, hg, h0, oc_len, oc_take, kv_len, kv_take, ceqs_kv, he, decide_false, wrap_succ (show i ≤ 140737488355328 by omega), nat_int]
      refine ⟨⟨i + 1, rfl, by omega, fun j p hj hp => ?_⟩, by omega⟩
      by_cases e : j = i
      · subst e; rw [List.getElem?_eq_getElem hlt] at hp; cases hp; exact he
      · exact hk j p (by omega) hp
  · have hd : decide ((i : Int) < (L.length : Int)) = false := by simp; omega
    simp only [vsA, arith, cmpI, ldK, V.flat, V.one, V.cells, ↓reduceIte, reduceCtorEq, Nat.reduceEqDiff, Nat.reduceLeDiff, Nat.reduceAdd, Nat.reduceMul, fill, vc19, vc19_1, vc19_2, vc19_3, e0, e3, e5, h1, hd]
    obtain rfl : i = L.length := by omega
    exact Rets.of (by rw [rfind_none hk]; exact ⟨rfl, rfl⟩)

/-- The other's timers, as they lie. -/
def RF (σ : Store) (x : Nat) (L : List ((Int × Int) × Int)) (c : Nat) (own : Option Nat) : Prop := σ x = some (.row [.fz 3 (L.map oc) c own] 0) ∧ OwnOk σ 3 L.length c own
/-- All but x and the leave is kept; x holds L. -/
def RS (σ : Store) (x : Nat) (own : Option Nat) (L : List ((Int × Int) × Int)) (σ' : Store) : Prop :=
  ∃ c' own', RF σ' x L c' own' ∧ (∀ k o, k ≠ x → own ≠ some k → σ k = some o → σ' k = some o) ∧ Newly σ own own'
theorem RS.refl {σ : Store} {x : Nat} {L : List ((Int × Int) × Int)} {c : Nat} {own : Option Nat} (h : RF σ x L c own) : RS σ x own L σ := ⟨c, own, h, fun _ _ _ _ h => h, fun _ h => .inl h⟩
theorem RS.trans {σ σ1 σ2 : Store} {x c1 : Nat} {own own1 : Option Nat} {L1 L2 : List ((Int × Int) × Int)} (h : RF σ1 x L1 c1 own1) (hk : ∀ k o, k ≠ x → own ≠ some k → σ k = some o → σ1 k = some o) (hn : Newly σ own own1)
    (k : RS σ1 x own1 L2 σ2) : RS σ x own L2 σ2 := by
  obtain ⟨c2, own2, a, b, d⟩ := k
  refine ⟨c2, own2, a, fun i o hx ho hi => b i o hx (fun e => ?_) (hk i o hx ho hi), fun o ho => ?_⟩
  · rcases hn i e with q | q
    · exact ho q
    · rw [q] at hi; cases hi
  · rcases d o ho with q | q
    · exact hn o q
    · by_cases e : own = some o
      · exact .inl e
      · cases hs : σ o with
        | none => exact .inr rfl
        | some w =>
          by_cases ex : o = x
          · rw [ex, h.1] at q; cases q
          · rw [hk o w ex e hs] at q; cases q
/-- An append, and the store. -/
theorem RS.app {σ1 σ2 : Store} {x c1 : Nat} {own1 : Option Nat} {L1 L2 : List ((Int × Int) × Int)} {c2 : Nat} {own2 : Option Nat} (h1 : RF σ1 x L1 c1 own1)
    (ho : OwnOk σ2 3 (L2.map oc).length c2 own2) (hg : Kept σ1 σ2 own1) (hn : Newly σ1 own1 own2) : RS σ1 x own1 L2 (σ2.set x (.row [.fz 3 (L2.map oc) c2 own2] 0)) := by
  refine ⟨c2, own2, ⟨by simp, by simpa using ho.1, fun o q => ?_⟩, fun k o hkx hu hko => ?_, hn⟩
  · have hox : o ≠ x := by
      rintro rfl
      rcases hn o q with e | e
      · have := h1.2.2 o e; rw [h1.1] at this; simp at this
      · rw [h1.1] at e; cases e
    rw [Store.get_set_ne _ _ hox]; simpa using ho.2 o q
  · rw [Store.get_set_ne _ _ hkx]; exact hg k o hu hko
theorem RF.ne {σ : Store} {x c : Nat} {own : Option Nat} {L : List ((Int × Int) × Int)} (h : RF σ x L c own) : own ≠ some x := fun e => by have := h.2.2 x e; rw [h.1] at this; simp at this

theorem drop_do (i : Nat) (hi : i < L.length) (hn : L.length ≤ 1024) (h : RF σ x L c own) :
    VCalls PT 20 [.ptr x 0, .int .i64 i] σ (fun v σ' => v = .tup [] ∧ RS σ x none (L.eraseIdx i) σ') := by
  have h' := h
  obtain ⟨h1, h2⟩ := h
  have h1' := Store.rd_row h1
  refine vcalls_of ck20 (fun _ hok => ?_)
  have hc := (hok.row h1' _ (List.mem_singleton.2 rfl)).fzc
  rw [List.length_map] at hc
  simp only [vsA, arith, cmpI, ldK, V.flat, V.one, V.cells, ↓reduceIte, reduceCtorEq, Nat.reduceEqDiff, Nat.reduceLeDiff, Nat.reduceAdd, Nat.reduceMul, fill, vc20, h1', wrap_succ (show i ≤ 140737488355328 by omega)]
  refine ⟨by omega, by omega, by omega, by omega, ?_⟩
  refine v_app (xs := []) (ys := (L.map oc).take i) rfl (by simp [elems, e_put, e_s]) (by simp; omega) ⟨fun _ => rfl, by simp⟩ ?_
  intro c1 own1 σ1 ho1 hg1 hn1
  simp only [vsA, arith, cmpI, ldK, V.flat, V.one, V.cells, ↓reduceIte, reduceCtorEq, Nat.reduceEqDiff, Nat.reduceLeDiff, Nat.reduceAdd, Nat.reduceMul, fill]
  refine ⟨hg1.le, ?_⟩
  refine v_app (ys := (L.map oc).drop (i + 1)) rfl (by simp [elems, e_put, e_s]; rw [List.take_of_length_le (by simp)]) (by simp; omega) ho1 ?_
  intro c2 own2 σ2 ho2 hg2 hn2
  have hx1 := hg1 x _ (by simp) h1
  have hne : own1 ≠ some x := fun e => by rcases hn1 x e with q | q; cases q; rw [h1] at q; cases q
  have hx2 := hg2 x _ hne hx1
  simp only [vsA, arith, cmpI, ldK, V.flat, V.one, V.cells, ↓reduceIte, reduceCtorEq, Nat.reduceEqDiff, Nat.reduceLeDiff, Nat.reduceAdd, Nat.reduceMul, fill, hx2]
  have hL : (L.map oc).take i ++ (L.map oc).drop (i + 1) = (L.eraseIdx i).map oc := by
    rw [List.eraseIdx_eq_take_drop_succ]; simp
  rw [hL] at ho2 ⊢
  have hn12 : Newly σ none own2 := fun o q => by
    rcases hn2 o q with e | e
    · exact hn1 o e
    · cases hs : σ o with
      | none => exact .inr rfl
      | some w => rw [hg1 o w (by simp) hs] at e; cases e
  refine Rets.of (R := fun v σ' => v = .tup [] ∧ RS σ x none (L.eraseIdx i) σ') ⟨rfl, ⟨c2, own2, ⟨by simp, by simpa using ho2.1, fun o q => ?_⟩, fun k o hkx _ hk => ?_, hn12⟩⟩
  · have hox : o ≠ x := by rintro rfl; have := ho2.2 o q; rw [hx2] at this; simp at this
    rw [Store.get_set_ne _ _ hox]; simpa using ho2.2 o q
  · rw [Store.get_set_ne _ _ hkx]
    refine hg2 k o (fun e => ?_) (hg1 k o (by simp) hk)
    rcases hn1 k e with q | q
    · cases q
    · rw [hk] at q; cases q
end other
end Go.Vm.T10
