/-
  Timers: what is due.
-/
import Derived.Test.YtbbkgjkknjpmcaaT10f
import Derived.Test.YtbbkgjkknjpmcaaT10s
import Derived.Test.YtbbkgjkknjpmcaaSort8
import Derived.Test.YtbbkgjkknjpmcaaVm23
set_option linter.unusedSimpArgs false
set_option linter.unusedVariables false
set_option linter.unusedSectionVars false
namespace Go.Vm.T10
open Go Go.Vm Go.Vm.Srt Go.Sort

def dk (x : List V) : Int × Int := match x with | [.int _ a, .int _ b] => (a, b) | _ => (0, 0)
theorem dk_kv (k : Int × Int) : dk (kv k) = k := rfl
def tcf (M : TL) (x y : List V) : Int := kcmp M (dk x) (dk y)
def IsK (x : List V) : Prop := ∃ k, x = kv k
def bef (M : TL) (x y : Int × Int) : Bool := before (x, (lk x M).getD 0) (y, (lk y M).getD 0)
theorem icmp_lt (a b : Int) : icmp a b < 0 ↔ a < b := by
  unfold icmp; split
  · simp_all
  · split <;> simp_all
theorem icmp_ne (a b : Int) : icmp a b ≠ 0 ↔ a ≠ b := by
  unfold icmp; split
  · simp_all; omega
  · split
    · simp_all; omega
    · simp_all; omega
theorem kcmp_bef (M : TL) (x y : Int × Int) : decide (kcmp M x y < 0) = bef M x y := by
  have h1 := icmp_ne ((lk x M).getD 0) ((lk y M).getD 0)
  have h1' := icmp_lt ((lk x M).getD 0) ((lk y M).getD 0)
  have h2 := icmp_ne x.1 y.1
  have h2' := icmp_lt x.1 y.1
  have h3 := icmp_ne x.2 y.2
  have h3' := icmp_lt x.2 y.2
  unfold kcmp ior bef before
  simp only [List.find?_cons, List.find?_nil]
  generalize (lk x M).getD 0 = X at *
  generalize (lk y M).getD 0 = Y at *
  generalize icmp X Y = A at *
  generalize icmp x.1 y.1 = B at *
  generalize icmp x.2 y.2 = C at *
  by_cases hA : A = 0 <;> by_cases hB : B = 0 <;> by_cases hC : C = 0 <;> simp_all
theorem before_trans {p q r : (Int × Int) × Int} (h : before p q = true) (k : before q r = true) : before p r = true := by
  obtain ⟨⟨a, b⟩, c⟩ := p; obtain ⟨⟨a', b'⟩, c'⟩ := q; obtain ⟨⟨a'', b''⟩, c''⟩ := r
  simp only [before] at *
  split at h <;> split at k <;> split <;> (try split at h) <;> (try split at k) <;> (try split) <;> simp at * <;> omega
theorem before_ntrans {p q r : (Int × Int) × Int} (h : before p q = false) (k : before q r = false) : before p r = false := by
  obtain ⟨⟨a, b⟩, c⟩ := p; obtain ⟨⟨a', b'⟩, c'⟩ := q; obtain ⟨⟨a'', b''⟩, c''⟩ := r
  simp only [before] at *
  split at h <;> split at k <;> split <;> (try split at h) <;> (try split at k) <;> (try split) <;> simp at * <;> omega
theorem ltc_tcf (M : TL) (x y : List V) : ltc (tcf M) x y = bef M (dk x) (dk y) := kcmp_bef M _ _
theorem swo_tcf (M : TL) : SWO (ltc (tcf M)) where
  irrefl x := by rw [ltc_tcf]; exact before_irr _
  trans x y z h k := by rw [ltc_tcf] at *; exact before_trans h k
  ntrans x y z h k := by rw [ltc_tcf] at *; exact before_ntrans h k
theorem cmp_ok {σ : Store} {b m rb : Nat} {M : TL} {clk : Nat} (h1 : σ b = some (.row [.mp m] 0)) (h2 : σ m = some (.map (menc kk vi M) clk)) (hb : b ≠ rb) (hm : m ≠ rb) : CmpOk PT rb σ IsK (tcf M) 22 [.ptr b 0] [] := by
  rintro σ' hk x y ⟨x, rfl⟩ ⟨y, rfl⟩
  exact compare_do x y (Store.rd_row (hk b _ hb h1)) (Store.rd_map (hk m _ hm h2))

/-- Behind a sort: what lies there. -/
theorem sorted_rows {M D : TL} {d' : Row} (hnd : (M.map (·.1)).Nodup) (hD : ∀ p ∈ D, p ∈ M) (hp : PermIn 0 D.length ((D.map fun p => kv p.1).toArray) d') (hs : SortedIn (ltc (tcf M)) 0 D.length d') :
    ∃ D2 : TL, D2.Perm D ∧ d'.toList = D2.map (fun p => kv p.1) ∧ D2.Pairwise (fun p q => before q p = false) := by
  let g := fun x : List V => (dk x, (lk (dk x) M).getD 0)
  have hg : ∀ p ∈ D, g (kv p.1) = p := fun p hp => by
    simp only [g, dk_kv, (lk_mem hnd p.1 p.2).2 (hD p hp), Option.getD_some]
  have hsz : d'.size = D.length := by have := hp.1; simpa using this
  have hperm : d'.toList.Perm (D.map fun p => kv p.1) := by
    have h1 : d'.extract 0 D.length = d' := by rw [← hsz]; simp
    have h2 : ((D.map fun p => kv p.1).toArray.extract 0 D.length).toList = D.map fun p => kv p.1 := by
      simp [List.take_of_length_le]
    have := hp.2.2
    rw [h1, h2] at this
    exact this
  have hmem : ∀ x ∈ d'.toList, ∃ p ∈ D, x = kv p.1 := fun x hx => by
    obtain ⟨p, hp, e⟩ := List.mem_map.1 (hperm.mem_iff.1 hx)
    exact ⟨p, hp, e.symm⟩
  refine ⟨d'.toList.map g, ?_, ?_, ?_⟩
  · have h1 := hperm.map g
    have h2 : (D.map fun p => kv p.1).map g = D := by
      rw [List.map_map]
      conv => rhs; rw [← List.map_id D]
      exact List.map_congr_left hg
    rw [h2] at h1; exact h1
  · rw [List.map_map]
    conv => lhs; rw [← List.map_id d'.toList]
    apply List.map_congr_left
    intro x hx
    obtain ⟨p, hp, rfl⟩ := hmem x hx
    show kv p.1 = kv (g (kv p.1)).1
    rw [hg p hp]
  · rw [List.pairwise_map, List.pairwise_iff_getElem]
    intro i j hi hj hij
    have hi' : i < d'.size := by simpa using hi
    have hj' : j < d'.size := by simpa using hj
    have := hs i j (by omega) hij (by omega)
    rw [ltc_tcf] at this
    have e1 : d'[i]! = d'.toList[i] := by simp [hi']
    have e2 : d'[j]! = d'.toList[j] := by simp [hj']
    rw [e1, e2] at this
    exact this

section
variable {σ : Store} {b m : Nat} {M : TL} {clk : Nat}

theorem flatMap_kv_len (D : TL) : (D.flatMap fun p => kv p.1).length = D.length * 2 := by
  induction D with
  | nil => rfl
  | cons p D ih => rw [List.flatMap_cons, List.length_append, ih]; simp [kv]; omega
theorem flatMap_kv (D : TL) : (D.flatMap fun p => kv p.1) = flat ((D.map fun p => kv p.1).toArray) := by
  simp [flat, List.flatMap]

/-- The keys that are collected, as they lie. -/
def Coll (σ1 σ' : Store) (D : TL) (v : V) : Prop :=
  (D = [] ∧ v = .fz 2 [] 0 none ∧ σ' = σ1) ∨ (D ≠ [] ∧ ∃ rb c sl, v = .sl rb 0 D.length c ∧ D.length ≤ c ∧ sl = (c - D.length) * 2 ∧ σ1 rb = none ∧ σ' = σ1.set rb (.row (D.flatMap fun p => kv p.1) sl))
theorem del_filter {k : Int × Int} {M : TL} {p : (Int × Int) × Int → Bool} : del k (M.filter p) = M.filter (fun q => p q && decide (q.1 ≠ k)) := by
  unfold del; rw [List.filter_filter]; congr 1; funext q; rw [Bool.and_comm]
theorem due_parts {M D2 : TL} {now : Int} (hnd : (M.map (·.1)).Nodup) (h : D2.Perm (M.filter fun p => decide (p.2 ≤ now))) (hpw : D2.Pairwise (fun p q => before q p = false)) :
    IsDue now M D2 (M.filter fun q => decide (q.1 ∉ D2.map (·.1))) := by
  have hM : M.filter (fun q => decide (q.1 ∉ D2.map (·.1))) = M.filter (fun p => !decide (p.2 ≤ now)) := by
    apply List.filter_congr
    intro p hp
    by_cases hle : p.2 ≤ now
    · have : p.1 ∈ D2.map (·.1) := List.mem_map_of_mem (h.mem_iff.2 (List.mem_filter.2 ⟨hp, by simpa using hle⟩))
      simp only [hle, decide_true, Bool.not_true, decide_eq_false_iff_not]; exact fun h => h this
    · have : p.1 ∉ D2.map (·.1) := fun hm => by
        obtain ⟨q, hq, e⟩ := List.mem_map.1 hm
        have hq' := List.mem_filter.1 (h.mem_iff.1 hq)
        have h1 := (lk_mem hnd q.1 q.2).2 hq'.1
        have h2 := (lk_mem hnd p.1 p.2).2 hp
        rw [e, h2] at h1
        have h1 : p.2 = q.2 := by simpa using h1
        have := hq'.2; simp at this; omega
      simp only [hle, decide_false, Bool.not_false, decide_eq_true_eq]; exact this
  refine ⟨?_, hpw, fun p hp => ?_, fun p hp => ?_⟩
  · rw [hM]
    exact (h.append_right _).trans (List.filter_append_perm _ _)
  · have := (List.mem_filter.1 (h.mem_iff.1 hp)).2; simpa using this
  · rw [hM] at hp
    have := (List.mem_filter.1 hp).2; simp at this; omega

set_option maxHeartbeats 1000000 in
theorem due_do (now : Int) (h : TM σ b m M) (hn : M.length ≤ 1024) :
    VCalls PT 12 [.ptr b 0, .int .i64 now] σ (fun v σ' => ∃ D L', IsDue now M D L' ∧ (∃ c own, v = .fz 2 (D.map fun p => kv p.1) c own) ∧ TS σ m L' σ') := by
  obtain ⟨h1, clk, h2⟩ := h
  have hbm : b ≠ m := by rintro rfl; rw [h1] at h2; cases h2
  have h1' := Store.rd_row h1
  have h2' := Store.rd_map h2
  refine vcalls_of ck12 (fun _ hok => ?_)
  have hnd := nodup_menc (hok.map h2').1
  obtain ⟨R, hR⟩ : ∃ R : V → Store → Prop, R = (fun v σ' => ∃ D L', IsDue now M D L' ∧ (∃ c own, v = .fz 2 (D.map fun p => kv p.1) c own) ∧ TS σ m L' σ') := ⟨_, rfl⟩
  rw [← hR]
  simp only [vsA, arith, cmpI, ldK, V.flat, V.one, V.cells, ↓reduceIte, reduceCtorEq, Nat.reduceEqDiff, Nat.reduceLeDiff, Nat.reduceAdd, Nat.reduceMul, fill, vc12, vc12_1, vc12_2, vc12_3, vc12_7, h1']
  refine v_range' (r := m) (by simp only [vsA, arith, cmpI, ldK, V.flat, V.one, V.cells, ↓reduceIte, reduceCtorEq, Nat.reduceEqDiff, Nat.reduceLeDiff, Nat.reduceAdd, Nat.reduceMul, fill]) h2 (fun it hit => ?_)
  have him : it ≠ m := by rintro rfl; rw [h2] at hit; cases hit
  have hib : it ≠ b := by rintro rfl; rw [h1] at hit; cases hit
  simp only [vsA, arith, cmpI, ldK, V.flat, V.one, V.cells, ↓reduceIte, reduceCtorEq, Nat.reduceEqDiff, Nat.reduceLeDiff, Nat.reduceAdd, Nat.reduceMul, fill, vc12, vc12_1, vc12_2, vc12_3, vc12_7]
  have fin : ∀ (env : Env) (σ' : Store) (D2 : TL) (v : V), env 0 = .ptr b 0 → env 5 = v → D2.Perm (M.filter fun p => decide (p.2 ≤ now)) → D2.Pairwise (fun p q => before q p = false) →
      (∃ s, Coll (σ.set it (.iter (some m) clk s)) σ' D2 v) → vwp PT vc12_5 (vend [4] (Rets R)) env σ' := by
    intro env σ' D2 v e0 e5 hD2 hpw hcoll
    have hdue := due_parts hnd hD2 hpw
    have hlen : D2.length ≤ 1024 := by rw [hD2.length_eq]; exact Nat.le_trans (List.length_filter_le _ _) hn
    obtain ⟨s, hcoll⟩ := hcoll
    rcases hcoll with ⟨rfl, rfl, hσ'⟩ | ⟨hne, rb, c, sl, rfl, hc, hsl, hrb, hσ'⟩
    · simp only [vsA, arith, cmpI, ldK, V.flat, V.one, V.cells, ↓reduceIte, reduceCtorEq, Nat.reduceEqDiff, Nat.reduceLeDiff, Nat.reduceAdd, Nat.reduceMul, fill, vc12, vc12_1, vc12_2, vc12_3, vc12_4, vc12_5, vc12_6, vc12_7, e0, e5]
      refine w_loop (fun env' σ2 => σ2 = σ' ∧ env' 34 = .int .i64 0 ∧ env' 35 = .int .i64 0 ∧ env' 5 = .fz 2 [] 0 none) (fun _ _ => 0) ⟨rfl, by simp only [vsA, arith, cmpI, ldK, V.flat, V.one, V.cells, ↓reduceIte, reduceCtorEq, Nat.reduceEqDiff, Nat.reduceLeDiff, Nat.reduceAdd, Nat.reduceMul, fill]; rfl, by simp only [vsA, arith, cmpI, ldK, V.flat, V.one, V.cells, ↓reduceIte, reduceCtorEq, Nat.reduceEqDiff, Nat.reduceLeDiff, Nat.reduceAdd, Nat.reduceMul, fill], by simp only [vsA, arith, cmpI, ldK, V.flat, V.one, V.cells, ↓reduceIte, reduceCtorEq, Nat.reduceEqDiff, Nat.reduceLeDiff, Nat.reduceAdd, Nat.reduceMul, fill, e5]⟩ ?_
      rintro env' σ2 ⟨hσ2, e34, e35, e5'⟩
      subst hσ2
      simp only [vsA, arith, cmpI, ldK, V.flat, V.one, V.cells, ↓reduceIte, reduceCtorEq, Nat.reduceEqDiff, Nat.reduceLeDiff, Nat.reduceAdd, Nat.reduceMul, fill, vc12, vc12_1, vc12_2, vc12_3, vc12_4, vc12_5, vc12_6, vc12_7, e34, e35, e5', show decide ((0 : Int) < 0) = false from rfl]
      refine Rets.le (σ' := σ) ?_ ?_
      · rw [hσ']; exact Store.le_set _ _ hit
      · rw [hR]
        refine ⟨[], M, ?_, ⟨0, none, rfl⟩, clk, (Store.set_same _ h2).symm⟩
        have : M.filter (fun q => decide (q.1 ∉ ([] : TL).map (·.1))) = M := by simp
        rw [this] at hdue; exact hdue
    · have hrm : rb ≠ m := by rintro rfl; rw [Store.get_set_ne _ _ him.symm, h2] at hrb; cases hrb
      have hrb' : rb ≠ b := by rintro rfl; rw [Store.get_set_ne _ _ hib.symm, h1] at hrb; cases hrb
      have hri : rb ≠ it := by rintro rfl; simp at hrb
      rw [flatMap_kv] at hσ'
      have hal : AllLen 2 ((D2.map fun p => kv p.1).toArray) := by
        intro x hx
        simp at hx
        obtain ⟨_, _, _, rfl⟩ := hx; rfl
      simp only [vsA, arith, cmpI, ldK, V.flat, V.one, V.cells, ↓reduceIte, reduceCtorEq, Nat.reduceEqDiff, Nat.reduceLeDiff, Nat.reduceAdd, Nat.reduceMul, fill, vc12, vc12_1, vc12_2, vc12_3, vc12_4, vc12_5, vc12_6, vc12_7, e0, e5]
      refine w_loop (fun env' σ2 => ∃ (i clk' : Nat), env' 0 = .ptr b 0 ∧ env' 33 = .sl rb 0 D2.length c ∧ env' 34 = .int .i64 D2.length ∧ env' 35 = .int .i64 i ∧ env' 5 = .sl rb 0 D2.length c ∧ i ≤ D2.length ∧
          σ2 = σ'.set m (.map (menc kk vi (M.filter fun q => decide (q.1 ∉ (D2.take i).map (·.1)))) clk'))
        (fun env' _ => D2.length - (env' 35).nat) ⟨0, clk, by simp only [vsA, arith, cmpI, ldK, V.flat, V.one, V.cells, ↓reduceIte, reduceCtorEq, Nat.reduceEqDiff, Nat.reduceLeDiff, Nat.reduceAdd, Nat.reduceMul, fill, e0], by simp only [vsA, arith, cmpI, ldK, V.flat, V.one, V.cells, ↓reduceIte, reduceCtorEq, Nat.reduceEqDiff, Nat.reduceLeDiff, Nat.reduceAdd, Nat.reduceMul, fill], by simp only [vsA, arith, cmpI, ldK, V.flat, V.one, V.cells, ↓reduceIte, reduceCtorEq, Nat.reduceEqDiff, Nat.reduceLeDiff, Nat.reduceAdd, Nat.reduceMul, fill], by simp only [vsA, arith, cmpI, ldK, V.flat, V.one, V.cells, ↓reduceIte, reduceCtorEq, Nat.reduceEqDiff, Nat.reduceLeDiff, Nat.reduceAdd, Nat.reduceMul, fill]; rfl, by simp only [vsA, arith, cmpI, ldK, V.flat, V.one, V.cells, ↓reduceIte, reduceCtorEq, Nat.reduceEqDiff, Nat.reduceLeDiff, Nat.reduceAdd, Nat.reduceMul, fill, e5], by omega, ?_⟩ ?_
      · refine (Store.set_same _ ?_).symm
        rw [hσ', Store.get_set_ne _ _ hrm.symm, Store.get_set_ne _ _ him.symm, h2]
        congr 3; symm; rw [List.filter_eq_self]; simp
      rintro env' σ2 ⟨i, clk', f0, f33, f34, f35, f5, hi, hσ2⟩
      by_cases hlt : i < D2.length
      · have hd : decide ((i : Int) < (D2.length : Int)) = true := by simp; omega
        have g1 : (0 : Int) ≤ (i : Int) := by omega
        have g2 : (i : Int) < (D2.length : Int) := by omega
        have hrow : σ2.rd rb = some (.row (flat ((D2.map fun p => kv p.1).toArray)) sl) := by
          apply Store.rd_row
          rw [hσ2, Store.get_set_ne _ _ hrm, hσ']; simp
        have hb2 : σ2.rd b = some (.row [.mp m] 0) := by
          apply Store.rd_row
          rw [hσ2, Store.get_set_ne _ _ hbm, hσ', Store.get_set_ne _ _ hrb'.symm, Store.get_set_ne _ _ hib.symm]; exact h1
        have hm2 : σ2 m = some (.map (menc kk vi (M.filter fun q => decide (q.1 ∉ (D2.take i).map (·.1)))) clk') := by rw [hσ2]; simp
        have hisz : i < (D2.map fun p => kv p.1).toArray.size := by simpa using hlt
        have hget : ((D2.map fun p => kv p.1).toArray)[i]! = kv D2[i].1 := by simp [hlt]
        simp only [vsA, arith, cmpI, ldK, V.flat, V.one, V.cells, ↓reduceIte, reduceCtorEq, Nat.reduceEqDiff, Nat.reduceLeDiff, Nat.reduceAdd, Nat.reduceMul, fill, vc12, vc12_1, vc12_2, vc12_3, vc12_4, vc12_5, vc12_6, vc12_7, f0, f33, f34, f35, hd, decide_true, g1, g2, hrow, le_flat hal hisz, get_flat hal hisz, hget]
        refine v_var (v := .agg (kv D2[i].1)) (by simp only [vsA, arith, cmpI, ldK, V.flat, V.one, V.cells, ↓reduceIte, reduceCtorEq, Nat.reduceEqDiff, Nat.reduceLeDiff, Nat.reduceAdd, Nat.reduceMul, fill]) rfl rfl (by intro h; cases h) rfl rfl rfl ?_
        simp only [vsA, arith, cmpI, ldK, V.flat, V.one, V.cells, ↓reduceIte, reduceCtorEq, Nat.reduceEqDiff, Nat.reduceLeDiff, Nat.reduceAdd, Nat.reduceMul, fill, vc12, vc12_1, vc12_2, vc12_3, vc12_4, vc12_5, vc12_6, vc12_7, f0, f33, f34, f35, hb2, hm2, kv_len, kv_take, key_ok, keys_ok, del_kk, wrap_succ (show i ≤ 140737488355328 by omega), nat_int]
        refine ⟨⟨i + 1, rfl, f5, by omega, clk', ?_⟩, by omega⟩
        · rw [hσ2, Store.set_set, del_filter]
          have hf : (fun q : (Int × Int) × Int => decide (q.1 ∉ (D2.take i).map (·.1)) && decide (q.1 ≠ D2[i].1)) = fun q => decide (q.1 ∉ (D2.take (i + 1)).map (·.1)) := by
            funext q
            rw [← List.take_append_getElem hlt, List.map_append]
            simp [List.mem_append]
          rw [hf]
      · have hd : decide ((i : Int) < (D2.length : Int)) = false := by simp; omega
        simp only [vsA, arith, cmpI, ldK, V.flat, V.one, V.cells, ↓reduceIte, reduceCtorEq, Nat.reduceEqDiff, Nat.reduceLeDiff, Nat.reduceAdd, Nat.reduceMul, fill, vc12, vc12_1, vc12_2, vc12_3, vc12_4, vc12_5, vc12_6, vc12_7, f0, f33, f34, f35, f5, hd]
        have hi' : i = D2.length := by omega
        subst hi'
        rw [List.take_length] at hσ2
        have hrow : σ2 rb = some (.row (flat ((D2.map fun p => kv p.1).toArray)) sl) := by
          rw [hσ2, Store.get_set_ne _ _ hrm, hσ']; simp
        refine Rets.freeze (e := 2) hrow (by rw [Srt.flat_len hal]; simp) ?_
        refine Rets.le (σ' := σ.set m (.map (menc kk vi (M.filter fun q => decide (q.1 ∉ D2.map (·.1)))) clk')) ?_ ?_
        · intro k o hk
          have hkr : k ≠ rb := by
            rintro rfl
            rw [Store.get_set_ne _ _ hrm] at hk
            rw [Store.get_set_ne _ _ hri, hk] at hrb; cases hrb
          have hki : k ≠ it := by
            rintro rfl
            rw [Store.get_set_ne _ _ him, hit] at hk; cases hk
          rw [Store.get_erase_ne _ hkr, hσ2]
          by_cases hkm : k = m
          · subst hkm; simp at hk ⊢; exact hk
          · rw [Store.get_set_ne _ _ hkm] at hk ⊢
            rw [hσ', Store.get_set_ne _ _ hkr, Store.get_set_ne _ _ hki]; exact hk
        · rw [hR]
          refine ⟨D2, _, hdue, ⟨c, none, ?_⟩, clk', rfl⟩
          congr 1
          apply List.ext_getElem
          · simp
          · intro j hj1 hj2
            have hj : j < D2.length := by simpa using hj1
            have hjsz : j < (D2.map fun p => kv p.1).toArray.size := by simpa using hj
            simp only [List.getElem_map, List.getElem_range]
            rw [get_flat hal hjsz]; simp [hj]
  -- the sort
  have sorted : ∀ (env : Env) (σ' : Store) (D : TL) (v : V) (s : List V), env 0 = .ptr b 0 → env 5 = v → D.Perm (M.filter fun p => decide (p.2 ≤ now)) → Coll (σ.set it (.iter (some m) clk s)) σ' D v → vwp PT vc12_4 (vend [4] (Rets R)) env σ' := by
    intro env σ' D v s e0 e5 hD hcoll
    have hDM : ∀ p ∈ D, p ∈ M := fun p hp => (List.mem_filter.1 (hD.mem_iff.1 hp)).1
    have hlen : D.length ≤ 1024 := by rw [hD.length_eq]; exact Nat.le_trans (List.length_filter_le _ _) hn
    rcases hcoll with ⟨rfl, rfl, hσ'⟩ | ⟨hne, rb, c, sl, rfl, hc, hsl, hrb, hσ'⟩
    · simp only [vsA, arith, cmpI, ldK, V.flat, V.one, V.cells, ↓reduceIte, reduceCtorEq, Nat.reduceEqDiff, Nat.reduceLeDiff, Nat.reduceAdd, Nat.reduceMul, fill, vc12, vc12_1, vc12_2, vc12_3, vc12_4, vc12_6, vc12_7, e0, e5]
      refine call_f (vs := [.fz 2 [] 0 none, .fn 22 [.ptr b 0] []]) (by simp only [vsA, arith, cmpI, ldK, V.flat, V.one, V.cells, ↓reduceIte, reduceCtorEq, Nat.reduceEqDiff, Nat.reduceLeDiff, Nat.reduceAdd, Nat.reduceMul, fill]) (sort0_do sortLays _ rfl _) ?_
      rintro v σ1 ⟨rfl, rfl⟩ _ _
      simp only [vsA, arith, cmpI, ldK, V.flat, V.one, V.cells, ↓reduceIte, reduceCtorEq, Nat.reduceEqDiff, Nat.reduceLeDiff, Nat.reduceAdd, Nat.reduceMul, fill, vc12, vc12_1, vc12_2, vc12_3, vc12_4, vc12_6, vc12_7]
      exact fin _ _ [] _ (by simp only [vsA, arith, cmpI, ldK, V.flat, V.one, V.cells, ↓reduceIte, reduceCtorEq, Nat.reduceEqDiff, Nat.reduceLeDiff, Nat.reduceAdd, Nat.reduceMul, fill, e0]) (by simp only [vsA, arith, cmpI, ldK, V.flat, V.one, V.cells, ↓reduceIte, reduceCtorEq, Nat.reduceEqDiff, Nat.reduceLeDiff, Nat.reduceAdd, Nat.reduceMul, fill, e5]) hD .nil ⟨s, .inl ⟨rfl, rfl, hσ'⟩⟩
    · have hrm : rb ≠ m := by rintro rfl; rw [Store.get_set_ne _ _ him.symm, h2] at hrb; cases hrb
      have hrb' : rb ≠ b := by rintro rfl; rw [Store.get_set_ne _ _ hib.symm, h1] at hrb; cases hrb
      rw [flatMap_kv] at hσ'
      have hcmp : CmpOk PT rb σ' IsK (tcf M) 22 [.ptr b 0] [] := by
        refine cmp_ok (clk := clk) ?_ ?_ hrb'.symm hrm.symm
        · rw [hσ', Store.get_set_ne _ _ hrb'.symm, Store.get_set_ne _ _ hib.symm]; exact h1
        · rw [hσ', Store.get_set_ne _ _ hrm.symm, Store.get_set_ne _ _ him.symm]; exact h2
      have hrow : RowOk 2 rb σ' σ' IsK ((D.map fun p => kv p.1).toArray) sl := ⟨by rw [hσ']; simp, fun x hx => by
        simp at hx
        obtain ⟨a, a', _, rfl⟩ := hx; exact ⟨_, rfl⟩, fun _ _ _ h => h⟩
      simp only [vsA, arith, cmpI, ldK, V.flat, V.one, V.cells, ↓reduceIte, reduceCtorEq, Nat.reduceEqDiff, Nat.reduceLeDiff, Nat.reduceAdd, Nat.reduceMul, fill, vc12, vc12_1, vc12_2, vc12_3, vc12_4, vc12_6, vc12_7, e0, e5]
      refine call_f (vs := [.sl rb 0 ((D.map fun p => kv p.1).toArray).size c, .fn 22 [.ptr b 0] []]) (by simp only [vsA, arith, cmpI, ldK, V.flat, V.one, V.cells, ↓reduceIte, reduceCtorEq, Nat.reduceEqDiff, Nat.reduceLeDiff, Nat.reduceAdd, Nat.reduceMul, fill]; simp)
        (sort_do sortLays (fun x ⟨k, hk⟩ => by rw [hk]; rfl) hcmp (swo_tcf M) hrow (by simp; omega)) ?_
      rintro v σ1 ⟨rfl, d', hperm, hsort, hσ1, hr1⟩ _ _
      simp only [List.size_toArray, List.length_map] at hperm hsort
      obtain ⟨D2, hD2, hd', hpw⟩ := sorted_rows hnd hDM hperm hsort
      simp only [vsA, arith, cmpI, ldK, V.flat, V.one, V.cells, ↓reduceIte, reduceCtorEq, Nat.reduceEqDiff, Nat.reduceLeDiff, Nat.reduceAdd, Nat.reduceMul, fill, vc12, vc12_1, vc12_2, vc12_3, vc12_4, vc12_6, vc12_7]
      refine fin _ _ D2 (.sl rb 0 D.length c) (by simp only [vsA, arith, cmpI, ldK, V.flat, V.one, V.cells, ↓reduceIte, reduceCtorEq, Nat.reduceEqDiff, Nat.reduceLeDiff, Nat.reduceAdd, Nat.reduceMul, fill, e0]) (by simp only [vsA, arith, cmpI, ldK, V.flat, V.one, V.cells, ↓reduceIte, reduceCtorEq, Nat.reduceEqDiff, Nat.reduceLeDiff, Nat.reduceAdd, Nat.reduceMul, fill, e5]) (hD2.trans hD) hpw ⟨s, .inr ⟨?_, rb, c, sl, ?_, ?_, ?_, hrb, ?_⟩⟩
      · intro hh; subst hh; have := hD2.length_eq; simp at this; exact hne (List.eq_nil_of_length_eq_zero this.symm)
      · rw [hD2.length_eq]
      · rw [hD2.length_eq]; exact hc
      · rw [hD2.length_eq]; exact hsl
      · rw [hσ1, hσ', Store.set_set, flatMap_kv]
        have : flat d' = flat ((D2.map fun p => kv p.1).toArray) := by unfold flat; rw [hd']
        rw [this]
  -- the entries
  refine w_loop (fun env' σ' => ∃ (seen : List (Int × Int)) (D : TL), env' 0 = .ptr b 0 ∧ env' 1 = .int .i64 now ∧ env' 16 = .ptr it 0 ∧ Coll (σ.set it (.iter (some m) clk (seen.map kk))) σ' D (env' 5) ∧ seen.Nodup ∧
      (∀ k ∈ seen, k ∈ M.map (·.1)) ∧ D.Nodup ∧ ∀ p, p ∈ D ↔ p ∈ M ∧ p.1 ∈ seen ∧ p.2 ≤ now)
    (fun _ σ' => M.length - seenN σ' it) ⟨[], [], by simp only [vsA, arith, cmpI, ldK, V.flat, V.one, V.cells, ↓reduceIte, reduceCtorEq, Nat.reduceEqDiff, Nat.reduceLeDiff, Nat.reduceAdd, Nat.reduceMul, fill], by simp only [vsA, arith, cmpI, ldK, V.flat, V.one, V.cells, ↓reduceIte, reduceCtorEq, Nat.reduceEqDiff, Nat.reduceLeDiff, Nat.reduceAdd, Nat.reduceMul, fill], by simp only [vsA, arith, cmpI, ldK, V.flat, V.one, V.cells, ↓reduceIte, reduceCtorEq, Nat.reduceEqDiff, Nat.reduceLeDiff, Nat.reduceAdd, Nat.reduceMul, fill], ?_, .nil, by simp, .nil, by simp⟩ ?_
  · refine .inl ⟨rfl, by simp only [vsA, arith, cmpI, ldK, V.flat, V.one, V.cells, ↓reduceIte, reduceCtorEq, Nat.reduceEqDiff, Nat.reduceLeDiff, Nat.reduceAdd, Nat.reduceMul, fill], rfl⟩
  rintro env' σ' ⟨seen, D, e0, e1, e16, hcoll, hsn, hsub, hDn, hDm⟩
  have hit' : σ' it = some (.iter (some m) clk (seen.map kk)) := by
    rcases hcoll with ⟨_, _, hσ'⟩ | ⟨_, rb, _, _, _, _, _, hrb, hσ'⟩
    · rw [hσ']; simp
    · have hri : it ≠ rb := by rintro rfl; simp at hrb
      rw [hσ', Store.get_set_ne _ _ hri]; simp
  have hmp : σ' m = some (.map (menc kk vi M) clk) := by
    rcases hcoll with ⟨_, _, hσ'⟩ | ⟨_, rb, _, _, _, _, _, hrb, hσ'⟩
    · rw [hσ', Store.get_set_ne _ _ him.symm]; exact h2
    · have hrm : rb ≠ m := by rintro rfl; rw [Store.get_set_ne _ _ him.symm, h2] at hrb; cases hrb
      rw [hσ', Store.get_set_ne _ _ hrm.symm, Store.get_set_ne _ _ him.symm]; exact h2
  have hnM : M.Nodup := nodup_of_map hnd
  simp only [vsA, arith, cmpI, ldK, V.flat, V.one, V.cells, ↓reduceIte, reduceCtorEq, Nat.reduceEqDiff, Nat.reduceLeDiff, Nat.reduceAdd, Nat.reduceMul, fill, vc12, vc12_1, vc12_2, vc12_3, vc12_7, e16]
  refine v_next' (es := menc kk vi M) (r := m) (since := clk) (seen := seen.map kk) (b := it) (by simp only [vsA, arith, cmpI, ldK, V.flat, V.one, V.cells, ↓reduceIte, reduceCtorEq, Nat.reduceEqDiff, Nat.reduceLeDiff, Nat.reduceAdd, Nat.reduceMul, fill, e16]) hit' hmp ?_ ?_
  · intro hall
    simp only [vsA, arith, cmpI, ldK, V.flat, V.one, V.cells, ↓reduceIte, reduceCtorEq, Nat.reduceEqDiff, Nat.reduceLeDiff, Nat.reduceAdd, Nat.reduceMul, fill, vc12, vc12_1, vc12_2, vc12_3, vc12_7]
    have hall' : ∀ p ∈ M, p.1 ∈ seen := fun p hp => by
      have := hall (kk p.1, vi p.2) (List.mem_map.2 ⟨p, hp, rfl⟩)
      obtain ⟨k, hk, e⟩ := List.mem_map.1 this
      rw [← kk_inj _ _ e]; exact hk
    refine sorted _ _ D _ (seen.map kk) (by simp only [vsA, arith, cmpI, ldK, V.flat, V.one, V.cells, ↓reduceIte, reduceCtorEq, Nat.reduceEqDiff, Nat.reduceLeDiff, Nat.reduceAdd, Nat.reduceMul, fill, e0]) rfl ?_ (by simp only [vsA, arith, cmpI, ldK, V.flat, V.one, V.cells, ↓reduceIte, reduceCtorEq, Nat.reduceEqDiff, Nat.reduceLeDiff, Nat.reduceAdd, Nat.reduceMul, fill]; exact hcoll)
    rw [List.perm_ext_iff_of_nodup hDn (hnM.filter _)]
    intro p
    rw [hDm, List.mem_filter]
    simp only [decide_eq_true_eq]
    exact ⟨fun ⟨h1, _, h3⟩ => ⟨h1, h3⟩, fun ⟨h1, h3⟩ => ⟨h1, hall' p h1, h3⟩⟩
  · intro k v hkv hns
    obtain ⟨p, hp, rfl, rfl⟩ := kent_mem hkv
    have hps : p.1 ∉ seen := fun hh => hns (List.mem_map_of_mem hh)
    simp only [vsA, arith, cmpI, ldK, V.flat, V.one, V.cells, ↓reduceIte, reduceCtorEq, Nat.reduceEqDiff, Nat.reduceLeDiff, Nat.reduceAdd, Nat.reduceMul, fill, vc12, vc12_1, vc12_2, vc12_3, vc12_7]
    refine v_entry' (es := menc kk vi M) (r := m) (since := clk) (seen := seen.map kk) (b := it) (by simp only [vsA, arith, cmpI, ldK, V.flat, V.one, V.cells, ↓reduceIte, reduceCtorEq, Nat.reduceEqDiff, Nat.reduceLeDiff, Nat.reduceAdd, Nat.reduceMul, fill, e16]) (by simp) (by rw [Store.get_set_ne _ _ him.symm]; exact hmp) hkv ?_
    simp only [vsA, arith, cmpI, ldK, V.flat, V.one, V.cells, ↓reduceIte, reduceCtorEq, Nat.reduceEqDiff, Nat.reduceLeDiff, Nat.reduceAdd, Nat.reduceMul, fill, vc12, vc12_1, vc12_2, vc12_3, vc12_7, vi]
    refine v_var (v := kk p.1) (by simp only [vsA, arith, cmpI, ldK, V.flat, V.one, V.cells, ↓reduceIte, reduceCtorEq, Nat.reduceEqDiff, Nat.reduceLeDiff, Nat.reduceAdd, Nat.reduceMul, fill]) rfl rfl (by intro h; cases h) rfl rfl rfl ?_
    have hlen : seen.length < M.length := by
      have hsub2 : (p.1 :: seen).length ≤ (M.map (·.1)).length := (List.nodup_cons.2 ⟨hps, hsn⟩).length_le_of_subset (fun k hk => by
        rcases List.mem_cons.1 hk with rfl | hk
        · exact List.mem_map_of_mem hp
        · exact hsub k hk)
      simp at hsub2; omega
    have hnd' : (p.1 :: seen).Nodup := List.nodup_cons.2 ⟨hps, hsn⟩
    have hsub' : ∀ k ∈ p.1 :: seen, k ∈ M.map (·.1) := fun k hk => by
      rcases List.mem_cons.1 hk with rfl | hk
      · exact List.mem_map_of_mem hp
      · exact hsub k hk
    have hms : seenN σ' it = seen.length := by simp [seenN, hit']
    have hDlen : D.length ≤ 1024 := by
      have : D.length ≤ M.length := hDn.length_le_of_subset (fun q hq => ((hDm q).1 hq).1)
      omega
    -- the store, the iterator one further
    have hcoll' : Coll (σ.set it (.iter (some m) clk ((p.1 :: seen).map kk))) (σ'.set it (.iter (some m) clk (.agg (kv p.1) :: seen.map kk))) D (env' 5) := by
      rcases hcoll with ⟨q1, q2, hσ'⟩ | ⟨q1, rb, c, sl, q2, q3, q4, hrb, hσ'⟩
      · exact .inl ⟨q1, q2, by rw [hσ', Store.set_set]; rfl⟩
      · have hri : rb ≠ it := by rintro rfl; simp at hrb
        refine .inr ⟨q1, rb, c, sl, q2, q3, q4, ?_, ?_⟩
        · rw [Store.get_set_ne _ _ hri] at hrb ⊢; exact hrb
        · rw [hσ', Store.set_comm _ _ _ hri, Store.set_set]; rfl
    by_cases hle : p.2 ≤ now
    · have hd : decide (p.2 ≤ now) = true := by simpa using hle
      simp only [vsA, arith, cmpI, ldK, V.flat, V.one, V.cells, ↓reduceIte, reduceCtorEq, Nat.reduceEqDiff, Nat.reduceLeDiff, Nat.reduceAdd, Nat.reduceMul, fill, vc12, vc12_1, vc12_2, vc12_3, vc12_7, e1, hd, kk, kv_len, kv_take]
      have hDm' : ∀ q, q ∈ D ++ [p] ↔ q ∈ M ∧ q.1 ∈ p.1 :: seen ∧ q.2 ≤ now := by
        intro q
        rw [List.mem_append, hDm, List.mem_singleton]
        constructor
        · rintro (⟨a, a', a''⟩ | rfl)
          · exact ⟨a, List.mem_cons_of_mem _ a', a''⟩
          · exact ⟨hp, List.mem_cons_self .., hle⟩
        · rintro ⟨a, a', a''⟩
          rcases List.mem_cons.1 a' with e | a'
          · right
            have h1 := (lk_mem hnd q.1 q.2).2 a
            have h2 := (lk_mem hnd p.1 p.2).2 hp
            rw [e, h2] at h1
            have h1 : p.2 = q.2 := by simpa using h1
            exact Prod.ext e h1.symm
          · exact .inl ⟨a, a', a''⟩
      have hDn' : (D ++ [p]).Nodup := by
        rw [List.nodup_append]
        refine ⟨hDn, by simp, fun a ha b hb => ?_⟩
        simp at hb; subst hb
        rintro rfl
        exact hps ((hDm _).1 ha).2.1
      rcases hcoll' with ⟨q1, q2, hσ'⟩ | ⟨q1, rb, c, sl, q2, q3, q4, hrb, hσ'⟩
      · subst q1
        refine v_appr0 (ys := [kv p.1]) (by simp only [vsA, arith, cmpI, ldK, V.flat, V.one, V.cells, ↓reduceIte, reduceCtorEq, Nat.reduceEqDiff, Nat.reduceLeDiff, Nat.reduceAdd, Nat.reduceMul, fill, q2]) (by simp only [vsA, arith, cmpI, ldK, V.flat, V.one, V.cells, ↓reduceIte, reduceCtorEq, Nat.reduceEqDiff, Nat.reduceLeDiff, Nat.reduceAdd, Nat.reduceMul, fill]; exact elems_fz) (by simp) (by simp) (fun b' c' hb' hc' => ?_)
        simp only [vsA, arith, cmpI, ldK, V.flat, V.one, V.cells, ↓reduceIte, reduceCtorEq, Nat.reduceEqDiff, Nat.reduceLeDiff, Nat.reduceAdd, Nat.reduceMul, fill, vc12, vc12_1, vc12_2, vc12_3, vc12_7, e0, e1, e16]
        refine ⟨⟨p.1 :: seen, [p], ?_, hnd', hsub', by simp, by simpa using hDm'⟩, ?_⟩
        · rw [hσ'] at hb' ⊢
          refine .inr ⟨by simp, b', c', (c' - 1) * 2, by simp, by simpa using hc', by simp, hb', by simp⟩
        · rw [hms]
          have hbi : it ≠ b' := by rintro rfl; simp at hb'
          simp only [seenN, Store.get_set_ne _ _ hbi, Store.get_set_same, List.length_cons, List.length_map]; omega
      · subst q4
        have hri : rb ≠ it := by rintro rfl; simp at hrb
        refine v_appr1 (ys := [kv p.1]) (cs := D.flatMap fun p => kv p.1) (by simp only [vsA, arith, cmpI, ldK, V.flat, V.one, V.cells, ↓reduceIte, reduceCtorEq, Nat.reduceEqDiff, Nat.reduceLeDiff, Nat.reduceAdd, Nat.reduceMul, fill, q2]; rfl) (by simp only [vsA, arith, cmpI, ldK, V.flat, V.one, V.cells, ↓reduceIte, reduceCtorEq, Nat.reduceEqDiff, Nat.reduceLeDiff, Nat.reduceAdd, Nat.reduceMul, fill]; exact elems_fz) (by simp; omega) (flatMap_kv_len D) (by rw [hσ']; simp) (fun b' c' hb' hc' => ?_)
        rw [hσ', Store.set_erase_new _ _ hrb] at hb' ⊢
        simp only [vsA, arith, cmpI, ldK, V.flat, V.one, V.cells, ↓reduceIte, reduceCtorEq, Nat.reduceEqDiff, Nat.reduceLeDiff, Nat.reduceAdd, Nat.reduceMul, fill, vc12, vc12_1, vc12_2, vc12_3, vc12_7, e0, e1, e16]
        refine ⟨⟨p.1 :: seen, D ++ [p], ?_, hnd', hsub', hDn', hDm'⟩, ?_⟩
        · refine .inr ⟨by simp, b', c', (c' - (D.length + 1)) * 2, by simp, by simpa using hc', by simp, hb', by simp⟩
        · rw [hms]
          have hbi : it ≠ b' := by rintro rfl; simp at hb'
          simp only [seenN, Store.get_set_ne _ _ hbi, Store.get_set_same, List.length_cons, List.length_map]; omega
    · have hd : decide (p.2 ≤ now) = false := by simpa using hle
      simp only [vsA, arith, cmpI, ldK, V.flat, V.one, V.cells, ↓reduceIte, reduceCtorEq, Nat.reduceEqDiff, Nat.reduceLeDiff, Nat.reduceAdd, Nat.reduceMul, fill, vc12, vc12_1, vc12_2, vc12_3, vc12_7, e0, e1, e16, hd, kk]
      refine ⟨⟨p.1 :: seen, D, hcoll', hnd', hsub', hDn, fun q => ?_⟩, ?_⟩
      · rw [hDm]
        constructor
        · rintro ⟨a, a', a''⟩; exact ⟨a, List.mem_cons_of_mem _ a', a''⟩
        · rintro ⟨a, a', a''⟩
          rcases List.mem_cons.1 a' with e | a'
          · have h1 := (lk_mem hnd q.1 q.2).2 a
            have h2 := (lk_mem hnd p.1 p.2).2 hp
            rw [e, h2] at h1
            have h1 : p.2 = q.2 := by simpa using h1
            omega
          · exact ⟨a, a', a''⟩
      · rw [hms]; simp [seenN]; omega
end
end Go.Vm.T10
