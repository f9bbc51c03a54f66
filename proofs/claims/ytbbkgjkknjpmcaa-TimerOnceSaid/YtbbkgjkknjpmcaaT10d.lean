/-
  Timers: the other's first, next, due.
-/
import Derived.Test.YtbbkgjkknjpmcaaT10c
set_option linter.unusedSimpArgs false
set_option linter.unusedVariables false
set_option linter.unusedSectionVars false
namespace Go.Vm.T10
open Go Go.Vm

theorem before_irr (p : (Int × Int) × Int) : before p p = false := by simp [before]
theorem before_tr {p q r : (Int × Int) × Int} (h : before p q = true) (k : before r q = false) : before r p = false := by
  obtain ⟨⟨a, b⟩, c⟩ := p; obtain ⟨⟨a', b'⟩, c'⟩ := q; obtain ⟨⟨a'', b''⟩, c''⟩ := r
  simp only [before] at *
  split at h <;> split at k <;> split <;> (try split at h) <;> (try split at k) <;> (try split) <;> simp at * <;> omega
theorem before_at {p q : (Int × Int) × Int} (h : before p q = false) : q.2 ≤ p.2 := by
  simp only [before] at h
  split at h <;> simp at * <;> omega

/-- The place of the first. -/
def IsFirst (L : TL) (r : Int) : Prop := (L = [] ∧ r = -1) ∨ ∃ (b : Nat) (p : (Int × Int) × Int), r = b ∧ L[b]? = some p ∧ ∀ q ∈ L, before q p = false

section other
variable {σ : Store} {x c : Nat} {own : Option Nat} {L : TL}

theorem first_do (h1 : σ.rd x = some (.row [.fz 3 (L.map oc) c own] 0)) :
    VCalls PT 23 [.ptr x 0] σ (fun v σ' => (∃ r, v = .int .i64 r ∧ IsFirst L r) ∧ σ' = σ) := by
  refine vcalls_of ck23 (fun _ hok => ?_)
  have hfz := (hok.row h1 _ (List.mem_singleton.2 rfl)).fz.1
  rw [List.length_map] at hfz
  simp only [vsA, arith, cmpI, ldK, V.flat, V.one, V.cells, ↓reduceIte, reduceCtorEq, Nat.reduceEqDiff, Nat.reduceLeDiff, Nat.reduceAdd, Nat.reduceMul, fill, vc23, vc23_1, vc23_2, vc23_3, vc23_4]
  refine w_loop (fun env' σ' => σ' = σ ∧ ∃ (i : Nat) (r : Int), env' 0 = .ptr x 0 ∧ env' 4 = .int .i64 i ∧ env' 3 = .int .i64 r ∧ i ≤ L.length ∧ IsFirst (L.take i) r)
    (fun env' _ => L.length - (env' 4).nat) ⟨rfl, 0, -1, by simp only [vsA, arith, cmpI, ldK, V.flat, V.one, V.cells, ↓reduceIte, reduceCtorEq, Nat.reduceEqDiff, Nat.reduceLeDiff, Nat.reduceAdd, Nat.reduceMul, fill], by simp only [vsA, arith, cmpI, ldK, V.flat, V.one, V.cells, ↓reduceIte, reduceCtorEq, Nat.reduceEqDiff, Nat.reduceLeDiff, Nat.reduceAdd, Nat.reduceMul, fill]; rfl, by simp only [vsA, arith, cmpI, ldK, V.flat, V.one, V.cells, ↓reduceIte, reduceCtorEq, Nat.reduceEqDiff, Nat.reduceLeDiff, Nat.reduceAdd, Nat.reduceMul, fill], by omega, .inl ⟨by simp, rfl⟩⟩ ?_
  rintro env' _ ⟨rfl, i, r, e0, e4, e3, hi, hr⟩
  by_cases hlt : i < L.length
  · have hd : decide ((i : Int) < (L.length : Int)) = true := by simp; omega
    have hg : (L.map oc)[i]? = some (oc L[i]) := by simp [hlt]
    have h0 : (0 : Int) ≤ i := by omega
    have htk : L.take (i + 1) = L.take i ++ [L[i]] := (List.take_append_getElem hlt).symm
    rcases hr with ⟨hn, rfl⟩ | ⟨b, p, rfl, hb, hall⟩
    · simp only [vsA, arith, cmpI, ldK, V.flat, V.one, V.cells, ↓reduceIte, reduceCtorEq, Nat.reduceEqDiff, Nat.reduceLeDiff, Nat.reduceAdd, Nat.reduceMul, fill, vc23, vc23_1, vc23_2, vc23_3, vc23_4, e0, e4, e3, h1, hd, show decide ((-1 : Int) < 0) = true from rfl, wrap_succ (show i ≤ 140737488355328 by omega), nat_int]
      have hi0 : i = 0 := by
        rcases List.take_eq_nil_iff.1 hn with h | h
        · exact h
        · rw [h] at hlt; simp at hlt
      subst hi0
      refine ⟨⟨1, rfl, by omega, .inr ⟨0, L[0], rfl, ?_, fun q hq => ?_⟩⟩, by omega⟩
      · rw [htk]; simp
      · rw [htk] at hq; simp at hq; subst hq; exact before_irr _
    · have hbi : b < i := by
        have := (List.getElem?_eq_some_iff.1 hb).1
        simp at this; omega
      have hbL : L[b]? = some p := by rw [List.getElem?_take_of_lt hbi] at hb; exact hb
      have hg2 : (L.map oc)[b]? = some (oc p) := by simp [hbL]
      have e5 : decide ((b : Int) < 0) = false := by simp
      have h0b : (0 : Int) ≤ b := by omega
      have ht3 : ∀ p, (oc p).take 3 = oc p := fun _ => rfl
      simp only [vsA, arith, cmpI, ldK, V.flat, V.one, V.cells, ↓reduceIte, reduceCtorEq, Nat.reduceEqDiff, Nat.reduceLeDiff, Nat.reduceAdd, Nat.reduceMul, fill, vc23, vc23_1, vc23_2, vc23_3, vc23_4, e0, e4, e3, h1, hd, e5, hg, hg2, h0, h0b, oc_len, ht3]
      refine call_f (vs := [.agg (oc L[i]), .agg (oc p)]) (by simp only [vsA, arith, cmpI, ldK, V.flat, V.one, V.cells, ↓reduceIte, reduceCtorEq, Nat.reduceEqDiff, Nat.reduceLeDiff, Nat.reduceAdd, Nat.reduceMul, fill]) (less_do _ _ _) ?_
      rintro _ σ0 ⟨rfl, hσ0⟩ _ _
      subst hσ0
      cases hl : before L[i] p with
      | true =>
        simp only [vsA, arith, cmpI, ldK, V.flat, V.one, V.cells, ↓reduceIte, reduceCtorEq, Nat.reduceEqDiff, Nat.reduceLeDiff, Nat.reduceAdd, Nat.reduceMul, fill, vc23, vc23_1, vc23_2, vc23_3, vc23_4, hl, e0, e4, e3, wrap_succ (show i ≤ 140737488355328 by omega), nat_int]
        refine ⟨⟨i + 1, rfl, by omega, .inr ⟨i, L[i], rfl, ?_, fun q hq => ?_⟩⟩, by omega⟩
        · rw [List.getElem?_take_of_lt (by omega)]; exact List.getElem?_eq_getElem hlt
        · rw [htk, List.mem_append] at hq
          rcases hq with hq | hq
          · exact before_tr hl (hall q hq)
          · simp at hq; subst hq; exact before_irr _
      | false =>
        simp only [vsA, arith, cmpI, ldK, V.flat, V.one, V.cells, ↓reduceIte, reduceCtorEq, Nat.reduceEqDiff, Nat.reduceLeDiff, Nat.reduceAdd, Nat.reduceMul, fill, vc23, vc23_1, vc23_2, vc23_3, vc23_4, hl, e0, e4, e3, wrap_succ (show i ≤ 140737488355328 by omega), nat_int]
        refine ⟨⟨i + 1, rfl, by omega, .inr ⟨b, p, rfl, ?_, fun q hq => ?_⟩⟩, by omega⟩
        · rw [List.getElem?_take_of_lt (by omega)]; exact hbL
        · rw [htk, List.mem_append] at hq
          rcases hq with hq | hq
          · exact hall q hq
          · simp at hq; subst hq; exact hl
  · have hd : decide ((i : Int) < (L.length : Int)) = false := by simp; omega
    simp only [vsA, arith, cmpI, ldK, V.flat, V.one, V.cells, ↓reduceIte, reduceCtorEq, Nat.reduceEqDiff, Nat.reduceLeDiff, Nat.reduceAdd, Nat.reduceMul, fill, vc23, vc23_1, vc23_2, vc23_3, vc23_4, e0, e4, e3, h1, hd]
    rw [List.take_of_length_le (by omega)] at hr
    exact Rets.of (by exact ⟨⟨r, rfl, hr⟩, rfl⟩)

theorem rnext_do (h1 : σ.rd x = some (.row [.fz 3 (L.map oc) c own] 0)) :
    VCalls PT 17 [.ptr x 0] σ (fun v σ' => ((L = [] ∧ v = .tup [.int .i64 0, .bool false]) ∨ ∃ p ∈ L, v = .tup [.int .i64 p.2, .bool true] ∧ ∀ q ∈ L, p.2 ≤ q.2) ∧ σ' = σ) := by
  refine vcalls_of ck17 (fun _ hok => ?_)
  simp only [vsA, arith, cmpI, ldK, V.flat, V.one, V.cells, ↓reduceIte, reduceCtorEq, Nat.reduceEqDiff, Nat.reduceLeDiff, Nat.reduceAdd, Nat.reduceMul, fill, vc17, vc17_1, vc17_2, vc17_3, vc17_4]
  refine call_f (vs := [.ptr x 0]) (by simp only [vsA, arith, cmpI, ldK, V.flat, V.one, V.cells, ↓reduceIte, reduceCtorEq, Nat.reduceEqDiff, Nat.reduceLeDiff, Nat.reduceAdd, Nat.reduceMul, fill]) (first_do h1) ?_
  rintro _ σ0 ⟨⟨r, rfl, hr⟩, hσ0⟩ _ _
  subst hσ0
  rcases hr with ⟨hn, rfl⟩ | ⟨b, p, rfl, hb, hall⟩
  · simp only [vsA, arith, cmpI, ldK, V.flat, V.one, V.cells, ↓reduceIte, reduceCtorEq, Nat.reduceEqDiff, Nat.reduceLeDiff, Nat.reduceAdd, Nat.reduceMul, fill, vc17, vc17_1, vc17_2, vc17_3, vc17_4, show decide ((-1 : Int) < 0) = true from rfl]
    exact Rets.of (by exact ⟨.inl ⟨hn, rfl⟩, rfl⟩)
  · have e5 : decide ((b : Int) < 0) = false := by simp
    have h0b : (0 : Int) ≤ b := by omega
    have hg2 : (L.map oc)[b]? = some (oc p) := by simp [hb]
    simp only [vsA, arith, cmpI, ldK, V.flat, V.one, V.cells, ↓reduceIte, reduceCtorEq, Nat.reduceEqDiff, Nat.reduceLeDiff, Nat.reduceAdd, Nat.reduceMul, fill, vc17, vc17_1, vc17_2, vc17_3, vc17_4, e5, h1, hg2, h0b, oc_get]
    exact Rets.of (by exact ⟨.inr ⟨p, List.mem_of_getElem? hb, rfl, fun q hq => before_at (hall q hq)⟩, rfl⟩)

/-- What is due, in order; what stays. -/
def IsDue (now : Int) (L D L' : TL) : Prop := (D ++ L').Perm L ∧ D.Pairwise (fun p q => before q p = false) ∧ (∀ p ∈ D, p.2 ≤ now) ∧ ∀ p ∈ L', now < p.2

theorem rdue_do (now : Int) (hn : L.length ≤ 1024) (h : RF σ x L c own) :
    VCalls PT 13 [.ptr x 0, .int .i64 now] σ (fun v σ' => ∃ D L', IsDue now L D L' ∧ (∃ c own, v = .fz 2 (D.map fun p => kv p.1) c own) ∧ RS σ x own L' σ') := by
  refine vcalls_of ck13 (fun _ hok => ?_)
  simp only [vsA, arith, cmpI, ldK, V.flat, V.one, V.cells, ↓reduceIte, reduceCtorEq, Nat.reduceEqDiff, Nat.reduceLeDiff, Nat.reduceAdd, Nat.reduceMul, fill, vc13, vc13_1, vc13_2]
  refine w_loop (fun env' σ' => ∃ (D L1 : TL) (c1 : Nat) (own1 : Option Nat) (c2 : Nat) (own2 : Option Nat), env' 0 = .ptr x 0 ∧ env' 1 = .int .i64 now ∧ env' 5 = .fz 2 (D.map fun p => kv p.1) c1 own1 ∧ OwnOk σ' 2 D.length c1 own1 ∧
      (∀ o, own1 = some o → own2 ≠ some o ∧ o ≠ x) ∧ RF σ' x L1 c2 own2 ∧ (∀ k o, k ≠ x → own ≠ some k → σ k = some o → σ' k = some o) ∧ Newly σ own own1 ∧ Newly σ own own2 ∧
      (D ++ L1).Perm L ∧ D.Pairwise (fun p q => before q p = false) ∧ (∀ p ∈ D, p.2 ≤ now) ∧ ∀ d ∈ D, ∀ p ∈ L1, before p d = false)
    (fun _ σ' => match σ' x with | some (.row [.fz _ xs _ _] _) => xs.length | _ => 0)
    ⟨[], L, 0, none, c, own, by simp only [vsA, arith, cmpI, ldK, V.flat, V.one, V.cells, ↓reduceIte, reduceCtorEq, Nat.reduceEqDiff, Nat.reduceLeDiff, Nat.reduceAdd, Nat.reduceMul, fill], by simp only [vsA, arith, cmpI, ldK, V.flat, V.one, V.cells, ↓reduceIte, reduceCtorEq, Nat.reduceEqDiff, Nat.reduceLeDiff, Nat.reduceAdd, Nat.reduceMul, fill], by simp only [vsA, arith, cmpI, ldK, V.flat, V.one, V.cells, ↓reduceIte, reduceCtorEq, Nat.reduceEqDiff, Nat.reduceLeDiff, Nat.reduceAdd, Nat.reduceMul, fill], ⟨fun _ => rfl, by simp⟩, by simp, h, fun _ _ _ _ h => h, by simp [Newly], fun _ h => .inl h, by simp, .nil, by simp, by simp⟩ ?_
  rintro env' σ' ⟨D, L1, c1, own1, c2, own2, e0, e1, e5, ho, hdis, hr, hk, hnw1, hnw2, hp, hpw, hle, hab⟩
  have hr' := hr
  obtain ⟨g1, g2⟩ := hr
  have g1' := Store.rd_row g1
  have hlen : L1.length ≤ 1024 := by have := hp.length_eq; simp at this; omega
  have hlenD : D.length ≤ 1024 := by have := hp.length_eq; simp at this; omega
  simp only [vsA, arith, cmpI, ldK, V.flat, V.one, V.cells, ↓reduceIte, reduceCtorEq, Nat.reduceEqDiff, Nat.reduceLeDiff, Nat.reduceAdd, Nat.reduceMul, fill, vc13, vc13_1, vc13_2, e0]
  refine call_f (vs := [.ptr x 0]) (by simp only [vsA, arith, cmpI, ldK, V.flat, V.one, V.cells, ↓reduceIte, reduceCtorEq, Nat.reduceEqDiff, Nat.reduceLeDiff, Nat.reduceAdd, Nat.reduceMul, fill]) (first_do g1') ?_
  rintro _ σ0 ⟨⟨r, rfl, hfirst⟩, hσ0⟩ _ _
  subst hσ0
  rcases hfirst with ⟨hn1, rfl⟩ | ⟨b, p, rfl, hb, hall⟩
  · simp only [vsA, arith, cmpI, ldK, V.flat, V.one, V.cells, ↓reduceIte, reduceCtorEq, Nat.reduceEqDiff, Nat.reduceLeDiff, Nat.reduceAdd, Nat.reduceMul, fill, vc13, vc13_1, vc13_2, e5, show decide ((-1 : Int) < 0) = true from rfl]
    refine Rets.of ⟨D, L1, ⟨hp, hpw, hle, by rw [hn1]; simp⟩, ⟨c1, own1, rfl⟩, c2, own2, hr', hk, hnw2⟩
  · have e7 : decide ((b : Int) < 0) = false := by simp
    have h0b : (0 : Int) ≤ b := by omega
    have hg2 : (L1.map oc)[b]? = some (oc p) := by simp [hb]
    have hbl := (List.getElem?_eq_some_iff.1 hb).1
    by_cases hnow : p.2 > now
    · simp only [vsA, arith, cmpI, ldK, V.flat, V.one, V.cells, ↓reduceIte, reduceCtorEq, Nat.reduceEqDiff, Nat.reduceLeDiff, Nat.reduceAdd, Nat.reduceMul, fill, vc13, vc13_1, vc13_2, e0, e1, e5, e7, h0b, g1', hg2, oc_get, hnow, decide_true]
      refine Rets.of ⟨D, L1, ⟨hp, hpw, hle, fun q hq => ?_⟩, ⟨c1, own1, rfl⟩, c2, own2, hr', hk, hnw2⟩
      have := before_at (hall q hq); omega
    · simp only [vsA, arith, cmpI, ldK, V.flat, V.one, V.cells, ↓reduceIte, reduceCtorEq, Nat.reduceEqDiff, Nat.reduceLeDiff, Nat.reduceAdd, Nat.reduceMul, fill, vc13, vc13_1, vc13_2, e0, e1, e5, e7, h0b, g1', hg2, oc_get, hnow, decide_false, oc_len, oc_take, kv_len]
      refine v_app (xs := D.map fun p => kv p.1) (ys := [kv p.1]) (c := c1) (own := own1) (by simp only [vsA, arith, cmpI, ldK, V.flat, V.one, V.cells, ↓reduceIte, reduceCtorEq, Nat.reduceEqDiff, Nat.reduceLeDiff, Nat.reduceAdd, Nat.reduceMul, fill, e5]) rfl (by simp; omega) (by simpa using ho) ?_
      intro c3 own3 σ3 ho3 hk3 hn3
      have hne : own1 ≠ some x := fun e => (hdis x e).2 rfl
      have hx3 := hk3 x _ hne g1
      have hrf3 : RF σ3 x L1 c2 own2 := ⟨hx3, g2.1, fun o q => hk3 o _ (fun e => (hdis o e).1 q) (g2.2 o q)⟩
      simp only [vsA, arith, cmpI, ldK, V.flat, V.one, V.cells, ↓reduceIte, reduceCtorEq, Nat.reduceEqDiff, Nat.reduceLeDiff, Nat.reduceAdd, Nat.reduceMul, fill, vc13, vc13_1, vc13_2, e0]
      refine call_f (vs := [.ptr x 0, .int .i64 b]) (by simp only [vsA, arith, cmpI, ldK, V.flat, V.one, V.cells, ↓reduceIte, reduceCtorEq, Nat.reduceEqDiff, Nat.reduceLeDiff, Nat.reduceAdd, Nat.reduceMul, fill, e0]) (drop_do b hbl hlen hrf3) ?_
      rintro _ σ4 ⟨rfl, c4, own4, hr4, hk4, hn4⟩ _ _
      simp only [vsA, arith, cmpI, ldK, V.flat, V.one, V.cells, ↓reduceIte, reduceCtorEq, Nat.reduceEqDiff, Nat.reduceLeDiff, Nat.reduceAdd, Nat.reduceMul, fill, vc13, vc13_1, vc13_2, e0, e1]
      have hox : ∀ o, own3 = some o → σ3 o = some (.used ((D.length + 1) * 2) (c3 * 2)) ∧ o ≠ x := fun o q => by
        have := ho3.2 o q
        simp at this
        exact ⟨this, by rintro rfl; rw [hx3] at this; simp at this⟩
      have hown1 : ∀ k o, own ≠ some k → σ k = some o → own1 ≠ some k := fun k o h1 h2 q => by
        rcases hnw1 k q with e | e
        · exact h1 e
        · rw [h2] at e; cases e
      have hpm : (p :: L1.eraseIdx b).Perm L1 := by
        have h1 : L1[b] = p := (List.getElem?_eq_some_iff.1 hb).2
        rw [List.eraseIdx_eq_take_drop_succ]
        refine (List.perm_middle.symm).trans ?_
        rw [← h1, List.getElem_cons_drop, List.take_append_drop]
      have hpL : p ∈ L1 := List.mem_of_getElem? hb
      refine ⟨⟨D ++ [p], L1.eraseIdx b, c3, own3, by simp, ⟨fun q => by simpa using ho3.1 q, fun o q => ?_⟩, c4, own4, fun o q => ⟨fun r => ?_, (hox o q).2⟩, hr4, fun k o h1 h2 h3 => ?_, fun o q => ?_, fun o q => ?_, ?_, ?_, ?_, ?_⟩, ?_⟩
      · have := hk4 o _ (hox o q).2 (by simp) (hox o q).1
        simpa using this
      · rcases hn4 o r with e | e
        · cases e
        · rw [(hox o q).1] at e; cases e
      · exact hk4 k o h1 (by simp) (hk3 k o (hown1 k o h2 h3) (hk k o h1 h2 h3))
      · rcases hn3 o q with e | e
        · exact hnw1 o e
        · by_cases h1 : own = some o
          · exact .inl h1
          · cases hs : σ o with
            | none => exact .inr rfl
            | some w => rw [hk o w (hox o q).2 h1 hs] at e; cases e
      · rcases hn4 o q with e | e
        · cases e
        · by_cases h1 : own = some o
          · exact .inl h1
          · cases hs : σ o with
            | none => exact .inr rfl
            | some w =>
              by_cases ex : o = x
              · rw [ex, hx3] at e; cases e
              · rw [hk3 o w (hown1 o w h1 hs) (hk o w ex h1 hs)] at e; cases e
      · refine List.Perm.trans ?_ hp
        rw [List.append_assoc]
        exact List.Perm.append_left D (by simpa using hpm)
      · rw [List.pairwise_append]
        exact ⟨hpw, by simp, fun d hd q hq => by simp at hq; subst hq; exact hab d hd _ hpL⟩
      · intro q hq
        rcases List.mem_append.1 hq with hq | hq
        · exact hle q hq
        · simp at hq; subst hq; omega
      · intro d hd q hq
        have hqL : q ∈ L1 := List.mem_of_mem_eraseIdx hq
        rcases List.mem_append.1 hd with hd | hd
        · exact hab d hd q hqL
        · simp at hd; subst hd; exact hall q hqL
      · rw [hr4.1, g1]
        simp only [List.length_map]
        rw [List.length_eraseIdx, if_pos hbl]; omega
end other
end Go.Vm.T10
