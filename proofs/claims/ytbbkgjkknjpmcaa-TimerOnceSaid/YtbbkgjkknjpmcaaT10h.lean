/-
  Timers: the plain law: a map, and a list in whatever order.
-/
import Derived.Test.YtbbkgjkknjpmcaaT10g
set_option linter.unusedSimpArgs false
set_option linter.unusedVariables false
set_option linter.unusedSectionVars false
namespace Go.Vm.T10
open Go Go.Vm

theorem lk_perm {M L : TL} (hM : (M.map (·.1)).Nodup) (h : M.Perm L) (k : Int × Int) : lk k M = lk k L := by
  have hL : (L.map (·.1)).Nodup := (h.map _).nodup_iff.1 hM
  cases h1 : lk k L with
  | none =>
    rw [lk_none] at h1 ⊢
    exact fun hm => h1 ((h.map _).mem_iff.1 hm)
  | some v =>
    rw [lk_mem hL] at h1
    rw [lk_mem hM]
    exact h.mem_iff.2 h1
theorem fi_none {L : TL} {k : Int × Int} : fi k L = none ↔ lk k L = none := by
  rw [lk_none]; unfold fi
  rw [List.findIdx?_eq_none_iff]
  constructor
  · intro h hm
    obtain ⟨p, hp, e⟩ := List.mem_map.1 hm
    have := h p hp; simp at this; exact this e
  · intro h p hp
    simp only [decide_eq_false_iff_not]
    exact fun e => h (List.mem_map.2 ⟨p, hp, e⟩)
theorem fi_some {L : TL} {k : Int × Int} {i : Nat} (h : fi k L = some i) : ∃ hi : i < L.length, L[i].1 = k ∧ lk k L = some L[i].2 := by
  obtain ⟨hi, h1, h2⟩ := List.findIdx?_eq_some_iff_getElem.1 h
  have h1' : L[i].1 = k := by simpa using h1
  refine ⟨hi, h1', ?_⟩
  unfold lk
  have : L.find? (fun p => decide (p.1 = k)) = some L[i] := by
    rw [List.find?_eq_some_iff_getElem]
    exact ⟨by simpa using h1', i, hi, rfl, fun j hj => by have := h2 j hj; simpa using this⟩
  rw [this]; rfl
theorem erase_fi : ∀ {L : TL} {k : Int × Int} {i : Nat}, (L.map (·.1)).Nodup → fi k L = some i → L.eraseIdx i = del k L
  | [], k, i, _, h => by simp [fi] at h
  | p :: L, k, i, hnd, h => by
    rw [List.map_cons, List.nodup_cons] at hnd
    obtain ⟨hi, h1, _⟩ := fi_some h
    have hfi : fi k (p :: L) = if p.1 = k then some 0 else (fi k L).map (· + 1) := by
      unfold fi; rw [List.findIdx?_cons]
      by_cases e : p.1 = k <;> simp [e]
    rw [hfi] at h
    by_cases e : p.1 = k
    · rw [if_pos e] at h; cases h
      unfold del
      rw [List.filter_cons, if_neg (by simp [e])]
      rw [List.filter_eq_self.2]
      · rfl
      · intro q hq
        simp only [ne_eq, decide_not, Bool.not_eq_true', decide_eq_false_iff_not]
        exact fun e2 => hnd.1 (by rw [e, ← e2]; exact List.mem_map_of_mem hq)
    · rw [if_neg e] at h
      cases hl : fi k L with
      | none => rw [hl] at h; cases h
      | some j =>
        rw [hl] at h; cases h
        have := erase_fi hnd.2 hl
        unfold del at this ⊢
        rw [List.filter_cons, if_pos (by simp [e]), List.eraseIdx_cons_succ, this]
theorem del_perm {M L : TL} (h : M.Perm L) (k : Int × Int) : (del k M).Perm (del k L) := h.filter _
theorem put_perm {M : TL} (hM : (M.map (·.1)).Nodup) (k : Int × Int) (a : Int) : (put k a M).Perm (del k M ++ [(k, a)]) := by
  have h1 := put_nodup k a hM
  have h2 : (((del k M) ++ [(k, a)]).map (·.1)).Nodup := by
    rw [List.map_append, List.nodup_append]
    refine ⟨del_nodup k hM, by simp, fun x hx y hy => ?_⟩
    simp at hy; subst hy
    intro e; subst e
    obtain ⟨q, hq, e⟩ := List.mem_map.1 hx
    have := (List.mem_filter.1 hq).2; simp at this; exact this e
  rw [List.perm_ext_iff_of_nodup (nodup_of_map h1) (nodup_of_map h2)]
  intro ⟨k', v⟩
  rw [← lk_mem h1, lk_put, List.mem_append, List.mem_singleton, ← lk_mem (del_nodup k hM), lk_del]
  by_cases e : k' = k
  · simp only [e, if_true]
    constructor
    · intro h; cases h; exact .inr rfl
    · rintro (h | h)
      · cases h
      · cases h; rfl
  · simp only [e, if_false]
    constructor
    · exact fun h => .inl h
    · rintro (h | h)
      · exact h
      · cases h; exact absurd rfl e

/-- What is kept between the two. -/
structure Pair (M L : TL) : Prop where
  nd : (M.map (·.1)).Nodup
  pm : M.Perm L
  le : M.length ≤ 1024
  hi : ∀ p ∈ M, p.2 ≤ 9007199254740991
theorem Pair.len {M L : TL} (h : Pair M L) : L.length ≤ 1024 := by rw [← h.pm.length_eq]; exact h.le
theorem Pair.ndL {M L : TL} (h : Pair M L) : (L.map (·.1)).Nodup := (h.pm.map _).nodup_iff.1 h.nd
theorem pair0 : Pair [] [] := ⟨.nil, .nil, by simp, by simp⟩

theorem pair_at {M L : TL} (h : Pair M L) (k : Int × Int) : tat k M = rat k L := by
  unfold tat rat
  rw [lk_perm h.nd h.pm]
  cases hf : fi k L with
  | none => rw [fi_none.1 hf]
  | some i =>
    obtain ⟨hi, h1, h2⟩ := fi_some hf
    rw [h2]; simp [hi]
theorem pair_stop {M L : TL} (h : Pair M L) (k : Int × Int) : (lk k M).isSome = (rstop k L).1 ∧ Pair (del k M) (rstop k L).2 := by
  have hs : (del k M).length ≤ M.length := List.length_filter_le _ _
  rw [lk_perm h.nd h.pm]
  unfold rstop
  have hmem : ∀ p ∈ del k M, p ∈ M := fun p hp => (List.mem_filter.1 hp).1
  cases hf : fi k L with
  | none =>
    rw [fi_none.1 hf]
    refine ⟨rfl, ⟨del_nodup k h.nd, ?_, Nat.le_trans hs h.le, fun p hp => h.hi p (hmem p hp)⟩⟩
    have : del k L = L := by
      have := fi_none.1 hf
      rw [lk_none] at this
      unfold del
      rw [List.filter_eq_self]
      intro p hp
      simp only [ne_eq, decide_not, Bool.not_eq_true', decide_eq_false_iff_not]
      exact fun e => this (List.mem_map.2 ⟨p, hp, e⟩)
    have hp := del_perm h.pm k
    rw [this] at hp; exact hp
  | some i =>
    obtain ⟨hi, h1, h2⟩ := fi_some hf
    rw [h2]
    refine ⟨rfl, ⟨del_nodup k h.nd, ?_, Nat.le_trans hs h.le, fun p hp => h.hi p (hmem p hp)⟩⟩
    show (del k M).Perm (L.eraseIdx i)
    rw [erase_fi h.ndL hf]; exact del_perm h.pm k
theorem pair_set {M L : TL} (h : Pair M L) (k : Int × Int) (a : Int) : (tset k a M).1 = (rset k a L).1 ∧ Pair (tset k a M).2 (rset k a L).2 := by
  unfold tset rset
  by_cases c1 : a < 0 ∨ a > 9007199254740991
  · simp only [c1, if_true]; exact ⟨trivial, h⟩
  · simp only [c1, if_false]
    have hhi : ∀ p ∈ put k a M, p.2 ≤ 9007199254740991 := fun p hp => by
      have := (put_perm h.nd k a).mem_iff.1 hp
      rcases List.mem_append.1 this with q | q
      · exact h.hi p (List.mem_filter.1 q).1
      · simp at q; subst q; simp; omega
    rw [lk_perm h.nd h.pm]
    cases hf : fi k L with
    | none =>
      rw [fi_none.1 hf]
      have hlk : lk k M = none := by rw [lk_perm h.nd h.pm]; exact fi_none.1 hf
      by_cases c2 : 1024 ≤ M.length
      · have : 1024 ≤ L.length := by rw [← h.pm.length_eq]; exact c2
        simp only [c2, this, and_self, if_true]; exact ⟨trivial, h⟩
      · have : ¬ 1024 ≤ L.length := by rw [← h.pm.length_eq]; exact c2
        simp only [c2, this, and_false, if_false]
        refine ⟨trivial, ⟨put_nodup k a h.nd, ?_, ?_, hhi⟩⟩
        · have : put k a M = M ++ [(k, a)] := by unfold put; rw [if_neg ((lk_none k M).1 hlk)]
          rw [this]; exact h.pm.append_right _
        · rw [put_length, hlk]; simp; omega
    | some i =>
      obtain ⟨hi, h1, h2⟩ := fi_some hf
      have hlk : lk k M = some L[i].2 := by rw [lk_perm h.nd h.pm]; exact h2
      simp only [h2, reduceCtorEq, false_and, if_false]
      refine ⟨trivial, ⟨put_nodup k a h.nd, ?_, ?_, hhi⟩⟩
      · rw [erase_fi h.ndL hf]
        exact (put_perm h.nd k a).trans ((del_perm h.pm k).append_right _)
      · rw [put_length, hlk]; exact h.le

theorem before_total {p q : (Int × Int) × Int} (h : before p q = false) (k : before q p = false) : p = q := by
  obtain ⟨⟨a, b⟩, c⟩ := p; obtain ⟨⟨a', b'⟩, c'⟩ := q
  simp only [before] at *
  split at h <;> split at k <;> (try split at h) <;> (try split at k) <;> simp at * <;> omega
theorem due_filter {now : Int} {L D L' : TL} (h : IsDue now L D L') : D.Perm (L.filter fun p => decide (p.2 ≤ now)) ∧ L'.Perm (L.filter fun p => !decide (p.2 ≤ now)) := by
  obtain ⟨h1, h2, h3, h4⟩ := h
  have e1 : D.filter (fun p => decide (p.2 ≤ now)) = D := by rw [List.filter_eq_self]; intro p hp; simpa using h3 p hp
  have e2 : L'.filter (fun p => decide (p.2 ≤ now)) = [] := by rw [List.filter_eq_nil_iff]; intro p hp; have := h4 p hp; simp; omega
  have e3 : D.filter (fun p => !decide (p.2 ≤ now)) = [] := by rw [List.filter_eq_nil_iff]; intro p hp; have := h3 p hp; simp; omega
  have e4 : L'.filter (fun p => !decide (p.2 ≤ now)) = L' := by rw [List.filter_eq_self]; intro p hp; have := h4 p hp; simp; omega
  have f1 := h1.filter (fun p => decide (p.2 ≤ now))
  have f2 := h1.filter (fun p => !decide (p.2 ≤ now))
  rw [List.filter_append, e1, e2, List.append_nil] at f1
  rw [List.filter_append, e3, e4, List.nil_append] at f2
  exact ⟨f1, f2⟩
theorem pair_due {M L D D' M' L' : TL} {now : Int} (h : Pair M L) (h1 : IsDue now M D M') (h2 : IsDue now L D' L') : D = D' ∧ Pair M' L' := by
  have f1 := due_filter h1
  have f2 := due_filter h2
  have hp : D.Perm D' := f1.1.trans ((h.pm.filter _).trans f2.1.symm)
  refine ⟨?_, ?_⟩
  · refine List.Perm.eq_of_pairwise (le := fun p q => before q p = false) (fun a b _ _ hab hba => before_total hba hab) h1.2.1 h2.2.1 hp
  · have hsub : M'.Perm (M.filter fun p => !decide (p.2 ≤ now)) := f1.2
    refine ⟨?_, f1.2.trans ((h.pm.filter _).trans f2.2.symm), ?_, fun p hp => h.hi p (List.mem_filter.1 (hsub.mem_iff.1 hp)).1⟩
    · refine ((hsub.map (·.1)).nodup_iff).2 (h.nd.sublist (List.Sublist.map _ List.filter_sublist))
    · rw [hsub.length_eq]; exact Nat.le_trans (List.length_filter_le _ _) h.le
theorem pair_next {M L : TL} (h : Pair M L) {v w : V} (h1 : (M = [] ∧ v = .tup [.int .i64 0, .bool false]) ∨ ∃ p ∈ M, v = .tup [.int .i64 p.2, .bool true] ∧ ∀ q ∈ M, p.2 ≤ q.2)
    (h2 : (L = [] ∧ w = .tup [.int .i64 0, .bool false]) ∨ ∃ p ∈ L, w = .tup [.int .i64 p.2, .bool true] ∧ ∀ q ∈ L, p.2 ≤ q.2) : ∃ n b, v = .tup [.int .i64 n, .bool b] ∧ w = .tup [.int .i64 n, .bool b] := by
  rcases h1 with ⟨a1, a2⟩ | ⟨p, hp, a2, a3⟩
  · subst a1
    have : L = [] := h.pm.symm.eq_nil
    subst this
    rcases h2 with ⟨_, b2⟩ | ⟨q, hq, _⟩
    · exact ⟨0, false, a2, b2⟩
    · cases hq
  · rcases h2 with ⟨b1, b2⟩ | ⟨q, hq, b2, b3⟩
    · subst b1
      have : M = [] := h.pm.eq_nil
      subst this; cases hp
    · have := a3 q (h.pm.mem_iff.2 hq)
      have := b3 p (h.pm.mem_iff.1 hp)
      exact ⟨p.2, true, a2, by rw [b2, show q.2 = p.2 by omega]⟩
end Go.Vm.T10
