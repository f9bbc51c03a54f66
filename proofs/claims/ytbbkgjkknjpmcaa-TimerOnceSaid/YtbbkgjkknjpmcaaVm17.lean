/-
  VM 17: maps at typed keys and values; numbers that fit.
-/
import Derived.Test.YtbbkgjkknjpmcaaVm16
set_option linter.unusedSimpArgs false
set_option linter.unusedVariables false
set_option linter.unusedSectionVars false
namespace Go.Vm
open Go

section maps
variable {α β : Type} [DecidableEq α]
/-- A map at data: look, put, strike out. -/
def lk (k : α) (L : List (α × β)) : Option β := (L.find? fun p => decide (p.1 = k)).map (·.2)
def put (k : α) (v : β) (L : List (α × β)) : List (α × β) := if k ∈ L.map (·.1) then L.map fun p => if p.1 = k then (k, v) else p else L ++ [(k, v)]
def del (k : α) (L : List (α × β)) : List (α × β) := L.filter fun p => decide (p.1 ≠ k)
def menc (kf : α → V) (vf : β → V) (L : List (α × β)) : List (V × V) := L.map fun p => (kf p.1, vf p.2)

variable {kf : α → V} {vf : β → V}
theorem menc_length (L : List (α × β)) : (menc kf vf L).length = L.length := by simp [menc]
theorem mget_menc (hi : ∀ a b, kf a = kf b → a = b) (k : α) (L : List (α × β)) : mget (kf k) (menc kf vf L) = (lk k L).map vf := by
  have he : ∀ a b, (kf a = kf b) = (a = b) := fun a b => propext ⟨hi a b, fun h => by rw [h]⟩
  induction L with
  | nil => rfl
  | cons p L ih =>
    simp only [mget, lk, menc, List.map_cons, List.find?_cons] at ih ⊢
    by_cases h : p.1 = k
    · simp [h]
    · have h' : ¬ (kf p.1 = kf k) := by rw [he]; exact h
      simp only [h, h', decide_false]; exact ih
theorem keys_menc (L : List (α × β)) : (menc kf vf L).map (·.1) = (L.map (·.1)).map kf := by simp [menc, List.map_map, Function.comp_def]
theorem mem_keys (hi : ∀ a b, kf a = kf b → a = b) (k : α) (L : List (α × β)) : (kf k ∈ (menc kf vf L).map (·.1)) = (k ∈ L.map (·.1)) := by
  rw [keys_menc]; apply propext
  rw [List.mem_map]
  exact ⟨fun ⟨a, ha, h⟩ => by rw [← hi _ _ h]; exact ha, fun h => ⟨k, h, rfl⟩⟩
theorem mput_menc (hi : ∀ a b, kf a = kf b → a = b) (k : α) (v : β) (L : List (α × β)) : mput (kf k) (vf v) (menc kf vf L) = menc kf vf (put k v L) := by
  unfold mput put
  by_cases h : k ∈ L.map (·.1)
  · rw [if_pos h, if_pos (by rw [mem_keys hi]; exact h)]
    simp only [menc, List.map_map]
    apply List.map_congr_left
    intro p _
    by_cases e : p.1 = k
    · simp [e]
    · have : ¬ kf p.1 = kf k := fun h => e (hi _ _ h)
      simp [e, this]
  · rw [if_neg h, if_neg (by rw [mem_keys hi]; exact h)]; simp [menc]
theorem mdel_menc (hi : ∀ a b, kf a = kf b → a = b) (k : α) (L : List (α × β)) : mdel (kf k) (menc kf vf L) = menc kf vf (del k L) := by
  unfold mdel del menc
  rw [List.filter_map]
  congr 1
  apply List.filter_congr
  intro p _
  by_cases e : p.1 = k
  · simp [e]
  · have : ¬ kf p.1 = kf k := fun h => e (hi _ _ h)
    simp [e, this]

theorem lk_put (k k' : α) (v : β) (L : List (α × β)) : lk k' (put k v L) = if k' = k then some v else lk k' L := by
  unfold put
  by_cases h : k ∈ L.map (·.1)
  · simp only [h, if_true]
    induction L with
    | nil => simp at h
    | cons p L ih =>
      simp only [List.map_cons, lk, List.find?_cons] at ih ⊢
      by_cases e : p.1 = k
      · simp only [e, if_true]
        by_cases e' : k' = k
        · simp [e']
        · have e'' : ¬ k = k' := fun h => e' h.symm
          simp only [e'', decide_false, e', if_false]
          by_cases hm : k ∈ L.map (·.1)
          · have := ih hm; simp only [e', if_false] at this; exact this
          · have : (L.map fun p => if p.1 = k then (k, v) else p) = L := by
              rw [List.map_congr_left (g := id)]; simp
              intro a ha
              have : a.1 ≠ k := fun h => hm (List.mem_map.2 ⟨a, ha, h⟩)
              simp [this]
            rw [this]
      · simp only [e, if_false]
        have hm : k ∈ L.map (·.1) := by
          rcases List.mem_cons.1 h with h | h
          · exact absurd h.symm e
          · exact h
        by_cases e' : p.1 = k'
        · have : ¬ k' = k := fun h => e (e'.trans h)
          simp [e', this]
        · simp only [e', decide_false]; exact ih hm
  · simp only [h, if_false]
    have hn : ∀ p ∈ L, p.1 ≠ k := fun p hp hk => h (List.mem_map.2 ⟨p, hp, hk⟩)
    unfold lk
    rw [List.find?_append]
    by_cases e : k' = k
    · subst e
      have : L.find? (fun p => decide (p.1 = k')) = none := by rw [List.find?_eq_none]; intro p hp; simpa using hn p hp
      simp [this]
    · have e' : ¬ k = k' := fun h => e h.symm
      simp [e, e']
theorem lk_del (k k' : α) (L : List (α × β)) : lk k' (del k L) = if k' = k then none else lk k' L := by
  unfold del
  induction L with
  | nil => simp [lk]
  | cons p L ih =>
    rw [List.filter_cons]
    by_cases e : p.1 = k
    · simp only [e, ne_eq, not_true, decide_false, Bool.false_eq_true, if_false]
      rw [ih]
      by_cases e' : k' = k
      · simp [e']
      · have : ¬ k = k' := fun h => e' h.symm
        simp only [e', if_false, lk, List.find?_cons, e, this, decide_false]
    · simp only [ne_eq, e, not_false_eq_true, decide_true, if_true]
      simp only [lk, List.find?_cons] at ih ⊢
      by_cases e' : p.1 = k'
      · have : ¬ k' = k := fun h => e (e'.trans h)
        simp [e', this]
      · simp only [e', decide_false]; exact ih
theorem lk_isSome (k : α) (L : List (α × β)) : (lk k L).isSome = true ↔ k ∈ L.map (·.1) := by
  unfold lk
  rw [Option.isSome_map, List.find?_isSome]
  simp
theorem lk_none (k : α) (L : List (α × β)) : lk k L = none ↔ k ∉ L.map (·.1) := by
  rw [← lk_isSome]; cases lk k L <;> simp
theorem put_keys (k : α) (v : β) (L : List (α × β)) : (put k v L).map (·.1) = if k ∈ L.map (·.1) then L.map (·.1) else L.map (·.1) ++ [k] := by
  unfold put
  split
  · rw [List.map_map]; apply List.map_congr_left; intro p _
    by_cases e : p.1 = k <;> simp [e]
  · simp
theorem put_length (k : α) (v : β) (L : List (α × β)) : (put k v L).length = if (lk k L).isSome = true then L.length else L.length + 1 := by
  have := congrArg List.length (put_keys k v L)
  simp only [List.length_map] at this
  rw [this]
  by_cases h : k ∈ L.map (·.1)
  · simp [(lk_isSome k L).2 h, h]
  · have : ¬ (lk k L).isSome = true := fun q => h ((lk_isSome k L).1 q)
    simp [h, this]
theorem put_nodup (k : α) (v : β) {L : List (α × β)} (h : (L.map (·.1)).Nodup) : ((put k v L).map (·.1)).Nodup := by
  rw [put_keys]
  split
  · exact h
  · rename_i hk
    rw [List.nodup_append]
    refine ⟨h, by simp, fun a ha b hb e => ?_⟩
    simp at hb; subst hb; subst e; exact hk ha
theorem del_nodup (k : α) {L : List (α × β)} (h : (L.map (·.1)).Nodup) : ((del k L).map (·.1)).Nodup :=
  h.sublist (List.Sublist.map _ (List.filter_sublist))
theorem lk_mem {L : List (α × β)} (h : (L.map (·.1)).Nodup) (k : α) (v : β) : lk k L = some v ↔ (k, v) ∈ L := by
  induction L with
  | nil => simp [lk]
  | cons p L ih =>
    simp only [List.map_cons, List.nodup_cons] at h
    simp only [lk, List.find?_cons] at ih ⊢
    by_cases e : p.1 = k
    · simp only [e, decide_true, Option.map_some, Option.some.injEq, List.mem_cons]
      constructor
      · rintro rfl; exact .inl (by rw [← e])
      · rintro (q | q)
        · rw [← q]
        · exact absurd (List.mem_map.2 ⟨_, q, rfl⟩) (by rw [← e]; exact h.1)
    · simp only [e, decide_false, List.mem_cons]
      rw [ih h.2]
      constructor
      · exact .inr
      · rintro (q | q)
        · exact absurd (by rw [← q]) e
        · exact q
end maps

def V.nat : V → Nat
  | .int _ n => n.toNat
  | _ => 0
theorem nat_int (k : IntKind) (n : Nat) : V.nat (.int k (n : Int)) = n := by simp [V.nat]

/-! Numbers that fit. -/
theorem V.Ok.i64 {n : Int} (h : V.Ok (.int .i64 n)) : -9223372036854775808 ≤ n ∧ n < 9223372036854775808 := by
  obtain ⟨F, w, x, hx⟩ := h
  cases hx with | int h => simp [Lit.wf, IntKind.min, IntKind.max, IntKind.signed, IntKind.bits] at h; omega
theorem V.Ok.u8 {n : Int} (h : V.Ok (.int .u8 n)) : 0 ≤ n ∧ n < 256 := by
  obtain ⟨F, w, x, hx⟩ := h
  cases hx with | int h => simp [Lit.wf, IntKind.min, IntKind.max, IntKind.signed, IntKind.bits] at h; omega
theorem wrap64 {n : Int} (h1 : -9223372036854775808 ≤ n) (h2 : n < 9223372036854775808) : IntKind.i64.wrap n = n := by
  simp [IntKind.wrap, IntKind.signed, IntKind.bits]; omega
theorem V.Ok.agg {vs : List V} (h : V.Ok (.agg vs)) : ∀ v ∈ vs, v.Ok := by
  obtain ⟨F, w, x, hx⟩ := h
  cases hx with | agg _ xs hs h1 h =>
  intro v hv
  obtain ⟨j, hj, rfl⟩ := List.mem_iff_getElem.1 hv
  exact ⟨F, w, _, h j _ _ (List.getElem?_eq_getElem hj) (Array.getElem?_eq_getElem (by omega : j < xs.size))⟩
theorem V.Ok.fz {e c : Nat} {xs : List (List V)} {own : Option Nat} (h : V.Ok (.fz e xs c own)) : xs.length ≤ 140737488355328 ∧ (∀ x ∈ xs, x.length = e) ∧ ∀ x ∈ xs, ∀ v ∈ x, v.Ok := by
  obtain ⟨F, w, x, hx⟩ := h
  cases hx with | fz _ _ n _ _ A b off f hl hc hn he h1 hA ho hz hF hv =>
  refine ⟨hn, he, fun x hx v hv' => ?_⟩
  obtain ⟨i, hi, rfl⟩ := List.mem_iff_getElem.1 hx
  obtain ⟨j, hj, rfl⟩ := List.mem_iff_getElem.1 hv'
  exact ⟨F, w, _, hv i j _ _ (List.getElem?_eq_getElem hi) (List.getElem?_eq_getElem hj)⟩
theorem V.Ok.fzc {e c : Nat} {xs : List (List V)} {own : Option Nat} (h : V.Ok (.fz e xs c own)) : xs.length ≤ c := by
  obtain ⟨F, w, x, hx⟩ := h
  cases hx with | fz _ _ n _ _ A b off f hl hc hn he h1 hA ho hz hF hv => exact hc
theorem V.Ok.fp {cs : List V} (h : V.Ok (.fp cs)) : ∀ v ∈ cs, v.Ok := by
  obtain ⟨F, w, x, hx⟩ := h
  cases hx with | fp _ b off f h1 hF hv =>
  intro v hv'
  obtain ⟨j, hj, rfl⟩ := List.mem_iff_getElem.1 hv'
  exact ⟨F, w, _, hv j _ (List.getElem?_eq_getElem hj)⟩
theorem Store.Ok.row {σ : Store} (h : σ.Ok) {b sl : Nat} {cs : List V} (hb : σ.rd b = some (.row cs sl)) : ∀ v ∈ cs, v.Ok := by
  obtain ⟨F, w, hs⟩ := h
  obtain ⟨⟨arr, ty, h1, h2, h3, h4, h5⟩, _⟩ := hs.row b cs sl hb
  intro v hv
  obtain ⟨j, hj, rfl⟩ := List.mem_iff_getElem.1 hv
  have hz : j < (arr.extract 0 cs.length).size := by omega
  exact ⟨F, w, _, h5 j _ _ (List.getElem?_eq_getElem hj) (Array.getElem?_eq_getElem hz)⟩
theorem Store.Ok.map {σ : Store} (h : σ.Ok) {b c : Nat} {es : List (V × V)} (hb : σ.rd b = some (.map es c)) : (es.map (·.1)).Nodup ∧ ∀ p ∈ es, p.1.Ok ∧ p.2.Ok := by
  obtain ⟨F, w, hs⟩ := h
  obtain ⟨⟨ms, h1, h2, h3, h4, h5, h6⟩, _⟩ := hs.map b es c hb
  refine ⟨h3, fun p hp => ?_⟩
  obtain ⟨j, hj, rfl⟩ := List.mem_iff_getElem.1 hp
  have := h6 j es[j].1 es[j].2 _ (List.getElem?_eq_getElem hj) (Array.getElem?_eq_getElem (by omega : j < ms.size))
  exact ⟨⟨F, w, _, this.1⟩, ⟨F, w, _, this.2.1⟩⟩
theorem nodup_menc {α β : Type} {kf : α → V} {vf : β → V} {L : List (α × β)} (h : ((menc kf vf L).map (·.1)).Nodup) : (L.map (·.1)).Nodup := by
  have : (menc kf vf L).map (·.1) = (L.map (·.1)).map kf := by simp [menc, List.map_map, Function.comp_def]
  rw [this] at h
  generalize L.map (·.1) = l at h
  induction l with
  | nil => exact List.nodup_nil
  | cons a l ih =>
    simp only [List.map_cons, List.nodup_cons] at h
    exact List.nodup_cons.2 ⟨fun ha => h.1 (List.mem_map_of_mem ha), ih h.2⟩

end Go.Vm
