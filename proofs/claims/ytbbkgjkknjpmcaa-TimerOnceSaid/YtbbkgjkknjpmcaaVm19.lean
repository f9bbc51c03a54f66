/-
  VM 19: the arguments of a law, read as values of the logic.
-/
import Derived.Test.YtbbkgjkknjpmcaaVm18
import Derived.Below
import Derived.DataReads
import Derived.ProofKit
set_option linter.unusedSimpArgs false
set_option linter.unusedVariables false
set_option linter.unusedSectionVars false
namespace Go.Vm
open Go

variable {P : Program}

def fieldsOk (P : Program) (ok : TypeId → Bool) : List Field → Nat → Nat → Bool
  | [], o, n => o == n
  | f :: fs, o, n => f.offset == o && ok f.type && fieldsOk P ok fs (o + P.cellsOf f.type) n
/-- A type whose values are read: numbers, truth values, strings, slices, structs. -/
def okTy (P : Program) : Nat → TypeId → Bool
  | 0, _ => false
  | d + 1, t => match P.underlying t with
    | some (.int _) | some .bool | some .string => P.cellsOf t == 1
    | some (.slice e) => P.cellsOf t == 1 && P.bytesOf e != 0 && P.cellsOf e != 0 && okTy P d e
    | some (.struct fs) => fieldsOk P (okTy P d) fs.toList 0 (P.cellsOf t)
    | _ => false
def TyFs (P : Program) (ty : TypeId → List V → Prop) : List Field → List V → Prop
  | [], us => us = []
  | f :: fs, us => ∃ a b, us = a ++ b ∧ ty f.type a ∧ TyFs P ty fs b
/-- Cells of a type. -/
def TyV (P : Program) : Nat → TypeId → List V → Prop
  | 0, _, _ => False
  | d + 1, t, us => match P.underlying t with
    | some (.int k) => ∃ n, us = [.int k n]
    | some .bool => ∃ b, us = [.bool b]
    | some .string => ∃ s, us = [.str s]
    | some (.slice e) => ∃ xs c, us = [.fz (P.cellsOf e) xs c none] ∧ (∀ x ∈ xs, TyV P d e x) ∧ xs.length * P.bytesOf e ≤ reachBytes
    | some (.struct fs) => TyFs P (TyV P d) fs.toList us
    | _ => False

theorem TyFs.len {ok : TypeId → Bool} {ty : TypeId → List V → Prop} (h : ∀ t us, ok t = true → ty t us → us.length = P.cellsOf t) : ∀ (fs : List Field) (o n : Nat) (us : List V), fieldsOk P ok fs o n = true → TyFs P ty fs us → o + us.length = n
  | [], o, n, us, h1, h2 => by simp [fieldsOk] at h1; simp [TyFs] at h2; subst h2; simpa using h1
  | f :: fs, o, n, us, h1, h2 => by
    simp only [fieldsOk, Bool.and_eq_true] at h1
    obtain ⟨a, b, rfl, ha, hb⟩ := h2
    have := TyFs.len h fs _ n b h1.2 hb
    have := h _ _ h1.1.2 ha
    simp; omega
theorem TyV.len : ∀ (d : Nat) (t : TypeId) (us : List V), okTy P d t = true → TyV P d t us → us.length = P.cellsOf t
  | 0, _, _, h, _ => by simp [okTy] at h
  | d + 1, t, us, h, k => by
    simp only [okTy] at h
    simp only [TyV] at k
    split at h
    · rename_i hu; simp only [hu] at k; obtain ⟨n, rfl⟩ := k; simp at h; simp [h]
    · rename_i hu; simp only [hu] at k; obtain ⟨n, rfl⟩ := k; simp at h; simp [h]
    · rename_i hu; simp only [hu] at k; obtain ⟨n, rfl⟩ := k; simp at h; simp [h]
    · rename_i e hu; simp only [hu] at k; obtain ⟨xs, c, rfl, _⟩ := k
      simp only [Bool.and_eq_true, beq_iff_eq] at h; simpa using h.1.1.1.symm
    · rename_i fs hu; simp only [hu] at k
      have := TyFs.len (TyV.len d) fs.toList 0 (P.cellsOf t) us h k
      omega
    · cases h

/-- Each cell that there is is frozen. -/
def F0 (W : World) : Nat → Nat → Prop := fun b _ => b < W.heap.size

theorem cells?_get {w : World} {base n : Nat} {a : Addr} {cs : List Value} (h : w.cells? base a n = some cs) : cs.length = n ∧ ∀ (i : Nat), i < n → w.cell? (a.add i) = cs[i]? := by
  unfold World.cells? at h
  split at h
  · have h1 := mapM_some_length h
    have h2 := mapM_some_get h
    refine ⟨by simpa using h1, fun i hi => h2 i i (by simp [hi])⟩
  · cases h
theorem cell_lt {w : World} {a : Addr} {x : Value} (h : w.cell? a = some x) : a.block < w.heap.size ∧ a.spot = none := by
  unfold World.cell? at h
  split at h
  · rename_i c hh
    refine ⟨(Array.getElem?_eq_some_iff.1 hh).1, ?_⟩
    split at h
    · cases h
    · rename_i hs; simpa using hs
  · cases h

section read
variable {H : Type} {enc : TypeId × Value → H} {W : World} {sp : Nat → Bool}

theorem read_fields {fuel : Nat} {ok : TypeId → Bool} {ty : TypeId → List V → Prop} (hlen : ∀ t us, ok t = true → ty t us → us.length = P.cellsOf t)
    (IH : ∀ t cs dt ps, ok t = true → DataW.trod enc P W 0 sp true fuel t cs = some (dt, ps) → (∀ n ∈ dt.weights P t, n ≤ reachBytes) → ∃ us, ty t us ∧ CR (F0 W) W us cs.toArray) (cs : List Value) :
    ∀ (fs : List Field) (o n : Nat) (xs : List (DataW H × List MemPlace)), fieldsOk P ok fs o n = true → cs.length = n → fs.mapM (fun f => DataW.trod enc P W 0 sp true fuel f.type ((cs.drop f.offset).take (P.cellsOf f.type))) = some xs →
      (∀ n ∈ DataW.weightsEach P (fs.map (·.type)) (xs.map (·.1)), n ≤ reachBytes) → ∃ us, TyFs P ty fs us ∧ CR (F0 W) W us (cs.drop o).toArray
  | [], o, n, xs, h1, h2, h3, _ => by
    simp [fieldsOk] at h1
    exact ⟨[], rfl, by simp; omega, by simp, by simp⟩
  | f :: fs, o, n, xs, h1, h2, h3, h4 => by
    simp only [fieldsOk, Bool.and_eq_true, beq_iff_eq] at h1
    obtain ⟨⟨rfl, hok⟩, hrest⟩ := h1
    rw [List.mapM_cons] at h3
    simp only [Option.bind_eq_bind, Option.bind_eq_some_iff, Option.pure_def, Option.some.injEq] at h3
    obtain ⟨x, hx, ys, hys, rfl⟩ := h3
    simp only [List.map_cons, DataW.weightsEach, List.mem_append] at h4
    obtain ⟨a, ha, hca⟩ := IH _ _ x.1 x.2 hok hx (fun n hn => h4 n (.inl hn))
    obtain ⟨b, hb, hcb⟩ := read_fields hlen IH cs fs _ n ys hrest h2 hys (fun n hn => h4 n (.inr hn))
    refine ⟨a ++ b, ⟨a, b, rfl, ha, hb⟩, ?_⟩
    have hla := hlen _ _ hok ha
    obtain ⟨a1, a2, a3⟩ := hca
    obtain ⟨b1, b2, b3⟩ := hcb
    simp at a1 b1
    refine ⟨by simp; omega, fun v hv => (List.mem_append.1 hv).elim (a2 v) (b2 v), fun j v y hj hy => ?_⟩
    rw [List.getElem?_append] at hj
    simp only [List.getElem?_toArray, List.getElem?_drop] at hy
    split at hj
    · rename_i hlt
      refine a3 j v y hj ?_
      simp only [List.getElem?_toArray]
      rw [List.getElem?_take_of_lt (by omega), List.getElem?_drop]; exact hy
    · rename_i hge
      refine b3 (j - a.length) v y hj ?_
      simp only [List.getElem?_toArray, List.getElem?_drop]
      rw [← hy]; congr 1; omega

theorem trod_int {fuel : Nat} {t : TypeId} {k : IntKind} {cs : List Value} {dt : DataW H} {ps : List MemPlace} (hu : P.underlying t = some (.int k)) (h : DataW.trod enc P W 0 sp true (fuel + 1) t cs = some (dt, ps)) :
    ∃ n, cs = [.int k n] ∧ (Lit.int k n).wf = true := by
  unfold DataW.trod at h; rw [hu] at h
  cases cs with
  | nil => simp at h
  | cons x tl => cases tl with
    | cons y r => simp at h
    | nil =>
      cases x <;> simp at h
      rename_i k' n
      obtain ⟨⟨rfl, hwf⟩, _⟩ := h
      exact ⟨n, rfl, hwf⟩
theorem trod_bool {fuel : Nat} {t : TypeId} {cs : List Value} {dt : DataW H} {ps : List MemPlace} (hu : P.underlying t = some .bool) (h : DataW.trod enc P W 0 sp true (fuel + 1) t cs = some (dt, ps)) :
    ∃ n, cs = [.bool n] := by
  unfold DataW.trod at h; rw [hu] at h
  cases cs with
  | nil => simp at h
  | cons x tl => cases tl with
    | cons y r => simp at h
    | nil =>
      cases x <;> simp at h
      exact ⟨_, rfl⟩
theorem trod_string {fuel : Nat} {t : TypeId} {cs : List Value} {dt : DataW H} {ps : List MemPlace} (hu : P.underlying t = some .string) (h : DataW.trod enc P W 0 sp true (fuel + 1) t cs = some (dt, ps)) :
    ∃ n, cs = [.string n] := by
  unfold DataW.trod at h; rw [hu] at h
  cases cs with
  | nil => simp at h
  | cons x tl => cases tl with
    | cons y r => simp at h
    | nil =>
      cases x <;> simp at h
      exact ⟨_, rfl⟩
theorem trod_slice {fuel : Nat} {t e : TypeId} {cs : List Value} {dt : DataW H} {ps : List MemPlace} (hu : P.underlying t = some (.slice e)) (h : DataW.trod enc P W 0 sp true (fuel + 1) t cs = some (dt, ps)) :
    cs = [.slice none 0 0] ∨ ∃ a len cap elems spare, cs = [.slice (some a) len cap] ∧ len ≤ cap ∧
      (List.range len).mapM (fun i => (W.cells? 0 (a.add (i * P.cellsOf e)) (P.cellsOf e)).bind (DataW.trod enc P W 0 sp true fuel e)) = some elems ∧ dt = .slice (elems.map (·.1)) spare := by
  unfold DataW.trod at h; rw [hu] at h
  cases cs with
  | nil => simp at h
  | cons x tl => cases tl with
    | cons y r => simp at h
    | nil =>
      cases x <;> simp only [reduceCtorEq] at h
      rename_i A len cap
      cases A with
      | none =>
        cases len <;> cases cap <;> simp at h
        exact .inl rfl
      | some a =>
        right
        simp only at h
        split at h
        · rename_i hc
          simp only [Option.bind_eq_some_iff, Option.map_eq_some_iff, Prod.mk.injEq] at h
          obtain ⟨elems, he, rest, hr, h1, h2⟩ := h
          exact ⟨a, len, cap, elems, _, rfl, hc.2.1, he, h1.symm⟩
        · cases h
theorem trod_struct {fuel : Nat} {t : TypeId} {fs : Array Field} {cs : List Value} {dt : DataW H} {ps : List MemPlace} (hu : P.underlying t = some (.struct fs)) (h : DataW.trod enc P W 0 sp true (fuel + 1) t cs = some (dt, ps)) :
    cs.length = P.cellsOf t ∧ ∃ xs, fs.toList.mapM (fun f => DataW.trod enc P W 0 sp true fuel f.type ((cs.drop f.offset).take (P.cellsOf f.type))) = some xs ∧ dt = .agg (xs.map (·.1)) := by
  unfold DataW.trod at h; rw [hu] at h
  simp only at h
  split at h
  · rename_i hl
    simp only [Option.map_eq_some_iff, Prod.mk.injEq] at h
    obtain ⟨xs, h1, h2, _⟩ := h
    exact ⟨hl, xs, h1, h2.symm⟩
  · cases h

theorem weights_mem {e : TypeId} {d : DataW H} : ∀ {l : List (DataW H)} {n : Nat}, d ∈ l → n ∈ d.weights P e → n ∈ DataW.weightsAll P e l
  | x :: l, n, h, k => by
    simp only [DataW.weightsAll, List.mem_append]
    rcases List.mem_cons.1 h with rfl | h
    · exact .inl k
    · exact .inr (weights_mem h k)
theorem CR.one' {u : V} {x : Value} (h1 : u.one = true) (h2 : VR (F0 W) W u x) : CR (F0 W) W [u] #[x] := ⟨rfl, by simpa using h1, fun j v y hj hy => by
  cases j with
  | zero => simp at hj hy; subst hj; subst hy; exact h2
  | succ j => simp at hj⟩

theorem read_V : ∀ (d : Nat) (t : TypeId) (cs : List Value) (fuel : Nat) (dt : DataW H) (ps : List MemPlace), okTy P d t = true → DataW.trod enc P W 0 sp true fuel t cs = some (dt, ps) → (∀ n ∈ dt.weights P t, n ≤ reachBytes) →
    ∃ us, TyV P d t us ∧ CR (F0 W) W us cs.toArray
  | 0, _, _, _, _, _, h, _, _ => by simp [okTy] at h
  | d + 1, t, cs, 0, _, _, _, h, _ => by simp [DataW.trod] at h
  | d + 1, t, cs, fuel + 1, dt, ps, hok, h, hw => by
    have hlen := fun t us => TyV.len (P := P) d t us
    simp only [okTy] at hok
    split at hok
    · rename_i k hu
      obtain ⟨n, rfl, hwf⟩ := trod_int hu h
      exact ⟨[.int _ n], by simp [TyV, hu], CR.one' rfl (.int hwf)⟩
    · rename_i hu
      obtain ⟨b, rfl⟩ := trod_bool hu h
      exact ⟨[.bool b], by simp [TyV, hu], CR.one' rfl (.bool b)⟩
    · rename_i hu
      obtain ⟨s, rfl⟩ := trod_string hu h
      exact ⟨[.str s], by simp [TyV, hu], CR.one' rfl (.str s)⟩
    · rename_i e hu
      simp only [Bool.and_eq_true, beq_iff_eq, bne_iff_ne, ne_eq] at hok
      obtain ⟨⟨⟨hc1, hby⟩, hce⟩, hoke⟩ := hok
      rcases trod_slice hu h with rfl | ⟨a, len, cap, elems, spare, rfl, hlc, hel, rfl⟩
      · refine ⟨[.fz (P.cellsOf e) [] 0 none], ?_, CR.one' rfl (.fz _ [] 0 0 none none 0 0 (fun _ => undef) rfl (Nat.le_refl _) (by simp) (by simp) (by simp) (by simp) (by simp) (by simp) (by simp) (by simp))⟩
        simp only [TyV, hu]
        exact ⟨[], 0, rfl, by simp, by simp⟩
      · have hl1 := mapM_some_length hel
        simp only [List.length_range] at hl1
        simp only [DataW.weights, hu, List.mem_cons, List.mem_append, List.length_map] at hw
        have hsz := hw _ (.inl rfl)
        -- the elements
        have each : ∀ i, ∃ (us : List V) (csi : List Value), i < len → TyV P d e us ∧ CR (F0 W) W us csi.toArray ∧ csi.length = P.cellsOf e ∧ ∀ r, r < P.cellsOf e → W.cell? ((a.add (i * P.cellsOf e)).add r) = csi[r]? := by
          intro i
          by_cases hi : i < len
          · have hg := mapM_some_get hel i i (by simp [hi])
            have hx : elems[i]? = some elems[i] := List.getElem?_eq_getElem (by omega)
            rw [hx] at hg
            obtain ⟨csi, h1, h2⟩ := Option.bind_eq_some_iff.1 hg
            obtain ⟨h3, h4⟩ := cells?_get h1
            have hmem : elems[i].1 ∈ elems.map (·.1) := List.mem_map.2 ⟨_, List.getElem_mem _, rfl⟩
            obtain ⟨us, hu1, hu2⟩ := read_V d e csi fuel elems[i].1 elems[i].2 hoke h2 (fun n hn => hw n (.inr (.inl (weights_mem hmem hn))))
            exact ⟨us, csi, fun _ => ⟨hu1, hu2, h3, h4⟩⟩
          · exact ⟨[], [], fun h => absurd h hi⟩
        let U := fun i => (each i).choose
        let C := fun i => (each i).choose_spec.choose
        have hUC : ∀ i, i < len → TyV P d e (U i) ∧ CR (F0 W) W (U i) (C i).toArray ∧ (C i).length = P.cellsOf e ∧ ∀ r, r < P.cellsOf e → W.cell? ((a.add (i * P.cellsOf e)).add r) = (C i)[r]? :=
          fun i hi => (each i).choose_spec.choose_spec hi
        have hUl : ∀ i, i < len → (U i).length = P.cellsOf e := fun i hi => hlen _ _ hoke (hUC i hi).1
        have hspot : 0 < len → a.spot = none := fun h0 => by
          obtain ⟨_, _, h3, h4⟩ := hUC 0 h0
          have hx := List.getElem?_eq_getElem (show 0 < (C 0).length by omega)
          have h5 := h4 0 (by omega)
          rw [hx] at h5
          simp [Addr.add] at h5
          exact (cell_lt h5).2
        have hcell : ∀ i r, i < len → r < P.cellsOf e → ∃ x, (C i)[r]? = some x ∧ W.cell? ⟨a.block, a.off + (i * P.cellsOf e + r), none⟩ = some x := fun i r hi hr => by
          obtain ⟨_, _, h3, h4⟩ := hUC i hi
          have hx := List.getElem?_eq_getElem (show r < (C i).length by omega)
          refine ⟨_, hx, ?_⟩
          rw [← hx, ← h4 r hr]
          have hsp := hspot (by omega)
          obtain ⟨ab, ao, as⟩ := a
          simp only at hsp
          subst hsp
          rw [add_none, add_none, Nat.add_assoc]
        have hdiv : ∀ j, j < len * P.cellsOf e → j / P.cellsOf e < len ∧ j % P.cellsOf e < P.cellsOf e ∧ (j / P.cellsOf e) * P.cellsOf e + j % P.cellsOf e = j := fun j hj =>
          ⟨Nat.div_lt_of_lt_mul (by rwa [Nat.mul_comm]), Nat.mod_lt _ (by omega), by rw [Nat.mul_comm]; exact Nat.div_add_mod _ _⟩
        have hlen47 : len ≤ 140737488355328 := by
          have h1 : elems.length * 1 ≤ (elems.length + spare.length) * P.bytesOf e := Nat.mul_le_mul (by omega) (by omega)
          simp only [reachBytes] at hsz; omega
        refine ⟨[.fz (P.cellsOf e) ((List.range len).map U) cap none], ?_, CR.one' rfl ?_⟩
        · simp only [TyV, hu]
          refine ⟨_, cap, rfl, ?_, ?_⟩
          · intro x hx
            obtain ⟨i, hi, rfl⟩ := List.mem_map.1 hx
            exact (hUC i (List.mem_range.1 hi)).1
          · rw [List.length_map, List.length_range]
            refine Nat.le_trans (Nat.mul_le_mul_right _ ?_) hsz
            omega
        · refine .fz (P.cellsOf e) ((List.range len).map U) len cap none (some a) a.block a.off (fun j => (W.cell? ⟨a.block, a.off + j, none⟩).getD undef) (by simp) (by simpa using hlc) (by simpa using hlen47) ?_ ?_ ?_ (by simp) (by simp) ?_ ?_
          · intro x hx
            obtain ⟨i, hi, rfl⟩ := List.mem_map.1 hx
            exact hUl i (List.mem_range.1 hi)
          · intro x hx
            obtain ⟨i, hi, rfl⟩ := List.mem_map.1 hx
            exact (hUC i (List.mem_range.1 hi)).2.1.2.1
          · intro hne
            have h0 : 0 < len := by
              rcases Nat.eq_zero_or_pos len with h | h
              · subst h; simp at hne
              · exact h
            have := hspot h0
            cases a; simp at this; subst this; rfl
          · intro j hj
            simp only [List.length_map, List.length_range] at hj
            obtain ⟨h1, h2, h3⟩ := hdiv j hj
            obtain ⟨x, _, hx⟩ := hcell _ _ h1 h2
            rw [h3] at hx
            exact ⟨(cell_lt hx).1, by rw [hx]; rfl⟩
          · intro i j x v hx hv
            rw [List.getElem?_map] at hx
            cases hi : (List.range len)[i]? with
            | none => simp [hi] at hx
            | some i' =>
              have hil : i < len ∧ i' = i := by
                have := List.getElem?_eq_some_iff.1 hi
                obtain ⟨p, q⟩ := this
                simp at p q
                exact ⟨p, q.symm⟩
              obtain ⟨hi1, rfl⟩ := hil
              simp [hi] at hx
              subst hx
              have hj : j < P.cellsOf e := by rw [← hUl i' hi1]; exact (List.getElem?_eq_some_iff.1 hv).1
              obtain ⟨y, hy1, hy2⟩ := hcell i' j hi1 hj
              rw [hy2]
              exact (hUC i' hi1).2.1.2.2 j v y hv (by simpa using hy1)
    · rename_i fs hu
      obtain ⟨hl, xs, hxs, rfl⟩ := trod_struct hu h
      simp only [DataW.weights, hu] at hw
      obtain ⟨us, h1, h2⟩ := read_fields hlen (fun t cs dt ps => read_V d t cs fuel dt ps) cs fs.toList 0 _ xs hok hl hxs hw
      exact ⟨us, by simpa only [TyV, hu] using h1, by simpa using h2⟩
    · cases hok
end read
end Go.Vm
