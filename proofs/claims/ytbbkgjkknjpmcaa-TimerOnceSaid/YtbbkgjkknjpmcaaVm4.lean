/-
  VM 4: the operations that make memory or write it.
-/
import Derived.Test.YtbbkgjkknjpmcaaVm3
import Derived.Laws.CopyRow
set_option linter.unusedSimpArgs false
set_option linter.unusedVariables false
set_option linter.unusedSectionVars false
namespace Go.Vm
open Go

variable {P : Program} {F : Nat → Nat → Prop} {w : World} {σ : Store} {ev : Opd → V} {K : V → Store → Prop}

theorem heap_alloc_lt (w : World) (o : Obj) {k : Nat} (h : k < w.heap.size) : (w.alloc o).heap[k]? = w.heap[k]? := by
  show (w.heap.push o)[k]? = _
  rw [Array.getElem?_push, if_neg (by omega)]
theorem heap_alloc_new' (w : World) (o : Obj) : (w.alloc o).heap[w.heap.size]? = some o := by
  show (w.heap.push o)[w.heap.size]? = _
  rw [Array.getElem?_push, if_pos rfl]
theorem size_alloc' (w : World) (o : Obj) : (w.alloc o).heap.size = w.heap.size + 1 := by simp

theorem Sim.fresh (h : Sim F σ w) : σ w.heap.size = none := by
  cases hs : σ w.heap.size with
  | none => rfl
  | some o => have := h.lt hs; omega
theorem Sim.unfrozen (h : Sim F σ w) (o : Nat) : ¬ F w.heap.size o := fun ho => by have := h.froz _ _ ho; omega
theorem cell_alloc (h : Sim F σ w) (ob : Obj) : ∀ b o, F b o → (w.alloc ob).cell? ⟨b, o, none⟩ = w.cell? ⟨b, o, none⟩ := fun b o hF =>
  World.cell?_of_block (w := w) (heap_alloc_lt w ob (h.froz b o hF))

/-- A new row that may be written. -/
theorem new_row {vs : List V} {xs : Array Value} {sl : Nat} {ty : TypeId} (hs : Sim F σ w) (hz : xs.size = vs.length + sl) (hc : CR F w vs (xs.extract 0 vs.length)) :
    Sim F (σ.set w.heap.size (.row vs sl)) (w.alloc (.cells xs ty)) ∧ Ext F σ w F (σ.set w.heap.size (.row vs sl)) (w.alloc (.cells xs ty)) := by
  have hcell := cell_alloc hs (.cells xs ty)
  have h1 : Sim F (σ.erase w.heap.size) (w.alloc (.cells xs ty)) := Sim.change w.heap.size hs (fun _ _ h => h) hcell (by rw [size_alloc']; omega)
    (fun k _ hk => heap_alloc_lt w _ hk) (fun _ _ _ h => h) (fun o ho => absurd ho (hs.unfrozen o))
  refine ⟨h1.put_row ⟨⟨xs, ty, heap_alloc_new' w _, hz, hc.mono (fun _ _ h => h) hcell⟩, hs.unfrozen⟩, ?_⟩
  exact Ext.change w.heap.size (fun _ _ h => h) hcell (by rw [size_alloc']; omega) (fun k _ hk => heap_alloc_lt w _ hk) (.inr (Nat.le_refl _))
    (fun k hk => Store.get_set_ne _ _ hk) (Nat.le_refl _) rfl rfl rfl

/-- More cells are frozen: those of one block below a bound. -/
def Fmore (F : Nat → Nat → Prop) (b n : Nat) : Nat → Nat → Prop := fun k o => F k o ∨ (k = b ∧ o < n)

/-- A new row, its first cells frozen at once. -/
theorem new_frozen {vs : List V} {xs : Array Value} {ty : TypeId} (hs : Sim F σ w) (hz : vs.length ≤ xs.size) :
    Sim (Fmore F w.heap.size vs.length) (σ.erase w.heap.size) (w.alloc (.cells xs ty)) ∧ Ext F σ w (Fmore F w.heap.size vs.length) σ (w.alloc (.cells xs ty)) := by
  have hcell := cell_alloc hs (.cells xs ty)
  refine ⟨Sim.change w.heap.size hs (fun _ _ h => .inl h) hcell (by rw [size_alloc']; omega) (fun k _ hk => heap_alloc_lt w _ hk)
    (fun k o hk h => h.resolve_right (fun h => hk h.1)) (fun o _ => by rw [size_alloc']; omega), ?_⟩
  exact Ext.change w.heap.size (fun _ _ h => .inl h) hcell (by rw [size_alloc']; omega) (fun k _ hk => heap_alloc_lt w _ hk) (.inr (Nat.le_refl _))
    (fun _ _ => rfl) (Nat.le_refl _) rfl rfl rfl

theorem cell_new {xs : Array Value} {ty : TypeId} (j : Nat) : (w.alloc (.cells xs ty)).cell? ⟨w.heap.size, j, none⟩ = xs[j]? := by simp

/-- The cells of a new frozen row. -/
theorem vr_new {vs : List V} {xs : Array Value} {ty : TypeId} (hs : Sim F σ w) (hz : vs.length ≤ xs.size) (hc : CR F w vs (xs.extract 0 vs.length)) :
    VR (Fmore F w.heap.size vs.length) (w.alloc (.cells xs ty)) (.fp vs) (.pointer (some ⟨w.heap.size, 0, none⟩)) := by
  refine .fp vs w.heap.size 0 (fun j => (xs[j]?).getD undef) hc.2.1 (fun j hj => ⟨.inr ⟨rfl, by omega⟩, ?_⟩) (fun j v hj => ?_)
  · rw [Nat.zero_add, cell_new, Array.getElem?_eq_getElem (by omega)]; rfl
  · have hlt : j < vs.length := (List.getElem?_eq_some_iff.1 hj).1
    have hx : (xs.extract 0 vs.length)[j]? = some (xs[j]'(by omega)) := by
      rw [Array.getElem?_extract, if_pos (by omega), Nat.zero_add]; exact Array.getElem?_eq_getElem (by omega)
    have := hc.2.2 j v _ hj hx
    simp only [Array.getElem?_eq_getElem (show j < xs.size by omega), Option.getD_some]
    exact this.mono (fun _ _ h => .inl h) (cell_alloc hs _)

theorem CR.all {vs : List V} {xs : Array Value} (h : CR F w vs xs) : CR F w vs (xs.extract 0 vs.length) := by
  rw [← h.1]; simpa using h

theorem run_zero {t : TypeId} {z : Value} (h : (P.info? t).bind (·.zero) = some z) : (zeroValue t).run P w = .ok z w := by
  cases hi : P.info? t with
  | none => simp [hi] at h
  | some i => simp [hi] at h; simp [zeroValue, typeInfo, hi, h]

variable {x y p : Opd} {a b : Value}

/-- A constant's cells: as in whatever world. -/
def CK (vs : List V) (xs : Array Value) : Prop := ∀ F w, CR F w vs xs

theorem d_alloc (t : TypeId) (z : Value) (zero : List V) (hz : (P.info? t).bind (·.zero) = some z) (hc : CK zero z.cells) (hs : Sim F σ w) (h : vop P (.alloc zero) ev σ K) :
    Does P F σ w (do pure (Next.value (← Instr.alloc t true (.tuple #[])))) K := by
  simp only [vop] at h
  have hcr := hc F w
  obtain ⟨s1, e1⟩ := new_row (sl := 0) (ty := t) hs (by rw [hcr.1]; rfl) hcr.all
  exact ⟨_, _, _, _, .inl ⟨.pointer (some ⟨w.heap.size, 0, none⟩), by simp [Instr.alloc, run_zero hz, newVar, newRow], .ptr _ _⟩, s1, e1, h.2 _ hs.fresh⟩

theorem d_box (t : TypeId) (n : Nat) (hs : Sim F σ w) (hx : VR F w (ev x) a) (h : vop P (.box n x) ev σ K) : Does P F σ w (do pure (Next.value (← Instr.box t a))) K := by
  simp only [vop] at h
  obtain ⟨hf, hn, hk⟩ := h
  have hcr := hx.cells hf
  obtain ⟨s1, e1⟩ := new_row (sl := 0) (ty := t) hs (by rw [hcr.1]; rfl) hcr.all
  exact ⟨_, _, _, _, .inl ⟨.pointer (some ⟨w.heap.size, 0, none⟩), by simp [Instr.box, newVar, newRow], .ptr _ _⟩, s1, e1, hk _ hs.fresh⟩

theorem d_fbox (t : TypeId) (n : Nat) (hs : Sim F σ w) (hx : VR F w (ev x) a) (h : vop P (.fbox n x) ev σ K) : Does P F σ w (do pure (Next.value (← Instr.box t a))) K := by
  simp only [vop] at h
  obtain ⟨hf, hn, hk⟩ := h
  have hcr := hx.cells hf
  obtain ⟨s1, e1⟩ := new_frozen (vs := (ev x).cells) (ty := t) hs (by rw [hcr.1]; omega)
  rw [Store.erase_none σ hs.fresh] at s1
  exact ⟨_, _, _, _, .inl ⟨.pointer (some ⟨w.heap.size, 0, none⟩), by simp [Instr.box, newVar, newRow], vr_new hs (by rw [hcr.1]; omega) hcr.all⟩, s1, e1, hk⟩


/-! ### literals -/
theorem foldl_set (xs : List Value) (off : Nat) : ∀ (k : Nat) (cs : Array Value), off + k + xs.length ≤ cs.size →
    (xs.zipIdx k).foldl (fun (acc : Array Value) (p : Value × Nat) => acc.setIfInBounds (off + p.2) p.1) cs = (cs.toList.take (off + k) ++ xs ++ cs.toList.drop (off + k + xs.length)).toArray := by
  induction xs with
  | nil => intro k cs h; simp
  | cons x xs ih =>
    intro k cs h
    simp only [List.length_cons] at h
    simp only [List.zipIdx_cons, List.foldl_cons]
    rw [ih (k + 1) _ (by simp; omega)]
    congr 1
    have hlt : off + k < cs.size := by omega
    simp only [Array.toList_setIfInBounds, List.length_cons]
    rw [show off + (k + 1) = off + k + 1 by omega, List.take_succ_eq_append_getElem (by simpa using hlt), List.getElem_set_self, List.take_set_of_le (Nat.le_refl _), List.drop_set_of_lt (by omega)]
    simp only [List.append_assoc, List.cons_append, List.nil_append]
    rw [show off + k + 1 + xs.length = off + k + (xs.length + 1) by omega]

theorem fill_sound {place : Nat → Option (Nat × Nat)} : ∀ (parts : List (Nat × Value)) (vparts : List (Nat × Nat × List V)) (cells : Array Value) (vs vs' : List V),
    CR F w vs cells → parts.length = vparts.length →
    (∀ (j : Nat) i x off size us, parts[j]? = some (i, x) → vparts[j]? = some (off, size, us) → place i = some (off, size) ∧ CR F w us x.cells) →
    fill vs vparts = some vs' → ∃ cells', Instr.fill place cells parts = some cells' ∧ CR F w vs' cells'
  | [], [], cells, vs, vs', hc, _, _, h => by simp [fill] at h; subst h; exact ⟨cells, rfl, hc⟩
  | (i, x) :: ps, (off, size, us) :: vps, cells, vs, vs', hc, hl, hp, h => by
    obtain ⟨hpl, hu⟩ := hp 0 i x off size us rfl rfl
    simp only [fill] at h
    split at h
    case isFalse => cases h
    case isTrue hcond =>
      obtain ⟨h1, h2⟩ := hcond
      have hsz : x.cells.size = size := hu.1.trans h1
      have hfit : off + x.cells.size ≤ cells.size := by rw [hc.1, hsz]; exact h2
      have e1 : x.cells.zipIdx.foldl (fun cs (p : Value × Nat) => cs.setIfInBounds (off + p.2) p.1) cells = (cells.toList.take off ++ x.cells.toList ++ cells.toList.drop (off + size)).toArray := by
        rw [← Array.foldl_toList, Array.toList_zipIdx, foldl_set x.cells.toList off 0 cells (by simpa using hfit)]
        simp [hsz]
      have hc' : CR F w (vs.take off ++ us ++ vs.drop (off + size)) (cells.toList.take off ++ x.cells.toList ++ cells.toList.drop (off + size)).toArray := by
        refine ⟨?_, ?_, ?_⟩
        · have := hc.1; have := hu.1; simp; omega
        · intro v hv
          simp only [List.mem_append] at hv
          rcases hv with (hv | hv) | hv
          · exact hc.2.1 v (List.mem_of_mem_take hv)
          · exact hu.2.1 v hv
          · exact hc.2.1 v (List.mem_of_mem_drop hv)
        · intro j v y hj hy
          have z1 := hc.1
          have z2 := hu.1
          have t1 : (vs.take off).length = off := by rw [List.length_take]; omega
          have t2 : (cells.toList.take off).length = off := by rw [List.length_take, Array.length_toList]; omega
          simp only [List.getElem?_toArray] at hy
          rw [List.append_assoc] at hj hy
          rw [List.getElem?_append, t1] at hj
          rw [List.getElem?_append, t2] at hy
          split at hj
          · rename_i hlt
            rw [if_pos hlt] at hy
            rw [List.getElem?_take, if_pos hlt] at hj hy
            exact hc.2.2 j v y hj (by simpa using hy)
          · rename_i hge
            rw [if_neg hge] at hy
            rw [List.getElem?_append] at hj hy
            rw [Array.length_toList, z2] at hy
            split at hj
            · rename_i hlt
              rw [if_pos hlt] at hy
              exact hu.2.2 _ v y hj (by simpa using hy)
            · rename_i hge2
              rw [if_neg hge2] at hy
              rw [List.getElem?_drop] at hj hy
              exact hc.2.2 _ v y hj (by simpa using hy)
      obtain ⟨cells', hf, hr⟩ := fill_sound ps vps _ _ vs' hc' (by simpa using hl) (fun j i' x' o' s' u' ha hb => hp (j + 1) i' x' o' s' u' ha hb) h
      refine ⟨cells', ?_, hr⟩
      simp only [Instr.fill, hpl]
      rw [if_neg (by simp [hsz]; omega)]
      rw [e1]; exact hf
  | [], _ :: _, _, _, _, _, hl, _, _ => by simp at hl
  | _ :: _, [], _, _, _, _, hl, _, _ => by simp at hl

/-- Parts of a literal: what the model has, and what the logic has. -/
def PartsOk (F : Nat → Nat → Prop) (w : World) (place : Nat → Option (Nat × Nat)) (parts : List (Nat × Value)) (vparts : List (Nat × Nat × V)) : Prop :=
  parts.length = vparts.length ∧ ∀ (j : Nat) i x off size v, parts[j]? = some (i, x) → vparts[j]? = some (off, size, v) → place i = some (off, size) ∧ VR F w v x

theorem PartsOk.cells {place : Nat → Option (Nat × Nat)} {parts : List (Nat × Value)} {vparts : List (Nat × Nat × V)} (h : PartsOk F w place parts vparts) (hf : ∀ p ∈ vparts, p.2.2.flat = true) :
    parts.length = (vparts.map fun p => (p.1, p.2.1, p.2.2.cells)).length ∧
    ∀ (j : Nat) i x off size us, parts[j]? = some (i, x) → (vparts.map fun p => (p.1, p.2.1, p.2.2.cells))[j]? = some (off, size, us) → place i = some (off, size) ∧ CR F w us x.cells := by
  refine ⟨by simpa using h.1, fun j i x off size us hp hv => ?_⟩
  rw [List.getElem?_map] at hv
  cases hvp : vparts[j]? with
  | none => simp [hvp] at hv
  | some q =>
    obtain ⟨o', s', v⟩ := q
    simp [hvp] at hv
    obtain ⟨rfl, rfl, rfl⟩ := hv
    obtain ⟨h1, h2⟩ := h.2 j i x o' s' v hp hvp
    exact ⟨h1, h2.cells (hf _ (List.mem_of_getElem? hvp))⟩

theorem d_bld_struct (t : TypeId) (fs : Array Field) (places : Array (Nat × Nat)) (z : Value) (zero : List V) (parts : Array (Nat × Value)) (vparts : List (Nat × Nat × Opd)) (hz : (P.info? t).bind (·.zero) = some z) (hc : CK zero z.cells)
    (hu : P.underlying t = some (.struct fs)) (hpl : places.size = fs.size) (hpl2 : ∀ (j : Nat) f p, fs[j]? = some f → places[j]? = some p → p.1 = f.offset ∧ szOk P f.type p.2 = true)
    (hp : PartsOk F w (places[·]?) parts.toList (vparts.map fun p => (p.1, p.2.1, ev p.2.2)))
    (hs : Sim F σ w) (h : vop P (.bld zero vparts) ev σ K) : Does P F σ w (do pure (Next.value (← Instr.build t parts))) K := by
  simp only [vop] at h
  obtain ⟨h1, h2, cs, h3, hk⟩ := h
  have hpc := hp.cells (by
    intro p hp'
    obtain ⟨q, hq, rfl⟩ := List.mem_map.1 hp'
    exact h2 q hq)
  obtain ⟨cells', hf, hr⟩ := fill_sound parts.toList _ z.cells zero cs (hc F w) hpc.1 hpc.2 (by simpa [List.map_map, Function.comp_def] using h3)
  have hm : (fs.mapM fun f => (Prod.mk f.offset <$> sizeOf f.type : Sem (Nat × Nat))).run P w = .ok places w := by
    rw [Array.mapM_eq_mapM_toList]
    have key : ∀ (l : List Field) (ps : List (Nat × Nat)), ps.length = l.length → (∀ (j : Nat) f p, l[j]? = some f → ps[j]? = some p → p.1 = f.offset ∧ szOk P f.type p.2 = true) →
        (l.mapM fun f => (Prod.mk f.offset <$> sizeOf f.type : Sem (Nat × Nat))).run P w = .ok ps w := by
      intro l
      induction l with
      | nil => intro ps hl _; cases ps with
        | nil => simp
        | cons _ _ => simp at hl
      | cons f l ih =>
        intro ps hl hj
        cases ps with
        | nil => simp at hl
        | cons p ps =>
          obtain ⟨ha, hb⟩ := hj 0 f p rfl rfl
          have hi := ih ps (by simpa using hl) (fun j f' p' h1 h2 => hj (j + 1) f' p' h1 h2)
          simp only [List.mapM_cons, Sem.run_bind, Sem.run_map, szOk_run hb, Result.andThen_ok, Sem.run_pure, hi]
          rw [← ha]
    simp [key fs.toList places.toList (by simpa using hpl) (fun j f p h1 h2 => hpl2 j f p (by simpa using h1) (by simpa using h2))]
  exact VR.pure hs (x := .agg cells') (by simp [Instr.build, run_zero hz, run_underlying hu, hm, hf]) (.agg cs cells' hr.1 hr.2.1 hr.2.2) hk

theorem d_bld_array (t el : TypeId) (n e : Nat) (z : Value) (zero : List V) (parts : Array (Nat × Value)) (vparts : List (Nat × Nat × Opd)) (hz : (P.info? t).bind (·.zero) = some z) (hc : CK zero z.cells)
    (hu : P.underlying t = some (.array n el)) (hze : szOk P el e = true)
    (hp : PartsOk F w (fun i => some (i * e, e)) parts.toList (vparts.map fun p => (p.1, p.2.1, ev p.2.2)))
    (hs : Sim F σ w) (h : vop P (.bld zero vparts) ev σ K) : Does P F σ w (do pure (Next.value (← Instr.build t parts))) K := by
  simp only [vop] at h
  obtain ⟨h1, h2, cs, h3, hk⟩ := h
  have hpc := hp.cells (by
    intro p hp'
    obtain ⟨q, hq, rfl⟩ := List.mem_map.1 hp'
    exact h2 q hq)
  obtain ⟨cells', hf, hr⟩ := fill_sound parts.toList _ z.cells zero cs (hc F w) hpc.1 hpc.2 (by simpa [List.map_map, Function.comp_def] using h3)
  exact VR.pure hs (x := .agg cells') (by simp [Instr.build, run_zero hz, run_underlying hu, szOk_run hze, hf]) (.agg cs cells' hr.1 hr.2.1 hr.2.2) hk


theorem flatten_replicate_get (zero : List V) (e : Nat) (he : zero.length = e) : ∀ (n j : Nat), j < n * e → ((List.replicate n zero).flatten)[j]? = zero[j % e]?
  | 0, j, h => by simp at h
  | n + 1, j, h => by
    rw [List.replicate_succ, List.flatten_cons, List.getElem?_append, he]
    split
    · rename_i hlt; rw [Nat.mod_eq_of_lt hlt]
    · rename_i hge
      have hge : e ≤ j := by omega
      rw [flatten_replicate_get zero e he n (j - e) (by rw [Nat.add_mul] at h; omega), Nat.mod_eq_sub_mod hge]
theorem flatten_replicate_len (zero : List V) (n : Nat) : ((List.replicate n zero).flatten).length = n * zero.length := by
  induction n with
  | zero => simp
  | succ n ih => rw [List.replicate_succ, List.flatten_cons, List.length_append, ih, Nat.add_mul]; omega
theorem mem_flatten_replicate {zero : List V} {n : Nat} {v : V} (h : v ∈ (List.replicate n zero).flatten) : v ∈ zero := by
  rw [List.mem_flatten] at h
  obtain ⟨l, hl, hv⟩ := h
  rw [List.mem_replicate] at hl
  rw [← hl.2]; exact hv

/-- So many zero values in a row. -/
theorem zeros_CR {zero : List V} {z : Array Value} (hc : CR F w zero z) (e n : Nat) (he : zero.length = e) :
    CR F w ((List.replicate n zero).flatten) ((Array.range (n * e)).map fun i => z[i % z.size]!) := by
  have hz := hc.1
  refine ⟨by simp [flatten_replicate_len, he], fun v hv => hc.2.1 v (mem_flatten_replicate hv), fun j v x hj hx => ?_⟩
  have hlt : j < n * e := by
    have := (List.getElem?_eq_some_iff.1 hj).1
    rwa [flatten_replicate_len, he] at this
  rw [flatten_replicate_get zero e he n j hlt] at hj
  have he0 : 0 < e := by rcases Nat.eq_zero_or_pos e with h | h; subst h; simp at hlt; exact h
  have hm : j % e < z.size := by rw [hz, he]; exact Nat.mod_lt _ he0
  rw [Array.getElem?_map, Array.getElem?_range, if_pos hlt] at hx
  simp only [Option.map_some, Option.some.injEq] at hx
  subst hx
  rw [hz, he]
  rw [getElem!_pos z (j % e) hm]
  exact hc.2.2 (j % e) v _ hj (Array.getElem?_eq_getElem hm)

/-- A row cut into elements. -/
theorem chunk_get {cs : List V} {n e i : Nat} {x : List V} (h : ((List.range n).map fun i => (cs.drop (i * e)).take e)[i]? = some x) : i < n ∧ x = (cs.drop (i * e)).take e := by
  rw [List.getElem?_map] at h
  cases hr : (List.range n)[i]? with
  | none => simp [hr] at h
  | some k =>
    have hi : i < n := by have := (List.getElem?_eq_some_iff.1 hr).1; simpa using this
    rw [List.getElem?_range hi] at hr
    simp at hr; subst hr
    rw [List.getElem?_range hi] at h
    simp at h; exact ⟨hi, h.symm⟩

theorem vr_chunks {cs : List V} {xs : Array Value} {n e c : Nat} {b off : Nat} (hl : cs.length = n * e) (hn : n ≤ 140737488355328) (hnc : n ≤ c) (hc : CR F w cs (xs.extract 0 cs.length)) (own : Option Nat) (hown : ∀ o, own = some o → o = b ∧ off = 0)
    (hF : ∀ j, j < n * e → F b (off + j) ∧ w.cell? ⟨b, off + j, none⟩ = xs[j]?) (hsz : cs.length ≤ xs.size) :
    VR F w (.fz e ((List.range n).map fun i => (cs.drop (i * e)).take e) c own) (.slice (some ⟨b, off, none⟩) n c) := by
  have hlen : ((List.range n).map fun i => (cs.drop (i * e)).take e).length = n := by simp
  have hbound : ∀ i, i < n → i * e + e ≤ n * e := fun i hi => by
    have : (i + 1) * e ≤ n * e := Nat.mul_le_mul_right e hi
    rwa [Nat.add_mul, Nat.one_mul] at this
  refine .fz e _ n c own _ b off (fun j => (xs[j]?).getD undef) hlen.symm (by rw [hlen]; exact hnc) (by rw [hlen]; exact hn) (fun x hx => ?_) (fun x hx v hv => ?_) (fun _ => rfl) hown (fun h => by cases h) (fun j hj => ?_) (fun i j x v hi hj => ?_)
  · obtain ⟨i, hi, rfl⟩ := List.mem_map.1 hx
    have := hbound i (by simpa using hi)
    rw [List.length_take, List.length_drop]; omega
  · obtain ⟨i, hi, rfl⟩ := List.mem_map.1 hx
    exact hc.2.1 v (List.mem_of_mem_drop (List.mem_of_mem_take hv))
  · rw [hlen] at hj
    obtain ⟨h1, h2⟩ := hF j hj
    refine ⟨h1, ?_⟩
    rw [h2, Array.getElem?_eq_getElem (by omega)]; rfl
  · obtain ⟨hi', rfl⟩ := chunk_get hi
    rw [List.getElem?_take] at hj
    split at hj
    · rw [List.getElem?_drop] at hj
      have hlt : i * e + j < cs.length := (List.getElem?_eq_some_iff.1 hj).1
      have hx : (xs.extract 0 cs.length)[i * e + j]? = some (xs[i * e + j]'(by omega)) := by
        rw [Array.getElem?_extract, if_pos (by omega), Nat.zero_add]; exact Array.getElem?_eq_getElem (by omega)
      have := hc.2.2 _ v _ hj hx
      simpa [Array.getElem?_eq_getElem (show i * e + j < xs.size by omega)] using this
    · cases hj

theorem fill_length : ∀ {vs : List V} {ps : List (Nat × Nat × List V)} {cs : List V}, fill vs ps = some cs → cs.length = vs.length
  | vs, [], cs, h => by simp [fill] at h; rw [h]
  | vs, (off, size, us) :: rest, cs, h => by
    simp only [fill] at h
    split at h
    · rename_i hc
      have := fill_length h
      rw [this]
      simp; omega
    · cases h

theorem d_bsl (t el : TypeId) (e len : Nat) (z : Value) (zero : List V) (parts : Array (Nat × Value)) (vparts : List (Nat × Opd)) (hz : (P.info? el).bind (·.zero) = some z) (hc : CK zero z.cells)
    (hu : P.underlying t = some (.slice el)) (hze : szOk P el e = true) (hsmall : len * e ≤ 2 ^ 24) (hlen : len ≤ 2 ^ 24)
    (hp : PartsOk F w (fun i => some (i * e, e)) parts.toList (vparts.map fun p => (p.1 * e, e, ev p.2)))
    (hs : Sim F σ w) (h : vop P (.bsl zero e len vparts) ev σ K) : Does P F σ w (do pure (Next.value (← Instr.buildSlice t len parts))) K := by
  simp only [vop] at h
  obtain ⟨h1, h0, h2, cs, h3, hk⟩ := h
  have hpc := hp.cells (by
    intro p hp'
    obtain ⟨q, hq, rfl⟩ := List.mem_map.1 hp'
    exact h2 q hq)
  have hzr : CR F w ((List.replicate len zero).flatten) ((Array.range (len * e)).map fun i => z.cells[i % z.cells.size]!) := zeros_CR (hc F w) e len h0
  have hzr' : CR F w ((List.replicate len zero).flatten) ((Array.range (len * e)).map fun i => (if len * e = 0 then (#[] : Array Value) else z.cells)[i % (if len * e = 0 then (#[] : Array Value) else z.cells).size]!) := by
    by_cases h9 : len * e = 0
    · have e1 : (Array.range (len * e)).map (fun i => z.cells[i % z.cells.size]!) = #[] := by rw [h9]; simp
      rw [e1] at hzr
      have e2 : (Array.range (len * e)).map (fun i => (if len * e = 0 then (#[] : Array Value) else z.cells)[i % (if len * e = 0 then (#[] : Array Value) else z.cells).size]!) = #[] := by rw [h9]; simp
      rw [e2]; exact hzr
    · simp only [if_neg h9]; exact hzr
  obtain ⟨cells', hf, hr⟩ := fill_sound parts.toList _ _ _ cs hzr' hpc.1 hpc.2 (by simpa [List.map_map, Function.comp_def] using h3)
  have hl : cs.length = len * e := by rw [fill_length h3, flatten_replicate_len, h0]
  obtain ⟨s1, e1⟩ := new_frozen (vs := cs) (ty := el) hs (by rw [hr.1]; omega)
  rw [Store.erase_none σ hs.fresh] at s1
  have hrun : (Instr.buildSlice t len parts).run P w = .ok (.slice (some ⟨w.heap.size, 0, none⟩) len len) (w.alloc (.cells cells' el)) := by
    have hb : ¬ (len * e > 2 ^ 24) := by omega
    unfold Instr.buildSlice
    by_cases h9 : len * e = 0
    · simp only [h9, if_true] at hf
      simp [run_underlying hu, szOk_run hze, h9, newRow]
      simp at hf
      simp [hf]
    · simp only [if_neg h9] at hf
      simp [run_underlying hu, szOk_run hze, h9, hb, newRow, run_zero hz]
      try simp at hf
      simp [hf]
  refine ⟨_, _, _, _, .inl ⟨_, run_v hrun, vr_chunks hl (by omega) (Nat.le_refl _) (hr.all.mono (fun _ _ h => .inl h) (cell_alloc hs _)) none (fun _ h => by cases h) (fun j hj => ⟨.inr ⟨rfl, by omega⟩, ?_⟩) (by rw [hr.1]; omega)⟩, s1, e1, hk⟩
  rw [Nat.zero_add, cell_new]


/-! ### writing a row -/
theorem splice_CR {cs us : List V} {arr xs : Array Value} {off : Nat} (hz : cs.length ≤ arr.size) (hc : CR F w cs (arr.extract 0 cs.length)) (hu : CR F w us xs) (ho : off ≤ cs.length) (hfit : off + us.length ≤ arr.size) :
    CR F w (cs.take off ++ us ++ cs.drop (off + us.length)) ((arr.toList.take off ++ xs.toList ++ arr.toList.drop (off + xs.size)).toArray.extract 0 (cs.take off ++ us ++ cs.drop (off + us.length)).length) ∧
    (arr.toList.take off ++ xs.toList ++ arr.toList.drop (off + xs.size)).toArray.size = arr.size := by
  have z2 := hu.1
  have hsz : (arr.toList.take off ++ xs.toList ++ arr.toList.drop (off + xs.size)).toArray.size = arr.size := by simp; omega
  have hlen : (cs.take off ++ us ++ cs.drop (off + us.length)).length ≤ arr.size := by simp; omega
  refine ⟨⟨?_, ?_, ?_⟩, hsz⟩
  · rw [Array.size_extract, hsz]; omega
  · intro v hv
    simp only [List.mem_append] at hv
    rcases hv with (hv | hv) | hv
    · exact hc.2.1 v (List.mem_of_mem_take hv)
    · exact hu.2.1 v hv
    · exact hc.2.1 v (List.mem_of_mem_drop hv)
  · intro j v y hj hy
    have get : ∀ k v, cs[k]? = some v → ∀ y, arr[k]? = some y → VR F w v y := fun k v hk y hy => by
      have hlt : k < cs.length := (List.getElem?_eq_some_iff.1 hk).1
      refine hc.2.2 k v y hk ?_
      rw [Array.getElem?_extract, if_pos (by omega), Nat.zero_add]; exact hy
    have hjl := (List.getElem?_eq_some_iff.1 hj).1
    rw [Array.getElem?_extract, if_pos (by rw [hsz]; omega), Nat.zero_add] at hy
    have t1 : (cs.take off).length = off := by rw [List.length_take]; omega
    have t2 : (arr.toList.take off).length = off := by rw [List.length_take, Array.length_toList]; omega
    simp only [List.getElem?_toArray] at hy
    rw [List.append_assoc] at hj hy
    rw [List.getElem?_append, t1] at hj
    rw [List.getElem?_append, t2] at hy
    split at hj
    · rename_i hlt
      rw [if_pos hlt] at hy
      rw [List.getElem?_take, if_pos hlt] at hj hy
      exact get j v hj y (by simpa using hy)
    · rename_i hge
      rw [if_neg hge] at hy
      rw [List.getElem?_append] at hj hy
      rw [Array.length_toList, z2] at hy
      split at hj
      · rename_i hlt
        rw [if_pos hlt] at hy
        exact hu.2.2 _ v y hj (by simpa using hy)
      · rename_i hge2
        rw [if_neg hge2] at hy
        rw [List.getElem?_drop] at hj hy
        exact get _ v hj y (by simpa using hy)

theorem setRow_cell {b : Nat} {arr : Array Value} (hn : ∀ o, ¬ F b o) : ∀ k o, F k o → (w.setRow b arr).cell? ⟨k, o, none⟩ = w.cell? ⟨k, o, none⟩ := fun k o hk =>
  World.cell?_of_block (w := w) (setRow_other w b k arr (fun e => hn o (e ▸ hk)))

/-- Cells of a row are written (beyond its end too, into the slack). -/
theorem row_write {b off sl : Nat} {cs us : List V} {xs : Array Value} (hs : Sim F σ w) (hb : σ b = some (.row cs sl)) (hu : CR F w us xs) (ho : off ≤ cs.length) (hfit : off + us.length ≤ cs.length + sl) :
    ∃ w', (storeCells ⟨b, off, none⟩ xs.toList).run P w = .ok () w' ∧
      Sim F (σ.set b (.row (cs.take off ++ us ++ cs.drop (off + us.length)) (cs.length + sl - (cs.take off ++ us ++ cs.drop (off + us.length)).length))) w' ∧
      Ext F σ w F (σ.set b (.row (cs.take off ++ us ++ cs.drop (off + us.length)) (cs.length + sl - (cs.take off ++ us ++ cs.drop (off + us.length)).length))) w' := by
  obtain ⟨⟨arr, ty, h1, h2, h3⟩, h4⟩ := hs.row' hb
  have hone : ∀ v ∈ xs.toList, v.oneCell' = true := fun v hv => by
    obtain ⟨j, hj, rfl⟩ := List.mem_iff_getElem.1 hv
    have hj' : j < us.length := by rw [← hu.1]; simpa using hj
    exact (hu.2.2 j us[j] _ (List.getElem?_eq_getElem hj') (by simp)).oneCell (hu.2.1 _ (List.getElem_mem hj'))
  have hst := run_storeCells_at P b off ty xs.toList 0 arr w h1 (by simp [hu.1, h2]; omega) hone
  simp only [Nat.add_zero, Array.length_toList] at hst
  obtain ⟨c1, c2⟩ := splice_CR (by omega) h3 hu ho (by omega)
  have hcell := setRow_cell (w := w) (arr := (arr.toList.take off ++ xs.toList ++ arr.toList.drop (off + xs.size)).toArray) h4
  have hsize : (w.setRow b (arr.toList.take off ++ xs.toList ++ arr.toList.drop (off + xs.size)).toArray).heap.size = w.heap.size := by simp [World.setRow]
  have s1 := Sim.change (F' := F) (w' := w.setRow b (arr.toList.take off ++ xs.toList ++ arr.toList.drop (off + xs.size)).toArray) b hs (fun _ _ h => h) hcell (by rw [hsize]; exact Nat.le_refl _)
    (fun k hk _ => setRow_other w b k _ hk) (fun _ _ _ h => h) (fun o ho => absurd ho (h4 o))
  refine ⟨_, hst, s1.put_row ⟨⟨_, ty, setRow_heap w b arr _ ty _ h1, ?_, c1.mono (fun _ _ h => h) hcell⟩, h4⟩, ?_⟩
  · rw [c2, h2]
    have : (cs.take off ++ us ++ cs.drop (off + us.length)).length ≤ cs.length + sl := by simp; omega
    omega
  · exact Ext.change b (fun _ _ h => h) hcell (by rw [hsize]; exact Nat.le_refl _) (fun k hk _ => setRow_other w b k _ hk) (.inl (by simp [hb, Ob.still])) (fun k hk => Store.get_set_ne _ _ hk) (Nat.le_refl _) rfl rfl rfl

theorem szOk_of {t : TypeId} {n : Nat} (h : szOk P t n = true) : (sizeOf t).run P w = .ok n w := szOk_run h

theorem d_store (t : TypeId) (n : Nat) (hz : szOk P t n = true) (hs : Sim F σ w) (hp : VR F w (ev p) a) (hx : VR F w (ev x) b) (h : vop P (.store n p x) ev σ K) :
    Does P F σ w (do Instr.storeAt t a b; pure .skip) K := by
  simp only [vop] at h
  generalize ev p = u at *
  cases hp <;> try exact h.elim
  rename_i bb off
  obtain ⟨hf, hn, cs, sl, hb, hl, hk⟩ := h
  have hcr := hx.cells hf
  obtain ⟨w', hr, s1, e1⟩ := row_write (P := P) (off := off) hs hb hcr (by omega) (by omega)
  have hsl : cs.length + sl - (cs.take off ++ (ev x).cells ++ cs.drop (off + (ev x).cells.length)).length = sl := by simp; omega
  rw [hsl, hn] at s1 e1
  refine ⟨_, _, _, w', .inr ⟨?_, rfl⟩, s1, e1, hk⟩
  have hsz : b.cells.size = n := hcr.1.trans hn
  simp [Instr.storeAt, Instr.sureAddr, storeVar, szOk_run hz, hsz, hr]

end Go.Vm
