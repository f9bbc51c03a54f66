/-
  VM 5: freezing; append, make, copy.
-/
import Derived.Test.YtbbkgjkknjpmcaaVm4
import Derived.ArgAppend
set_option linter.unusedSimpArgs false
set_option linter.unusedVariables false
set_option linter.unusedSectionVars false
namespace Go.Vm
open Go

variable {P : Program} {F : Nat → Nat → Prop} {w : World} {σ : Store} {ev : Opd → V} {K : V → Store → Prop} {x y p s : Opd} {a b : Value}

theorem VR.drew {v : V} {x : Value} (h : VR F w v x) : VR F w.drew v x := h.mono (F := F) (F' := F) (w := w) (w' := w.drew) (fun _ _ h => h) (fun _ _ _ => rfl)
theorem CR.drew {v : List V} {x : Array Value} (h : CR F w v x) : CR F w.drew v x := h.mono (F := F) (F' := F) (w := w) (w' := w.drew) (fun _ _ h => h) (fun _ _ _ => rfl)
theorem Sim.drew (h : Sim F σ w) : Sim F σ w.drew where
  froz := h.froz
  row b cs sl hb := (h.row b cs sl hb).keep (F := F) (F' := F) (w := w) (w' := w.drew) (fun _ _ h => h) (fun _ _ _ => rfl) rfl (fun _ h => h)
  used := h.used
  map b es c hb := (h.map b es c hb).keep (F := F) (F' := F) (w := w) (w' := w.drew) (fun _ _ h => h) (fun _ _ _ => rfl) rfl (fun _ h => h)
  iter := h.iter
theorem Ext.drew (F : Nat → Nat → Prop) (σ : Store) (w : World) : Ext F σ w F σ w.drew := ⟨fun _ _ h => h, fun _ _ _ => rfl, fun _ _ _ => rfl, fun _ _ h => h, fun _ h => .inl h, Nat.le_refl _, Nat.le_succ _, rfl, rfl, rfl⟩

/-- A row is frozen as it stands. -/
theorem freeze_row {bb sl : Nat} {cs : List V} (hs : Sim F σ w) (hb : σ bb = some (.row cs sl)) :
    Sim (Fmore F bb cs.length) (σ.erase bb) w ∧ Ext F σ w (Fmore F bb cs.length) (σ.erase bb) w ∧
    ∃ arr ty, w.heap[bb]? = some (.cells arr ty (0, 0)) ∧ arr.size = cs.length + sl ∧ CR (Fmore F bb cs.length) w cs (arr.extract 0 cs.length) := by
  obtain ⟨⟨arr, ty, h1, h2, h3⟩, h4⟩ := hs.row' hb
  refine ⟨Sim.change bb hs (fun _ _ h => .inl h) (fun _ _ _ => rfl) (Nat.le_refl _) (fun _ _ _ => rfl) (fun k o hk h => h.resolve_right (fun h => hk h.1)) (fun o _ => hs.lt hb), ?_, arr, ty, h1, h2, h3.mono (fun _ _ h => .inl h) (fun _ _ _ => rfl)⟩
  exact Ext.change bb (fun _ _ h => .inl h) (fun _ _ _ => rfl) (Nat.le_refl _) (fun _ _ _ => rfl) (.inl (by simp [hb, Ob.still])) (fun k hk => Store.get_erase_ne _ hk) (Nat.le_refl _) rfl rfl rfl

theorem frozen_fp {bb : Nat} {cs : List V} {arr : Array Value} {ty : TypeId} (h1 : w.heap[bb]? = some (.cells arr ty (0, 0))) (h2 : cs.length ≤ arr.size) (h3 : CR F w cs (arr.extract 0 cs.length)) (hF : ∀ o, o < cs.length → F bb o) :
    VR F w (.fp cs) (.pointer (some ⟨bb, 0, none⟩)) := by
  refine .fp cs bb 0 (fun j => (arr[j]?).getD undef) h3.2.1 (fun j hj => ⟨by simpa using hF j hj, ?_⟩) (fun j v hj => ?_)
  · rw [Nat.zero_add]; simp [World.cell?, h1, Array.getElem?_eq_getElem (show j < arr.size by omega)]
  · have hlt : j < cs.length := (List.getElem?_eq_some_iff.1 hj).1
    have hx : (arr.extract 0 cs.length)[j]? = some (arr[j]'(by omega)) := by
      rw [Array.getElem?_extract, if_pos (by omega), Nat.zero_add]; exact Array.getElem?_eq_getElem (by omega)
    have := h3.2.2 j v _ hj hx
    simpa [Array.getElem?_eq_getElem (show j < arr.size by omega)] using this

/-- The last store into a variable: from there on it is frozen. -/
theorem fst_sound (t : TypeId) (d n : Nat) (hz : szOk P t n = true) (hs : Sim F σ w) (hp : VR F w (ev (.s d)) a) (hx : VR F w (ev x) b) (h : vop P (.fst d n x) ev σ K) :
    ∃ v σ' F' w', (do Instr.storeAt t a b; pure Next.skip : Sem Next).run P w = .ok .skip w' ∧ VR F' w' v a ∧ Sim F' σ' w' ∧ Ext F σ w F' σ' w' ∧ K v σ' := by
  simp only [vop] at h
  generalize ev (.s d) = u at *
  cases hp <;> try exact h.elim
  rename_i bb off
  cases off with
  | succ k => exact h.elim
  | zero =>
    obtain ⟨hf, hn, cs, hb, hl, hk⟩ := h
    have hcr := hx.cells hf
    obtain ⟨w', hr, s1, e1⟩ := row_write (P := P) (off := 0) hs hb hcr (by omega) (by omega)
    have hnew : cs.take 0 ++ (ev x).cells ++ cs.drop (0 + (ev x).cells.length) = (ev x).cells := by
      rw [List.take_zero, List.nil_append, Nat.zero_add, hn, ← hl, List.drop_length, List.append_nil]
    rw [hnew] at s1 e1
    obtain ⟨s2, e2, arr, ty, h1, h2, h3⟩ := freeze_row s1 (Store.get_set_same _ _ _)
    have herase : (σ.set bb (.row (ev x).cells (cs.length + 0 - (ev x).cells.length))).erase bb = σ.erase bb := by
      funext k; by_cases hk' : k = bb <;> simp [Store.set, Store.erase, hk']
    rw [herase] at s2 e2
    refine ⟨_, _, _, w', ?_, frozen_fp h1 (by omega) h3 (fun o ho => .inr ⟨rfl, ho⟩), s2, e1.trans e2, hk⟩
    have hsz : b.cells.size = n := hcr.1.trans hn
    simp [Instr.storeAt, Instr.sureAddr, storeVar, szOk_run hz, hsz, hr]

/-! ### append -/
theorem elems_read {e m c : Nat} {X : Option Addr} {v : V} {ys : List (List V)} (hs : Sim F σ w) (hv : VR F w v (.slice X m c)) (h : elems σ e v = some ys) :
    ys.length = m ∧ ∃ news, (Builtin.firstCells e m (.slice X m c)).run P w = .ok news w ∧ CR F w ys.flatten news ∧ ∀ y ∈ ys, y.length = e := by
  have fin : ∀ (bb off : Nat) (vs : List V), vs.length = m * e → (∀ (j : Nat) v, vs[j]? = some v → ∃ x, w.cell? ⟨bb, off + j, none⟩ = some x ∧ VR F w v x) → (∀ v ∈ vs, v.one = true) →
      ∃ news, (Builtin.firstCells e m (.slice (some ⟨bb, off, none⟩) m c)).run P w = .ok news w ∧ CR F w vs news := by
    intro bb off vs hl hc h1
    obtain ⟨xs, hr, hvr⟩ := load_cells (P := P) hc h1
    rw [hl] at hr
    refine ⟨xs, by simp [Builtin.firstCells, hr], ?_⟩
    cases hvr with
    | agg _ _ a b c => exact ⟨a, b, c⟩
  generalize hval : Value.slice X m c = val at hv
  cases hv <;> try (cases hval; done)
  · cases hval; simp [elems] at h
  · rename_i e' xs n c' own A bb off f hl hc hn he h1 hA ho hz hF hv
    cases hval
    simp only [elems] at h
    split at h
    case isFalse => cases h
    case isTrue heq =>
    have hy : xs = ys := by simpa using h
    clear h
    subst hy
    subst heq
    have hflat : ∀ xs : List (List V), (∀ x ∈ xs, x.length = e') → xs.flatten.length = xs.length * e' := by
      intro xs
      induction xs with
      | nil => intro _; simp
      | cons x xs ih => intro hx; rw [List.flatten_cons, List.length_append, ih (fun y hy => hx y (by simp [hy])), hx x (by simp), List.length_cons, Nat.add_mul]; omega
    have hget : ∀ (xs : List (List V)) (j : Nat) v, (∀ x ∈ xs, x.length = e') → xs.flatten[j]? = some v → ∃ x, xs[j / e']? = some x ∧ x[j % e']? = some v := by
      intro xs
      induction xs with
      | nil => intro j v _ hj; simp at hj
      | cons x xs ih =>
        intro j v hx hj
        have hxl := hx x (by simp)
        rw [List.flatten_cons, List.getElem?_append, hxl] at hj
        split at hj
        · rename_i hlt
          exact ⟨x, by rw [Nat.div_eq_of_lt hlt]; rfl, by rw [Nat.mod_eq_of_lt hlt]; exact hj⟩
        · rename_i hge
          obtain ⟨y, h1, h2⟩ := ih (j - e') v (fun y hy => hx y (by simp [hy])) hj
          have he0 : 0 < e' := by
            rcases Nat.eq_zero_or_pos e' with h | h
            · exfalso
              have h0 := hflat xs (fun y hy => hx y (by simp [hy]))
              have := (List.getElem?_eq_some_iff.1 hj).1
              rw [h0, h] at this; simp at this
            · exact h
          have hge' : e' ≤ j := by omega
          refine ⟨y, ?_, ?_⟩
          · rw [Nat.div_eq_sub_div he0 hge', List.getElem?_cons_succ]; exact h1
          · rw [Nat.mod_eq_sub_mod hge']; exact h2
    refine ⟨hl.symm, ?_⟩
    have hall : ∀ v ∈ xs.flatten, v.one = true := fun v hv => by
      rw [List.mem_flatten] at hv
      obtain ⟨l, hl, hv⟩ := hv
      exact h1 l hl v hv
    by_cases hne : xs = []
    · subst hne
      simp at hl
      subst hl
      cases X with
      | none => exact ⟨#[], by simp [Builtin.firstCells], ⟨rfl, by simp, by simp⟩, by simp⟩
      | some ad => exact ⟨#[], by simp [Builtin.firstCells, loadCells, loadCellsFrom], ⟨rfl, by simp, by simp⟩, by simp⟩
    · have hAe := hA (.inl hne)
      subst hAe; subst hl
      obtain ⟨news, hr, hcr⟩ := fin bb off xs.flatten (hflat xs he) (fun j v hj => by
        obtain ⟨x, h1', h2'⟩ := hget xs j v he hj
        have hj' : j < xs.length * e' := by rw [← hflat xs he]; exact (List.getElem?_eq_some_iff.1 hj).1
        have hvr := hv _ _ x v h1' h2'
        rw [Nat.div_add_mod' j e'] at hvr
        exact ⟨_, (hF j hj').2, hvr⟩) hall
      exact ⟨news, hr, hcr, he⟩
  · rename_i bb off len' c' hc hn
    cases hval
    simp only [elems] at h
    split at h
    case h_2 => cases h
    case h_1 cs sl hb =>
    split at h
    case isFalse => cases h
    case isTrue hfit =>
    simp only [Option.some.injEq] at h
    subst h
    have hrow := hs.row bb cs sl hb
    obtain ⟨⟨arr, ty, _, _, _, hone, _⟩, _⟩ := hrow
    have hchunk : ∀ n, off + n * e ≤ cs.length → ((List.range n).map fun i => (cs.drop (off + i * e)).take e).flatten = (cs.drop off).take (n * e) := by
      intro n
      induction n with
      | zero => intro _; simp
      | succ n ih =>
        intro hle
        have hle' : off + n * e ≤ cs.length := by rw [Nat.add_mul] at hle; omega
        rw [List.range_succ, List.map_append, List.flatten_append, ih hle']
        simp only [List.map_cons, List.map_nil, List.flatten_cons, List.flatten_nil, List.append_nil]
        rw [Nat.add_mul, Nat.one_mul, List.take_add, List.drop_drop]
    refine ⟨by simp, ?_⟩
    rw [hchunk m hfit]
    obtain ⟨news, hr, hcr⟩ := fin bb off ((cs.drop off).take (m * e)) (by rw [List.length_take, List.length_drop]; omega) (fun j v hj => by
      rw [List.getElem?_take] at hj
      split at hj
      · rw [List.getElem?_drop] at hj
        obtain ⟨x, hx, hvr, _⟩ := row_cell (hs.row bb cs sl hb) hj
        exact ⟨x, hx, hvr⟩
      · cases hj) (fun v hv => hone v (List.mem_of_mem_drop (List.mem_of_mem_take hv)))
    refine ⟨news, hr, hcr, fun y hy => ?_⟩
    obtain ⟨i, hi, rfl⟩ := List.mem_map.1 hy
    have hi' : i < m := by simpa using hi
    have : (i + 1) * e ≤ m * e := Nat.mul_le_mul_right e hi'
    rw [Nat.add_mul] at this
    rw [List.length_take, List.length_drop]; omega


theorem run_app_room {t ty el : TypeId} {e n m c cx : Nat} {A X : Option Addr} {news : Array Value} {w' : World} (ht : P.underlying t = some (.slice el)) (hz : szOk P el e = true)
    (hx : (Builtin.firstCells e m (.slice X m cx)).run P w = .ok news w) (hroom : n + m ≤ c)
    (hst : ∀ ad, A = some ad → (storeCells (ad.add (n * e)) news.toList).run P w = .ok () w') (hnone : A = none → w' = w) :
    (Builtin.append_ #[t, t] ty #[.slice A n c, .slice X m cx]).run P w = .ok (.slice A (n + m) c) w' := by
  cases A with
  | none => rw [hnone rfl]; simp [Builtin.append_, run_underlying ht, szOk_run hz, Builtin.lenOf, hroom, hx]
  | some ad => simp [Builtin.append_, run_underlying ht, szOk_run hz, Builtin.lenOf, hroom, hx, hst ad rfl]

theorem run_app_grow {t ty el : TypeId} {e by' n m c cx : Nat} {A X : Option Addr} {olds news : Array Value} {z : Value} (ht : P.underlying t = some (.slice el)) (hz : szOk P el e = true) (hb : byOk P el by' = true)
    (hzero : (P.info? el).bind (·.zero) = some z) (hroom : ¬ n + m ≤ c) (hbig : (n + m) * by' ≤ 140737488355328) (hsmall : n + m ≤ 9223372036854775807)
    (ho : (Builtin.firstCells e n (.slice A n c)).run P w.drew = .ok olds w.drew) (hx : (Builtin.firstCells e m (.slice X m cx)).run P w.drew = .ok news w.drew) :
    (Builtin.append_ #[t, t] ty #[.slice A n c, .slice X m cx]).run P w =
      .ok (.slice (some ⟨w.heap.size, 0, none⟩) (n + m) (grownCap w (n + m) c el)) (w.drew.alloc (.cells (olds ++ news ++ Builtin.zeroCells z.cells (grownCap w (n + m) c el - (n + m))) el)) := by
  unfold szOk at hz
  unfold byOk at hb
  cases hi : P.info? el with
  | none => simp [hi] at hz
  | some i =>
    simp [hi] at hz hb hzero
    have h1 := growslice_fits (need := n + m) (old := c) (by omega) hbig
    have h2 : ¬ ((n : Int) + (m : Int) > IntKind.i64.max) := by simp [IntKind.max, IntKind.signed, IntKind.bits]; omega
    simp [Builtin.append_, run_underlying ht, sizeOf, typeInfo, hi, hz, hb, Builtin.lenOf, hroom, Nat.not_lt.2 h1, h2, Question.forced, ho, hx, zeroValue, hzero, newRow, grownCap]
    intro h3
    omega


theorem flat_len {e : Nat} : ∀ {xs : List (List V)}, (∀ x ∈ xs, x.length = e) → xs.flatten.length = xs.length * e
  | [], _ => by simp
  | x :: xs, hx => by
    rw [List.flatten_cons, List.length_append, flat_len (fun y hy => hx y (by simp [hy])), hx x (by simp), List.length_cons, Nat.add_mul]; omega

theorem flat_at {e : Nat} : ∀ {xs : List (List V)} {i j : Nat} {x : List V} {v : V}, (∀ x ∈ xs, x.length = e) → xs[i]? = some x → x[j]? = some v → xs.flatten[i * e + j]? = some v
  | [], i, j, x, v, _, hi, _ => by simp at hi
  | y :: ys, 0, j, x, v, hx, hi, hj => by
    simp at hi; subst hi
    have hlt := (List.getElem?_eq_some_iff.1 hj).1
    rw [List.flatten_cons, List.getElem?_append, if_pos (by omega), Nat.zero_mul, Nat.zero_add]; exact hj
  | y :: ys, i + 1, j, x, v, hx, hi, hj => by
    rw [List.getElem?_cons_succ] at hi
    have hy := hx y (by simp)
    rw [List.flatten_cons, List.getElem?_append, if_neg (by rw [hy, Nat.add_mul]; omega), hy, show (i + 1) * e + j - e = i * e + j by rw [Nat.add_mul]; omega]
    exact flat_at (fun z hz => hx z (by simp [hz])) hi hj

theorem flat_get {e : Nat} : ∀ {xs : List (List V)} {j : Nat} {v : V}, (∀ x ∈ xs, x.length = e) → xs.flatten[j]? = some v → ∃ x, xs[j / e]? = some x ∧ x[j % e]? = some v ∧ j / e * e + j % e = j
  | [], j, v, _, hj => by simp at hj
  | x :: xs, j, v, hx, hj => by
    have hxl := hx x (by simp)
    have hall : ∀ y ∈ xs, y.length = e := fun y hy => hx y (by simp [hy])
    rw [List.flatten_cons, List.getElem?_append, hxl] at hj
    split at hj
    · rename_i hlt
      exact ⟨x, by rw [Nat.div_eq_of_lt hlt]; rfl, by rw [Nat.mod_eq_of_lt hlt]; exact hj, Nat.div_add_mod' j e⟩
    · rename_i hge
      obtain ⟨y, h1, h2, _⟩ := flat_get hall hj
      have he0 : 0 < e := by
        rcases Nat.eq_zero_or_pos e with h | h
        · exfalso
          have h0 := flat_len hall
          have := (List.getElem?_eq_some_iff.1 hj).1
          rw [h0, h] at this; simp at this
        · exact h
      have hge' : e ≤ j := by omega
      refine ⟨y, ?_, ?_, Nat.div_add_mod' j e⟩
      · rw [Nat.div_eq_sub_div he0 hge', List.getElem?_cons_succ]; exact h1
      · rw [Nat.mod_eq_sub_mod hge']; exact h2

/-- A list of elements that lies in a row. -/
theorem vr_flat {e c n bb off : Nat} {zs : List (List V)} {arr : Array Value} {own : Option Nat} (he : ∀ z ∈ zs, z.length = e) (hn : n = zs.length) (hle : zs.length ≤ 140737488355328) (hnc : zs.length ≤ c)
    (hown : ∀ o, own = some o → o = bb ∧ off = 0) (hcell : ∀ j, w.cell? ⟨bb, off + j, none⟩ = arr[j]?) (hF : ∀ j, j < zs.length * e → F bb (off + j)) (hc : CR F w zs.flatten (arr.extract 0 zs.flatten.length)) (hsz : zs.flatten.length ≤ arr.size) :
    VR F w (.fz e zs c own) (.slice (some ⟨bb, off, none⟩) n c) := by
  have hl := flat_len he
  refine .fz e zs n c own _ bb off (fun j => (arr[j]?).getD undef) hn hnc hle he (fun x hx v hv => hc.2.1 v (List.mem_flatten.2 ⟨x, hx, hv⟩)) (fun _ => rfl) hown (fun h => by cases h) (fun j hj => ⟨hF j hj, ?_⟩) (fun i j x v hi hj => ?_)
  · rw [hcell, Array.getElem?_eq_getElem (by omega)]; rfl
  · have hk := flat_at he hi hj
    have hlt := (List.getElem?_eq_some_iff.1 hk).1
    have hx : (arr.extract 0 zs.flatten.length)[i * e + j]? = some (arr[i * e + j]'(by omega)) := by
      rw [Array.getElem?_extract, if_pos (by omega), Nat.zero_add]; exact Array.getElem?_eq_getElem (by omega)
    have := hc.2.2 _ v _ hk hx
    simpa [Array.getElem?_eq_getElem (show i * e + j < arr.size by omega)] using this

theorem CR.append {as bs : List V} {xs ys : Array Value} (h1 : CR F w as xs) (h2 : CR F w bs ys) : CR F w (as ++ bs) (xs ++ ys) := by
  refine ⟨by simp [h1.1, h2.1], fun v hv => ?_, fun j v x hj hx => ?_⟩
  · rcases List.mem_append.1 hv with h | h
    · exact h1.2.1 v h
    · exact h2.2.1 v h
  · rw [List.getElem?_append] at hj
    rw [Array.getElem?_append, h1.1] at hx
    split at hj
    · rename_i hlt; rw [if_pos hlt] at hx; exact h1.2.2 j v x hj hx
    · rename_i hge; rw [if_neg hge] at hx; exact h2.2.2 _ v x hj hx

theorem CR.prefix' {as : List V} {xs ys : Array Value} (h : CR F w as xs) : CR F w as ((xs ++ ys).extract 0 as.length) := by
  have : (xs ++ ys).extract 0 as.length = xs := by rw [← h.1]; simp
  rw [this]; exact h

theorem elems_le {e m c : Nat} {X : Option Addr} {v : V} {ys : List (List V)} (hv : VR F w v (.slice X m c)) (h : elems σ e v = some ys) : m ≤ 140737488355328 := by
  generalize hval : Value.slice X m c = val at hv
  cases hv <;> try (cases hval; done)
  · cases hval; simp [elems] at h
  · cases hval; omega
  · cases hval; omega

/-- append that makes a new row. -/
theorem app_grow {t ty el : TypeId} {e by' m c cx : Nat} {A X : Option Addr} {z : Value} {xs ys : List (List V)} {v : V} (ht : P.underlying t = some (.slice el)) (hz : szOk P el e = true) (hb : byOk P el by' = true) (h0 : 0 < by')
    (hzero : (P.info? el).bind (·.zero) = some z) (hzs : z.cells.size = e) (hs : Sim F σ w) {u : V} (hu : VR F w u (.slice A xs.length c)) (hux : elems σ e u = some xs) (hx : VR F w v (.slice X m cx)) (hys : elems σ e v = some ys)
    (hroom : ¬ xs.length + m ≤ c) (hbig : (xs.length + m) * by' ≤ 140737488355328) :
    ∃ (w' : World) (cap' : Nat) (arr : Array Value), (Builtin.append_ #[t, t] ty #[.slice A xs.length c, .slice X m cx]).run P w = .ok (.slice (some ⟨w.heap.size, 0, none⟩) (xs.length + m) cap') w' ∧ w' = w.drew.alloc (.cells arr el) ∧
      xs.length + m ≤ cap' ∧ arr.size = cap' * e ∧ CR F w (xs ++ ys).flatten (arr.extract 0 (xs ++ ys).flatten.length) ∧ (∀ z ∈ xs ++ ys, z.length = e) ∧ xs.length + m ≤ 140737488355328 ∧ ys.length = m := by
  obtain ⟨hm, news, hnews, hcn, hye⟩ := elems_read (P := P) hs.drew hx.drew hys
  obtain ⟨_, olds, holds, hco, hxe⟩ := elems_read (P := P) hs.drew hu.drew hux
  have hlen : xs.length + m ≤ 140737488355328 := Nat.le_trans (Nat.le_mul_of_pos_right _ h0) hbig
  have hrun := run_app_grow (P := P) (w := w) (ty := ty) ht hz hb hzero hroom hbig (by omega) holds hnews
  have hall : ∀ z ∈ xs ++ ys, z.length = e := fun z hz => by
    rcases List.mem_append.1 hz with h | h
    · exact hxe z h
    · exact hye z h
  have hge := grownCap_ge w (xs.length + m) c el
  have hcr : CR F w (xs ++ ys).flatten (olds ++ news) := by rw [List.flatten_append]; exact (hco.append hcn).mono (F := F) (F' := F) (w := w.drew) (w' := w) (fun _ _ h => h) (fun _ _ _ => rfl)
  refine ⟨_, _, _, hrun, rfl, hge, ?_, hcr.prefix', hall, hlen, hm⟩
  rw [Array.size_append, hcr.1, flat_len hall, size_zeroCells, hzs, List.length_append, hm, ← Nat.add_mul]
  congr 1; omega

theorem d_app (t ty el : TypeId) (e by' : Nat) (z : Value) (ht : P.underlying t = some (.slice el)) (hz : szOk P el e = true) (hb : byOk P el by' = true) (h0 : 0 < by') (hzero : (P.info? el).bind (·.zero) = some z) (hzs : z.cells.size = e)
    (hs : Sim F σ w) (hS : VR F w (ev s) a) (hx : VR F w (ev x) b) (h : vop P (.app e by' s x) ev σ K) :
    Does P F σ w (do pure (Next.value (← Builtin.append_ #[t, t] ty #[a, b]))) K := by
  simp only [vop] at h
  obtain ⟨ys, hys, h⟩ := h
  obtain ⟨X, m, cx, rfl⟩ : ∃ X m cx, b = .slice X m cx := by
    generalize ev x = u at *
    cases hx <;> first | exact ⟨_, _, _, rfl⟩ | (simp [elems] at hys; done)
  obtain ⟨hm, news, hnews, hcn, hye⟩ := elems_read (P := P) hs hx hys
  generalize hu : ev s = u at *
  cases hS <;> try exact h.elim
  rename_i e' xs n c own A bb off f hl hc hn he h1 hA ho hz' hF hv
  obtain ⟨rfl, hbig, h⟩ := h
  subst hl
  have hVRs : VR F w (.fz e' xs c own) (.slice A xs.length c) := .fz e' xs _ c own A bb off f rfl hc hn he h1 hA ho hz' hF hv
  have hel : elems σ e' (.fz e' xs c own) = some xs := by simp [elems]
  rw [hm] at hbig
  -- the way that makes a new row
  have grow : ∀ σr : Store, σr.le σ → ¬ xs.length + m ≤ c → (∀ b' c', σr b' = none → xs.length + ys.length ≤ c' → K (.fz e' (xs ++ ys) c' (some b')) (σr.set b' (.used ((xs.length + ys.length) * e') (c' * e')))) →
      Does P F σ w (do pure (Next.value (← Builtin.append_ #[t, t] ty #[.slice A xs.length c, .slice X m cx]))) K := by
    intro σr hle hroom hk
    obtain ⟨w', cap', arr, hrun, rfl, hge, harr, hcr, hall, hlen, _⟩ := app_grow (P := P) (ty := ty) ht hz hb h0 hzero hzs hs hVRs hel hx hys hroom hbig
    have hzl : (xs ++ ys).length = xs.length + m := by rw [List.length_append, hm]
    have hfl : (xs ++ ys).flatten.length = (xs.length + m) * e' := by rw [flat_len hall, hzl]
    obtain ⟨s1, e1⟩ := new_frozen (vs := (xs ++ ys).flatten) (ty := el) (xs := arr) hs.drew (by rw [harr, hfl]; exact Nat.mul_le_mul_right e' hge)
    have hfresh : σr w.heap.size = none := by
      cases hq : σr w.heap.size with
      | none => rfl
      | some o => have := hle _ _ hq; rw [hs.fresh] at this; cases this
    have hle' : (σr.erase w.heap.size).le (σ.erase w.drew.heap.size) := fun k o hk => by
      by_cases e : k = w.heap.size
      · subst e; simp at hk
      · rw [Store.get_erase_ne _ e] at hk
        show (σ.erase w.heap.size) k = _
        rw [Store.get_erase_ne _ e]; exact hle _ _ hk
    have s2 := (s1.less hle').put_used (b := w.heap.size) (n := (xs.length + ys.length) * e') (t := cap' * e') ⟨⟨_, el, heap_alloc_new' w.drew _, harr⟩, fun o ho => by
      rcases ho with ho | ho
      · exact absurd ho (hs.unfrozen o)
      · have := ho.2; rw [hfl] at this; rw [hm]; exact this⟩
    have e2 : Ext F σ w (Fmore F w.heap.size (xs ++ ys).flatten.length) (σr.set w.heap.size (.used ((xs.length + ys.length) * e') (cap' * e'))) (w.drew.alloc (.cells arr el)) := by
      have e3 := (Ext.drew F σ w).trans e1
      exact ⟨e3.sub, e3.cell, e3.keep, fun k hk hn => by
        have e : k ≠ w.heap.size := by omega
        rw [Store.get_set_ne _ _ e]
        cases hq : σr k with
        | none => rfl
        | some o => rw [hle _ _ hq] at hn; exact hn, fun k hk => by
        by_cases e : k = w.heap.size
        · exact .inr (by omega)
        · rw [Store.get_set_ne _ _ e] at hk
          exact .inl (fun hn => hk (by
            cases hq : σr k with
            | none => rfl
            | some o => rw [hle _ _ hq] at hn; exact absurd hn (by simp))), e3.size, e3.drawn, e3.os, e3.tape, e3.output⟩
    refine ⟨_, _, _, _, .inl ⟨_, run_v hrun, ?_⟩, s2, e2, hk w.heap.size cap' hfresh (by rw [hm]; exact hge)⟩
    refine vr_flat (arr := arr) hall hzl.symm (by rw [hzl]; exact hlen) (by rw [hzl]; exact hge) (fun o ho => by cases ho; exact ⟨rfl, rfl⟩) (fun j => by rw [Nat.zero_add]; exact cell_new (w := w.drew) j)
      (fun j hj => .inr ⟨rfl, by rw [Nat.zero_add, hfl, ← hzl]; exact hj⟩) (hcr.drew.mono (fun _ _ h => .inl h) (cell_alloc hs.drew _)) (by rw [harr, hfl]; exact Nat.mul_le_mul_right e' hge)
  cases own with
  | none =>
    obtain ⟨rfl, hk⟩ := h
    by_cases hm0 : m = 0
    · subst hm0
      have hys0 : ys = [] := List.eq_nil_of_length_eq_zero hm
      subst hys0
      have hnil : news.toList = [] := by
        have := hcn.1; simp at this; rw [this]
      have hrun := run_app_room (P := P) (ty := ty) (A := A) (c := xs.length) (n := xs.length) (w' := w) ht hz hnews (by omega) (fun ad _ => by rw [hnil]; simp [storeCells]) (fun _ => rfl)
      have := hk none xs.length (fun b hb => by cases hb) (fun _ => by simp)
      simp only [List.append_nil, grant] at this
      exact VR.pure hs hrun hVRs this
    · refine grow σ (Store.le_refl σ) (by omega) (fun b' c' hb' hc' => ?_)
      exact hk (some b') c' (fun b hb => by cases hb; exact ⟨hb', hc'⟩) (fun h => by cases h)
  | some o =>
    obtain ⟨rfl, rfl⟩ := ho o rfl
    obtain ⟨hus, hk⟩ := h
    by_cases hroom : xs.length + m ≤ c
    · have hAe := hA (.inr (by simp))
      subst hAe
      obtain ⟨⟨arr, ty', g1, g2⟩, g3⟩ := hs.used o _ _ hus
      have hall : ∀ z ∈ xs ++ ys, z.length = e' := fun z hz => by
        rcases List.mem_append.1 hz with h | h
        · exact he z h
        · exact hye z h
      have hzl : (xs ++ ys).length = xs.length + m := by rw [List.length_append, hm]
      have hfl : (xs ++ ys).flatten.length = (xs.length + m) * e' := by rw [flat_len hall, hzl]
      have hxl := flat_len he
      have hyl : ys.flatten.length = m * e' := by rw [flat_len hye, hm]
      have hcap : (xs.length + m) * e' ≤ arr.size := by rw [g2]; exact Nat.mul_le_mul_right e' hroom
      have hold : CR F w xs.flatten (arr.extract 0 xs.flatten.length) := by
        refine ⟨by rw [Array.size_extract]; rw [Nat.add_mul] at hcap; omega, fun v hv => ?_, fun j v x hj hx => ?_⟩
        · rw [List.mem_flatten] at hv
          obtain ⟨l, hl, hv⟩ := hv
          exact h1 l hl v hv
        · obtain ⟨y, q1, q2, q3⟩ := flat_get he hj
          have hlt := (List.getElem?_eq_some_iff.1 hj).1
          have hvr := hv _ _ y v q1 q2
          rw [q3] at hvr
          have hcell := (hF j (by omega)).2
          rw [Nat.zero_add] at hcell
          have : w.cell? ⟨o, j, none⟩ = arr[j]? := by simp [World.cell?, g1]
          rw [this] at hcell
          rw [Array.getElem?_extract, if_pos (by rw [Nat.add_mul] at hcap; omega), Nat.zero_add, hcell] at hx
          cases hx; exact hvr
      have hone : ∀ v ∈ news.toList, v.oneCell' = true := fun v hv => by
        obtain ⟨j, hj, rfl⟩ := List.mem_iff_getElem.1 hv
        have hj' : j < ys.flatten.length := by rw [← hcn.1]; simpa using hj
        exact (hcn.2.2 j ys.flatten[j] _ (List.getElem?_eq_getElem hj') (by simp)).oneCell (hcn.2.1 _ (List.getElem_mem hj'))
      have hst := run_storeCells_at P o (xs.length * e') ty' news.toList 0 arr w g1 (by simp [hcn.1, hyl]; rw [Nat.add_mul] at hcap; omega) hone
      simp only [Nat.add_zero, Array.length_toList] at hst
      obtain ⟨c1, c2⟩ := splice_CR (off := xs.length * e') (by rw [hxl]; rw [Nat.add_mul] at hcap; omega) hold hcn (by rw [hxl]; exact Nat.le_refl _) (by rw [hyl, ← Nat.add_mul]; exact hcap)
      have hnewcs : xs.flatten.take (xs.length * e') ++ ys.flatten ++ xs.flatten.drop (xs.length * e' + ys.flatten.length) = (xs ++ ys).flatten := by
        rw [← hxl, List.take_length, List.drop_eq_nil_of_le (by omega), List.append_nil, List.flatten_append]
      rw [hnewcs] at c1
      generalize harr' : (arr.toList.take (xs.length * e') ++ news.toList ++ arr.toList.drop (xs.length * e' + news.size)).toArray = arr' at hst c1 c2
      have hrun := run_app_room (P := P) (ty := ty) (A := some ⟨o, 0, none⟩) (c := c) (n := xs.length) (w' := w.setRow o arr') ht hz hnews hroom (fun ad had => by
        cases had; rw [add_none, Nat.zero_add]; exact hst) (fun h => by cases h)
      have hcells : ∀ k q, F k q → (w.setRow o arr').cell? ⟨k, q, none⟩ = w.cell? ⟨k, q, none⟩ := fun k q hkF => by
        by_cases e : k = o
        · subst e
          have hq := g3 q hkF
          have hq2 : q < arr.size := by rw [Nat.add_mul] at hcap; omega
          simp only [World.cell?, setRow_heap w k arr _ ty' _ g1, g1]
          rw [← harr']
          simp only [List.getElem?_toArray, Option.isSome_none, Bool.false_eq_true, if_false]
          have hal : arr.toList.length = arr.size := Array.length_toList
          rw [List.append_assoc, List.getElem?_append, if_pos (by rw [List.length_take]; omega), List.getElem?_take, if_pos hq, Array.getElem?_toList]
        · exact World.cell?_of_block (w := w) (setRow_other w o k _ e)
      have hsize : (w.setRow o arr').heap.size = w.heap.size := by simp [World.setRow]
      have s1 := Sim.change (F' := Fmore F o ((xs.length + m) * e')) (w' := w.setRow o arr') o hs (fun _ _ h => .inl h) hcells (by rw [hsize]; exact Nat.le_refl _)
        (fun k hk _ => setRow_other w o k _ hk) (fun k q hk h => h.resolve_right (fun h => hk h.1)) (fun q _ => by rw [hsize]; exact hs.lt hus)
      have s2 := (Sim.less s1 (σ := (σ.erase o).erase o) (fun k ob hk => by
        by_cases e : k = o
        · subst e; simp at hk
        · rwa [Store.get_erase_ne _ e] at hk)).put_used (b := o) (n := (xs.length + ys.length) * e') (t := c * e') ⟨⟨arr', ty', setRow_heap w o arr _ ty' _ g1, by rw [c2, g2]⟩, fun q hq => by
        rcases hq with hq | hq
        · have := g3 q hq
          have hle : xs.length * e' ≤ (xs.length + ys.length) * e' := Nat.mul_le_mul_right e' (by omega)
          omega
        · rw [hm]; exact hq.2⟩
      refine ⟨_, _, _, _, .inl ⟨_, run_v hrun, ?_⟩, s2, ?_, hk o c (Store.get_erase_same _ _) (by rw [hm]; exact hroom)⟩
      · refine vr_flat (arr := arr') hall hzl.symm (by rw [hzl]; exact Nat.le_trans (Nat.le_mul_of_pos_right _ h0) hbig) (by rw [hzl]; exact hroom) (fun o ho => by cases ho; exact ⟨rfl, rfl⟩) (fun j => by
          rw [Nat.zero_add]; simp [World.cell?, setRow_heap w o arr arr' ty' _ g1]) (fun j hj => .inr ⟨rfl, by rw [Nat.zero_add, ← hzl]; exact hj⟩) (c1.mono (fun _ _ h => .inl h) hcells) (by rw [c2, hfl]; exact hcap)
      · exact Ext.change o (fun _ _ h => .inl h) hcells (by rw [hsize]; exact Nat.le_refl _) (fun k hk _ => setRow_other w o k _ hk) (.inl (by simp [hus, Ob.still])) (fun k hk => by
          rw [Store.get_set_ne _ _ hk, Store.get_erase_ne _ hk]) (Nat.le_refl _) rfl rfl rfl
    · exact grow (σ.erase o) (Store.erase_le σ o) hroom hk

end Go.Vm
