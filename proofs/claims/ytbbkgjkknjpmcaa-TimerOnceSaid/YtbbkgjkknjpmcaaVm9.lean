/-
  VM 9: append to a row that may be written; make; copy.
-/
import Derived.Test.YtbbkgjkknjpmcaaVm8
set_option linter.unusedSimpArgs false
set_option linter.unusedVariables false
set_option linter.unusedSectionVars false
namespace Go.Vm
open Go

variable {P : Program} {F : Nat → Nat → Prop} {w : World} {σ : Store} {ev : Opd → V} {K : V → Store → Prop} {x y m it s d : Opd} {a b c : Value}

theorem chunks_flat {cs : List V} {e : Nat} : ∀ n, n * e ≤ cs.length → ((List.range n).map fun i => (cs.drop (0 + i * e)).take e).flatten = cs.take (n * e)
  | 0, _ => by simp
  | n + 1, h => by
    have h' : n * e ≤ cs.length := by rw [Nat.add_mul] at h; omega
    rw [List.range_succ, List.map_append, List.flatten_append, chunks_flat n h']
    simp only [List.map_cons, List.map_nil, List.flatten_cons, List.flatten_nil, List.append_nil]
    rw [Nat.add_mul, Nat.one_mul, List.take_add, Nat.zero_add]

/-- A new row of the store, out of app_grow. -/
theorem grown_row {el : TypeId} {e cap n : Nat} {arr : Array Value} {zs : List (List V)} {σr : Store} (hs : Sim F σ w) (hle : σr.le σ) (harr : arr.size = cap * e) (hge : n ≤ cap) (hall : ∀ z ∈ zs, z.length = e) (hn : zs.length = n)
    (hcr : CR F w zs.flatten (arr.extract 0 zs.flatten.length)) :
    Sim F (σr.set w.heap.size (.row zs.flatten ((cap - n) * e))) (w.drew.alloc (.cells arr el)) ∧ Ext F σ w F (σr.set w.heap.size (.row zs.flatten ((cap - n) * e))) (w.drew.alloc (.cells arr el)) ∧ σr w.heap.size = none := by
  have hfl : zs.flatten.length = n * e := by rw [flat_len hall, hn]
  have hsz : arr.size = zs.flatten.length + (cap - n) * e := by rw [harr, hfl, ← Nat.add_mul]; congr 1; omega
  obtain ⟨s1, e1⟩ := new_row (sl := (cap - n) * e) (ty := el) hs.drew hsz hcr.drew
  have hfresh : σr w.heap.size = none := by
    cases hq : σr w.heap.size with
    | none => rfl
    | some o => have := hle _ _ hq; rw [hs.fresh] at this; cases this
  have hle' : (σr.set w.heap.size (.row zs.flatten ((cap - n) * e))).le (σ.set w.drew.heap.size (.row zs.flatten ((cap - n) * e))) := fun k o hk => by
    by_cases e : k = w.heap.size
    · subst e; rw [Store.get_set_same] at hk; show (σ.set w.heap.size _) _ = _; rw [Store.get_set_same]; exact hk
    · rw [Store.get_set_ne _ _ e] at hk
      show (σ.set w.heap.size _) _ = _
      rw [Store.get_set_ne _ _ e]; exact hle _ _ hk
  exact ⟨s1.less hle', ((Ext.drew F σ w).trans e1).less hle', hfresh⟩

theorem d_appr (t ty el : TypeId) (e by' : Nat) (z : Value) (ht : P.underlying t = some (.slice el)) (hz : szOk P el e = true) (hb : byOk P el by' = true) (h0 : 0 < by') (hzero : (P.info? el).bind (·.zero) = some z) (hzs : z.cells.size = e)
    (hs : Sim F σ w) (hS : VR F w (ev s) a) (hx : VR F w (ev x) b) (h : vop P (.appr e by' s x) ev σ K) :
    Does P F σ w (do pure (Next.value (← Builtin.append_ #[t, t] ty #[a, b]))) K := by
  simp only [vop] at h
  obtain ⟨ys, hys, h⟩ := h
  obtain ⟨X, m, cx, rfl⟩ : ∃ X m cx, b = .slice X m cx := by
    generalize ev x = u at *
    cases hx <;> first | exact ⟨_, _, _, rfl⟩ | (simp [elems] at hys; done)
  obtain ⟨hm, news, hnews, hcn, hye⟩ := elems_read (P := P) hs hx hys
  have hyl : ys.flatten.length = m * e := by rw [flat_len hye, hm]
  have hmb := elems_le hx hys
  generalize ev s = u at *
  cases hS <;> try exact h.elim
  · rename_i e' xs n c own A bb off f hl hc hn he h1 hA ho hz' hF hv
    cases xs with
    | cons _ _ => exact h.elim
    | nil =>
    cases own with
    | some _ => exact h.elim
    | none =>
    obtain ⟨rfl, rfl, hbig, hk1, hk2⟩ := h
    subst hl
    have hVRs : VR F w (.fz e' [] 0 none) (.slice A ([] : List (List V)).length 0) := .fz e' [] _ 0 none A bb off f rfl hc hn he h1 hA ho hz' hF hv
    by_cases hm0 : m = 0
    · subst hm0
      have hys0 : ys = [] := List.eq_nil_of_length_eq_zero hm
      subst hys0
      have hnil : news.toList = [] := by
        have := hcn.1; simp at this; rw [this]
      have hrun := run_app_room (P := P) (ty := ty) (A := A) (c := 0) (n := 0) (w' := w) ht hz hnews (by omega) (fun ad _ => by rw [hnil]; simp [storeCells]) (fun _ => rfl)
      exact VR.pure hs hrun hVRs (hk1 rfl)
    · have hne : ys ≠ [] := fun h => hm0 (by rw [← hm, h]; rfl)
      obtain ⟨w', cap', arr, hrun, rfl, hge, harr, hcr, hall, hlen, _⟩ := app_grow (P := P) (ty := ty) ht hz hb h0 hzero hzs hs hVRs (by simp [elems]) hx hys (by simp; omega) (by simpa [hm] using hbig)
      simp only [List.length_nil, Nat.zero_add, List.nil_append] at hrun hge hcr hall hlen
      obtain ⟨s1, e1, hfr⟩ := grown_row (el := el) hs (Store.le_refl σ) harr hge hall hm hcr
      rw [← hm] at s1 e1
      refine ⟨_, _, _, _, .inl ⟨_, run_v hrun, ?_⟩, s1, e1, hk2 hne _ cap' hfr (by rw [hm]; exact hge)⟩
      rw [hm]; exact .sl _ _ _ _ hge hlen
  · rename_i bb off len c hc hn
    cases off with
    | succ q => exact h.elim
    | zero =>
    obtain ⟨hbig, cs, hcl, hb', hk⟩ := h
    rw [hm] at hbig hk
    have hlen : len + m ≤ 140737488355328 := Nat.le_trans (Nat.le_mul_of_pos_right _ h0) hbig
    have hsl : cs.length + (c - len) * e = c * e := by rw [hcl, ← Nat.add_mul]; congr 1; omega
    by_cases hroom : len + m ≤ c
    · have hfit : cs.length + ys.flatten.length ≤ cs.length + (c - len) * e := by
        rw [hyl]
        have := Nat.mul_le_mul_right e (show m ≤ c - len by omega)
        omega
      obtain ⟨w', hr, s1, e1⟩ := row_write (P := P) (off := cs.length) hs hb' hcn (Nat.le_refl _) hfit
      have hnew : cs.take cs.length ++ ys.flatten ++ cs.drop (cs.length + ys.flatten.length) = cs ++ ys.flatten := by
        rw [List.take_length, List.drop_eq_nil_of_le (by omega), List.append_nil]
      have hslack : cs.length + (c - len) * e - (cs ++ ys.flatten).length = (c - (len + m)) * e := by
        have hce : (c - len) * e = (c - (len + m)) * e + m * e := by rw [← Nat.add_mul]; congr 1; omega
        rw [List.length_append, hyl, hce]; omega
      rw [hnew, hslack] at s1 e1
      have hrun := run_app_room (P := P) (ty := ty) (A := some ⟨bb, 0, none⟩) (c := c) (n := len) (w' := w') ht hz hnews hroom (fun ad had => by
        cases had; rw [add_none, Nat.zero_add, ← hcl]; exact hr) (fun h => by cases h)
      have := hk bb c (Store.get_erase_same _ _) hroom
      rw [Store.erase_set] at this
      exact ⟨_, _, _, _, .inl ⟨_, run_v hrun, .sl _ _ _ _ hroom hlen⟩, s1, e1, this⟩
    · have hel : elems σ e (.sl bb 0 len c) = some ((List.range len).map fun i => (cs.drop (0 + i * e)).take e) := by
        simp only [elems, Store.rd_row hb']
        rw [if_pos (by omega)]
      have hxl : ((List.range len).map fun i => (cs.drop (0 + i * e)).take e).length = len := by simp
      have hfl : ((List.range len).map fun i => (cs.drop (0 + i * e)).take e).flatten = cs := by
        rw [chunks_flat len (by omega), ← hcl, List.take_length]
      generalize (List.range len).map (fun i => (cs.drop (0 + i * e)).take e) = xs at hel hxl hfl
      have hVRs : VR F w (.sl bb 0 len c) (.slice (some ⟨bb, 0, none⟩) xs.length c) := by rw [hxl]; exact .sl _ _ _ _ hc hn
      obtain ⟨w', cap', arr, hrun, rfl, hge, harr, hcr, hall, hlen', _⟩ := app_grow (P := P) (ty := ty) ht hz hb h0 hzero hzs hs hVRs hel hx hys (by rw [hxl]; exact hroom) (by rw [hxl]; exact hbig)
      rw [hxl] at hrun hge hlen'
      obtain ⟨s1, e1, hfr⟩ := grown_row (el := el) (σr := σ.erase bb) hs (Store.erase_le σ bb) harr hge hall (by rw [List.length_append, hxl, hm]) hcr
      rw [List.flatten_append, hfl] at s1 e1
      exact ⟨_, _, _, _, .inl ⟨_, run_v hrun, .sl _ _ _ _ hge hlen'⟩, s1, e1, hk _ cap' hfr hge⟩

theorem d_mksl (t el : TypeId) (e by' : Nat) (z : Value) (zero : List V) (ht : P.underlying t = some (.slice el)) (hz : szOk P el e = true) (hb : byOk P el by' = true) (h0 : 0 < by') (hzero : (P.info? el).bind (·.zero) = some z) (hck : CK zero z.cells)
    (hs : Sim F σ w) (hx : VR F w (ev x) a) (hy : VR F w (ev y) b) (h : vop P (.mksl zero e by' x y) ev σ K) :
    Does P F σ w (do pure (Next.value (← Instr.makeSlice t a b))) K := by
  simp only [vop] at h
  obtain ⟨h1, hze, h⟩ := h
  generalize ev x = u at *
  generalize ev y = v at *
  cases hx <;> try exact h.elim
  cases hy <;> try exact h.elim
  rename_i k1 n hn k2 m hm
  obtain ⟨hn0, hnm, hnb, hmb, hm63, hk⟩ := h
  obtain ⟨n, rfl⟩ := Int.eq_ofNat_of_zero_le hn0
  obtain ⟨m, rfl⟩ := Int.eq_ofNat_of_zero_le (show (0 : Int) ≤ m by omega)
  have hwn : IntKind.i64.wrap (n : Int) = n := by rw [IntKind.wrap_i64]; omega
  have hwm : IntKind.i64.wrap (m : Int) = m := by rw [IntKind.wrap_i64]; omega
  have hnm' : n ≤ m := by omega
  have hcr : CR F w ((List.replicate m zero).flatten) ((Array.range (m * e)).map fun i => z.cells[i % z.cells.size]!) := zeros_CR (hck F w) e m hze
  have hsplit : (List.replicate m zero).flatten = (List.replicate n zero).flatten ++ (List.replicate (m - n) zero).flatten := by
    rw [← List.flatten_append, List.replicate_append_replicate]; congr 2; omega
  have hcr2 : CR F w ((List.replicate n zero).flatten) (((Array.range (m * e)).map fun i => z.cells[i % z.cells.size]!).extract 0 ((List.replicate n zero).flatten).length) := by
    have hfl : ((List.replicate n zero).flatten).length = n * e := by rw [flatten_replicate_len, hze]
    have hle : n * e ≤ m * e := Nat.mul_le_mul_right e hnm'
    refine ⟨by rw [hfl]; simp; rw [Nat.min_eq_left hnm'], fun v hv => h1 v (mem_flatten_replicate hv), fun j v x hj hx => hcr.2.2 j v x ?_ ?_⟩
    · rw [hsplit, List.getElem?_append, if_pos (List.getElem?_eq_some_iff.1 hj).1]; exact hj
    · rw [Array.getElem?_extract] at hx
      split at hx
      · simpa using hx
      · cases hx
  have hsz : ((Array.range (m * e)).map fun i => z.cells[i % z.cells.size]!).size = ((List.replicate n zero).flatten).length + (m - n) * e := by
    rw [flatten_replicate_len, hze, ← Nat.add_mul]; simp; congr 1; omega
  obtain ⟨s1, e1⟩ := new_row (ty := el) hs hsz hcr2
  have hk' := hk _ hs.fresh
  simp only [Int.toNat_natCast] at hk'
  have e9 : ((m : Int) - (n : Int)).toNat = m - n := by omega
  rw [e9] at hk'
  have hby : byOk P el by' = true := hb
  have hrun : (Instr.makeSlice t (.int k1 (n : Int)) (.int k2 (m : Int))).run P w = .ok (.slice (some ⟨w.heap.size, 0, none⟩) n m) (w.alloc (.cells ((Array.range (m * e)).map fun i => z.cells[i % z.cells.size]!) el)) := by
    unfold byOk at hb
    unfold szOk at hz
    cases hi : P.info? el with
    | none => simp [hi] at hb
    | some i =>
      simp [hi] at hb hz hzero
      have c1 : ¬ ((m : Int) < 0) := by omega
      have c2 : ¬ ((by' : Int) * (m : Int) > 2 ^ 48) := by
        have : (by' : Int) * (m : Int) = ((m * by' : Nat) : Int) := by rw [Int.natCast_mul, Int.mul_comm]
        have hmb' : m * by' ≤ 140737488355328 := by have := hmb; rw [← Int.natCast_mul] at this; omega
        rw [this]; omega
      have c2' : ¬ ((281474976710656 : Int) < (by' : Int) * (m : Int)) := fun h => c2 (by simpa using h)
      have c3 : ¬ ((n : Int) < 0) := by omega
      have c4 : ¬ ((n : Int) > (m : Int)) := by omega
      by_cases h9 : m * e = 0
      · have e8 : (Array.range (m * e)).map (fun i => z.cells[i % z.cells.size]!) = #[] := by rw [h9]; simp
        rw [e8]
        simp [Instr.makeSlice, run_underlying ht, asInt, asIntOf, typeInfo, hi, hb, hwn, hwm, c1, c2, c3, c4, sizeOf, hz, h9, newRow]
        rw [if_neg c2']
        have e7 : ∀ f : Nat → Value, Array.map f (Array.range 0) = #[] := fun f => by simp
        rw [e7]
      · simp [Instr.makeSlice, run_underlying ht, asInt, asIntOf, typeInfo, hi, hb, hwn, hwm, c1, c2, c3, c4, sizeOf, hz, h9, newRow, zeroValue, hzero]
        exact fun h => absurd h c2'
  exact ⟨_, _, _, _, .inl ⟨_, run_v hrun, .sl _ _ _ _ hnm' (by omega)⟩, s1, e1, hk'⟩


end Go.Vm
