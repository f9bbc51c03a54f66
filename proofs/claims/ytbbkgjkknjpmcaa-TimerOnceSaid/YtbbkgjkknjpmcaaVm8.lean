/-
  VM 8: maps that are written, and gone through.
-/
import Derived.Test.YtbbkgjkknjpmcaaVm7
set_option linter.unusedSimpArgs false
set_option linter.unusedVariables false
set_option linter.unusedSectionVars false
namespace Go.Vm
open Go

variable {P : Program} {F : Nat → Nat → Prop} {w : World} {σ : Store} {ev : Opd → V} {K : V → Store → Prop} {x y m it s : Opd} {a b c : Value}

def wS (w : World) (b : Nat) (o : Obj) : World := { w with heap := w.heap.setIfInBounds b o }
theorem wS_same {b : Nat} {o : Obj} (h : b < w.heap.size) : (wS w b o).heap[b]? = some o := by simp [wS, Array.getElem?_setIfInBounds, h]
theorem wS_other {b k : Nat} {o : Obj} (h : k ≠ b) : (wS w b o).heap[k]? = w.heap[k]? := by simp [wS, Array.getElem?_setIfInBounds, Ne.symm h]
theorem wS_size {b : Nat} {o : Obj} : (wS w b o).heap.size = w.heap.size := by simp [wS]
theorem wS_cell {b : Nat} {o : Obj} (hn : ∀ q, ¬ F b q) : ∀ k q, F k q → (wS w b o).cell? ⟨k, q, none⟩ = w.cell? ⟨k, q, none⟩ := fun k q hk =>
  World.cell?_of_block (w := w) (wS_other (fun e => hn q (e ▸ hk)))
theorem run_setObj_map {r : Nat} {es : Array MapEntry} {c : Nat} {o : Obj} (h : w.heap[r]? = some (.map es c)) : (setObj r o).run P w = .ok () (wS w r o) := by
  simp [setObj, Sem.run, h, wS]
theorem run_setObj_iter {r : Nat} {m : Option Nat} {a c : Nat} {ss : Array Nat} {o : Obj} (h : w.heap[r]? = some (.mapIter m a ss c)) : (setObj r o).run P w = .ok () (wS w r o) := by
  simp [setObj, Sem.run, h, wS]

/-- A map's block is written. -/
theorem map_write {bb clk clk' : Nat} {es es' : List (V × V)} {ms : Array MapEntry} (hs : Sim F σ w) (hb : σ bb = some (.map es clk)) (hz : ms.size = es'.length) (hn : (es'.map (·.1)).Nodup) (hclk : clk ≤ clk')
    (hborn : ∀ (j : Nat) (m : MapEntry), ms[j]? = some m → m.born < clk') (hinj : ∀ (i j : Nat) (m n : MapEntry), ms[i]? = some m → ms[j]? = some n → m.born = n.born → i = j)
    (hv : ∀ (j : Nat) k v (m : MapEntry), es'[j]? = some (k, v) → ms[j]? = some m → VR F w k m.key ∧ VR F w v m.val ∧ k.flat = true ∧ v.flat = true)
    (hit : clk' = clk → ∀ old : Array MapEntry, w.heap[bb]? = some (.map old clk) → ∀ (j : Nat) k v (m : MapEntry), es'[j]? = some (k, v) → ms[j]? = some m → ∃ (i : Nat) (v' : V) (m' : MapEntry), es[i]? = some (k, v') ∧ old[i]? = some m' ∧ m'.born = m.born) :
    Sim F (σ.set bb (.map es' clk')) (wS w bb (.map ms clk')) ∧ Ext F σ w F (σ.set bb (.map es' clk')) (wS w bb (.map ms clk')) := by
  have hm := hs.map' hb
  have hnf := hm.2
  have hlt := hs.lt hb
  have hcell := wS_cell (w := w) (b := bb) (o := .map ms clk') hnf
  have s1 := Sim.change (F' := F) (w' := wS w bb (.map ms clk')) bb hs (fun _ _ h => h) hcell (by rw [wS_size]; exact Nat.le_refl _) (fun k hk _ => wS_other hk) (fun _ _ _ h => h) (fun o ho => absurd ho (hnf o))
  have iters : ∀ k since seen, k ≠ bb → σ k = some (.iter (some bb) since seen) → ∃ ss : Array Nat, w.heap[k]? = some (.mapIter (some bb) since ss since) ∧ since ≤ clk ∧ ∀ es', σ bb = some (.map es' since) → ∃ ms : Array MapEntry, w.heap[bb]? = some (.map ms since) ∧
      ∀ (j : Nat) k v (e : MapEntry), es'[j]? = some (k, v) → ms[j]? = some e → (e.born ∈ ss ↔ k ∈ seen) ∧ (ss.back? = some e.born ↔ seen.head? = some k) := fun k since seen hk hi => by
    obtain ⟨⟨ss, h1, h2, h3⟩, _⟩ := hs.iter k (some bb) since seen hi
    exact ⟨ss, h1, h2.2 bb es clk rfl hb, fun es' he => h3 bb es' rfl he⟩
  refine ⟨s1.put_map ⟨⟨ms, wS_same hlt, hz, hn, hborn, hinj, fun j k v m hj hm => ?_⟩, hnf⟩ (fun k since seen hk hi => ?_) (fun k since seen hk hi hsc => ?_), ?_⟩
  · obtain ⟨q1, q2, q3⟩ := hv j k v m hj hm
    exact ⟨q1.mono (fun _ _ h => h) hcell, q2.mono (fun _ _ h => h) hcell, q3⟩
  · obtain ⟨_, _, h, _⟩ := iters k since seen hk hi; omega
  · obtain ⟨ss, h1, h2, h3⟩ := iters k since seen hk hi
    refine ⟨ss, by rw [wS_other hk]; exact h1, ms, wS_same hlt, fun j k' v e hj he => ?_⟩
    have hcc : clk' = clk := by omega
    have hsc' : since = clk := by omega
    obtain ⟨old, h4, h5⟩ := h3 es (by rw [hb, hsc'])
    rw [hsc'] at h4
    obtain ⟨i, v', m', g1, g2, g3⟩ := hit hcc old h4 j k' v e hj he
    rw [← g3]
    exact h5 i k' v' m' g1 g2
  · exact Ext.change bb (fun _ _ h => h) hcell (by rw [wS_size]; exact Nat.le_refl _) (fun k hk _ => wS_other hk) (.inl (by simp [hb, Ob.still])) (fun k hk => Store.get_set_ne _ _ hk) (Nat.le_refl _) rfl rfl rfl

theorem bits_one {s : Bool} {u v : V} {r : Bool} (h : u.ceq s v = some r) {x y : Value} (hx : VR F w u x) (hy : VR F w u y) (n : Nat) : Instr.sameBits n x y = true := by
  cases s <;> cases u <;> cases v <;> simp [V.ceq] at h
  · cases hx; cases hy; simp [Instr.sameBits]
  · cases hx; cases hy; simp [Instr.sameBits]

theorem key_stays {S : KSh} {u : V} {r : Bool} (h : u.keq S u = some r) {x y : Value} (hx : VR F w u x) (hy : VR F w u y) : (Instr.keyThatStays x y).run P w = .ok y w := by
  have hb : Instr.sameBits 10000 x y = true := by
    obtain ⟨h1, h2, h3, _⟩ := keq_parts h
    cases hag : S.ag with
    | false =>
      obtain ⟨e1, _⟩ := h3 hag
      rw [e1] at h1
      cases hs : S.sh with
      | nil => rw [hs] at h1; simp [V.ceqs] at h1
      | cons s ss =>
        rw [hs] at h1
        simp only [V.ceqs] at h1
        cases hq : u.ceq s u with
        | none => simp [hq] at h1
        | some q => exact bits_one hq hx hy _
    | true =>
      obtain ⟨⟨us, rfl⟩, _⟩ := h2 hag
      cases hx with
      | agg _ xs z1 o1 c1 =>
      cases hy with
      | agg _ ys z2 o2 c2 =>
      have hpt : ∀ j (hj : j < us.length), ∃ s r, (us[j]).ceq s (us[j]) = some r := by
        have : ∀ (ss : List Bool) (l : List V) (r : Bool), V.ceqs ss l l = some r → ∀ j (hj : j < l.length), ∃ s r, (l[j]).ceq s (l[j]) = some r := by
          intro ss l
          induction l generalizing ss with
          | nil => intro r _ j hj; simp at hj
          | cons u l ih =>
            intro r hr j hj
            cases ss with
            | nil => simp [V.ceqs] at hr
            | cons s ss =>
              simp only [V.ceqs] at hr
              cases hq : u.ceq s u with
              | none => simp [hq] at hr
              | some q =>
                cases hq2 : V.ceqs ss l l with
                | none => simp [hq, hq2] at hr
                | some q2 =>
                  cases j with
                  | zero => exact ⟨s, q, by simpa using hq⟩
                  | succ j => have := ih ss q2 hq2 j (by simpa using hj); simpa using this
        exact this S.sh us r h1
      simp only [Instr.sameBits, z1, z2, beq_self_eq_true, Bool.true_and, List.all_eq_true]
      rintro ⟨p, q⟩ hpq
      obtain ⟨j, hj⟩ := List.getElem?_of_mem hpq
      rw [List.getElem?_zip_eq_some] at hj
      simp only [Array.getElem?_toList] at hj
      have hjl : j < us.length := by rw [← z1]; exact (Array.getElem?_eq_some_iff.1 hj.1).1
      obtain ⟨s, r', hc⟩ := hpt j hjl
      exact bits_one hc (c1 j _ p (List.getElem?_eq_getElem hjl) hj.1) (c2 j _ q (List.getElem?_eq_getElem hjl) hj.2) _
  simp [Instr.keyThatStays, hb]

theorem keys_map_put {k v : V} {es : List (V × V)} : (es.map fun p => if p.1 = k then (k, v) else p).map (·.1) = es.map (·.1) := by
  rw [List.map_map]
  apply List.map_congr_left
  intro p _
  simp only [Function.comp]
  split
  · rename_i h; exact h.symm
  · rfl

theorem d_mapup (t kt el : TypeId) (S : KSh) (ht : P.underlying t = some (.map kt el)) (hk : KeyT P kt S) (hs : Sim F σ w) (hm : VR F w (ev m) a) (hx : VR F w (ev x) b) (hy : VR F w (ev y) c) (h : vop P (.mapup S m x y) ev σ K) :
    Does P F σ w (do Instr.mapUpdate t a b c; pure .skip) K := by
  simp only [vop] at h
  obtain ⟨h0, hyf, h⟩ := h
  obtain ⟨r0, hr0⟩ := Option.isSome_iff_exists.1 h0
  generalize ev m = u at *
  cases hm <;> try exact h.elim
  rename_i bb
  obtain ⟨es, clk, hb, hall, hkk⟩ := h
  obtain ⟨⟨ms, g1, g2, g3, g4, g5, g6⟩, g7⟩ := hs.map' hb
  have hent : EntR F w es ms.toList := ⟨by simpa using g2, fun j k v m hj hm => let ⟨x, y, _⟩ := g6 j k v m hj (by simpa using hm); ⟨x, y⟩⟩
  obtain ⟨r, hr, hfound⟩ := find_run (P := P) hk hx hent hall
  have hck := key_check (P := P) hk hr0 hx false
  have hxf := (keq_flat hr0).1
  cases r with
  | some q =>
    obtain ⟨i, val⟩ := q
    obtain ⟨j, v, me, e1, e2, e3, e4⟩ := hfound
    have e1' : i = j := by omega
    subst e1'
    simp only [Array.getElem?_toList] at e3
    have hin : ev x ∈ es.map (·.1) := List.mem_map.2 ⟨(ev x, v), List.mem_of_getElem? e2, rfl⟩
    have hput : mput (ev x) (ev y) es = es.map fun p => if p.1 = ev x then (ev x, ev y) else p := by unfold mput; rw [if_pos hin]
    have hclk : mclk (ev x) es clk = clk := by unfold mclk; rw [if_pos hin]
    have hstay := key_stays (P := P) hr0 (g6 i _ v me e2 e3).1 hx
    have hget : ∀ (j : Nat) (m : MapEntry), (ms.modify i fun e => { e with key := b, val := c })[j]? = some m → ∃ m0, ms[j]? = some m0 ∧ m.born = m0.born ∧ (j = i → m.key = b ∧ m.val = c) ∧ (j ≠ i → m = m0) := fun j m hj => by
      rw [Array.getElem?_modify] at hj
      split at hj
      · rename_i hij
        subst hij
        rw [e3] at hj; simp at hj; subst hj
        exact ⟨me, e3, rfl, fun _ => ⟨rfl, rfl⟩, fun h => absurd rfl h⟩
      · rename_i hij
        exact ⟨m, hj, rfl, fun h => absurd h.symm hij, fun _ => rfl⟩
    have hgetV : ∀ (j : Nat) k' v', (es.map fun p => if p.1 = ev x then (ev x, ev y) else p)[j]? = some (k', v') → ∃ v0, es[j]? = some (k', v0) ∧ (j = i → v' = ev y ∧ k' = ev x) ∧ (j ≠ i → v' = v0) := fun j k' v' hj => by
      rw [List.getElem?_map] at hj
      cases hq : es[j]? with
      | none => simp [hq] at hj
      | some p =>
        obtain ⟨p1, p2⟩ := p
        simp only [hq, Option.map_some, Option.some.injEq] at hj
        split at hj
        · rename_i hp
          have hp : p1 = ev x := hp
          subst hp
          have := nodup_at g3 hq e2
          subst this
          cases hj
          exact ⟨p2, rfl, fun _ => ⟨rfl, rfl⟩, fun h => absurd rfl h⟩
        · rename_i hp
          cases hj
          refine ⟨_, rfl, fun hji => ?_, fun _ => rfl⟩
          subst hji
          rw [e2] at hq; cases hq; exact absurd rfl hp
    obtain ⟨s1, x1⟩ := map_write (es' := mput (ev x) (ev y) es) (clk' := mclk (ev x) es clk) (ms := ms.modify i fun e => { e with key := b, val := c }) hs hb (by rw [hput]; simpa using g2) (by rw [hput, keys_map_put]; exact g3) (by rw [hclk]; exact Nat.le_refl _)
      (fun j m hj => by obtain ⟨m0, q1, q2, _⟩ := hget j m hj; rw [q2, hclk]; exact g4 j m0 q1)
      (fun j1 j2 m1 m2 h1 h2 hbb => by
        obtain ⟨n1, q1, q2, _⟩ := hget j1 m1 h1
        obtain ⟨n2, p1, p2, _⟩ := hget j2 m2 h2
        exact g5 j1 j2 n1 n2 q1 p1 (by rw [← q2, ← p2]; exact hbb))
      (fun j k' v' m' hj hm => by
        rw [hput] at hj
        obtain ⟨v0, q1, q2, q3⟩ := hgetV j k' v' hj
        obtain ⟨m0, p1, p2, p3, p4⟩ := hget j m' hm
        by_cases hji : j = i
        · obtain ⟨rfl, rfl⟩ := q2 hji
          obtain ⟨z1, z2⟩ := p3 hji
          rw [z1, z2]; exact ⟨hx, hy, hxf, hyf⟩
        · have hh := g6 j k' v0 m0 q1 p1
          rw [p4 hji, q3 hji]; exact hh)
      (fun _ old hold j k' v' m' hj hm => by
        rw [g1] at hold; cases hold
        rw [hput] at hj
        obtain ⟨v0, q1, _⟩ := hgetV j k' v' hj
        obtain ⟨m0, p1, p2, _⟩ := hget j m' hm
        exact ⟨j, v0, m0, q1, p1, p2.symm⟩)
    rw [hclk] at s1 x1
    rw [hclk] at hkk
    refine ⟨_, _, _, _, .inr ⟨?_, rfl⟩, s1, x1, hkk⟩
    simp [Instr.mapUpdate, run_underlying ht, getObj, Sem.run, g1, hck, hr, e3, hstay, run_setObj_map g1]
  | none =>
    have hnin : ev x ∉ es.map (·.1) := fun h => by
      obtain ⟨p, hp, hpe⟩ := List.mem_map.1 h
      exact hfound p hp hpe
    have hput : mput (ev x) (ev y) es = es ++ [(ev x, ev y)] := by unfold mput; rw [if_neg hnin]
    have hclk : mclk (ev x) es clk = clk + 1 := by unfold mclk; rw [if_neg hnin]
    have hget : ∀ (j : Nat) (m : MapEntry), (ms.push ⟨b, c, clk⟩)[j]? = some m → (j < es.length ∧ ms[j]? = some m) ∨ (j = es.length ∧ m = ⟨b, c, clk⟩) := fun j m hj => by
      rw [Array.getElem?_push] at hj
      split at hj
      · rename_i hz; exact .inr ⟨by omega, by cases hj; rfl⟩
      · exact .inl ⟨by rw [← g2]; exact (Array.getElem?_eq_some_iff.1 hj).1, hj⟩
    obtain ⟨s1, x1⟩ := map_write (es' := mput (ev x) (ev y) es) (clk' := mclk (ev x) es clk) (ms := ms.push ⟨b, c, clk⟩) hs hb (by rw [hput]; simp [g2]) (by
        rw [hput, List.map_append]
        refine List.nodup_append.2 ⟨g3, by simp, fun p hp q hq => ?_⟩
        simp at hq; subst hq
        rintro rfl; exact hnin hp) (by rw [hclk]; omega)
      (fun j m hj => by
        rw [hclk]
        rcases hget j m hj with ⟨_, h⟩ | ⟨_, rfl⟩
        · have := g4 j m h; omega
        · simp)
      (fun j1 j2 m1 m2 h1 h2 hbb => by
        rcases hget j1 m1 h1 with ⟨a1, b1⟩ | ⟨a1, rfl⟩ <;> rcases hget j2 m2 h2 with ⟨a2, b2⟩ | ⟨a2, rfl⟩
        · exact g5 _ _ _ _ b1 b2 hbb
        · have := g4 _ _ b1; simp at hbb; omega
        · have := g4 _ _ b2; simp at hbb; omega
        · omega)
      (fun j k' v' m' hj hm => by
        rw [hput, List.getElem?_append] at hj
        rcases hget j m' hm with ⟨a1, b1⟩ | ⟨a1, rfl⟩
        · rw [if_pos a1] at hj; exact g6 j k' v' m' hj b1
        · rw [if_neg (by omega), a1, Nat.sub_self] at hj; simp at hj; obtain ⟨rfl, rfl⟩ := hj; exact ⟨hx, hy, hxf, hyf⟩)
      (fun hc => by rw [hclk] at hc; omega)
    rw [hclk] at s1 x1
    rw [hclk] at hkk
    refine ⟨_, _, _, _, .inr ⟨?_, rfl⟩, s1, x1, hkk⟩
    simp [Instr.mapUpdate, run_underlying ht, getObj, Sem.run, g1, hck, hr, run_setObj_map g1]


theorem mdel_none {k : V} {es : List (V × V)} (h : ∀ p ∈ es, p.1 ≠ k) : mdel k es = es := by
  unfold mdel
  rw [List.filter_eq_self]
  intro p hp; simpa using h p hp

theorem mdel_at {k v : V} : ∀ {es : List (V × V)} {j : Nat}, (es.map (·.1)).Nodup → es[j]? = some (k, v) → mdel k es = es.eraseIdx j
  | [], j, _, h => by simp at h
  | p :: es, 0, hn, h => by
    simp at h; subst h
    simp only [List.map_cons, List.nodup_cons] at hn
    unfold mdel
    rw [List.filter_cons, if_neg (by simp)]
    exact mdel_none (fun q hq he => hn.1 (List.mem_map.2 ⟨q, hq, he⟩))
  | p :: es, j + 1, hn, h => by
    simp only [List.map_cons, List.nodup_cons] at hn
    rw [List.getElem?_cons_succ] at h
    have hp : p.1 ≠ k := fun he => hn.1 (he ▸ List.mem_map.2 ⟨(k, v), List.mem_of_getElem? h, rfl⟩)
    unfold mdel
    rw [List.filter_cons, if_pos (by simpa using hp)]
    have := mdel_at hn.2 h
    unfold mdel at this
    rw [this, List.eraseIdx_cons_succ]

theorem d_del (t kt el ty : TypeId) (ats : Array TypeId) (hat : ats[0]? = some t) (S : KSh) (ht : P.underlying t = some (.map kt el)) (hk : KeyT P kt S) (hs : Sim F σ w) (hm : VR F w (ev m) a) (hx : VR F w (ev x) b) (h : vop P (.del S m x) ev σ K) :
    Does P F σ w (do pure (Next.value (← Builtin.delete_ ats ty #[a, b]))) K := by
  simp only [vop] at h
  obtain ⟨h0, h⟩ := h
  obtain ⟨r0, hr0⟩ := Option.isSome_iff_exists.1 h0
  generalize ev m = u at *
  cases hm <;> try exact h.elim
  case nilmp =>
    exact VR.pure hs (x := .tuple #[]) (by simp [Builtin.delete_, hat, run_underlying ht, key_check (P := P) hk hr0 hx true]) (.tup [] #[] rfl (by simp)) h
  rename_i bb
  obtain ⟨es, clk, hb, hall, hkk⟩ := h
  obtain ⟨⟨ms, g1, g2, g3, g4, g5, g6⟩, g7⟩ := hs.map' hb
  have hent : EntR F w es ms.toList := ⟨by simpa using g2, fun j k v m hj hm => let ⟨x, y, _⟩ := g6 j k v m hj (by simpa using hm); ⟨x, y⟩⟩
  obtain ⟨r, hr, hfound⟩ := find_run (P := P) hk hx hent hall
  have hck := key_check (P := P) hk hr0 hx ms.isEmpty
  cases r with
  | none =>
    have hd : mdel (ev x) es = es := mdel_none hfound
    rw [hd] at hkk
    obtain ⟨s1, x1⟩ := map_write (es' := es) (clk' := clk) (ms := ms) hs hb g2 g3 (Nat.le_refl _) g4 g5 g6 (fun _ old hold j k' v' m' hj hm => by
      rw [g1] at hold; cases hold; exact ⟨j, v', m', hj, hm, rfl⟩)
    exact ⟨_, _, _, _, .inl ⟨.tuple #[], by simp [Builtin.delete_, hat, run_underlying ht, getObj, Sem.run, g1, hck, hr, run_setObj_map g1], .tup [] #[] rfl (by simp)⟩, s1, x1, hkk⟩
  | some q =>
    obtain ⟨i, val⟩ := q
    obtain ⟨j, v, me, e1, e2, e3, e4⟩ := hfound
    have e1' : i = j := by omega
    subst e1'
    have hlt : i < es.length := (List.getElem?_eq_some_iff.1 e2).1
    have hd : mdel (ev x) es = es.eraseIdx i := mdel_at g3 e2
    rw [hd] at hkk
    have hms : (ms.eraseIdxIfInBounds i).toList = ms.toList.eraseIdx i := by simp
    have hget : ∀ (j : Nat) (m : MapEntry), (ms.eraseIdxIfInBounds i)[j]? = some m → ms[if j < i then j else j + 1]? = some m := fun j m hj => by
      rw [← Array.getElem?_toList, hms, List.getElem?_eraseIdx] at hj
      split at hj
      · rename_i h; rw [if_pos h]; simpa using hj
      · rename_i h; rw [if_neg h]; simpa using hj
    have hgetV : ∀ (j : Nat) k' v', (es.eraseIdx i)[j]? = some (k', v') → es[if j < i then j else j + 1]? = some (k', v') := fun j k' v' hj => by
      rw [List.getElem?_eraseIdx] at hj
      split at hj
      · rename_i h; rw [if_pos h]; exact hj
      · rename_i h; rw [if_neg h]; exact hj
    obtain ⟨s1, x1⟩ := map_write (es' := es.eraseIdx i) (clk' := clk) (ms := ms.eraseIdxIfInBounds i) hs hb (by
        rw [← Array.length_toList, hms, List.length_eraseIdx, List.length_eraseIdx, Array.length_toList, g2]) (by
        exact List.Pairwise.sublist ((List.eraseIdx_sublist es i).map _) g3) (Nat.le_refl _)
      (fun j m hj => g4 _ m (hget j m hj))
      (fun j1 j2 m1 m2 h1 h2 hbb => by
        have := g5 _ _ _ _ (hget j1 m1 h1) (hget j2 m2 h2) hbb
        split at this <;> split at this <;> omega)
      (fun j k' v' m' hj hm => g6 _ k' v' m' (hgetV j k' v' hj) (hget j m' hm))
      (fun _ old hold j k' v' m' hj hm => by
        rw [g1] at hold; cases hold
        exact ⟨_, v', m', hgetV j k' v' hj, hget j m' hm, rfl⟩)
    exact ⟨_, _, _, _, .inl ⟨.tuple #[], by simp [Builtin.delete_, hat, run_underlying ht, getObj, Sem.run, g1, hck, hr, run_setObj_map g1], .tup [] #[] rfl (by simp)⟩, s1, x1, hkk⟩

theorem new_obj {o : Obj} (hs : Sim F σ w) : Sim F (σ.erase w.heap.size) (w.alloc o) ∧ ∀ ob : Ob, Ext F σ w F (σ.set w.heap.size ob) (w.alloc o) := by
  have hcell := cell_alloc hs o
  refine ⟨Sim.change w.heap.size hs (fun _ _ h => h) hcell (by rw [size_alloc']; omega) (fun k _ hk => heap_alloc_lt w _ hk) (fun _ _ _ h => h) (fun o ho => absurd ho (hs.unfrozen o)), fun ob => ?_⟩
  exact Ext.change w.heap.size (fun _ _ h => h) hcell (by rw [size_alloc']; omega) (fun k _ hk => heap_alloc_lt w _ hk) (.inr (Nat.le_refl _)) (fun k hk => Store.get_set_ne _ _ hk) (Nat.le_refl _) rfl rfl rfl

theorem no_iter (hs : Sim F σ w) {k : Nat} {since : Nat} {seen : List V} : σ k ≠ some (.iter (some w.heap.size) since seen) := fun hi => by
  obtain ⟨⟨ss, _, h2, _⟩, _⟩ := hs.iter k _ since seen hi
  have := h2.1.2 _ rfl; omega

theorem d_mkmap (t : TypeId) (hs : Sim F σ w) (h : vop P .mkmap ev σ K) : Does P F σ w (do pure (Next.value (← Instr.makeMap t none))) K := by
  simp only [vop] at h
  obtain ⟨s1, e1⟩ := new_obj (o := .map #[] 0) hs
  exact ⟨_, _, _, _, .inl ⟨.map (some w.heap.size), by simp [Instr.makeMap], .mp _⟩, s1.put_map (es := []) (clk := 0) ⟨⟨#[], heap_alloc_new' w _, rfl, by simp, by simp, by simp, by simp⟩, hs.unfrozen⟩ (fun k since seen hk hi => absurd hi (no_iter hs)) (fun k since seen hk hi => absurd hi (no_iter hs)), e1 _, h _ hs.fresh⟩

theorem d_range (t kt el : TypeId) (ht : P.underlying t = some (.map kt el)) (hs : Sim F σ w) (hm : VR F w (ev m) a) (h : vop P (.range m) ev σ K) : Does P F σ w (do pure (Next.value (← Instr.range t a))) K := by
  simp only [vop] at h
  generalize ev m = u at *
  cases hm <;> try exact h.elim
  · rename_i r
    obtain ⟨es, clk, hb, hk⟩ := h
    obtain ⟨⟨ms, g1, g2, g3, g4, g5, g6⟩, g7⟩ := hs.map' hb
    obtain ⟨s1, e1⟩ := new_obj (o := .mapIter (some r) clk #[] clk) hs
    have hne : r ≠ w.heap.size := fun e => by have := hs.lt hb; omega
    refine ⟨_, _, _, _, .inl ⟨.pointer (some ⟨w.heap.size, 0, none⟩), by simp [Instr.range, run_underlying ht, getObj, Sem.run, g1], .ptr _ _⟩, s1.put_iter (m := some r) (since := clk) (seen := []) ⟨⟨#[], heap_alloc_new' w _, ⟨⟨rfl, fun q hq => by cases hq; have := hs.lt hb; rw [size_alloc']; omega⟩, fun q es' c hq hqq => ?_⟩, fun q es' hq hqq => ?_⟩, hs.unfrozen⟩, e1 _, hk _ hs.fresh⟩
    · cases hq
      rw [Store.get_erase_ne _ hne, hb] at hqq; cases hqq; exact Nat.le_refl _
    · cases hq
      rw [Store.get_erase_ne _ hne, hb] at hqq; cases hqq
      exact ⟨ms, by rw [heap_alloc_lt w _ (hs.lt hb)]; exact g1, fun j k v e _ _ => by simp⟩
  · obtain ⟨s1, e1⟩ := new_obj (o := .mapIter none 0 #[] 0) hs
    exact ⟨_, _, _, _, .inl ⟨.pointer (some ⟨w.heap.size, 0, none⟩), by simp [Instr.range, run_underlying ht], .ptr _ _⟩, s1.put_iter (m := none) (since := 0) (seen := []) ⟨⟨#[], heap_alloc_new' w _, ⟨⟨rfl, fun q hq => by cases hq⟩, fun q es' c hq => by cases hq⟩, fun q es' hq => by cases hq⟩, hs.unfrozen⟩, e1 _, h _ hs.fresh⟩

/-- An iterator's block is written. -/
theorem iter_write {bb since r : Nat} {seen seen' : List V} {ss' : Array Nat} {es : List (V × V)} {ms : Array MapEntry} (hs : Sim F σ w) (hb : σ bb = some (.iter (some r) since seen)) (hr : σ r = some (.map es since)) (hms : w.heap[r]? = some (.map ms since))
    (hz : ss'.size = seen'.length)
    (hp : ∀ (j : Nat) k v (e : MapEntry), es[j]? = some (k, v) → ms[j]? = some e → (e.born ∈ ss' ↔ k ∈ seen') ∧ (ss'.back? = some e.born ↔ seen'.head? = some k)) :
    Sim F (σ.set bb (.iter (some r) since seen')) (wS w bb (.mapIter (some r) since ss' since)) ∧ Ext F σ w F (σ.set bb (.iter (some r) since seen')) (wS w bb (.mapIter (some r) since ss' since)) := by
  obtain ⟨⟨ss, h1, h2, h3⟩, hnf⟩ := hs.iter bb (some r) since seen hb
  have hlt := hs.lt hb
  have hne : r ≠ bb := by rintro rfl; rw [hb] at hr; cases hr
  have hcell := wS_cell (w := w) (b := bb) (o := .mapIter (some r) since ss' since) hnf
  have s1 := Sim.change (F' := F) (w' := wS w bb (.mapIter (some r) since ss' since)) bb hs (fun _ _ h => h) hcell (by rw [wS_size]; exact Nat.le_refl _) (fun k hk _ => wS_other hk) (fun _ _ _ h => h) (fun o ho => absurd ho (hnf o))
  refine ⟨s1.put_iter ⟨⟨ss', wS_same hlt, ⟨⟨hz, fun q hq => by cases hq; rw [wS_size]; exact hs.lt hr⟩, fun q es' c hq hqq => ?_⟩, fun q es' hq hqq => ?_⟩, hnf⟩, ?_⟩
  · cases hq; rw [Store.get_erase_ne _ hne, hr] at hqq; cases hqq; exact Nat.le_refl _
  · cases hq; rw [Store.get_erase_ne _ hne, hr] at hqq; cases hqq
    exact ⟨ms, by rw [wS_other hne]; exact hms, hp⟩
  · exact Ext.change bb (fun _ _ h => h) hcell (by rw [wS_size]; exact Nat.le_refl _) (fun k hk _ => wS_other hk) (.inl (by simp [hb, Ob.still])) (fun k hk => Store.get_set_ne _ _ hk) (Nat.le_refl _) rfl rfl rfl

theorem d_next (ty : TypeId) (hs : Sim F σ w) (hm : VR F w (ev it) a) (h : vop P (.next it) ev σ K) : Does P F σ w (do pure (Next.value (← Instr.next a false ty))) K := by
  simp only [vop] at h
  generalize ev it = u at *
  cases hm <;> try exact h.elim
  rename_i bb off
  cases off with
  | succ q => exact h.elim
  | zero =>
  rcases h with ⟨hb, hk⟩ | ⟨r, since, seen, es, hb, hr, hk1, hk2⟩
  · obtain ⟨⟨ss, h1, h2, h3⟩, hnf⟩ := hs.iter bb none 0 [] hb
    exact VR.pure hs (x := .tuple #[.bool false]) (by simp [Instr.next, getObj, Sem.run, h1]) (.tup _ _ rfl (fun j v y hj hy => by
      match j with
      | 0 => simp at hj hy; subst hj; subst hy; exact .bool _
      | j + 1 => simp at hj)) hk
  · obtain ⟨⟨ss, h1, h2, h3⟩, hnf⟩ := hs.iter bb (some r) since seen hb
    obtain ⟨ms, h4, h5⟩ := h3 r es rfl hr
    obtain ⟨⟨ms', g1, g2, g3, g4, g5, g6⟩, g7⟩ := hs.map' hr
    rw [h4] at g1; cases g1
    have hall : (!ss.isEmpty && !ms.isEmpty && ms.all fun e => decide (e.born ≥ since)) = false := by
      cases hms : ms[0]? with
      | none =>
        have : ms = #[] := by simpa using hms
        simp [this]
      | some e =>
        have := g4 0 e hms
        have hmem := Array.mem_of_getElem? hms
        have hf : (ms.all fun e => decide (e.born ≥ since)) = false := by
          rw [Bool.eq_false_iff]
          intro hc
          have := Array.all_eq_true_iff_forall_mem.1 hc e hmem
          simp at this; omega
        rw [hf]; simp
    have hold : (ms.filter fun e => !ss.contains e.born).filter (fun e => decide (e.born < since)) = ms.filter fun e => !ss.contains e.born := by
      rw [Array.filter_eq_self]
      intro e he
      obtain ⟨he1, _⟩ := Array.mem_filter.1 he
      obtain ⟨j, hj⟩ := Array.getElem?_of_mem he1
      simpa using g4 j e hj
    have hnew : (ms.filter fun e => !ss.contains e.born).filter (fun e => decide (e.born ≥ since)) = #[] := by
      rw [Array.filter_eq_empty_iff]
      intro e he
      obtain ⟨he1, _⟩ := Array.mem_filter.1 he
      obtain ⟨j, hj⟩ := Array.getElem?_of_mem he1
      have := g4 j e hj
      simp; omega
    generalize hleft : (ms.filter fun e => !ss.contains e.born) = left at hold hnew
    have hmem : ∀ e ∈ left, ∃ (j : Nat) (k v : V), es[j]? = some (k, v) ∧ ms[j]? = some e ∧ e.born ∉ ss ∧ k ∉ seen := fun e he => by
      rw [← hleft] at he
      obtain ⟨he1, he2⟩ := Array.mem_filter.1 he
      obtain ⟨j, hj⟩ := Array.getElem?_of_mem he1
      have hjl : j < es.length := by rw [← g2]; exact (Array.getElem?_eq_some_iff.1 hj).1
      have hns : e.born ∉ ss := by simpa using he2
      exact ⟨j, es[j].1, es[j].2, by simp [List.getElem?_eq_getElem hjl], hj, hns, fun hin => hns ((h5 j _ es[j].2 e (by simp [List.getElem?_eq_getElem hjl]) hj).1.2 hin)⟩
    by_cases hemp : left = #[]
    · have hin : ∀ p ∈ es, p.1 ∈ seen := fun p hp => by
        obtain ⟨j, hj⟩ := List.getElem?_of_mem hp
        have hjl : j < ms.size := by rw [g2]; exact (List.getElem?_eq_some_iff.1 hj).1
        have hm := Array.getElem?_eq_getElem hjl
        have hborn : ms[j].born ∈ ss := by
          rcases Classical.em (ms[j].born ∈ ss) with h | h
          · exact h
          · have : ms[j] ∈ left := by rw [← hleft]; exact Array.mem_filter.2 ⟨Array.getElem_mem hjl, by simpa using h⟩
            rw [hemp] at this; simp at this
        exact (h5 j p.1 p.2 _ hj hm).1.1 hborn
      have hrun : (Instr.next (.pointer (some ⟨bb, 0, none⟩)) false ty).run P w = .ok (.tuple #[.bool false]) w := by
        unfold Instr.next
        simp only [getObj, Sem.run_bind, Sem.run, h1, Result.andThen_ok]
        simp only [Sem.run_bind, Sem.run, h4, Result.andThen_ok]
        simp only [hall, Bool.false_eq_true, if_false, hleft, hold, hnew, hemp]
        simp [Question.forced]
      exact VR.pure hs hrun (.tup _ _ rfl (fun j v y hj hy => by
        match j with
        | 0 => simp at hj hy; subst hj; subst hy; exact .bool _
        | j + 1 => simp at hj)) (hk1 hin)
    · have hsz : 0 < left.size := Nat.pos_of_ne_zero (fun h => hemp (Array.eq_empty_of_size_eq_zero h))
      have hchoose : ∃ n w1, (choose (.mapNext left.size)).run P w = .ok n w1 ∧ n < left.size ∧ (w1 = w ∨ w1 = w.drew) := by
        simp only [run_choose_drew, Question.forced]
        by_cases h1 : left.size ≤ 1
        · exact ⟨0, w, by simp [h1], hsz, .inl rfl⟩
        · refine ⟨_, w.drew, by simp [h1]; rfl, ?_, .inr rfl⟩
          simp only [Question.cut]; exact Nat.mod_lt _ hsz
      obtain ⟨n, w1, hch, hn, hw1⟩ := hchoose
      have he := Array.getElem?_eq_getElem hn
      generalize left[n] = e at he
      obtain ⟨j, k, v, q1, q2, q3, q4⟩ := hmem e (Array.mem_of_getElem? he)
      have hs1 : Sim F σ w1 ∧ Ext F σ w F σ w1 ∧ w1.heap = w.heap := by
        rcases hw1 with rfl | rfl
        · exact ⟨hs, Ext.refl _ _ _, rfl⟩
        · exact ⟨hs.drew, Ext.drew _ _ _, rfl⟩
      obtain ⟨hs1, hx1, hheap⟩ := hs1
      have hb' : w1.heap[bb]? = some (.mapIter (some r) since ss since) := by rw [hheap]; exact h1
      obtain ⟨s2, x2⟩ := iter_write (ss' := ss.push e.born) (seen' := k :: seen) hs1 hb hr (by rw [hheap]; exact h4) (by simp [h2.1.1]) (fun j' k' v' e' hj' he' => by
        have hiff := h5 j' k' v' e' hj' he'
        have hke : e'.born = e.born ↔ k' = k := by
          constructor
          · intro hbb
            have := g5 _ _ _ _ he' q2 hbb
            subst this
            rw [hj'] at q1; cases q1; rfl
          · rintro rfl
            have := nodup_at g3 hj' q1
            subst this
            rw [he'] at q2; cases q2; rfl
        refine ⟨?_, ?_⟩
        · rw [Array.mem_push, List.mem_cons, hke, hiff.1]
          constructor
          · rintro (h | h)
            · exact .inr h
            · exact .inl h
          · rintro (h | h)
            · exact .inr h
            · exact .inl h
        · simp only [Array.back?_push, List.head?_cons, Option.some.injEq]
          constructor
          · intro h; exact (hke.1 h.symm).symm
          · intro h; exact (hke.2 h.symm).symm)
      have hrun : (Instr.next (.pointer (some ⟨bb, 0, none⟩)) false ty).run P w = .ok (.tuple #[.bool true, e.key, e.val]) (wS w1 bb (.mapIter (some r) since (ss.push e.born) since)) := by
        unfold Instr.next
        simp only [getObj, Sem.run_bind, Sem.run, h1, Result.andThen_ok]
        simp only [Sem.run_bind, Sem.run, h4, Result.andThen_ok]
        simp only [hall, Bool.false_eq_true, if_false, hleft, hold, hnew]
        have hie : left.isEmpty = false := by simpa [Array.isEmpty_iff] using hemp
        simp only [hie, Bool.false_eq_true, if_false, Array.append_empty, Array.empty_append, Array.size_map, Sem.run_bind, Sem.run_pure, Result.andThen_ok, hch, Array.getElem?_map, he, Option.map_some, run_setObj_iter hb']
      have hent := g6 j k v e q1 q2
      have xs := hx1.trans x2
      refine ⟨_, _, _, _, .inl ⟨_, run_v hrun, ?_⟩, s2, xs, hk2 k v (List.mem_of_getElem? q1) q4⟩
      refine .tup _ _ rfl (fun j u y hj hy => ?_)
      match j with
      | 0 => simp at hj hy; subst hj; subst hy; exact .bool _
      | 1 => simp at hj hy; subst hj; subst hy; exact xs.vr hent.1
      | 2 => simp at hj hy; subst hj; subst hy; exact xs.vr hent.2.1
      | j + 3 => simp at hj

theorem d_entry (hs : Sim F σ w) (hm : VR F w (ev it) a) (h : vop P (.entry it) ev σ K) : Does P F σ w (do pure (Next.value (← Instr.entry a))) K := by
  simp only [vop] at h
  generalize ev it = u at *
  cases hm <;> try exact h.elim
  rename_i bb off
  cases off with
  | succ q => exact h.elim
  | zero =>
  obtain ⟨r, since, k, seen, es, v, hb, hr, hin, hk⟩ := h
  obtain ⟨⟨ss, h1, h2, h3⟩, hnf⟩ := hs.iter bb (some r) since (k :: seen) hb
  obtain ⟨ms, h4, h5⟩ := h3 r es rfl hr
  obtain ⟨⟨ms', g1, g2, g3, g4, g5, g6⟩, g7⟩ := hs.map' hr
  rw [h4] at g1; cases g1
  obtain ⟨j, hj⟩ := List.getElem?_of_mem hin
  have hjl : j < ms.size := by rw [g2]; exact (List.getElem?_eq_some_iff.1 hj).1
  have hm := Array.getElem?_eq_getElem hjl
  have hback := (h5 j k v _ hj hm).2.2 rfl
  generalize ms[j] = e at hm hback
  have hfind : ms.find? (fun x => x.born == e.born) = some e := by
    cases hf : ms.find? (fun x => x.born == e.born) with
    | none =>
      have := Array.find?_eq_none.1 hf e (Array.mem_of_getElem? hm)
      simp at this
    | some e' =>
      have h6 := Array.find?_some hf
      have h7 := Array.mem_of_find?_eq_some hf
      obtain ⟨j', hj'⟩ := Array.getElem?_of_mem h7
      have := g5 j' j e' e hj' hm (by simpa using h6)
      subst this
      rw [hj'] at hm; cases hm; rfl
  have hent := g6 j k v e hj hm
  refine VR.pure hs (x := .tuple #[e.key, e.val]) ?_ (.tup _ _ rfl (fun j u y hj hy => ?_)) hk
  · unfold Instr.entry
    simp [getObj, Sem.run, h1, h4, hback, hfind]
  · match j with
    | 0 => simp at hj hy; subst hj; subst hy; exact hent.1
    | 1 => simp at hj hy; subst hj; subst hy; exact hent.2.1
    | j + 2 => simp at hj

end Go.Vm
