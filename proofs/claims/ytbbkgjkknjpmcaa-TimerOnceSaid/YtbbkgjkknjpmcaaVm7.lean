/-
  VM 7: maps.
-/
import Derived.Test.YtbbkgjkknjpmcaaVm6
set_option linter.unusedSimpArgs false
set_option linter.unusedVariables false
set_option linter.unusedSectionVars false
namespace Go.Vm
open Go

variable {P : Program} {F : Nat → Nat → Prop} {w : World} {σ : Store} {ev : Opd → V} {K : V → Store → Prop} {x y m s : Opd} {a b : Value}

theorem ceq_iff {s : Bool} {u v : V} {r : Bool} (h : u.ceq s v = some r) : (r = true ↔ u = v) := by
  cases s <;> cases u <;> cases v <;> simp [V.ceq] at h
  · subst h; simp
  · obtain ⟨rfl, rfl⟩ := h; simp
theorem ceqs_iff : ∀ {ss : List Bool} {us vs : List V} {r : Bool}, V.ceqs ss us vs = some r → (r = true ↔ us = vs)
  | [], [], [], r, h => by simp [V.ceqs] at h; subst h; simp
  | s :: ss, u :: us, v :: vs, r, h => by
    simp only [V.ceqs] at h
    cases h1 : u.ceq s v with
    | none => simp [h1] at h
    | some q =>
      cases h2 : V.ceqs ss us vs with
      | none => simp [h1, h2] at h
      | some q2 =>
        simp [h1, h2] at h
        subst h
        simp [Bool.and_eq_true, ceq_iff h1, ceqs_iff h2]
  | [], _ :: _, _, _, h => by simp [V.ceqs] at h
  | [], [], _ :: _, _, h => by simp [V.ceqs] at h
  | _ :: _, [], _, _, h => by simp [V.ceqs] at h
  | _ :: _, _ :: _, [], _, h => by simp [V.ceqs] at h

theorem keq_parts {S : KSh} {u v : V} {r : Bool} (h : u.keq S v = some r) : V.ceqs S.sh u.cells v.cells = some r ∧ (S.ag = true → (∃ us, u = .agg us) ∧ ∃ vs, v = .agg vs) ∧ (S.ag = false → u.cells = [u] ∧ v.cells = [v]) ∧ (r = true ↔ u = v) := by
  unfold V.keq at h
  split at h
  · rename_i hag
    cases u <;> first | (cases h; done) | skip
    cases v <;> first | (cases h; done) | skip
    refine ⟨h, fun _ => ⟨⟨_, rfl⟩, _, rfl⟩, fun hf => (by rw [hag] at hf; cases hf), ?_⟩
    rw [ceqs_iff h]; simp
  · rename_i hag
    split at h
    · cases h
    · cases h
    · rename_i h1 h2
      have e1 : u.cells = [u] := by cases u <;> first | rfl | exact absurd rfl (h1 _ )
      have e2 : v.cells = [v] := by cases v <;> first | rfl | exact absurd rfl (h2 _ )
      refine ⟨by rw [e1, e2]; exact h, fun ht => absurd ht hag, fun _ => ⟨e1, e2⟩, ?_⟩
      rw [ceqs_iff h]; simp

/-- The type of a key: how its values are compared. -/
structure KeyT (P : Program) (kt : TypeId) (S : KSh) : Prop where
  d : ∃ d, d ≤ 9990 ∧ plainT P d kt = some S.sh
  ag : agOf P kt = some S.ag

theorem keq_TV {S : KSh} {kt : TypeId} (hk : KeyT P kt S) {u v : V} {r : Bool} (h : u.keq S v = some r) {x : Value} (hx : VR F w u x) (hf : u.flat = true) : TV P F w kt u.cells x := by
  obtain ⟨h1, h2, h3, h4⟩ := keq_parts h
  have hcr := hx.cells hf
  cases hag : S.ag with
  | true =>
    obtain ⟨⟨us, rfl⟩, _⟩ := h2 hag
    cases hx with
    | agg _ xs a b c => exact .inl ⟨hk.ag.trans (by rw [hag]), xs, rfl, a, b, c⟩
  | false =>
    obtain ⟨e1, _⟩ := h3 hag
    refine .inr ⟨hk.ag.trans (by rw [hag]), u, e1, hx, ?_⟩
    have := hcr.2.1 u (by rw [e1]; simp)
    exact this

theorem keq_flat {S : KSh} {u v : V} {r : Bool} (h : u.keq S v = some r) : u.flat = true ∧ v.flat = true := by
  obtain ⟨h1, h2, h3, h4⟩ := keq_parts h
  cases hag : S.ag with
  | true => obtain ⟨⟨us, rfl⟩, vs, rfl⟩ := h2 hag; exact ⟨rfl, rfl⟩
  | false =>
    obtain ⟨e1, e2⟩ := h3 hag
    rw [e1, e2] at h1
    cases hs : S.sh with
    | nil => rw [hs] at h1; simp [V.ceqs] at h1
    | cons s ss =>
      rw [hs] at h1
      simp only [V.ceqs] at h1
      cases hq : u.ceq s v with
      | none => simp [hq] at h1
      | some q => cases s <;> cases u <;> cases v <;> simp [V.ceq] at hq <;> exact ⟨rfl, rfl⟩

theorem key_equal {S : KSh} {kt : TypeId} (hk : KeyT P kt S) {u v : V} {r : Bool} (h : u.keq S v = some r) {x y : Value} (hx : VR F w u x) (hy : VR F w v y) : (Op.equal kt x y).run P w = .ok r w := by
  obtain ⟨h1, h2, h3, h4⟩ := keq_parts h
  obtain ⟨f1, f2⟩ := keq_flat h
  obtain ⟨d, hd, hp⟩ := hk.d
  have t1 := keq_TV hk h hx f1
  have t2 : TV P F w kt v.cells y := by
    have hcr := hy.cells f2
    cases hag : S.ag with
    | true =>
      obtain ⟨_, vs, rfl⟩ := h2 hag
      cases hy with
      | agg _ xs a b c => exact .inl ⟨hk.ag.trans (by rw [hag]), xs, rfl, a, b, c⟩
    | false =>
      obtain ⟨_, e2⟩ := h3 hag
      exact .inr ⟨hk.ag.trans (by rw [hag]), v, e2, hy, hcr.2.1 v (by rw [e2]; simp)⟩
  exact eq_plain w d kt S.sh u.cells v.cells x y r 10000 hp (by omega) t1 t2 h1

/-- Entries and pairs, one by one. -/
def EntR (F : Nat → Nat → Prop) (w : World) (es : List (V × V)) (ms : List MapEntry) : Prop :=
  ms.length = es.length ∧ ∀ (j : Nat) k v (m : MapEntry), es[j]? = some (k, v) → ms[j]? = some m → VR F w k m.key ∧ VR F w v m.val

theorem EntR.cons {es : List (V × V)} {ms : List MapEntry} {p : V × V} {q : MapEntry} (h : EntR F w (p :: es) (q :: ms)) : VR F w p.1 q.key ∧ VR F w p.2 q.val ∧ EntR F w es ms := by
  have := h.2 0 p.1 p.2 q rfl rfl
  exact ⟨this.1, this.2, by simpa using h.1, fun j k v m h1 h2 => h.2 (j + 1) k v m h1 h2⟩

def Found (es : List (V × V)) (ms : List MapEntry) (k : V) (i0 : Nat) : Option (Nat × Value) → Prop
  | none => ∀ p ∈ es, p.1 ≠ k
  | some (i, x) => ∃ j v m, i = i0 + j ∧ es[j]? = some (k, v) ∧ ms[j]? = some m ∧ x = m.val

theorem asking_run {S : KSh} {kt : TypeId} (hk : KeyT P kt S) {k : V} {key : Value} (hkv : VR F w k key) : ∀ (es : List (V × V)) (ms : List MapEntry) (i0 : Nat), EntR F w es ms → (∀ p ∈ es, (k.keq S p.1).isSome = true) →
    ∃ r, (Instr.findAsking kt key ms i0).run P w = .ok r w ∧ Found es ms k i0 r
  | [], [], i0, _, _ => ⟨none, by simp [Instr.findAsking], by simp [Found]⟩
  | p :: es, q :: ms, i0, hr, hall => by
    obtain ⟨h1, h2, h3⟩ := hr.cons
    have hp := hall p (by simp)
    obtain ⟨r, hr'⟩ := Option.isSome_iff_exists.1 hp
    have he := key_equal hk hr' hkv h1
    have hiff := (keq_parts hr').2.2.2
    cases r with
    | true =>
      have hkp : k = p.1 := hiff.1 rfl
      exact ⟨some (i0, q.val), by simp [Instr.findAsking, he], 0, p.2, q, by simp, by simp [hkp], rfl, rfl⟩
    | false =>
      have hkp : ¬ k = p.1 := fun h => by have := hiff.2 h; cases this
      obtain ⟨r, h4, h5⟩ := asking_run hk hkv es ms (i0 + 1) h3 (fun p hp => hall p (by simp [hp]))
      refine ⟨r, by simp [Instr.findAsking, he, h4], ?_⟩
      cases r with
      | none => intro p' hp'; rcases List.mem_cons.1 hp' with rfl | hp'; exact fun h => hkp h.symm; exact h5 p' hp'
      | some z =>
        obtain ⟨i, x⟩ := z
        obtain ⟨j, v, m, e1, e2, e3, e4⟩ := h5
        exact ⟨j + 1, v, m, by omega, e2, e3, e4⟩
  | [], _ :: _, _, hr, _ => by simp [EntR] at hr
  | _ :: _, [], _, hr, _ => by simp [EntR] at hr

theorem now_run {S : KSh} {k : V} {key : Value} (hkv : VR F w k key) (kind : TypeDesc) (hkind : ((∃ kk, kind = .int kk) ∧ S = ⟨false, [true]⟩) ∨ (kind = .bool ∧ S = ⟨false, [false]⟩)) : ∀ (es : List (V × V)) (ms : List MapEntry) (i0 : Nat), EntR F w es ms → (∀ p ∈ es, (k.keq S p.1).isSome = true) →
    ∃ r, Instr.findNow kind key ms i0 = some r ∧ Found es ms k i0 r
  | [], [], i0, _, _ => ⟨none, by simp [Instr.findNow], by simp [Found]⟩
  | p :: es, q :: ms, i0, hr, hall => by
    obtain ⟨h1, h2, h3⟩ := hr.cons
    have hp := hall p (by simp)
    obtain ⟨r, hr'⟩ := Option.isSome_iff_exists.1 hp
    have hiff := (keq_parts hr').2.2.2
    have hsame : Instr.sameNow kind key q.key = some r := by
      obtain ⟨e1, _, e3, _⟩ := keq_parts hr'
      rcases hkind with ⟨⟨kk, rfl⟩, rfl⟩ | ⟨rfl, rfl⟩
      · obtain ⟨c1, c2⟩ := e3 rfl
        rw [c1, c2] at e1
        obtain ⟨p1, p2⟩ := p
        simp only [V.ceqs] at e1
        cases hq : k.ceq true p1 with
        | none => simp [hq] at e1
        | some z =>
          simp [hq] at e1; subst e1
          generalize q.key = qk at h1 ⊢
          cases hkv <;> cases h1 <;> simp [V.ceq] at hq
          obtain ⟨rfl, rfl⟩ := hq
          simp [Instr.sameNow]
      · obtain ⟨c1, c2⟩ := e3 rfl
        rw [c1, c2] at e1
        obtain ⟨p1, p2⟩ := p
        simp only [V.ceqs] at e1
        cases hq : k.ceq false p1 with
        | none => simp [hq] at e1
        | some z =>
          simp [hq] at e1; subst e1
          generalize q.key = qk at h1 ⊢
          cases hkv <;> cases h1 <;> simp [V.ceq] at hq
          subst hq
          simp [Instr.sameNow]
    cases r with
    | true =>
      have hkp : k = p.1 := hiff.1 rfl
      exact ⟨some (i0, q.val), by simp [Instr.findNow, hsame], 0, p.2, q, by simp, by simp [hkp], rfl, rfl⟩
    | false =>
      have hkp : ¬ k = p.1 := fun h => by have := hiff.2 h; cases this
      obtain ⟨r, h4, h5⟩ := now_run hkv kind hkind es ms (i0 + 1) h3 (fun p hp => hall p (by simp [hp]))
      refine ⟨r, by simp [Instr.findNow, hsame, h4], ?_⟩
      cases r with
      | none => intro p' hp'; rcases List.mem_cons.1 hp' with rfl | hp'; exact fun h => hkp h.symm; exact h5 p' hp'
      | some z =>
        obtain ⟨i, x⟩ := z
        obtain ⟨j, v, m, e1, e2, e3, e4⟩ := h5
        exact ⟨j + 1, v, m, by omega, e2, e3, e4⟩
  | [], _ :: _, _, hr, _ => by simp [EntR] at hr
  | _ :: _, [], _, hr, _ => by simp [EntR] at hr

theorem find_run {S : KSh} {kt : TypeId} (hk : KeyT P kt S) {k : V} {key : Value} (hkv : VR F w k key) {es : List (V × V)} {ms : List MapEntry} (hr : EntR F w es ms) (hall : ∀ p ∈ es, (k.keq S p.1).isSome = true) :
    ∃ r, (Instr.findKey kt key ms).run P w = .ok r w ∧ Found es ms k 0 r := by
  obtain ⟨d, hd, hp⟩ := hk.d
  have hag := hk.ag
  cases d with
  | zero => simp [plainT] at hp
  | succ d =>
    simp only [plainT_succ] at hp
    split at hp
    · rename_i kk hu
      split at hp
      · have hS : S = ⟨false, [true]⟩ := by
          obtain ⟨sag, ssh⟩ := S
          simp [agOf, hu] at hag
          simp at hp
          rw [← hp, ← hag]
        obtain ⟨r, h1, h2⟩ := now_run (S := S) hkv (.int kk) (.inl ⟨⟨kk, rfl⟩, hS⟩) es ms 0 hr hall
        exact ⟨r, by simp [Instr.findKey, run_underlying hu, h1], h2⟩
      · cases hp
    · rename_i hu
      split at hp
      · have hS : S = ⟨false, [false]⟩ := by
          obtain ⟨sag, ssh⟩ := S
          simp [agOf, hu] at hag
          simp at hp
          rw [← hp, ← hag]
        obtain ⟨r, h1, h2⟩ := now_run (S := S) hkv .bool (.inr ⟨rfl, hS⟩) es ms 0 hr hall
        exact ⟨r, by simp [Instr.findKey, run_underlying hu, h1], h2⟩
      · cases hp
    · rename_i fs hu
      obtain ⟨r, h1, h2⟩ := asking_run hk hkv es ms 0 hr hall
      cases es with
      | nil =>
        cases ms with
        | nil => exact ⟨none, by simp [Instr.findKey, run_underlying hu, Instr.findNow], by simp [Found]⟩
        | cons _ _ => simp [EntR] at hr
      | cons p es =>
        cases ms with
        | nil => simp [EntR] at hr
        | cons q ms => exact ⟨r, by simp [Instr.findKey, run_underlying hu, Instr.findNow, Instr.sameNow, h1], h2⟩
    · cases hp

theorem check_plain (em : Bool) : ∀ (d : Nat) (t : TypeId) (sh : List Bool) (vs : List V) (x : Value) (N : Nat), plainT P d t = some sh → d ≤ N → TV P F w t vs x → vs.length = sh.length → (Instr.checkKey em N t x).run P w = .ok () w := by
  intro d
  induction d with
  | zero => intro t sh vs x N h; simp [plainT] at h
  | succ d ih =>
    intro t sh vs x N h hN hx hl
    obtain ⟨N, rfl⟩ : ∃ N', N = N' + 1 := ⟨N - 1, by omega⟩
    simp only [plainT_succ] at h
    split at h
    · rename_i kk hu; simp [Instr.checkKey, run_underlying hu]
    · rename_i hu; simp [Instr.checkKey, run_underlying hu]
    · rename_i fs hu
      split at h
      case isFalse => cases h
      case isTrue h0 =>
      have hag : agOf P t = some true := by simp [agOf, hu]
      have hshl := (plain_len d).2 _ _ _ _ h
      rcases hx with ⟨_, xs, rfl, hx⟩ | ⟨h9, _⟩
      case inr => rw [hag] at h9; cases h9
      simp only [Instr.checkKey, Sem.run_bind, run_underlying hu, Result.andThen_ok]
      rw [← Array.forIn_toList]
      generalize fs.toList = l at h
      clear hu
      have hshl' : 0 + sh.length ≤ P.cellsOf t := by omega
      have hvl : vs.length = P.cellsOf t := by omega
      clear hl hshl
      generalize 0 = o at h hshl'
      induction l generalizing o sh with
      | nil => simp
      | cons f l ihl =>
        simp only [plainFs_cons] at h
        split at h
        case isFalse => cases h
        case isTrue hcnd =>
        obtain ⟨n1, n2⟩ := hcnd
        cases n3 : plainT P d f.type with
        | none => simp [n3] at h
        | some sa =>
        cases n4 : plainFs P d l (o + P.cellsOf f.type) (P.cellsOf t) with
        | none => simp [n3, n4] at h
        | some sb =>
        obtain ⟨hsz, hag'⟩ := plain_ag n3
        have hla := (plain_len d).1 _ _ n3
        have hlb := (plain_len d).2 _ _ _ _ n4
        obtain ⟨vx, rx, tx⟩ := part_TV (w := w) hag' hsz hx (off := o) (by omega)
        have hi := ih f.type sa _ vx N n3 (by omega) tx (by rw [List.length_take, List.length_drop]; omega)
        have := ihl _ _ n4 (by omega)
        subst n2
        simp only [List.forIn_cons, Sem.run_bind, n1, ne_eq, not_false_eq_true, if_true, rx, Result.andThen_ok, hi, Sem.run_pure]
        exact this
    · cases h


theorem key_check {S : KSh} {kt : TypeId} (hk : KeyT P kt S) {k : V} {r : Bool} (hq : k.keq S k = some r) {key : Value} (hkv : VR F w k key) (em : Bool) : (Instr.checkKey em 10000 kt key).run P w = .ok () w := by
  obtain ⟨d, hd, hp⟩ := hk.d
  obtain ⟨h1, _, _, _⟩ := keq_parts hq
  exact check_plain em d kt S.sh k.cells key 10000 hp (by omega) (keq_TV hk hq hkv (keq_flat hq).1) (ceqs_len h1).1

theorem MapAt.ent {bb clk : Nat} {es : List (V × V)} (h : MapAt F w bb es clk) : ∃ ms : Array MapEntry, w.heap[bb]? = some (.map ms clk) ∧ EntR F w es ms.toList ∧ (es.map (·.1)).Nodup := by
  obtain ⟨⟨ms, h1, h2, h3, h4, h5, h6⟩, _⟩ := h
  exact ⟨ms, h1, ⟨by simpa using h2, fun j k v m hj hm => let ⟨x, y, _⟩ := h6 j k v m hj (by simpa using hm); ⟨x, y⟩⟩, h3⟩

theorem nodup_at {es : List (V × V)} (hn : (es.map (·.1)).Nodup) {i j : Nat} {k v v' : V} (hi : es[i]? = some (k, v)) (hj : es[j]? = some (k, v')) : i = j := by
  have h1 : (es.map (·.1))[i]? = some k := by simp [hi]
  have h2 : (es.map (·.1))[j]? = some k := by simp [hj]
  obtain ⟨l1, e1⟩ := List.getElem?_eq_some_iff.1 h1
  obtain ⟨l2, e2⟩ := List.getElem?_eq_some_iff.1 h2
  have hp := List.pairwise_iff_getElem.1 hn
  rcases Nat.lt_trichotomy i j with h | h | h
  · exact absurd (e1.trans e2.symm) (hp i j l1 l2 h)
  · exact h
  · exact absurd (e2.trans e1.symm) (hp j i l2 l1 h)

theorem mget_some {es : List (V × V)} (hn : (es.map (·.1)).Nodup) {j : Nat} {k v : V} (hj : es[j]? = some (k, v)) : mget k es = some v := by
  have hm : (k, v) ∈ es := List.mem_of_getElem? hj
  unfold mget
  cases hf : es.find? (fun p => decide (p.1 = k)) with
  | none =>
    have := List.find?_eq_none.1 hf (k, v) hm
    simp at this
  | some p =>
    have h1 : p.1 = k := by have := List.find?_some hf; simpa using this
    have h2 := List.mem_of_find?_eq_some hf
    obtain ⟨i, hi⟩ := List.getElem?_of_mem h2
    obtain ⟨p1, p2⟩ := p
    simp at h1; subst h1
    have := nodup_at hn hi hj
    subst this
    rw [hi] at hj; simp at hj; simp [hj]

theorem mget_none {es : List (V × V)} {k : V} (h : ∀ p ∈ es, p.1 ≠ k) : mget k es = none := by
  unfold mget
  have : es.find? (fun p => decide (p.1 = k)) = none := List.find?_eq_none.2 (fun p hp => by simpa using h p hp)
  rw [this]; rfl

/-- A zero value, whatever the world. -/
def ZK (v : V) (z : Value) : Prop := ∀ F w, VR F w v z

theorem d_look (t kt el : TypeId) (S : KSh) (zv : V) (z : Value) (ok : Bool) (ht : P.underlying t = some (.map kt el)) (hk : KeyT P kt S) (hz : (P.info? el).bind (·.zero) = some z) (hzk : ZK zv z)
    (hs : Sim F σ w) (hm : VR F w (ev m) a) (hx : VR F w (ev x) b) (h : vop P (.look S zv ok m x) ev σ K) : Does P F σ w (do pure (Next.value (← Instr.lookup t a b ok))) K := by
  simp only [vop] at h
  obtain ⟨h0, h⟩ := h
  obtain ⟨r0, hr0⟩ := Option.isSome_iff_exists.1 h0
  generalize ev m = u at *
  have fin : ∀ (r : Option (Nat × Value)) (v : V) (val : Value), (r = none → val = z) → (∀ q, r = some q → val = q.2) → VR F w v val → K (if ok = true then .tup [v, .bool r.isSome] else v) σ → (Instr.lookup t a b ok).run P w = .ok (if ok = true then .tuple #[val, .bool r.isSome] else val) w →
      Does P F σ w (do pure (Next.value (← Instr.lookup t a b ok))) K := by
    intro r v val _ _ hvr hkk hrun
    refine VR.pure hs hrun ?_ hkk
    cases ok
    · exact hvr
    · refine .tup _ _ (by simp) (fun j u y hj hy => ?_)
      match j with
      | 0 => simp at hj hy; subst hj; subst hy; exact hvr
      | 1 => simp at hj hy; subst hj; subst hy; exact .bool _
      | j + 2 => simp at hj
  cases hm <;> try exact h.elim
  · rename_i bb
    obtain ⟨es, clk, hb, hall, h⟩ := h
    obtain ⟨ms, g1, g2, g3⟩ := (hs.map bb es clk hb).ent
    obtain ⟨r, hr, hfound⟩ := find_run (P := P) hk hx g2 hall
    have hck := key_check hk hr0 hx ms.isEmpty
    cases r with
    | none =>
      rw [mget_none hfound] at h
      refine fin none zv z (fun _ => rfl) (fun q hq => by cases hq) (hzk F w) h ?_
      simp [Instr.lookup, run_underlying ht, getObj, Sem.run, g1, hck, hr, run_zero hz]
    | some q =>
      obtain ⟨i, val⟩ := q
      obtain ⟨j, v, me, e1, e2, e3, e4⟩ := hfound
      rw [mget_some g3 e2] at h
      refine fin (some (i, val)) v val (fun hq => by cases hq) (fun q hq => by cases hq; rfl) (by rw [e4]; exact (g2.2 j _ v me e2 e3).2) h ?_
      simp [Instr.lookup, run_underlying ht, getObj, Sem.run, g1, hck, hr]
  · have hck := key_check (P := P) hk hr0 hx true
    have hnow := find_run (P := P) (es := []) (ms := []) hk hx ⟨rfl, by simp⟩ (by simp)
    obtain ⟨r, hr, hfound⟩ := hnow
    cases r with
    | some q => obtain ⟨i, val⟩ := q; obtain ⟨j, v, me, e1, e2, e3, e4⟩ := hfound; simp at e2
    | none =>
      refine fin none zv z (fun _ => rfl) (fun q hq => by cases hq) (hzk F w) h ?_
      simp [Instr.lookup, run_underlying ht, hck, hr, run_zero hz]

theorem d_mlen (t kt el : TypeId) (ht : P.underlying t = some (.map kt el)) (ty : TypeId) (ats : Array TypeId) (hat : ats[0]? = some t) (hs : Sim F σ w) (hm : VR F w (ev m) a) (h : vop P (.mlen m) ev σ K) :
    Does P F σ w (do pure (Next.value (← Builtin.len_ ats ty #[a]))) K := by
  simp only [vop] at h
  generalize ev m = u at *
  cases hm <;> try exact h.elim
  · rename_i bb
    obtain ⟨es, clk, hb, hbound, hk⟩ := h
    obtain ⟨ms, g1, g2, g3⟩ := (hs.map bb es clk hb).ent
    have hl : ms.size = es.length := by simpa using g2.1
    exact VR.pure hs (x := .int .i64 (ms.size : Int)) (by simp [Builtin.len_, hat, run_underlying ht, goInt, getObj, Sem.run, g1]) (by rw [hl]; exact .int (by simp [Lit.wf, IntKind.min, IntKind.max, IntKind.signed, IntKind.bits]; omega)) hk
  · exact VR.pure hs (x := .int .i64 0) (by simp [Builtin.len_, hat, run_underlying ht, goInt]) (.int (by decide)) h

end Go.Vm
