/-
  VM 6: equality of plain values; maps.
-/
import Derived.Test.YtbbkgjkknjpmcaaVm5
set_option linter.unusedSimpArgs false
set_option linter.unusedVariables false
set_option linter.unusedSectionVars false
namespace Go.Vm
open Go

variable {P : Program} {F : Nat → Nat → Prop} {w : World} {σ : Store} {ev : Opd → V} {K : V → Store → Prop} {x y m k s : Opd} {a b : Value}

def plainFsG (P : Program) (pt : TypeId → Option (List Bool)) : List Field → Nat → Nat → Option (List Bool)
  | [], o, n => if o = n then some [] else none
  | f :: fs, o, n => if f.name ≠ "_" ∧ f.offset = o then match pt f.type, plainFsG P pt fs (o + P.cellsOf f.type) n with
      | some a, some b => some (a ++ b)
      | _, _ => none
    else none
/-- A type whose values can be compared by looking at their cells: the cells' shape. -/
def plainT (P : Program) : Nat → TypeId → Option (List Bool)
  | 0, _ => none
  | d + 1, t => match P.underlying t with
    | some (.int _) => if szOk P t 1 = true then some [true] else none
    | some .bool => if szOk P t 1 = true then some [false] else none
    | some (.struct fs) => if P.stoodInHeld t = false ∧ szOk P t (P.cellsOf t) = true then plainFsG P (plainT P d) fs.toList 0 (P.cellsOf t) else none
    | _ => none
def plainFs (P : Program) (d : Nat) (l : List Field) (o n : Nat) : Option (List Bool) := plainFsG P (plainT P d) l o n
theorem plainFs_nil {P : Program} {d o n : Nat} : plainFs P d [] o n = if o = n then some [] else none := rfl
theorem plainFs_cons {P : Program} {d : Nat} {f : Field} {fs : List Field} {o n : Nat} : plainFs P d (f :: fs) o n = if f.name ≠ "_" ∧ f.offset = o then match plainT P d f.type, plainFs P d fs (o + P.cellsOf f.type) n with
      | some a, some b => some (a ++ b)
      | _, _ => none
    else none := rfl
theorem plainT_succ {P : Program} {d : Nat} {t : TypeId} : plainT P (d + 1) t = match P.underlying t with
    | some (.int _) => if szOk P t 1 = true then some [true] else none
    | some .bool => if szOk P t 1 = true then some [false] else none
    | some (.struct fs) => if P.stoodInHeld t = false ∧ szOk P t (P.cellsOf t) = true then plainFs P d fs.toList 0 (P.cellsOf t) else none
    | _ => none := rfl

/-- A value of a type, and its cells. -/
def TV (P : Program) (F : Nat → Nat → Prop) (w : World) (t : TypeId) (vs : List V) (x : Value) : Prop :=
  (agOf P t = some true ∧ ∃ xs, x = .agg xs ∧ CR F w vs xs) ∨ (agOf P t = some false ∧ ∃ v, vs = [v] ∧ VR F w v x ∧ v.one = true)

theorem ceqs_len : ∀ {ss : List Bool} {a b : List V} {r : Bool}, V.ceqs ss a b = some r → a.length = ss.length ∧ b.length = ss.length
  | [], [], [], _, _ => ⟨rfl, rfl⟩
  | s :: ss, x :: a, y :: b, r, h => by
    simp only [V.ceqs] at h
    cases h1 : x.ceq s y with
    | none => simp [h1] at h
    | some q =>
      cases h2 : V.ceqs ss a b with
      | none => simp [h1, h2] at h
      | some q2 => have := ceqs_len h2; simp [this]
  | [], _ :: _, _, _, h => by simp [V.ceqs] at h
  | [], [], _ :: _, _, h => by simp [V.ceqs] at h
  | _ :: _, [], _, _, h => by simp [V.ceqs] at h
  | _ :: _, _ :: _, [], _, h => by simp [V.ceqs] at h

theorem ceqs_split : ∀ {s1 s2 : List Bool} {a b c d : List V} {r : Bool}, a.length = s1.length → c.length = s1.length → V.ceqs (s1 ++ s2) (a ++ b) (c ++ d) = some r → ∃ r1 r2, V.ceqs s1 a c = some r1 ∧ V.ceqs s2 b d = some r2 ∧ r = (r1 && r2)
  | [], s2, [], b, [], d, r, _, _, h => ⟨true, r, rfl, by simpa using h, by simp⟩
  | s :: s1, s2, x :: a, b, y :: c, d, r, hl, hl', h => by
    simp only [List.cons_append, V.ceqs] at h
    cases h1 : x.ceq s y with
    | none => simp [h1] at h
    | some q =>
      cases h2 : V.ceqs (s1 ++ s2) (a ++ b) (c ++ d) with
      | none => simp [h1, h2] at h
      | some q2 =>
        simp [h1, h2] at h
        obtain ⟨r1, r2, e1, e2, e3⟩ := ceqs_split (by simpa using hl) (by simpa using hl') h2
        refine ⟨q && r1, r2, by simp [V.ceqs, h1, e1], e2, ?_⟩
        rw [← h, e3, Bool.and_assoc]
  | [], _, _ :: _, _, _, _, _, hl, _, _ => by simp at hl
  | [], _, [], _, _ :: _, _, _, _, hl, _ => by simp at hl
  | _ :: _, _, [], _, _, _, _, hl, _, _ => by simp at hl
  | _ :: _, _, _ :: _, _, [], _, _, _, hl, _ => by simp at hl

theorem szOk_cells {t : TypeId} {n : Nat} (h : szOk P t n = true) : P.cellsOf t = n := by
  unfold szOk at h
  cases hi : P.info? t with
  | none => simp [hi] at h
  | some i => simp [hi] at h; simp [Program.cellsOf, hi, h]

theorem part_TV {pt : TypeId} {n off : Nat} {vs : List V} {xs : Array Value} (hag : ∃ ag, agOf P pt = some ag ∧ (ag = false → n = 1)) (hz : szOk P pt n = true) (hc : CR F w vs xs) (hl : off + n ≤ vs.length) :
    ∃ x, (part pt xs off).run P w = .ok x w ∧ TV P F w pt ((vs.drop off).take n) x := by
  obtain ⟨ag, hag, h1⟩ := hag
  cases ag with
  | true =>
    refine ⟨.agg (xs.extract off (off + n)), by simp [part, agOf_run hag, szOk_run hz], .inl ⟨hag, _, rfl, ?_⟩⟩
    have := VR.agg_sub hc.1 hc.2.1 hc.2.2 off n hl
    cases this with
    | agg _ _ a b c => exact ⟨a, b, c⟩
  | false =>
    have hn := h1 rfl
    subst hn
    have hlt : off < xs.size := by rw [hc.1]; omega
    have hv : vs[off]? = some (vs[off]'(by omega)) := List.getElem?_eq_getElem (by omega)
    refine ⟨xs[off], by simp [part, agOf_run hag, Array.getElem?_eq_getElem hlt], .inr ⟨hag, vs[off]'(by omega), ?_, hc.2.2 off _ _ hv (Array.getElem?_eq_getElem hlt), hc.2.1 _ (List.getElem_mem _)⟩⟩
    rw [List.drop_eq_getElem_cons (by omega)]; rfl

theorem plain_ag {d : Nat} {t : TypeId} {sh : List Bool} (h : plainT P d t = some sh) : szOk P t (P.cellsOf t) = true ∧ ∃ ag, agOf P t = some ag ∧ (ag = false → P.cellsOf t = 1) := by
  cases d with
  | zero => simp [plainT] at h
  | succ d =>
    simp only [plainT_succ] at h
    split at h
    · rename_i hu
      split at h
      · rename_i h1; exact ⟨by rw [szOk_cells h1]; exact h1, false, by simp [agOf, hu], fun _ => szOk_cells h1⟩
      · cases h
    · rename_i hu
      split at h
      · rename_i h1; exact ⟨by rw [szOk_cells h1]; exact h1, false, by simp [agOf, hu], fun _ => szOk_cells h1⟩
      · cases h
    · rename_i fs hu
      split at h
      · rename_i h1; exact ⟨h1.2, true, by simp [agOf, hu], fun h => by cases h⟩
      · cases h
    · cases h

theorem plain_len : ∀ (d : Nat), (∀ (t : TypeId) (sh : List Bool), plainT P d t = some sh → sh.length = P.cellsOf t) ∧ (∀ (l : List Field) (o n : Nat) (sh : List Bool), plainFs P d l o n = some sh → o + sh.length = n) := by
  intro d
  induction d with
  | zero =>
    refine ⟨fun t sh h => by simp [plainT] at h, fun l o n sh h => ?_⟩
    cases l with
    | nil => simp [plainFs_nil] at h; obtain ⟨rfl, rfl⟩ := h; rfl
    | cons f l => simp [plainFs_cons, plainT] at h
  | succ d ih =>
    have hT : ∀ (t : TypeId) (sh : List Bool), plainT P (d + 1) t = some sh → sh.length = P.cellsOf t := by
      intro t sh h
      simp only [plainT_succ] at h
      split at h
      · split at h
        · rename_i h1; cases h; exact (szOk_cells h1).symm
        · cases h
      · split at h
        · rename_i h1; cases h; exact (szOk_cells h1).symm
        · cases h
      · split at h
        · have := ih.2 _ _ _ _ h; omega
        · cases h
      · cases h
    refine ⟨hT, fun l => ?_⟩
    induction l with
    | nil => intro o n sh h; simp [plainFs_nil] at h; obtain ⟨rfl, rfl⟩ := h; rfl
    | cons f l ihl =>
      intro o n sh h
      simp only [plainFs_cons] at h
      split at h
      · cases h1 : plainT P (d + 1) f.type with
        | none => simp [h1] at h
        | some a =>
          cases h2 : plainFs P (d + 1) l (o + P.cellsOf f.type) n with
          | none => simp [h1, h2] at h
          | some b =>
            simp [h1, h2] at h
            subst h
            have := hT _ _ h1
            have := ihl _ _ _ h2
            simp; omega
      · cases h

theorem eq_plain (w : World) : ∀ (d : Nat) (t : TypeId) (sh : List Bool) (vs us : List V) (x y : Value) (r : Bool) (N : Nat), plainT P d t = some sh → d ≤ N → TV P F w t vs x → TV P F w t us y → V.ceqs sh vs us = some r →
    (Op.equalIn N t x y).run P w = .ok r w := by
  intro d
  induction d with
  | zero => intro t sh vs us x y r N h; simp [plainT] at h
  | succ d ih =>
    intro t sh vs us x y r N h hN hx hy hr
    obtain ⟨N, rfl⟩ : ∃ N', N = N' + 1 := ⟨N - 1, by omega⟩
    have scal : ∀ (s : Bool), sh = [s] → ((∃ kk, P.underlying t = some (.int kk)) ∧ s = true ∨ P.underlying t = some .bool ∧ s = false) → (Op.equalIn (N + 1) t x y).run P w = .ok r w := by
      intro s hs hu
      subst hs
      have hag : agOf P t = some false := by rcases hu with ⟨⟨kk, hu⟩, _⟩ | ⟨hu, _⟩ <;> simp [agOf, hu]
      rcases hx with ⟨h1, _⟩ | ⟨_, v, rfl, hv, _⟩
      · rw [hag] at h1; cases h1
      rcases hy with ⟨h1, _⟩ | ⟨_, u, rfl, hu', _⟩
      · rw [hag] at h1; cases h1
      simp only [V.ceqs] at hr
      cases hq : v.ceq s u with
      | none => simp [hq] at hr
      | some q =>
        simp [hq] at hr
        subst hr
        rcases hu with ⟨⟨kk, hu⟩, rfl⟩ | ⟨hu, rfl⟩
        · cases hv <;> cases hu' <;> simp [V.ceq] at hq
          obtain ⟨rfl, rfl⟩ := hq
          simp [Op.equalIn, run_underlying hu]
        · cases hv <;> cases hu' <;> simp [V.ceq] at hq
          subst hq
          simp [Op.equalIn, run_underlying hu]
    simp only [plainT_succ] at h
    split at h
    · rename_i kk hu
      split at h
      · cases h; exact scal true rfl (.inl ⟨⟨kk, hu⟩, rfl⟩)
      · cases h
    · rename_i hu
      split at h
      · cases h; exact scal false rfl (.inr ⟨hu, rfl⟩)
      · cases h
    · rename_i fs hu
      split at h
      case isFalse => cases h
      case isTrue h0 =>
      obtain ⟨h1, h2⟩ := h0
      have h3 := h
      obtain ⟨hvl, hul⟩ := ceqs_len hr
      have hshl := (plain_len d).2 _ _ _ _ h3
      have hag : agOf P t = some true := by simp [agOf, hu]
      rcases hx with ⟨_, xs, rfl, hx⟩ | ⟨h9, _⟩
      case inr => rw [hag] at h9; cases h9
      rcases hy with ⟨_, ys, rfl, hy⟩ | ⟨h9, _⟩
      case inr => rw [hag] at h9; cases h9
      have hfo : P.underlying t = some (.struct (P.fieldsOf t)) := by simp [Program.fieldsOf, hu]
      have hfs : P.fieldsOf t = fs := by simp [Program.fieldsOf, hu]
      rw [run_equalIn_struct w N t xs ys hfo h1, hfs]
      have key : ∀ (l : List Field) (o : Nat) (sh' : List Bool) (r : Bool), plainFs P d l o (P.cellsOf t) = some sh' → V.ceqs sh' (vs.drop o) (us.drop o) = some r → (Op.eqFields N xs ys l).run P w = .ok r w := by
        intro l
        induction l with
        | nil =>
          intro o sh' r ho hr
          simp [plainFs_nil] at ho
          obtain ⟨rfl, rfl⟩ := ho
          rw [List.drop_eq_nil_of_le (by omega), List.drop_eq_nil_of_le (by omega)] at hr
          simp [V.ceqs] at hr
          subst hr
          simp [Op.eqFields]
        | cons f l ihl =>
          intro o sh' r ho hr
          simp only [plainFs_cons] at ho
          split at ho
          case isFalse => cases ho
          case isTrue hcnd =>
          obtain ⟨n1, n2⟩ := hcnd
          cases n3 : plainT P d f.type with
          | none => simp [n3] at ho
          | some sa =>
          cases n4 : plainFs P d l (o + P.cellsOf f.type) (P.cellsOf t) with
          | none => simp [n3, n4] at ho
          | some sb =>
          simp [n3, n4] at ho
          subst ho
          obtain ⟨hsz, hag'⟩ := plain_ag n3
          have hla := (plain_len d).1 _ _ n3
          have hlb := (plain_len d).2 _ _ _ _ n4
          obtain ⟨vx, rx, tx⟩ := part_TV (w := w) hag' hsz hx (off := o) (by omega)
          obtain ⟨vy, ry, ty⟩ := part_TV (w := w) hag' hsz hy (off := o) (by omega)
          have hv : vs.drop o = (vs.drop o).take (P.cellsOf f.type) ++ vs.drop (o + P.cellsOf f.type) := by
            rw [← List.drop_drop, List.take_append_drop]
          have hu' : us.drop o = (us.drop o).take (P.cellsOf f.type) ++ us.drop (o + P.cellsOf f.type) := by
            rw [← List.drop_drop, List.take_append_drop]
          rw [hv, hu'] at hr
          obtain ⟨r1, r2, e1, e2, rfl⟩ := ceqs_split (by simp; omega) (by simp; omega) hr
          have hi := ih f.type _ _ _ vx vy r1 N n3 (by omega) tx ty e1
          subst n2
          simp only [Op.eqFields, ne_eq, n1, not_false_eq_true, if_true, Sem.run_bind, rx, ry, Result.andThen_ok, hi, Sem.run_ite]
          cases r1
          · simp
          · simp only [Bool.not_true, Bool.false_eq_true, if_false, Bool.true_and]
            exact ihl _ _ r2 n4 e2
      exact key fs.toList 0 sh r h3 (by simpa using hr)
    · cases h

theorem d_aeq (t : TypeId) (ne : Bool) (sh : List Bool) (ox oy : Operand) (d : Nat) (hd : d ≤ 10000) (ht : plainT P d t = some sh) (hag : agOf P t = some true) (hg : P.eqGuardType P.depth t = false) (hs : Sim F σ w) (hx : VR F w (ev x) a) (hy : VR F w (ev y) b) (h : vop P (.aeq ne sh x y) ev σ K) :
    Does P F σ w (do pure (Next.value (← (do eqGuard (if ne = true then .neq else .eql) t ox oy a b; binOp (if ne = true then .neq else .eql) t a b : Sem Value)))) K := by
  simp only [vop] at h
  generalize ev x = u at *
  generalize ev y = v at *
  cases hx <;> try exact h.elim
  cases hy <;> try exact h.elim
  rename_i vs xs z1 o1 hv us ys z2 o2 hu
  obtain ⟨r, hr, hk⟩ := h
  have hq := eq_plain (P := P) (F := F) w d t sh vs us (.agg xs) (.agg ys) r 10000 ht hd (.inl ⟨hag, xs, rfl, z1, o1, hv⟩) (.inl ⟨hag, ys, rfl, z2, o2, hu⟩) hr
  refine Does.same hs (run_bin (run_eqGuard_agg _ _ _ _ _ _ _ hg) (z := .bool (if ne = true then !r else r)) ?_) (.bool _) hk
  cases ne
  · simp [run_eql_struct, hq]
  · simp [run_neq_struct, hq]

end Go.Vm
