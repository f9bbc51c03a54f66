/-
  VM 10: the model's operations and the logic's: a check that the one is the other, and its soundness.
-/
import Derived.Test.YtbbkgjkknjpmcaaVm9
set_option linter.unusedSimpArgs false
set_option linter.unusedVariables false
set_option linter.unusedSectionVars false
namespace Go.Vm
open Go

def const1Ok : Value → V → Bool
  | .int k n, .int k' n' => k == k' && n == n' && (Lit.int k n).wf
  | .bool b, .bool b' => b == b'
  | .pointer none, .nilp => true
  | .slice none 0 0, .fz _ [] 0 none => true
  | .map none, .nilmp => true
  | .nilFunc, .nilfn => true
  | _, _ => false
def constsOk : List Value → List V → Bool
  | [], [] => true
  | x :: xs, v :: vs => const1Ok x v && constsOk xs vs
  | _, _ => false
def constOk : Value → V → Bool
  | .agg cs, .agg vs => constsOk cs.toList vs
  | .tuple cs, .und => true
  | .string s, .str s' => s.data.toList == s'.data.toList
  | x, v => const1Ok x v

theorem const1_VR {x : Value} {v : V} (h : const1Ok x v = true) (F : Nat → Nat → Prop) (w : World) : VR F w v x ∧ v.one = true := by
  unfold const1Ok at h
  split at h
  · simp at h; obtain ⟨⟨rfl, rfl⟩, h⟩ := h; exact ⟨.int h, rfl⟩
  · simp at h; subst h; exact ⟨.bool _, rfl⟩
  · exact ⟨.nilp, rfl⟩
  · exact ⟨.fz _ [] 0 0 none none 0 0 (fun _ => undef) rfl (Nat.le_refl _) (by simp) (by simp) (by simp) (by simp) (by simp) (by simp) (by simp) (by simp), rfl⟩
  · exact ⟨.nilmp, rfl⟩
  · exact ⟨.nilfn, rfl⟩
  · cases h

theorem consts_CR : ∀ {xs : List Value} {vs : List V}, constsOk xs vs = true → ∀ (F : Nat → Nat → Prop) (w : World), CR F w vs xs.toArray
  | [], [], _, F, w => ⟨rfl, by simp, by simp⟩
  | x :: xs, v :: vs, h, F, w => by
    simp only [constsOk, Bool.and_eq_true] at h
    obtain ⟨h1, h2⟩ := const1_VR h.1 F w
    obtain ⟨r1, r2, r3⟩ := consts_CR h.2 F w
    refine ⟨by simp at r1 ⊢; exact r1, fun u hu => ?_, fun j u y hu hy => ?_⟩
    · rcases List.mem_cons.1 hu with rfl | hu
      · exact h2
      · exact r2 u hu
    · cases j with
      | zero => simp at hu hy; subst hu; subst hy; exact h1
      | succ j => exact r3 j u y (by simpa using hu) (by simpa using hy)
  | [], _ :: _, h, _, _ => by simp [constsOk] at h
  | _ :: _, [], h, _, _ => by simp [constsOk] at h

theorem const_VR {x : Value} {v : V} (h : constOk x v = true) (F : Nat → Nat → Prop) (w : World) : VR F w v x := by
  unfold constOk at h
  split at h
  · rename_i cs vs
    obtain ⟨r1, r2, r3⟩ := consts_CR h F w
    exact .agg _ _ (by simpa using r1) r2 (fun j v y hv hy => r3 j v y hv (by simpa using hy))
  · exact .und _
  · rename_i s s'
    have : s = s' := by
      obtain ⟨⟨a⟩⟩ := s; obtain ⟨⟨b⟩⟩ := s'
      simp at h; subst h; rfl
    subst this; exact .str _
  · exact (const1_VR h F w).1

/-- A zero value's cells. -/
def zeroOk (P : Program) (t : TypeId) (zero : List V) : Bool :=
  match (P.info? t).bind (·.zero) with
  | some z => constsOk z.cells.toList zero
  | none => false
theorem zeroOk_spec {P : Program} {t : TypeId} {zero : List V} (h : zeroOk P t zero = true) : ∃ z, (P.info? t).bind (·.zero) = some z ∧ CK zero z.cells := by
  unfold zeroOk at h
  split at h
  · rename_i z hz; exact ⟨z, hz, fun F w => by have := consts_CR h F w; simpa using this⟩
  · cases h
/-- A zero value. -/
def zeroVOk (P : Program) (t : TypeId) (v : V) : Bool :=
  match (P.info? t).bind (·.zero) with
  | some z => constOk z v
  | none => false
theorem zeroVOk_spec {P : Program} {t : TypeId} {v : V} (h : zeroVOk P t v = true) : ∃ z, (P.info? t).bind (·.zero) = some z ∧ ZK v z := by
  unfold zeroVOk at h
  split at h
  · rename_i z hz; exact ⟨z, hz, fun F w => const_VR h F w⟩
  · cases h

def opdOk (n : Nat) : Operand → Opd → Bool
  | .tmp t, .s t' => t == t' && decide (t < n)
  | .const v, .c u => constOk v u
  | .func f, .f f' => f == f'
  | _, _ => false
def opdsOk (n : Nat) : List Operand → List Opd → Bool
  | [], [] => true
  | x :: xs, y :: ys => opdOk n x y && opdsOk n xs ys
  | _, _ => false
def oopdOk (n : Nat) : Option Operand → Option Opd → Bool
  | none, none => true
  | some x, some y => opdOk n x y
  | _, _ => false

/-- The state of a call, and the logic's. -/
structure St (n : Nat) (F : Nat → Nat → Prop) (env : Env) (σ : Store) (a : Act) (w : World) : Prop where
  size : a.tmps.size = n
  rel : ∀ (i : Nat) (x : Value), a.tmps[i]? = some x → VR F w (env i) x
  sim : Sim F σ w
  nodef : a.defers = []

variable {P : Program} {n : Nat} {F : Nat → Nat → Prop} {env : Env} {σ : Store} {a : Act} {w : World} {K : V → Store → Prop}

theorem opd_VR (hst : St n F env σ a w) {x : Operand} {y : Opd} (h : opdOk n x y = true) : VR F w (y.ev env) (a.eval x) := by
  unfold opdOk at h
  split at h
  · simp at h
    obtain ⟨rfl, hlt⟩ := h
    rename_i t
    have hlt' : t < a.tmps.size := by rw [hst.size]; exact hlt
    have := hst.rel t _ (Array.getElem?_eq_getElem hlt')
    simpa [Act.eval, Opd.ev, Array.getD, hlt'] using this
  · exact const_VR h F w
  · simp at h; subst h
    exact .fn _ [] [] #[] #[] rfl rfl (by simp) (by simp)
  · cases h

theorem opds_VR (hst : St n F env σ a w) : ∀ {xs : List Operand} {ys : List Opd}, opdsOk n xs ys = true → xs.length = ys.length ∧ ∀ (j : Nat) x y, xs[j]? = some x → ys[j]? = some y → VR F w (y.ev env) (a.eval x)
  | [], [], _ => ⟨rfl, by simp⟩
  | x :: xs, y :: ys, h => by
    simp only [opdsOk, Bool.and_eq_true] at h
    obtain ⟨h1, h2⟩ := opds_VR hst h.2
    refine ⟨by simp [h1], fun j x' y' hx hy => ?_⟩
    cases j with
    | zero => simp at hx hy; subst hx; subst hy; exact opd_VR hst h.1
    | succ j => exact h2 j x' y' (by simpa using hx) (by simpa using hy)
  | [], _ :: _, h => by simp [opdsOk] at h
  | _ :: _, [], h => by simp [opdsOk] at h

theorem oopd_VR (hst : St n F env σ a w) {x : Option Operand} {y : Option Opd} (h : oopdOk n x y = true) : OVR F w (y.map (Opd.ev env)) (x.map a.eval) := by
  cases x <;> cases y <;> simp [oopdOk] at h
  · trivial
  · exact opd_VR hst h

theorem arr_VR (hst : St n F env σ a w) {xs : Array Operand} {ys : List Opd} (h : opdsOk n xs.toList ys = true) : (xs.map a.eval).size = ys.length ∧
    ∀ (j : Nat) y (z : Value), ys[j]? = some y → (xs.map a.eval)[j]? = some z → VR F w (Opd.ev env y) z := by
  obtain ⟨h1, h2⟩ := opds_VR hst h
  refine ⟨by simpa using h1, fun j y z hy hz => ?_⟩
  rw [Array.getElem?_map] at hz
  cases hx : xs[j]? with
  | none => simp [hx] at hz
  | some x => simp [hx] at hz; subst hz; exact h2 j x y (by simpa using hx) hy

/-- Parts of a literal. -/
def partsOk (n : Nat) (place : Nat → Option (Nat × Nat)) : List (Nat × Operand) → List (Nat × Nat × Opd) → Bool
  | [], [] => true
  | (i, x) :: xs, (off, size, y) :: ys => (place i == some (off, size)) && opdOk n x y && partsOk n place xs ys
  | _, _ => false

theorem parts_PartsOk (hst : St n F env σ a w) {place : Nat → Option (Nat × Nat)} : ∀ {xs : List (Nat × Operand)} {ys : List (Nat × Nat × Opd)}, partsOk n place xs ys = true →
    PartsOk F w place (xs.map fun p => (p.1, a.eval p.2)) (ys.map fun p => (p.1, p.2.1, Opd.ev env p.2.2))
  | [], [], _ => ⟨rfl, by simp⟩
  | (i, x) :: xs, (off, size, y) :: ys, h => by
    simp only [partsOk, Bool.and_eq_true, beq_iff_eq] at h
    obtain ⟨r1, r2⟩ := parts_PartsOk hst h.2
    refine ⟨by simpa using r1, fun j i' x' o' s' v hx hv => ?_⟩
    cases j with
    | zero =>
      simp at hx hv
      obtain ⟨rfl, rfl⟩ := hx
      obtain ⟨rfl, rfl, rfl⟩ := hv
      exact ⟨h.1.1, opd_VR hst h.1.2⟩
    | succ j => exact r2 j i' x' o' s' v (by simpa using hx) (by simpa using hv)
  | [], _ :: _, h => by simp [partsOk] at h
  | _ :: _, [], h => by simp [partsOk] at h

def keyOk (P : Program) (kt : TypeId) (S : KSh) : Bool := plainT P 40 kt == some S.sh && agOf P kt == some S.ag
theorem keyOk_spec {kt : TypeId} {S : KSh} (h : keyOk P kt S = true) : KeyT P kt S := by
  simp only [keyOk, Bool.and_eq_true, beq_iff_eq] at h
  exact ⟨⟨40, by decide, h.1⟩, h.2⟩

def sliceE (P : Program) (t : TypeId) (e : Nat) : Bool := match P.underlying t with
  | some (.slice el) => szOk P el e
  | _ => false
theorem sliceE_spec {t : TypeId} {e : Nat} (h : sliceE P t e = true) : ∃ el, P.underlying t = some (.slice el) ∧ szOk P el e = true := by
  unfold sliceE at h; split at h
  · rename_i el hu; exact ⟨el, hu, h⟩
  · cases h

/-- What append and make want of a slice's type. -/
def growE (P : Program) (t : TypeId) (e b : Nat) : Bool := match P.underlying t with
  | some (.slice el) => szOk P el e && byOk P el b && decide (0 < b) && (match (P.info? el).bind (·.zero) with | some z => z.cells.size == e | none => false)
  | _ => false
theorem growE_spec {t : TypeId} {e b : Nat} (h : growE P t e b = true) : ∃ el z, P.underlying t = some (.slice el) ∧ szOk P el e = true ∧ byOk P el b = true ∧ 0 < b ∧ (P.info? el).bind (·.zero) = some z ∧ z.cells.size = e := by
  unfold growE at h; split at h
  · rename_i el hu
    simp only [Bool.and_eq_true, decide_eq_true_eq] at h
    obtain ⟨⟨⟨h1, h2⟩, h3⟩, h4⟩ := h
    split at h4
    · rename_i z hz; exact ⟨el, z, hu, h1, h2, h3, hz, by simpa using h4⟩
    · cases h4
  · cases h

def placesOk (P : Program) : List Field → List (Nat × Nat) → Bool
  | [], [] => true
  | f :: fs, p :: ps => p.1 == f.offset && szOk P f.type p.2 && placesOk P fs ps
  | _, _ => false
theorem placesOk_spec : ∀ {fs : List Field} {ps : List (Nat × Nat)}, placesOk P fs ps = true → ps.length = fs.length ∧ ∀ (j : Nat) f p, fs[j]? = some f → ps[j]? = some p → p.1 = f.offset ∧ szOk P f.type p.2 = true
  | [], [], _ => ⟨rfl, by simp⟩
  | f :: fs, p :: ps, h => by
    simp only [placesOk, Bool.and_eq_true, beq_iff_eq] at h
    obtain ⟨r1, r2⟩ := placesOk_spec h.2
    refine ⟨by simp [r1], fun j f' p' hf hp => ?_⟩
    cases j with
    | zero => simp at hf hp; subst hf; subst hp; exact h.1
    | succ j => exact r2 j f' p' (by simpa using hf) (by simpa using hp)
  | [], _ :: _, h => by simp [placesOk] at h
  | _ :: _, [], h => by simp [placesOk] at h

/-- Is the logic's operation the model's? (But for calls, and for the last store into a variable.) -/
def chkOp (P : Program) (n : Nat) (o : Op) (vo : VOp) : Bool :=
  match o, vo with
  | .move x, .mv y | .assign x, .mv y => opdOk n x y
  | .pick c a b, .pick c' a' b' => opdOk n c c' && opdOk n a a' && opdOk n b b'
  | .binOp op t x y _, vo => match vo with
    | .arith op' x' y' => op == op' && opdOk n x x' && opdOk n y y'
    | .cmp op' x' y' => op == op' && opdOk n x x' && opdOk n y y'
    | .divm op' x' y' => op == op' && opdOk n x x' && opdOk n y y'
    | .bits op' x' y' => op == op' && opdOk n x x' && opdOk n y y'
    | .shift op' x' y' => op == op' && opdOk n x x' && opdOk n y y'
    | .beq ne x' y' => op == (if ne = true then .neq else .eql) && (match P.underlying t with | some .bool => true | _ => false) && opdOk n x x' && opdOk n y y'
    | .pnil mp ne x' => op == (if ne = true then .neq else .eql) && opdOk n x x' && (match mp, P.underlying t, y with
      | true, some (.map _ _), .const (.map none) => true
      | false, some (.pointer _), .const (.pointer none) => true
      | _, _, _ => false)
    | .aeq ne sh x' y' => op == (if ne = true then .neq else .eql) && opdOk n x x' && opdOk n y y' && plainT P 40 t == some sh && agOf P t == some true && !P.eqGuardType P.depth t
    | _ => false
  | .unOp .not _ x, .not x' => opdOk n x x'
  | .unOp .neg _ x, .neg x' => opdOk n x x'
  | .convert s d x, .conv k x' => opdOk n x x' && (match P.underlying s, P.underlying d with | some (.int _), some (.int k') => k == k' | _, _ => false)
  | .nilCheck x, .nilc x' => opdOk n x x'
  | .fieldAddr s x f, .fld off x' => opdOk n x x' && (match P.underlying s with
    | some (.struct fs) => (match fs[f]? with | some fd => fd.offset == off && szOk P fd.type (P.cellsOf fd.type) && P.cellsOf fd.type != 0 | none => false)
    | _ => false)
  | .indexAddr t x i, .idx e x' i' => opdOk n x x' && opdOk n i i' && sliceE P t e
  | .indexAddr t x i, .aidx len e x' i' => opdOk n x x' && opdOk n i i' && (match P.underlying t with | some (.array len' el) => len == len' && szOk P el e | _ => false)
  | .field t x f, .getf off m ag x' => opdOk n x x' && (match P.underlying t with
    | some (.struct fs) => (match fs[f]? with | some fd => fd.offset == off && szOk P fd.type m && agOf P fd.type == some ag | none => false)
    | _ => false)
  | .index t x i, .geti len e ag x' i' => opdOk n x x' && opdOk n i i' && (match P.underlying t with | some (.array len' el) => len == len' && szOk P el e && agOf P el == some ag | _ => false)
  | .index t x i, .sidx x' i' => opdOk n x x' && opdOk n i i' && (match P.underlying t with | some .string => true | _ => false)
  | .extract x i, .ext i' x' => opdOk n x x' && i == i'
  | .slice t x lo hi mx, .slc e x' lo' hi' mx' => opdOk n x x' && oopdOk n lo lo' && oopdOk n hi hi' && oopdOk n mx mx' && sliceE P t e
  | .build t parts, .bld zero parts' => zeroOk P t zero && (match P.underlying t with
    | some (.struct fs) => let places := fs.toList.map fun f => (f.offset, P.cellsOf f.type)
        placesOk P fs.toList places && partsOk n (places.toArray[·]?) parts.toList parts'
    | some (.array _ el) => szOk P el (P.cellsOf el) && partsOk n (fun i => some (i * P.cellsOf el, P.cellsOf el)) parts.toList parts'
    | _ => false)
  | .makeFunc (.func f) first cap, .mkf f' first' cap' => f == f' && opdsOk n first.toList first' && opdsOk n cap.toList cap'
  | .load t x, .load m x' => opdOk n x x' && szOk P t (P.cellsOf t) && agOf P t == some m.isSome && (match m with | some k => k == P.cellsOf t | none => true)
  | .load t x, .fload m x' => opdOk n x x' && szOk P t (P.cellsOf t) && agOf P t == some m.isSome && (match m with | some k => k == P.cellsOf t | none => true)
  | .lookup t m k ok, .look S zero ok' m' k' => opdOk n m m' && opdOk n k k' && ok == ok' && (match P.underlying t with | some (.map kt el) => keyOk P kt S && zeroVOk P el zero | _ => false)
  | .entry it, .entry it' => opdOk n it it'
  | .alloc t, .alloc zero => zeroOk P t zero
  | .box _ x, .box _ x' => opdOk n x x'
  | .box _ x, .fbox _ x' => opdOk n x x'
  | .buildSlice t len parts, .bsl zero e len' parts' => len == len' && (match P.underlying t with
    | some (.slice el) => szOk P el e && zeroOk P el zero && decide (len * e ≤ 2 ^ 24) && decide (len ≤ 2 ^ 24) && partsOk n (fun i => some (i * e, e)) parts.toList (parts'.map fun p => (p.1 * e, e, p.2))
    | _ => false)
  | .store t p x, .store m p' x' => opdOk n p p' && opdOk n x x' && szOk P t m
  | .mapUpdate t m k x, .mapup S m' k' x' | .insert t m k x, .mapup S m' k' x' => opdOk n m m' && opdOk n k k' && opdOk n x x' && (match P.underlying t with | some (.map kt _) => keyOk P kt S | _ => false)
  | .makeMap _ none, .mkmap => true
  | .makeSlice t l c, .mksl zero e b l' c' => opdOk n l l' && opdOk n c c' && growE P t e b && (match P.underlying t with | some (.slice el) => zeroOk P el zero | _ => false)
  | .range t x, .range x' => opdOk n x x' && (match P.underlying t with | some (.map _ _) => true | _ => false)
  | .next it false, .next it' => opdOk n it it'
  | .call { callee := .builtin .len, args, argTypes }, .len x' => (match args.toList, argTypes[0]? with | [x], some t => opdOk n x x' && (match P.underlying t with | some (.slice _) => true | _ => false) | _, _ => false)
  | .call { callee := .builtin .len, args, argTypes }, .mlen x' => (match args.toList, argTypes[0]? with | [x], some t => opdOk n x x' && (match P.underlying t with | some (.map _ _) => true | _ => false) | _, _ => false)
  | .call { callee := .builtin .min, args, .. }, .minm mx x' y' => (match args.toList with | [x, y] => !mx && opdOk n x x' && opdOk n y y' | _ => false)
  | .call { callee := .builtin .max, args, .. }, .minm mx x' y' => (match args.toList with | [x, y] => mx && opdOk n x x' && opdOk n y y' | _ => false)
  | .call { callee := .builtin .append, args, argTypes }, .app e b s' x' => (match args.toList, argTypes.toList with | [s, x], [t, t'] => t == t' && opdOk n s s' && opdOk n x x' && growE P t e b | _, _ => false)
  | .call { callee := .builtin .append, args, argTypes }, .appr e b s' x' => (match args.toList, argTypes.toList with | [s, x], [t, t'] => t == t' && opdOk n s s' && opdOk n x x' && growE P t e b | _, _ => false)
  | .call { callee := .builtin .delete, args, argTypes }, .del S m' k' => (match args.toList, argTypes[0]? with | [m, k], some t => opdOk n m m' && opdOk n k k' && (match P.underlying t with | some (.map kt _) => keyOk P kt S | _ => false) | _, _ => false)
  | _, _ => false

end Go.Vm
