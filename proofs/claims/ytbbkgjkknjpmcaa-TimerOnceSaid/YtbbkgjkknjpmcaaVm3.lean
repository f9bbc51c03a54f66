/-
  VM 3: the operations that touch no memory, and those that only look into it.
-/
import Derived.Test.YtbbkgjkknjpmcaaVm2
import Derived.Laws.StructEq
import Derived.WalkLawsBesides
import Derived.Laws.Small
import Derived.Laws.Entries
set_option linter.unusedSimpArgs false
set_option linter.unusedVariables false
set_option linter.unusedSectionVars false
namespace Go.Vm
open Go

variable {P : Program} {F : Nat → Nat → Prop} {w : World} {σ : Store} {ev : Opd → V} {K : V → Store → Prop}

/-- What an operation is to do: hand back a value that fits, in a world that fits. -/
def Does (P : Program) (F : Nat → Nat → Prop) (σ : Store) (w : World) (s : Sem Next) (K : V → Store → Prop) : Prop :=
  ∃ v σ' F' w', ((∃ x, s.run P w = .ok (.value x) w' ∧ VR F' w' v x) ∨ (s.run P w = .ok .skip w' ∧ v = .und)) ∧ Sim F' σ' w' ∧ Ext F σ w F' σ' w' ∧ K v σ'

theorem Does.same {s : Sem Next} {v : V} {x : Value} (hs : Sim F σ w) (hr : s.run P w = .ok (.value x) w) (hv : VR F w v x) (hk : K v σ) : Does P F σ w s K :=
  ⟨v, σ, F, w, .inl ⟨x, hr, hv⟩, hs, Ext.refl F σ w, hk⟩

theorem wf_wrap' (k : IntKind) (n : Int) : (Lit.int k (k.wrap n)).wf = true := wf_wrap k n

theorem wf_bits' (op : BinOp) (k : IntKind) (a b : Int) : (Lit.int k (bits op k a b)).wf = true := wf_bits op k a b

theorem wf_between {k : IntKind} {n r : Int} (hn : (Lit.int k n).wf = true) (h1 : 0 ≤ n → 0 ≤ r ∧ r ≤ n) (h2 : n < 0 → n ≤ r ∧ r ≤ 0) : (Lit.int k r).wf = true := by
  have a : k.min ≤ 0 := by cases k <;> decide
  have b : 0 ≤ k.max := by cases k <;> decide
  simp only [Lit.wf, Bool.and_eq_true, decide_eq_true_eq] at hn ⊢
  rcases Int.lt_or_le n 0 with h | h
  · have := h2 h; omega
  · have := h1 h; omega

theorem run_v {s : Sem Value} {x : Value} {w' : World} (h : s.run P w = .ok x w') : (do pure (Next.value (← s)) : Sem Next).run P w = .ok (.value x) w' := by
  simp [h]

theorem eqGuard_int (op : BinOp) (t : TypeId) (x y : Operand) (k k' : IntKind) (a b : Int) : (eqGuard op t x y (.int k a) (.int k' b)).run P w = .ok () w := by
  cases op <;> simp [eqGuard]
theorem eqGuard_bool (op : BinOp) (t : TypeId) (x y : Operand) (a b : Bool) : (eqGuard op t x y (.bool a) (.bool b)).run P w = .ok () w := by
  cases op <;> simp [eqGuard]
theorem eqGuard_ptr (op : BinOp) (t : TypeId) (x y : Operand) (a : Option Addr) (b : Option Addr) : (eqGuard op t x y (.pointer a) (.pointer b)).run P w = .ok () w := by
  cases op <;> simp [eqGuard]
theorem eqGuard_map (op : BinOp) (t : TypeId) (x y : Operand) (a b : Option Nat) : (eqGuard op t x y (.map a) (.map b)).run P w = .ok () w := by
  cases op <;> simp [eqGuard]

theorem run_bin {op : BinOp} {t : TypeId} {x y : Operand} {a b z : Value} (hg : (eqGuard op t x y a b).run P w = .ok () w) (h : (binOp op t a b).run P w = .ok z w) :
    (do pure (Next.value (← (do eqGuard op t x y a b; binOp op t a b : Sem Value))) : Sem Next).run P w = .ok (.value z) w := by
  simp [hg, h]

section ints
variable (op : BinOp) (t : TypeId) (ox oy : Operand) {x y : Opd} {a b : Value}

theorem d_arith (hs : Sim F σ w) (hx : VR F w (ev x) a) (hy : VR F w (ev y) b) (h : vop P (.arith op x y) ev σ K) :
    Does P F σ w (do pure (Next.value (← (do eqGuard op t ox oy a b; binOp op t a b : Sem Value)))) K := by
  simp only [vop] at h
  generalize ev x = u at *
  generalize ev y = v at *
  cases hx <;> try exact h.elim
  cases hy <;> try exact h.elim
  obtain ⟨rfl, r, hr, hk⟩ := h
  refine Does.same hs (run_bin (eqGuard_int ..) ?_) (.int (wf_wrap' _ r)) hk
  cases op <;> simp [arith] at hr <;> subst hr <;> simp [binOp, Op.intArith]

theorem d_cmp (hs : Sim F σ w) (hx : VR F w (ev x) a) (hy : VR F w (ev y) b) (h : vop P (.cmp op x y) ev σ K) :
    Does P F σ w (do pure (Next.value (← (do eqGuard op t ox oy a b; binOp op t a b : Sem Value)))) K := by
  simp only [vop] at h
  generalize ev x = u at *
  generalize ev y = v at *
  cases hx <;> try exact h.elim
  cases hy <;> try exact h.elim
  obtain ⟨rfl, r, hr, hk⟩ := h
  refine Does.same hs (run_bin (eqGuard_int ..) ?_) (.bool r) hk
  cases op <;> simp [cmpI] at hr <;> subst hr <;> simp [binOp, Op.intCmp]

theorem d_divm (hs : Sim F σ w) (hx : VR F w (ev x) a) (hy : VR F w (ev y) b) (h : vop P (.divm op x y) ev σ K) :
    Does P F σ w (do pure (Next.value (← (do eqGuard op t ox oy a b; binOp op t a b : Sem Value)))) K := by
  simp only [vop] at h
  generalize ev x = u at *
  generalize ev y = v at *
  cases hx <;> try exact h.elim
  cases hy <;> try exact h.elim
  rename_i k n hn k' m hm
  obtain ⟨rfl, h0, hk⟩ := h
  cases op <;> try exact hk.elim
  · refine Does.same hs (run_bin (eqGuard_int ..) ?_) (.int (wf_wrap' _ _)) hk
    simp [binOp, Op.intDiv, h0]
  · refine Does.same hs (run_bin (x := ox) (y := oy) (z := .int k (n.tmod m)) (eqGuard_int ..) ?_) (.int ?_) hk
    · simp [binOp, Op.intDiv, h0]
    · refine wf_between hn (fun h => ?_) (fun h => ?_)
      · have h1 : (n.tmod m).natAbs ≤ n.natAbs := by rw [Int.natAbs_tmod]; exact Nat.mod_le _ _
        have h2 : 0 ≤ n.tmod m := Int.tmod_nonneg m h
        omega
      · have h1 : (n.tmod m).natAbs ≤ n.natAbs := by rw [Int.natAbs_tmod]; exact Nat.mod_le _ _
        have h2 : 0 ≤ (-n).tmod m := Int.tmod_nonneg m (by omega)
        rw [Int.neg_tmod] at h2
        omega

theorem d_bits (hs : Sim F σ w) (hx : VR F w (ev x) a) (hy : VR F w (ev y) b) (h : vop P (.bits op x y) ev σ K) :
    Does P F σ w (do pure (Next.value (← (do eqGuard op t ox oy a b; binOp op t a b : Sem Value)))) K := by
  simp only [vop] at h
  generalize ev x = u at *
  generalize ev y = v at *
  cases hx <;> try exact h.elim
  cases hy <;> try exact h.elim
  obtain ⟨rfl, ho, hk⟩ := h
  refine Does.same hs (run_bin (eqGuard_int ..) ?_) (.int (wf_bits' op _ _ _)) hk
  rcases ho with rfl | rfl | rfl | rfl <;> simp [binOp, Op.intBits, bits]

theorem d_shift (hs : Sim F σ w) (hx : VR F w (ev x) a) (hy : VR F w (ev y) b) (h : vop P (.shift op x y) ev σ K) :
    Does P F σ w (do pure (Next.value (← (do eqGuard op t ox oy a b; binOp op t a b : Sem Value)))) K := by
  simp only [vop] at h
  generalize ev x = u at *
  generalize ev y = v at *
  cases hx <;> try exact h.elim
  cases hy <;> try exact h.elim
  rename_i k n hn k' m hm
  obtain ⟨h0, hk⟩ := h
  have h0' : ¬ m < 0 := by omega
  cases op <;> try exact hk.elim
  · refine Does.same hs (run_bin (eqGuard_int ..) ?_) (.int (wf_wrap' _ _)) hk
    simp [binOp, Op.shift, h0']
  · refine Does.same hs (run_bin (z := .int k (n.fdiv (2 ^ (min m.toNat k.bits)))) (eqGuard_int ..) ?_) (.int ?_) hk
    · simp [binOp, Op.shift, h0']
    · generalize hp : (2 : Int) ^ (min m.toNat k.bits) = p
      have hp1 : 1 ≤ p := by rw [← hp]; have := Int.pow_pos (n := 2) (m := min m.toNat k.bits) (by decide); omega
      rw [Int.fdiv_eq_ediv_of_nonneg n (by omega)]
      refine wf_between hn (fun h => ⟨Int.ediv_nonneg h (by omega), Int.ediv_le_self p h⟩) (fun h => ⟨?_, ?_⟩)
      · rw [Int.le_ediv_iff_mul_le (by omega)]
        have : n * p ≤ n * 1 := Int.mul_le_mul_of_nonpos_left (by omega) hp1
        omega
      · have := Int.ediv_neg_of_neg_of_pos h (show 0 < p by omega)
        omega
end ints


theorem VR.pure {s : Sem Value} {v : V} {x : Value} (hs : Sim F σ w) (hr : s.run P w = .ok x w) (hv : VR F w v x) (hk : K v σ) : Does P F σ w (do pure (Next.value (← s))) K :=
  Does.same hs (run_v hr) hv hk

section others
variable (t : TypeId) (ox oy : Operand) {x y : Opd} {a b : Value}

theorem d_beq (ne : Bool) (hs : Sim F σ w) (ht : P.underlying t = some .bool) (hx : VR F w (ev x) a) (hy : VR F w (ev y) b) (h : vop P (.beq ne x y) ev σ K) :
    Does P F σ w (do pure (Next.value (← (do eqGuard (if ne = true then .neq else .eql) t ox oy a b; binOp (if ne = true then .neq else .eql) t a b : Sem Value)))) K := by
  simp only [vop] at h
  generalize ev x = u at *
  generalize ev y = v at *
  cases hx <;> try exact h.elim
  cases hy <;> try exact h.elim
  refine Does.same hs (run_bin (eqGuard_bool ..) ?_) (.bool _) h
  cases ne <;> simp [binOp, Op.equal, Op.maxDepth, run_equalIn_bool _ _ _ _ _ ht]

theorem run_ptr_nil (e : TypeId) (ht : P.underlying t = some (.pointer e)) (a : Option Addr) (d : Nat) : (Op.equalIn (d + 1) t (.pointer a) (.pointer none)).run P w = .ok a.isNone w := by
  cases a <;> simp [Op.equalIn, run_underlying ht]
theorem run_map_nil (k e : TypeId) (ht : P.underlying t = some (.map k e)) (a : Option Nat) (d : Nat) : (Op.equalIn (d + 1) t (.map a) (.map none)).run P w = .ok a.isNone w := by
  cases a <;> simp [Op.equalIn, run_underlying ht]

theorem d_pnil (mp ne : Bool) (hs : Sim F σ w) (ht : if mp = true then ∃ k e, P.underlying t = some (.map k e) ∧ b = .map none else ∃ e, P.underlying t = some (.pointer e) ∧ b = .pointer none) (hx : VR F w (ev x) a)
    (h : vop P (.pnil mp ne x) ev σ K) :
    Does P F σ w (do pure (Next.value (← (do eqGuard (if ne = true then .neq else .eql) t ox oy a b; binOp (if ne = true then .neq else .eql) t a b : Sem Value)))) K := by
  simp only [vop] at h
  generalize ev x = u at *
  cases mp with
  | false =>
    simp only [Bool.false_eq_true, if_false] at ht
    obtain ⟨e, ht, rfl⟩ := ht
    have hb : ∀ (p : Option Addr) (c : Bool), p.isNone = c → (binOp (if ne = true then BinOp.neq else BinOp.eql) t (.pointer p) (.pointer none)).run P w = .ok (.bool (if ne = true then !c else c)) w := fun p c hc => by
      cases ne <;> simp [binOp, Op.equal, Op.maxDepth, run_ptr_nil t e ht p, hc]
    cases hx <;> try exact h.elim
    · exact Does.same hs (run_bin (eqGuard_ptr ..) (hb none true rfl)) (by cases ne <;> exact .bool _) h
    · exact Does.same hs (run_bin (eqGuard_ptr ..) (hb (some _) false rfl)) (by cases ne <;> exact .bool _) h
    · exact Does.same hs (run_bin (eqGuard_ptr ..) (hb (some _) false rfl)) (by cases ne <;> exact .bool _) h
  | true =>
    simp only [if_true] at ht
    obtain ⟨k, e, ht, rfl⟩ := ht
    have hb : ∀ (p : Option Nat) (c : Bool), p.isNone = c → (binOp (if ne = true then BinOp.neq else BinOp.eql) t (.map p) (.map none)).run P w = .ok (.bool (if ne = true then !c else c)) w := fun p c hc => by
      cases ne <;> simp [binOp, Op.equal, Op.maxDepth, run_map_nil t k e ht p, hc]
    cases hx <;> try exact h.elim
    · exact Does.same hs (run_bin (eqGuard_map ..) (hb (some _) false rfl)) (by cases ne <;> exact .bool _) h
    · exact Does.same hs (run_bin (eqGuard_map ..) (hb none true rfl)) (by cases ne <;> exact .bool _) h

theorem d_not (hs : Sim F σ w) (hx : VR F w (ev x) a) (h : vop P (.not x) ev σ K) : Does P F σ w (do pure (Next.value (← Op.unary .not a))) K := by
  simp only [vop] at h
  generalize ev x = u at *
  cases hx <;> try exact h.elim
  exact Does.same hs (run_v (x := .bool _) (by simp [Op.unary])) (.bool _) h
theorem d_neg (hs : Sim F σ w) (hx : VR F w (ev x) a) (h : vop P (.neg x) ev σ K) : Does P F σ w (do pure (Next.value (← Op.unary .neg a))) K := by
  simp only [vop] at h
  generalize ev x = u at *
  cases hx <;> try exact h.elim
  rename_i k n hn
  exact Does.same hs (run_v (x := .int k (k.wrap (0 - n))) (by simp [Op.unary, Op.intArith])) (.int (wf_wrap' _ _)) h
theorem d_conv (src dst : TypeId) (k k0 : IntKind) (h0 : P.underlying src = some (.int k0)) (hd : P.underlying dst = some (.int k)) (hs : Sim F σ w) (hx : VR F w (ev x) a) (h : vop P (.conv k x) ev σ K) :
    Does P F σ w (do pure (Next.value (← convert src dst a))) K := by
  simp only [vop] at h
  generalize ev x = u at *
  cases hx <;> try exact h.elim
  exact Does.same hs (run_v (x := .int _ _) (by simp [convert, run_underlying h0, run_underlying hd, Conv.intToInt])) (.int (wf_wrap' _ _)) h
theorem d_ext (i : Nat) (hs : Sim F σ w) (hx : VR F w (ev x) a) (h : vop P (.ext i x) ev σ K) : Does P F σ w (do pure (Next.value (← Instr.extract a i))) K := by
  simp only [vop] at h
  generalize ev x = u at *
  cases hx <;> try exact h.elim
  rename_i vs xs hz hv
  obtain ⟨v, h1, h2⟩ := h
  have hi : i < xs.size := by rw [hz]; exact (List.getElem?_eq_some_iff.1 h1).1
  have hx : xs[i]? = some xs[i] := Array.getElem?_eq_getElem hi
  exact Does.same hs (run_v (x := xs[i]) (by simp [Instr.extract, hx])) (hv i v _ h1 hx) h2
theorem d_minm (mx : Bool) (hs : Sim F σ w) (hx : VR F w (ev x) a) (hy : VR F w (ev y) b) (ty : TypeId) (ats : Array TypeId) (h : vop P (.minm mx x y) ev σ K) :
    Does P F σ w (do pure (Next.value (← (if mx = true then Builtin.max_ ats ty #[a, b] else Builtin.min_ ats ty #[a, b])))) K := by
  simp only [vop] at h
  generalize ev x = u at *
  generalize ev y = v at *
  cases hx <;> try exact h.elim
  cases hy <;> try exact h.elim
  rename_i k n hn k' m hm
  obtain ⟨rfl, hk⟩ := h
  cases mx
  · exact Does.same hs (run_v (x := .int k _) (by simp [Builtin.min_, Builtin.min2]; rfl)) (.int (by split <;> assumption)) (by simpa using hk)
  · exact Does.same hs (run_v (x := .int k _) (by simp [Builtin.max_, Builtin.max2]; rfl)) (.int (by split <;> assumption)) (by simpa using hk)
end others

/-! ### Sizes and kinds of types -/
def szOk (P : Program) (t : TypeId) (n : Nat) : Bool := (P.info? t).map (·.size) == some n
def byOk (P : Program) (t : TypeId) (n : Nat) : Bool := (P.info? t).map (·.bytes) == some n
def agOf (P : Program) (t : TypeId) : Option Bool := (P.underlying t).map fun | .struct _ => true | .array _ _ => true | _ => false

theorem szOk_run {t : TypeId} {n : Nat} (h : szOk P t n = true) : (sizeOf t).run P w = .ok n w := by
  unfold szOk at h
  cases hi : P.info? t with
  | none => simp [hi] at h
  | some i => simp [hi] at h; simp [sizeOf, typeInfo, hi, h]
theorem agOf_run {t : TypeId} {ag : Bool} (h : agOf P t = some ag) : (isAgg t).run P w = .ok ag w := by
  unfold agOf at h
  cases hi : P.underlying t with
  | none => simp [hi] at h
  | some d => simp [hi] at h; subst h; cases d <;> simp [isAgg, run_underlying hi]

section more
variable (t : TypeId) {x y i : Opd} {a b : Value}

theorem d_nilc (hs : Sim F σ w) (hx : VR F w (ev x) a) (h : vop P (.nilc x) ev σ K) (o : Oper) (ρ : Operand → Value) (xo : Operand) (ho : o.op = .nilCheck xo) (hρ : ρ xo = a) : Does P F σ w (execOp ρ o) K := by
  simp only [vop] at h
  generalize ev x = u at *
  subst hρ
  simp only [execOp, ho]
  generalize ρ xo = a at *
  cases hx <;> try exact h.elim
  · exact Does.same hs rfl (.ptr _ _) h
  · rename_i cs bb off f h1 hF hv
    exact Does.same hs rfl (.fp cs bb off f h1 hF hv) h

theorem VR.fp_drop {cs : List V} {bb off : Nat} {f : Nat → Value} (h1 : ∀ v ∈ cs, v.one = true) (hF : ∀ j, j < cs.length → F bb (off + j) ∧ w.cell? ⟨bb, off + j, none⟩ = some (f j))
    (hv : ∀ (j : Nat) v, cs[j]? = some v → VR F w v (f j)) (k : Nat) : VR F w (.fp (cs.drop k)) (.pointer (some ⟨bb, off + k, none⟩)) :=
  .fp _ bb (off + k) (fun j => f (k + j)) (fun v hv => h1 v (List.mem_of_mem_drop hv))
    (fun j hj => by
      have hj' : k + j < cs.length := by rw [List.length_drop] at hj; omega
      have := hF (k + j) hj'
      rwa [show off + (k + j) = off + k + j by omega] at this)
    (fun j v hj => hv _ _ (by rw [List.getElem?_drop] at hj; exact hj))

theorem add_none (bb off k : Nat) : (Addr.add ⟨bb, off, none⟩ k) = ⟨bb, off + k, none⟩ := by
  unfold Addr.add; split
  · subst_vars; rfl
  · rfl

theorem d_fld (s : TypeId) (fs : Array Field) (fi off n : Nat) (fd : Field) (hu : P.underlying s = some (.struct fs)) (hf : fs[fi]? = some fd) (ho : fd.offset = off) (hz : szOk P fd.type n = true) (hn : n ≠ 0)
    (hs : Sim F σ w) (hx : VR F w (ev x) a) (h : vop P (.fld off x) ev σ K) : Does P F σ w (do pure (Next.value (← Instr.fieldAt s a fi))) K := by
  simp only [vop] at h
  generalize ev x = u at *
  have hr : ∀ ad : Addr, ad.spot = none → (Instr.fieldAt s (.pointer (some ad)) fi).run P w = .ok (.pointer (some ⟨ad.block, ad.off + off, none⟩)) w := fun ad hsp => by
    obtain ⟨bb, oo, sp⟩ := ad
    simp at hsp; subst hsp
    simp [Instr.fieldAt, run_underlying hu, hf, Instr.sureAddr, fieldPlace, szOk_run hz, hn, ho, add_none]
  cases hx <;> try exact h.elim
  · exact VR.pure hs (hr _ rfl) (.ptr _ _) h
  · rename_i cs bb o f h1 hF hv
    exact VR.pure hs (hr _ rfl) (VR.fp_drop h1 hF hv off) h

/-- An element of a slice that is read. -/
theorem VR.elem {e : Nat} {xs : List (List V)} {el : List V} {bb off : Nat} {f : Nat → Value} (he : ∀ x ∈ xs, x.length = e) (h1 : ∀ x ∈ xs, ∀ v ∈ x, v.one = true)
    (hF : ∀ j, j < xs.length * e → F bb (off + j) ∧ w.cell? ⟨bb, off + j, none⟩ = some (f j)) (hv : ∀ (i j : Nat) x v, xs[i]? = some x → x[j]? = some v → VR F w v (f (i * e + j)))
    {k : Nat} (hk : xs[k]? = some el) : VR F w (.fp el) (.pointer (some ⟨bb, off + k * e, none⟩)) := by
  have hm : el ∈ xs := List.mem_of_getElem? hk
  have hl := he el hm
  have hk' : k < xs.length := (List.getElem?_eq_some_iff.1 hk).1
  refine .fp el bb (off + k * e) (fun j => f (k * e + j)) (h1 el hm) (fun j hj => ?_) (fun j v hj => hv k j el v hk hj)
  have h3 : k * e + j < xs.length * e := by
    have : (k + 1) * e ≤ xs.length * e := Nat.mul_le_mul_right e hk'
    rw [Nat.add_mul] at this
    omega
  have := hF (k * e + j) h3
  rwa [← Nat.add_assoc] at this

theorem d_idx (el : TypeId) (e : Nat) (ht : P.underlying t = some (.slice el)) (hz : szOk P el e = true) (hs : Sim F σ w) (hx : VR F w (ev x) a) (hi : VR F w (ev i) b) (h : vop P (.idx e x i) ev σ K) :
    Does P F σ w (do pure (Next.value (← Instr.indexAt t a b))) K := by
  simp only [vop] at h
  generalize ev x = u at *
  generalize ev i = v at *
  cases hx <;> cases hi <;> try exact h.elim
  · rename_i e' xs n c own A bb off f hl hc hn he h1 hA ho hz' hF hv k m hm
    obtain ⟨rfl, elv, h0, hel, hk⟩ := h
    have hlt : m.toNat < xs.length := (List.getElem?_eq_some_iff.1 hel).1
    have hne : xs ≠ [] := fun h => by subst h; simp at hlt
    have hAe := hA (.inl hne)
    subst hAe; subst hl
    refine VR.pure hs (x := .pointer (some ⟨bb, off + m.toNat * e', none⟩)) ?_ (VR.elem he h1 hF hv hel) hk
    have hb : 0 ≤ m ∧ m < (xs.length : Int) := ⟨h0, by omega⟩
    simp [Instr.indexAt, asIntOf, run_underlying ht, hb, szOk_run hz, add_none]
  · rename_i bb off len c hc hn k m hm
    obtain ⟨h0, h1, hk⟩ := h
    refine VR.pure hs (x := .pointer (some ⟨bb, off + m.toNat * e, none⟩)) ?_ (.ptr _ _) hk
    simp [Instr.indexAt, asIntOf, run_underlying ht, h0, h1, szOk_run hz, add_none]

theorem d_aidx (el : TypeId) (len e : Nat) (ht : P.underlying t = some (.array len el)) (hz : szOk P el e = true) (hs : Sim F σ w) (hx : VR F w (ev x) a) (hi : VR F w (ev i) b) (h : vop P (.aidx len e x i) ev σ K) :
    Does P F σ w (do pure (Next.value (← Instr.indexAt t a b))) K := by
  simp only [vop] at h
  generalize ev x = u at *
  generalize ev i = v at *
  have hr : ∀ (bb off : Nat) (k : IntKind) (m : Int), 0 ≤ m → m < (len : Int) → (Instr.indexAt t (.pointer (some ⟨bb, off, none⟩)) (.int k m)).run P w = .ok (.pointer (some ⟨bb, off + m.toNat * e, none⟩)) w := fun bb off k m h0 h1 => by
    simp [Instr.indexAt, asIntOf, run_underlying ht, Instr.sureAddr, h0, h1, szOk_run hz, add_none]
  cases hx <;> cases hi <;> try exact h.elim
  · obtain ⟨h0, h1, hk⟩ := h
    exact VR.pure hs (hr _ _ _ _ h0 h1) (.ptr _ _) hk
  · rename_i cs bb off f h1 hF hv k m hm
    obtain ⟨h0, h2, hk⟩ := h
    exact VR.pure hs (hr _ _ _ _ h0 h2) (VR.fp_drop h1 hF hv _) hk

theorem VR.agg_sub {vs : List V} {xs : Array Value} (hz : xs.size = vs.length) (h1 : ∀ v ∈ vs, v.one = true) (h : ∀ (j : Nat) v (x : Value), vs[j]? = some v → xs[j]? = some x → VR F w v x) (off n : Nat) (hl : off + n ≤ vs.length) :
    VR F w (.agg ((vs.drop off).take n)) (.agg (xs.extract off (off + n))) := by
  refine .agg _ _ (by simp; omega) (fun v hv => h1 v (List.mem_of_mem_drop (List.mem_of_mem_take hv))) (fun j v x hj hx => ?_)
  rw [List.getElem?_take] at hj
  split at hj
  · rw [List.getElem?_drop] at hj
    rw [Array.getElem?_extract] at hx
    split at hx
    · exact h _ _ _ hj hx
    · cases hx
  · cases hj

theorem run_part {pt : TypeId} {ag : Bool} (hag : agOf P pt = some ag) {n : Nat} (hz : szOk P pt n = true) {vs : List V} {xs : Array Value} (hsz : xs.size = vs.length) (h1 : ∀ v ∈ vs, v.one = true)
    (h : ∀ (j : Nat) v (x : Value), vs[j]? = some v → xs[j]? = some x → VR F w v x) {off : Nat} {Q : V → Prop}
    (hk : if ag = true then off + n ≤ vs.length ∧ Q (.agg ((vs.drop off).take n)) else ∃ v, vs[off]? = some v ∧ Q v) : ∃ v x, (part pt xs off).run P w = .ok x w ∧ VR F w v x ∧ Q v := by
  cases ag
  · simp only [Bool.false_eq_true, if_false] at hk
    obtain ⟨v, hv, hq⟩ := hk
    have hi : off < xs.size := by rw [hsz]; exact (List.getElem?_eq_some_iff.1 hv).1
    have hx : xs[off]? = some xs[off] := Array.getElem?_eq_getElem hi
    exact ⟨v, xs[off], by simp [part, agOf_run hag, hx], h _ _ _ hv hx, hq⟩
  · simp only [if_true] at hk
    exact ⟨_, _, by simp [part, agOf_run hag, szOk_run hz], VR.agg_sub hsz h1 h off n hk.1, hk.2⟩

theorem d_getf (fs : Array Field) (fi off n : Nat) (ag : Bool) (fd : Field) (hu : P.underlying t = some (.struct fs)) (hf : fs[fi]? = some fd) (ho : fd.offset = off) (hz : szOk P fd.type n = true) (hag : agOf P fd.type = some ag)
    (hs : Sim F σ w) (hx : VR F w (ev x) a) (h : vop P (.getf off n ag x) ev σ K) : Does P F σ w (do pure (Next.value (← Instr.field t a fi))) K := by
  simp only [vop] at h
  generalize ev x = u at *
  cases hx <;> try exact h.elim
  rename_i vs xs hsz h1 hv
  obtain ⟨v, z, hr, hvr, hk⟩ := run_part (w := w) hag hz hsz h1 hv (Q := fun v => K v σ) h
  exact VR.pure hs (by simp [Instr.field, run_underlying hu, hf, asAgg, ho, hr]) hvr hk

theorem d_geti (el : TypeId) (len e : Nat) (ag : Bool) (hu : P.underlying t = some (.array len el)) (hz : szOk P el e = true) (hag : agOf P el = some ag)
    (hs : Sim F σ w) (hx : VR F w (ev x) a) (hi : VR F w (ev i) b) (h : vop P (.geti len e ag x i) ev σ K) : Does P F σ w (do pure (Next.value (← Instr.index t a b))) K := by
  simp only [vop] at h
  generalize ev x = u at *
  generalize ev i = v at *
  cases hx <;> cases hi <;> try exact h.elim
  rename_i vs xs hsz h1 hv k m hm
  obtain ⟨h0, h2, h3⟩ := h
  obtain ⟨v, z, hr, hvr, hk⟩ := run_part (w := w) hag hz hsz h1 hv (off := m.toNat * e) (Q := fun v => K v σ) h3
  exact VR.pure hs (by simp [Instr.index, asIntOf, run_underlying hu, h0, h2, szOk_run hz, hr]) hvr hk

theorem d_sidx (hu : P.underlying t = some .string) (hs : Sim F σ w) (hx : VR F w (ev x) a) (hi : VR F w (ev i) b) (h : vop P (.sidx x i) ev σ K) : Does P F σ w (do pure (Next.value (← Instr.index t a b))) K := by
  simp only [vop] at h
  generalize ev x = u at *
  generalize ev i = v at *
  cases hx <;> cases hi <;> try exact h.elim
  rename_i s k m hm
  obtain ⟨h0, c, h2, h3⟩ := h
  have hc : c.toNat < 256 := c.toNat_lt
  exact VR.pure hs (x := .int .u8 (c.toNat : Int)) (by simp [Instr.index, asIntOf, run_underlying hu, h0, h2]) (.int (by simp [Lit.wf, IntKind.min, IntKind.max, IntKind.signed, IntKind.bits]; omega)) h3

theorem d_len_slice (el : TypeId) (ht : P.underlying t = some (.slice el)) (ty : TypeId) (ats : Array TypeId) (hat : ats[0]? = some t) (hs : Sim F σ w) (hx : VR F w (ev x) a) (h : vop P (.len x) ev σ K) :
    Does P F σ w (do pure (Next.value (← Builtin.len_ ats ty #[a]))) K := by
  simp only [vop] at h
  generalize ev x = u at *
  cases hx <;> try exact h.elim
  · rename_i e xs n c own A bb off f hl hc hn he h1 hA ho hz' hF hv
    subst hl
    exact VR.pure hs (x := .int .i64 (xs.length : Int)) (by simp [Builtin.len_, hat, run_underlying ht, goInt]) (.int (by simp [Lit.wf, IntKind.min, IntKind.max, IntKind.signed, IntKind.bits]; omega)) h
  · rename_i bb off len c hc hn
    exact VR.pure hs (x := .int .i64 (len : Int)) (by simp [Builtin.len_, hat, run_underlying ht, goInt]) (.int (by simp [Lit.wf, IntKind.min, IntKind.max, IntKind.signed, IntKind.bits]; omega)) h

def OVR (F : Nat → Nat → Prop) (w : World) : Option V → Option Value → Prop
  | none, none => True
  | some v, some x => VR F w v x
  | _, _ => False

theorem run_sliceBound {v : Value} {k : IntKind} {m y : Nat} (hv : v = .int k (m : Int)) (hm : m ≤ y) (c : BoundsCode) : (Instr.sliceBound v y c).run P w = .ok m w := by
  subst hv
  have h1 : (0 : Int) ≤ (m : Int) ∧ (m : Int) ≤ (y : Int) := ⟨by omega, by omega⟩
  simp [Instr.sliceBound, asIntOf, h1]

theorem run_bounds {len cap : Nat} {lo hi mx : Option V} {lo' hi' mx' : Option Value} (h1 : OVR F w lo lo') (h2 : OVR F w hi hi') (h3 : OVR F w mx mx') {Q : Nat → Nat → Nat → Prop}
    (h : bounds len cap lo hi mx Q) : ∃ l hh m, (Instr.sliceBounds true len cap lo' hi' mx').run P w = .ok (l, hh, m) w ∧ l ≤ hh ∧ hh ≤ len ∧ hh ≤ m ∧ m ≤ cap ∧ Q l hh m := by
  obtain ⟨l, hh, m, e1, e2, e3, q1, q2, q3, q4, q5, hq⟩ := h
  refine ⟨l, hh, m, ?_, q1, q2, q3, q4, hq⟩
  cases mx with
  | none =>
    cases mx' with
    | some _ => exact h3.elim
    | none =>
      simp only at e1; subst e1
      cases hi with
      | none =>
        cases hi' with
        | some _ => exact h2.elim
        | none =>
          simp only at e2; subst e2
          cases lo with
          | none =>
            cases lo' with
            | some _ => exact h1.elim
            | none => simp only at e3; subst e3; simp [Instr.sliceBounds]
          | some v =>
            cases lo' with
            | none => exact h1.elim
            | some x =>
              obtain ⟨k, rfl⟩ := e3
              cases h1
              simp [Instr.sliceBounds, run_sliceBound rfl q1]
      | some v =>
        cases hi' with
        | none => exact h2.elim
        | some x =>
          obtain ⟨k, rfl⟩ := e2
          cases h2
          cases lo with
          | none =>
            cases lo' with
            | some _ => exact h1.elim
            | none => simp only at e3; subst e3; simp [Instr.sliceBounds, run_sliceBound rfl q3]
          | some v =>
            cases lo' with
            | none => exact h1.elim
            | some x =>
              obtain ⟨k, rfl⟩ := e3
              cases h1
              simp [Instr.sliceBounds, run_sliceBound rfl q3, run_sliceBound rfl q1]
  | some v =>
    cases mx' with
    | none => exact h3.elim
    | some x =>
      obtain ⟨k, rfl⟩ := e1
      cases h3
      cases hi with
      | none => simp at q5
      | some v =>
        cases hi' with
        | none => exact h2.elim
        | some x =>
          obtain ⟨k, rfl⟩ := e2
          cases h2
          cases lo with
          | none =>
            cases lo' with
            | some _ => exact h1.elim
            | none => simp only at e3; subst e3; simp [Instr.sliceBounds, run_sliceBound rfl q4, run_sliceBound rfl q3]
          | some v =>
            cases lo' with
            | none => exact h1.elim
            | some x =>
              obtain ⟨k, rfl⟩ := e3
              cases h1
              simp [Instr.sliceBounds, run_sliceBound rfl q4, run_sliceBound rfl q3, run_sliceBound rfl q1]

theorem d_slc (el : TypeId) (e : Nat) (ht : P.underlying t = some (.slice el)) (hz : szOk P el e = true) {lo hi mx : Option Opd} {lo' hi' mx' : Option Value}
    (h1 : OVR F w (lo.map ev) lo') (h2 : OVR F w (hi.map ev) hi') (h3 : OVR F w (mx.map ev) mx')
    (hs : Sim F σ w) (hx : VR F w (ev x) a) (h : vop P (.slc e x lo hi mx) ev σ K) : Does P F σ w (do pure (Next.value (← Instr.sliceAt t a lo' hi' mx'))) K := by
  simp only [vop] at h
  generalize ev x = u at *
  cases hx <;> try exact h.elim
  · rename_i e' xs n c own A bb off f hl hc hn he h1' hA ho hz' hF hv
    obtain ⟨rfl, h⟩ := h
    subst hl
    obtain ⟨l, hh, m, hr, q1, q2, q3, q4, hk⟩ := run_bounds (P := P) h1 h2 h3 h
    refine VR.pure hs (x := .slice (if m = l then A else A.map (·.add (l * e'))) (hh - l) (m - l)) (by simp [Instr.sliceAt, Instr.slice, run_underlying ht, hr, szOk_run hz]) ?_ hk
    have hlen : ((xs.take hh).drop l).length = hh - l := by rw [List.length_drop, List.length_take]; omega
    have hne : (xs.take hh).drop l ≠ [] → A = some ⟨bb, off, none⟩ ∧ l < m := fun hne => by
      have : 0 < ((xs.take hh).drop l).length := List.length_pos_iff.2 hne
      rw [hlen] at this
      exact ⟨hA (.inl (fun h0 => by subst h0; simp at q2; omega)), by omega⟩
    have get : ∀ i x, ((xs.take hh).drop l)[i]? = some x → xs[l + i]? = some x := fun i x hi => by
      rw [List.getElem?_drop, List.getElem?_take] at hi
      split at hi
      · exact hi
      · cases hi
    refine .fz e' _ _ _ none _ bb (off + l * e') (fun j => f (l * e' + j)) hlen.symm (by rw [hlen]; omega) (by rw [hlen]; omega)
      (fun y hy => he y (List.mem_of_mem_take (List.mem_of_mem_drop hy))) (fun y hy => h1' y (List.mem_of_mem_take (List.mem_of_mem_drop hy))) (fun h0 => ?_) (fun _ h0 => by cases h0) (fun h0 => ?_) (fun j hj => ?_) (fun i j y v hi hj => ?_)
    · obtain ⟨hAe, hlm⟩ := hne (h0.resolve_right (by simp))
      rw [hAe, if_neg (by omega)]
      simp [add_none]
    · split at h0
      · have := (hz' h0).1; have := (hz' h0).2; omega
      · cases hA' : A with
        | none => have := (hz' hA').1; have := (hz' hA').2; omega
        | some ad => rw [hA'] at h0; simp at h0
    · rw [hlen] at hj
      have h5 : l * e' + j < xs.length * e' := by
        have h6 : (hh - l + l) * e' ≤ xs.length * e' := Nat.mul_le_mul_right e' (by omega)
        rw [Nat.add_mul] at h6
        omega
      have := hF (l * e' + j) h5
      rwa [← Nat.add_assoc] at this
    · have := hv (l + i) j y v (get i y hi) hj
      rwa [Nat.add_mul, Nat.add_assoc] at this
  · rename_i bb off len c hc hn
    obtain ⟨l, hh, m, hr, q1, q2, q3, q4, hlm, hk⟩ := run_bounds (P := P) h1 h2 h3 h
    refine VR.pure hs (x := .slice (some ⟨bb, off + l * e, none⟩) (hh - l) (m - l)) ?_ (.sl _ _ _ _ (by omega) (by omega)) hk
    have : ¬ m = l := by omega
    simp [Instr.sliceAt, Instr.slice, run_underlying ht, hr, szOk_run hz, this, add_none]

theorem d_mkf (fid : FuncId) {first cap : List Opd} {fs cs : Array Value} (hf1 : fs.size = first.length) (hc1 : cs.size = cap.length)
    (hf : ∀ (j : Nat) y (z : Value), first[j]? = some y → fs[j]? = some z → VR F w (ev y) z) (hc : ∀ (j : Nat) y (z : Value), cap[j]? = some y → cs[j]? = some z → VR F w (ev y) z)
    (hs : Sim F σ w) (h : vop P (.mkf fid first cap) ev σ K) : Does P F σ w (do pure (Next.value (← Instr.makeFunc (.func fid) fs cs))) K := by
  simp only [vop] at h
  refine VR.pure hs (x := .func (.func fid) fs cs) rfl (.fn fid _ _ fs cs (by simpa using hf1) (by simpa using hc1) (fun j v z hj hz => ?_) (fun j v z hj hz => ?_)) h
  · rw [List.getElem?_map] at hj
    cases hy : first[j]? with
    | none => simp [hy] at hj
    | some y => simp [hy] at hj; subst hj; exact hf j y z hy hz
  · rw [List.getElem?_map] at hj
    cases hy : cap[j]? with
    | none => simp [hy] at hj
    | some y => simp [hy] at hj; subst hj; exact hc j y z hy hz

theorem row_cell {bb off : Nat} {cs : List V} {sl : Nat} (h : RowAt F w bb cs sl) {v : V} (hv : cs[off]? = some v) : ∃ x, w.cell? ⟨bb, off, none⟩ = some x ∧ VR F w v x ∧ w.frozen? ⟨bb, off, none⟩ = false := by
  obtain ⟨⟨arr, ty, h1, h2, h3, h4, h5⟩, _⟩ := h
  have ho : off < cs.length := (List.getElem?_eq_some_iff.1 hv).1
  have ho' : off < arr.size := by omega
  have hx : (arr.extract 0 cs.length)[off]? = some arr[off] := by
    rw [Array.getElem?_extract, if_pos (by omega), Nat.zero_add]; exact Array.getElem?_eq_getElem ho'
  refine ⟨_, ?_, h5 off v _ hv hx, ?_⟩
  · simp [World.cell?, h1, ho']
  · simp [World.frozen?, h1]

theorem load_cells {bb off : Nat} {vs : List V} (hv : ∀ (j : Nat) v, vs[j]? = some v → ∃ x, w.cell? ⟨bb, off + j, none⟩ = some x ∧ VR F w v x) (h1 : ∀ v ∈ vs, v.one = true) :
    ∃ xs, (loadCells ⟨bb, off, none⟩ vs.length).run P w = .ok xs w ∧ VR F w (.agg vs) (.agg xs) := by
  have hf : ∀ j, j < vs.length → w.cell? (Addr.add ⟨bb, off, none⟩ j) = some ((w.cell? ⟨bb, off + j, none⟩).getD undef) := fun j hj => by
    obtain ⟨x, hx, _⟩ := hv j _ (List.getElem?_eq_getElem hj)
    rw [add_none, hx]; rfl
  refine ⟨_, run_loadCells _ _ _ _ hf, .agg _ _ (by simp) h1 (fun j v x hj hx => ?_)⟩
  obtain ⟨y, hy, hvr⟩ := hv j v hj
  have hlt : j < vs.length := (List.getElem?_eq_some_iff.1 hj).1
  simp [hlt, hy] at hx
  subst hx; exact hvr

theorem d_load (n : Option Nat) (tn : Nat) (hz : szOk P t tn = true) (hag : agOf P t = some n.isSome) (hn : ∀ m, n = some m → m = tn)
    (hs : Sim F σ w) (hx : VR F w (ev x) a) (h : vop P (.load n x) ev σ K) : Does P F σ w (do pure (Next.value (← Instr.loadAt t a))) K := by
  simp only [vop] at h
  generalize ev x = u at *
  have fin : ∀ (bb off : Nat) (cs : List V), (∀ v ∈ cs, v.one = true) → (∀ (j : Nat) v, cs[j]? = some v → ∃ x, w.cell? ⟨bb, off + j, none⟩ = some x ∧ VR F w v x) →
      ldK n cs (fun v => K v σ) → Does P F σ w (do pure (Next.value (← Instr.loadAt t (.pointer (some ⟨bb, off, none⟩))))) K := by
    intro bb off cs h1 hc hk
    cases n with
    | none =>
      obtain ⟨v, hv, hk⟩ := hk
      obtain ⟨x, hx, hvr⟩ := hc 0 v hv
      exact VR.pure hs (x := x) (by simp at hx; simp [Instr.loadAt, Instr.sureAddr, loadVar, agOf_run hag, hx]) hvr hk
    | some m =>
      obtain ⟨hl, hk⟩ := hk
      obtain rfl := hn m rfl
      obtain ⟨xs, hr, hvr⟩ := load_cells (P := P) (F := F) (w := w) (bb := bb) (off := off) (vs := cs.take m) (fun j v hj => hc j v (by
        rw [List.getElem?_take] at hj; split at hj; exact hj; cases hj)) (fun v hv => h1 v (List.mem_of_mem_take hv))
      rw [List.length_take, Nat.min_eq_left hl] at hr
      exact VR.pure hs (x := .agg xs) (by simp [Instr.loadAt, Instr.sureAddr, loadVar, agOf_run hag, szOk_run hz, hr]) hvr hk
  cases hx <;> try exact h.elim
  · rename_i bb off
    obtain ⟨cs, sl, hb, h⟩ := h
    have hrow := hs.row bb cs sl hb
    have hone := hrow.1
    obtain ⟨arr, ty, _, _, _, hone, _⟩ := hone
    refine fin bb off (cs.drop off) (fun v hv => hone v (List.mem_of_mem_drop hv)) (fun j v hj => ?_) h
    rw [List.getElem?_drop] at hj
    obtain ⟨x, hx, hvr, _⟩ := row_cell hrow hj
    exact ⟨x, hx, hvr⟩
  · rename_i cs bb off f h1 hF hv
    exact fin bb off cs h1 (fun j v hj => ⟨f j, (hF j (List.getElem?_eq_some_iff.1 hj).1).2, hv j v hj⟩) h
theorem d_fload (n : Option Nat) (tn : Nat) (hz : szOk P t tn = true) (hag : agOf P t = some n.isSome) (hn : ∀ m, n = some m → m = tn)
    (hs : Sim F σ w) (hx : VR F w (ev x) a) (h : vop P (.fload n x) ev σ K) : Does P F σ w (do pure (Next.value (← Instr.loadAt t a))) K :=
  d_load t (x := x) (ev := ev) n tn hz hag hn hs hx (by
    simp only [vop] at h ⊢
    split at h
    · rename_i hv; rw [hv]; exact h
    · exact h.elim)
end more

end Go.Vm
