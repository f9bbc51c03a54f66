/-
  VM 11: an operation that passes the check does what the logic says.
-/
import Derived.Test.YtbbkgjkknjpmcaaVm10
set_option linter.unusedSimpArgs false
set_option linter.unusedVariables false
set_option linter.unusedSectionVars false
namespace Go.Vm
open Go

variable {P : Program} {n : Nat} {F : Nat → Nat → Prop} {env : Env} {σ : Store} {a : Act} {w : World} {K : V → Store → Prop}

theorem exec_builtin (b : Builtin) (args : Array Operand) (ats : Array TypeId) (ty : TypeId) (dst : Option Tmp) (pos : String) (after : Array Edge) (guard : Option (Nat × Bool)) :
    ∃ cs, execOp a.eval { dst, op := .call { callee := .builtin b, args, argTypes := ats }, type := ty, pos, after, guard } = builtin b ats ty cs (args.map a.eval) :=
  ⟨args.map fun | .const _ => true | _ => false, by simp only [execOp, resolve, invoke]; rfl⟩

theorem bin_does (hst : St n F env σ a w) (op : BinOp) (t yt : TypeId) (x y : Operand) (vo : VOp) (hc : chkOp P n (.binOp op t x y yt) vo = true) (h : vop P vo (Opd.ev env) σ K) :
    Does P F σ w (do pure (Next.value (← (do eqGuard op t x y (a.eval x) (a.eval y); binOp op t (a.eval x) (a.eval y) : Sem Value)))) K := by
  simp only [chkOp] at hc
  split at hc
  · simp at hc; obtain ⟨⟨rfl, h1⟩, h2⟩ := hc; exact d_arith _ t x y hst.sim (opd_VR hst h1) (opd_VR hst h2) h
  · simp at hc; obtain ⟨⟨rfl, h1⟩, h2⟩ := hc; exact d_cmp _ t x y hst.sim (opd_VR hst h1) (opd_VR hst h2) h
  · simp at hc; obtain ⟨⟨rfl, h1⟩, h2⟩ := hc; exact d_divm _ t x y hst.sim (opd_VR hst h1) (opd_VR hst h2) h
  · simp at hc; obtain ⟨⟨rfl, h1⟩, h2⟩ := hc; exact d_bits _ t x y hst.sim (opd_VR hst h1) (opd_VR hst h2) h
  · simp at hc; obtain ⟨⟨rfl, h1⟩, h2⟩ := hc; exact d_shift _ t x y hst.sim (opd_VR hst h1) (opd_VR hst h2) h
  · rename_i ne x' y'
    simp only [Bool.and_eq_true, beq_iff_eq] at hc
    obtain ⟨⟨⟨rfl, h0⟩, h1⟩, h2⟩ := hc
    split at h0
    · rename_i hu; exact d_beq t x y ne hst.sim hu (opd_VR hst h1) (opd_VR hst h2) h
    · cases h0
  · rename_i mp ne x'
    simp only [Bool.and_eq_true, beq_iff_eq] at hc
    obtain ⟨⟨rfl, h1⟩, h2⟩ := hc
    refine d_pnil t x y mp ne hst.sim ?_ (opd_VR hst h1) h
    split at h2
    · rename_i hu; exact ⟨_, _, hu, rfl⟩
    · rename_i hu; exact ⟨_, hu, rfl⟩
    · cases h2
  · rename_i ne sh x' y'
    simp only [Bool.and_eq_true, beq_iff_eq, Bool.not_eq_true'] at hc
    obtain ⟨⟨⟨⟨⟨rfl, h1⟩, h2⟩, h3⟩, h4⟩, h5⟩ := hc
    exact d_aeq t ne sh x y 40 (by decide) h3 h4 h5 hst.sim (opd_VR hst h1) (opd_VR hst h2) h
  · cases hc

theorem list1 {α : Type} {xs : Array α} {x : α} (h : xs.toList = [x]) : xs = #[x] := by cases xs; simp at h; simp [h]
theorem list2 {α : Type} {xs : Array α} {x y : α} (h : xs.toList = [x, y]) : xs = #[x, y] := by cases xs; simp at h; simp [h]

theorem map1 (f : Operand → Value) (x : Operand) : (#[x] : Array Operand).map f = #[f x] := by simp
theorem map2 (f : Operand → Value) (x y : Operand) : (#[x, y] : Array Operand).map f = #[f x, f y] := by simp

theorem op_does (hst : St n F env σ a w) (o : Op) (ty : TypeId) (dst : Option Tmp) (pos : String) (after : Array Edge) (guard : Option (Nat × Bool)) (vo : VOp) (hc : chkOp P n o vo = true) (h : vop P vo (Opd.ev env) σ K) :
    Does P F σ w (execOp a.eval { dst, op := o, type := ty, pos, after, guard }) K := by
  unfold chkOp at hc
  split at hc
  · -- move
    simp only [vop] at h
    exact Does.same hst.sim (by simp [execOp]) (opd_VR hst hc) h
  · simp only [vop] at h
    exact Does.same hst.sim (by simp [execOp]) (opd_VR hst hc) h
  · -- pick
    simp only [Bool.and_eq_true] at hc
    rename_i c x y c' x' y'
    have hcv := opd_VR hst hc.1.1
    simp only [vop] at h
    cases hv : Opd.ev env c' <;> rw [hv] at h hcv <;> try exact h.elim
    rename_i t
    generalize hcc : a.eval c = cv at hcv
    cases hcv
    refine Does.same hst.sim (x := if t = true then a.eval x else a.eval y) (by simp [execOp, hcc, asBool]) ?_ h
    cases t
    · exact opd_VR hst hc.2
    · exact opd_VR hst hc.1.2
  · -- binOp
    rename_i vo0 op t x y yt
    exact bin_does hst op t yt x y vo (by simpa only [chkOp] using hc) h
  · exact d_not hst.sim (opd_VR hst hc) h
  · exact d_neg hst.sim (opd_VR hst hc) h
  · -- convert
    simp only [Bool.and_eq_true] at hc
    obtain ⟨h1, h2⟩ := hc
    split at h2
    · rename_i k0 k1 hu1 hu2
      simp at h2; subst h2
      exact d_conv _ _ _ k0 hu1 hu2 hst.sim (opd_VR hst h1) h
    · cases h2
  · exact d_nilc hst.sim (opd_VR hst hc) h _ a.eval _ rfl rfl
  · -- fieldAddr
    simp only [Bool.and_eq_true] at hc
    obtain ⟨h1, h2⟩ := hc
    split at h2
    · rename_i fs hu
      split at h2
      · rename_i fd hf
        simp only [Bool.and_eq_true, beq_iff_eq, bne_iff_ne, ne_eq] at h2
        exact d_fld _ fs _ _ _ fd hu hf h2.1.1 h2.1.2 h2.2 hst.sim (opd_VR hst h1) h
      · cases h2
    · cases h2
  · -- indexAddr, slice
    simp only [Bool.and_eq_true] at hc
    obtain ⟨el, hu, hz⟩ := sliceE_spec hc.2
    exact d_idx _ el _ hu hz hst.sim (opd_VR hst hc.1.1) (opd_VR hst hc.1.2) h
  · simp only [Bool.and_eq_true] at hc
    obtain ⟨⟨h1, h2⟩, h3⟩ := hc
    split at h3
    · rename_i len' el hu
      simp only [Bool.and_eq_true, beq_iff_eq] at h3
      obtain ⟨rfl, hz⟩ := h3
      exact d_aidx _ el _ _ hu hz hst.sim (opd_VR hst h1) (opd_VR hst h2) h
    · cases h3
  · -- field
    simp only [Bool.and_eq_true] at hc
    obtain ⟨h1, h2⟩ := hc
    split at h2
    · rename_i fs hu
      split at h2
      · rename_i fd hf
        simp only [Bool.and_eq_true, beq_iff_eq] at h2
        exact d_getf _ fs _ _ _ _ fd hu hf h2.1.1 h2.1.2 h2.2 hst.sim (opd_VR hst h1) h
      · cases h2
    · cases h2
  · -- index
    simp only [Bool.and_eq_true] at hc
    obtain ⟨⟨h1, h2⟩, h3⟩ := hc
    split at h3
    · rename_i len' el hu
      simp only [Bool.and_eq_true, beq_iff_eq] at h3
      obtain ⟨⟨rfl, hz⟩, hag⟩ := h3
      exact d_geti _ el _ _ _ hu hz hag hst.sim (opd_VR hst h1) (opd_VR hst h2) h
    · cases h3
  · -- index of a string
    simp only [Bool.and_eq_true] at hc
    obtain ⟨⟨h1, h2⟩, h3⟩ := hc
    split at h3
    · rename_i hu
      exact d_sidx _ hu hst.sim (opd_VR hst h1) (opd_VR hst h2) h
    · cases h3
  · -- extract
    simp only [Bool.and_eq_true, beq_iff_eq] at hc
    obtain ⟨h1, rfl⟩ := hc
    exact d_ext _ hst.sim (opd_VR hst h1) h
  · -- slice
    simp only [Bool.and_eq_true] at hc
    obtain ⟨⟨⟨⟨h1, h2⟩, h3⟩, h4⟩, h5⟩ := hc
    obtain ⟨el, hu, hz⟩ := sliceE_spec h5
    exact d_slc _ el _ hu hz (oopd_VR hst h2) (oopd_VR hst h3) (oopd_VR hst h4) hst.sim (opd_VR hst h1) h
  · -- build
    simp only [Bool.and_eq_true] at hc
    obtain ⟨h1, h2⟩ := hc
    obtain ⟨z, hz, hck⟩ := zeroOk_spec h1
    split at h2
    · rename_i parts _ _ fs hu
      simp only [Bool.and_eq_true] at h2
      obtain ⟨q1, q2⟩ := placesOk_spec h2.1
      refine d_bld_struct _ fs (fs.toList.map fun f => (f.offset, P.cellsOf f.type)).toArray z _ _ _ hz hck hu (by simp) (fun j f p hf hp => q2 j f p (by simpa using hf) (by simpa using hp)) ?_ hst.sim h
      have := parts_PartsOk hst h2.2
      simpa using this
    · rename_i parts _ _ len el hu
      simp only [Bool.and_eq_true] at h2
      refine d_bld_array _ el len (P.cellsOf el) z _ _ _ hz hck hu h2.1 ?_ hst.sim h
      have := parts_PartsOk hst h2.2
      simpa using this
    · cases h2
  · -- makeFunc
    simp only [Bool.and_eq_true, beq_iff_eq] at hc
    obtain ⟨⟨rfl, h1⟩, h2⟩ := hc
    obtain ⟨a1, a2⟩ := arr_VR hst h1
    obtain ⟨b1, b2⟩ := arr_VR hst h2
    exact d_mkf _ a1 b1 a2 b2 hst.sim h
  · -- load
    simp only [Bool.and_eq_true, beq_iff_eq] at hc
    obtain ⟨⟨⟨h1, h2⟩, h3⟩, h4⟩ := hc
    refine d_load _ _ _ h2 h3 (fun m hm => ?_) hst.sim (opd_VR hst h1) h
    subst hm; simpa using h4
  · -- load of what is frozen
    simp only [Bool.and_eq_true, beq_iff_eq] at hc
    obtain ⟨⟨⟨h1, h2⟩, h3⟩, h4⟩ := hc
    refine d_fload _ _ _ h2 h3 (fun m hm => ?_) hst.sim (opd_VR hst h1) h
    subst hm; simpa using h4
  · -- lookup
    simp only [Bool.and_eq_true, beq_iff_eq] at hc
    obtain ⟨⟨⟨h1, h2⟩, rfl⟩, h3⟩ := hc
    split at h3
    · rename_i kt el hu
      simp only [Bool.and_eq_true] at h3
      obtain ⟨z, hz, hzk⟩ := zeroVOk_spec h3.2
      exact d_look _ kt el _ _ z _ hu (keyOk_spec h3.1) hz hzk hst.sim (opd_VR hst h1) (opd_VR hst h2) h
    · cases h3
  · exact d_entry hst.sim (opd_VR hst hc) h
  · obtain ⟨z, hz, hck⟩ := zeroOk_spec hc
    exact d_alloc _ z _ hz hck hst.sim h
  · exact d_box _ _ hst.sim (opd_VR hst hc) h
  · exact d_fbox _ _ hst.sim (opd_VR hst hc) h
  · -- buildSlice
    simp only [Bool.and_eq_true, beq_iff_eq] at hc
    obtain ⟨rfl, h2⟩ := hc
    split at h2
    · rename_i el hu
      simp only [Bool.and_eq_true, decide_eq_true_eq] at h2
      obtain ⟨⟨⟨⟨h3, h4⟩, h5⟩, h6⟩, h7⟩ := h2
      obtain ⟨z, hz, hck⟩ := zeroOk_spec h4
      refine d_bsl _ el _ _ z _ _ _ hz hck hu h3 h5 h6 ?_ hst.sim h
      have := parts_PartsOk hst h7
      simpa [List.map_map, Function.comp_def] using this
    · cases h2
  · -- store
    simp only [Bool.and_eq_true] at hc
    exact d_store _ _ hc.2 hst.sim (opd_VR hst hc.1.1) (opd_VR hst hc.1.2) h
  · -- mapUpdate
    simp only [Bool.and_eq_true] at hc
    obtain ⟨⟨⟨h1, h2⟩, h3⟩, h4⟩ := hc
    split at h4
    · rename_i kt el hu
      exact d_mapup _ kt el _ hu (keyOk_spec h4) hst.sim (opd_VR hst h1) (opd_VR hst h2) (opd_VR hst h3) h
    · cases h4
  · simp only [Bool.and_eq_true] at hc
    obtain ⟨⟨⟨h1, h2⟩, h3⟩, h4⟩ := hc
    split at h4
    · rename_i kt el hu
      exact d_mapup _ kt el _ hu (keyOk_spec h4) hst.sim (opd_VR hst h1) (opd_VR hst h2) (opd_VR hst h3) h
    · cases h4
  · exact d_mkmap _ hst.sim h
  · -- makeSlice
    simp only [Bool.and_eq_true] at hc
    obtain ⟨⟨⟨h1, h2⟩, h3⟩, h4⟩ := hc
    obtain ⟨el, z, hu, hz, hb, h0, hzero, hzs⟩ := growE_spec h3
    rw [hu] at h4
    obtain ⟨z', hz', hck⟩ := zeroOk_spec h4
    exact d_mksl _ el _ _ z' _ hu hz hb h0 hz' hck hst.sim (opd_VR hst h1) (opd_VR hst h2) h
  · -- range
    simp only [Bool.and_eq_true] at hc
    obtain ⟨h1, h2⟩ := hc
    split at h2
    · rename_i kt el hu; exact d_range _ kt el hu hst.sim (opd_VR hst h1) h
    · cases h2
  · exact d_next _ hst.sim (opd_VR hst hc) h
  all_goals (try (obtain ⟨cs, hcs⟩ := exec_builtin (a := a) _ _ _ ty dst pos after guard; rw [hcs]; clear hcs))
  · -- len
    split at hc
    · rename_i x t hx ht
      simp only [Bool.and_eq_true] at hc
      obtain ⟨h1, h2⟩ := hc
      split at h2
      · rename_i el hu
        rw [list1 hx, map1]
        exact d_len_slice t el hu _ _ ht hst.sim (opd_VR hst h1) h
      · cases h2
    · cases hc
  · split at hc
    · rename_i x t hx ht
      simp only [Bool.and_eq_true] at hc
      obtain ⟨h1, h2⟩ := hc
      split at h2
      · rename_i kt el hu
        rw [list1 hx, map1]
        exact d_mlen t kt el hu _ _ ht hst.sim (opd_VR hst h1) h
      · cases h2
    · cases hc
  · split at hc
    · rename_i x y hx
      simp only [Bool.and_eq_true, Bool.not_eq_true'] at hc
      obtain ⟨⟨rfl, h1⟩, h2⟩ := hc
      rw [list2 hx, map2]
      exact d_minm false hst.sim (opd_VR hst h1) (opd_VR hst h2) 0 #[] h
    · cases hc
  · split at hc
    · rename_i x y hx
      simp only [Bool.and_eq_true] at hc
      obtain ⟨⟨rfl, h1⟩, h2⟩ := hc
      rw [list2 hx, map2]
      exact d_minm true hst.sim (opd_VR hst h1) (opd_VR hst h2) 0 #[] h
    · cases hc
  · split at hc
    · rename_i s x t t' hx ht
      simp only [Bool.and_eq_true, beq_iff_eq] at hc
      obtain ⟨⟨⟨rfl, h1⟩, h2⟩, h3⟩ := hc
      obtain ⟨el, z, hu, hz, hb, h0, hzero, hzs⟩ := growE_spec h3
      rw [list2 hx, list2 ht, map2]
      exact d_app t _ el _ _ z hu hz hb h0 hzero hzs hst.sim (opd_VR hst h1) (opd_VR hst h2) h
    · cases hc
  · split at hc
    · rename_i s x t t' hx ht
      simp only [Bool.and_eq_true, beq_iff_eq] at hc
      obtain ⟨⟨⟨rfl, h1⟩, h2⟩, h3⟩ := hc
      obtain ⟨el, z, hu, hz, hb, h0, hzero, hzs⟩ := growE_spec h3
      rw [list2 hx, list2 ht, map2]
      exact d_appr t _ el _ _ z hu hz hb h0 hzero hzs hst.sim (opd_VR hst h1) (opd_VR hst h2) h
    · cases hc
  · split at hc
    · rename_i m k t hx ht
      simp only [Bool.and_eq_true] at hc
      obtain ⟨⟨h1, h2⟩, h3⟩ := hc
      split at h3
      · rename_i kt el hu
        rw [list2 hx, map2]
        exact d_del t kt el _ _ ht _ hu (keyOk_spec h3) hst.sim (opd_VR hst h1) (opd_VR hst h2) h
      · cases h3
    · cases hc
  · cases hc

end Go.Vm
