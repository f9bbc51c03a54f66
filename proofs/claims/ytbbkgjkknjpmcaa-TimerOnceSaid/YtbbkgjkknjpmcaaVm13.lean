/-
  VM 13: one operation's weakest precondition: monotone; through its operands alone; what does not act.
-/
import Derived.Test.YtbbkgjkknjpmcaaVm2
set_option linter.unusedSimpArgs false
set_option linter.unusedVariables false
set_option linter.unusedSectionVars false
namespace Go.Vm
open Go

variable {P : Program} {σ : Store} {ev ev' : Opd → V} {K K' : V → Store → Prop}

theorem ldK_mono {n : Option Nat} {cs : List V} {Q Q' : V → Prop} (h : ∀ v, Q v → Q' v) (hh : ldK n cs Q) : ldK n cs Q' := by
  cases n with
  | none => obtain ⟨v, a, b⟩ := hh; exact ⟨v, a, h _ b⟩
  | some n => exact ⟨hh.1, h _ hh.2⟩
theorem bounds_mono {len cap : Nat} {lo hi mx : Option V} {Q Q' : Nat → Nat → Nat → Prop} (h : ∀ a b c, Q a b c → Q' a b c) (hh : bounds len cap lo hi mx Q) : bounds len cap lo hi mx Q' := by
  obtain ⟨l, hh', m, a, b, c, d, e, f, g, i, j⟩ := hh
  exact ⟨l, hh', m, a, b, c, d, e, f, g, i, h _ _ _ j⟩

theorem vop_mono (o : VOp) (h : ∀ v σ', K v σ' → K' v σ') (hh : vop P o ev σ K) : vop P o ev σ K' := by
  cases o <;> simp only [vop] at hh ⊢
  case mv => exact h _ _ hh
  case pick c a b => split at hh <;> first | exact h _ _ hh | exact hh
  case arith => split at hh <;> first | (obtain ⟨a, r, b, c⟩ := hh; exact ⟨a, r, b, h _ _ c⟩) | exact hh
  case cmp => split at hh <;> first | (obtain ⟨a, r, b, c⟩ := hh; exact ⟨a, r, b, h _ _ c⟩) | exact hh
  case divm => split at hh <;> first | (obtain ⟨a, b, c⟩ := hh; refine ⟨a, b, ?_⟩; split at c <;> first | exact h _ _ c | exact c) | exact hh
  case bits => split at hh <;> first | (obtain ⟨a, b, c⟩ := hh; exact ⟨a, b, h _ _ c⟩) | exact hh
  case shift => split at hh <;> first | (obtain ⟨a, c⟩ := hh; refine ⟨a, ?_⟩; split at c <;> first | exact h _ _ c | exact c) | exact hh
  case beq => split at hh <;> first | exact h _ _ hh | exact hh
  case pnil => split at hh <;> first | exact h _ _ hh | exact hh
  case aeq => split at hh <;> first | (obtain ⟨r, a, b⟩ := hh; exact ⟨r, a, h _ _ b⟩) | exact hh
  case not => split at hh <;> first | exact h _ _ hh | exact hh
  case neg => split at hh <;> first | exact h _ _ hh | exact hh
  case conv => split at hh <;> first | exact h _ _ hh | exact hh
  case nilc => split at hh <;> first | exact h _ _ hh | exact hh
  case fld => split at hh <;> first | exact h _ _ hh | exact hh
  case idx => split at hh <;> first | (obtain ⟨a, el, b, c, d⟩ := hh; exact ⟨a, el, b, c, h _ _ d⟩) | (obtain ⟨a, b, c⟩ := hh; exact ⟨a, b, h _ _ c⟩) | exact hh
  case aidx => split at hh <;> first | (obtain ⟨a, b, c⟩ := hh; exact ⟨a, b, h _ _ c⟩) | exact hh
  case getf off n ag x =>
    split at hh
    · split at hh
      · rename_i hag; rw [if_pos hag]; exact ⟨hh.1, h _ _ hh.2⟩
      · rename_i hag; rw [if_neg hag]; obtain ⟨v, a, b⟩ := hh; exact ⟨v, a, h _ _ b⟩
    · exact hh
  case geti len e ag x i =>
    split at hh
    · obtain ⟨a, b, hh⟩ := hh
      refine ⟨a, b, ?_⟩
      split at hh
      · rename_i hag; rw [if_pos hag]; exact ⟨hh.1, h _ _ hh.2⟩
      · rename_i hag; rw [if_neg hag]; obtain ⟨v, a, b⟩ := hh; exact ⟨v, a, h _ _ b⟩
    · exact hh
  case sidx => split at hh <;> first | (obtain ⟨a, c, d, e⟩ := hh; exact ⟨a, c, d, h _ _ e⟩) | exact hh
  case ext => split at hh <;> first | (obtain ⟨v, a, b⟩ := hh; exact ⟨v, a, h _ _ b⟩) | exact hh
  case slc => split at hh <;> first | (exact ⟨hh.1, bounds_mono (fun _ _ _ q => h _ _ q) hh.2⟩) | (exact bounds_mono (fun _ _ _ q => ⟨q.1, h _ _ q.2⟩) hh) | exact hh
  case bld => obtain ⟨a, b, cs, c, d⟩ := hh; exact ⟨a, b, cs, c, h _ _ d⟩
  case len => split at hh <;> first | exact h _ _ hh | exact hh
  case mkf => exact h _ _ hh
  case minm => split at hh <;> first | (exact ⟨hh.1, h _ _ hh.2⟩) | exact hh
  case load => split at hh <;> first | (obtain ⟨cs, sl, a, b⟩ := hh; exact ⟨cs, sl, a, ldK_mono (fun _ q => h _ _ q) b⟩) | exact ldK_mono (fun _ q => h _ _ q) hh | exact hh
  case fload => split at hh <;> first | exact ldK_mono (fun _ q => h _ _ q) hh | exact hh
  case look S z ok m k =>
    obtain ⟨h0, hh⟩ := hh
    refine ⟨h0, ?_⟩
    split at hh
    · exact h _ _ hh
    · obtain ⟨es, clk, a, b, c⟩ := hh
      refine ⟨es, clk, a, b, ?_⟩
      split at c
      · exact h _ _ c
      · exact h _ _ c
    · exact hh
  case mlen => split at hh <;> first | exact h _ _ hh | (obtain ⟨es, clk, a, b, c⟩ := hh; exact ⟨es, clk, a, b, h _ _ c⟩) | exact hh
  case entry => split at hh <;> first | (obtain ⟨r, since, k, seen, es, v, a, b, c, d⟩ := hh; exact ⟨r, since, k, seen, es, v, a, b, c, h _ _ d⟩) | exact hh
  case alloc => exact ⟨hh.1, fun b hb => h _ _ (hh.2 b hb)⟩
  case box => exact ⟨hh.1, hh.2.1, fun b hb => h _ _ (hh.2.2 b hb)⟩
  case fbox => exact ⟨hh.1, hh.2.1, h _ _ hh.2.2⟩
  case bsl => obtain ⟨a, b, c, cs, d, e⟩ := hh; exact ⟨a, b, c, cs, d, h _ _ e⟩
  case store => split at hh <;> first | (obtain ⟨a, b, cs, sl, c, d, e⟩ := hh; exact ⟨a, b, cs, sl, c, d, h _ _ e⟩) | exact hh
  case fst => split at hh <;> first | (obtain ⟨a, b, cs, c, d, e⟩ := hh; exact ⟨a, b, cs, c, d, h _ _ e⟩) | exact hh
  case app =>
    obtain ⟨ys, h0, hh⟩ := hh
    refine ⟨ys, h0, ?_⟩
    split at hh
    · obtain ⟨a, b, c⟩ := hh
      refine ⟨a, b, ?_⟩
      split at c
      · exact ⟨c.1, fun o c' p q => h _ _ (c.2 o c' p q)⟩
      · exact ⟨c.1, fun o c' p q => h _ _ (c.2 o c' p q)⟩
    · exact hh
  case appr =>
    obtain ⟨ys, h0, hh⟩ := hh
    refine ⟨ys, h0, ?_⟩
    split at hh
    · obtain ⟨a, b, c, d, e⟩ := hh
      exact ⟨a, b, c, fun q => h _ _ (d q), fun q b' c' r s => h _ _ (e q b' c' r s)⟩
    · obtain ⟨a, cs, b, c, d⟩ := hh
      exact ⟨a, cs, b, c, fun b' c' r s => h _ _ (d b' c' r s)⟩
    · exact hh
  case mapup =>
    obtain ⟨a, b, hh⟩ := hh
    refine ⟨a, b, ?_⟩
    split at hh <;> first | (obtain ⟨es, clk, c, d, e⟩ := hh; exact ⟨es, clk, c, d, h _ _ e⟩) | exact hh
  case del =>
    obtain ⟨a, hh⟩ := hh
    refine ⟨a, ?_⟩
    split at hh <;> first | exact h _ _ hh | (obtain ⟨es, clk, c, d, e⟩ := hh; exact ⟨es, clk, c, d, h _ _ e⟩) | exact hh
  case mkmap => exact fun b hb => h _ _ (hh b hb)
  case mksl =>
    obtain ⟨a, b, hh⟩ := hh
    refine ⟨a, b, ?_⟩
    split at hh <;> first | (obtain ⟨a, b, c, d, e, f⟩ := hh; exact ⟨a, b, c, d, e, fun b hb => h _ _ (f b hb)⟩) | exact hh
  case copy => split at hh <;> first | (obtain ⟨ys, cs, sl, a, b, c, d⟩ := hh; exact ⟨ys, cs, sl, a, b, c, h _ _ d⟩) | exact h _ _ hh | exact hh
  case range => split at hh <;> first | exact fun b hb => h _ _ (hh b hb) | (obtain ⟨es, clk, a, b⟩ := hh; exact ⟨es, clk, a, fun q hq => h _ _ (b q hq)⟩) | exact hh
  case next =>
    split at hh
    · rcases hh with ⟨a, b⟩ | ⟨r, since, seen, es, a, b, c, d⟩
      · exact .inl ⟨a, h _ _ b⟩
      · exact .inr ⟨r, since, seen, es, a, b, fun q => h _ _ (c q), fun k v p q => h _ _ (d k v p q)⟩
    · exact hh
  case call => split at hh <;> first | (obtain ⟨R, a, b⟩ := hh; exact ⟨R, a, fun v σ' p q r => h _ _ (b v σ' p q r)⟩) | exact hh

theorem vop_congr (o : VOp) (h : ∀ y ∈ o.opds, ev y = ev' y) : vop P o ev σ K = vop P o ev' σ K := by
  cases o <;> simp only [VOp.opds] at h <;> simp only [vop]
  case pick a b c => simp only [h a (by simp), h b (by simp), h c (by simp)]
  case slc e x lo hi mx =>
    have h1 : lo.map ev = lo.map ev' := by cases lo <;> simp; exact h _ (by simp)
    have h2 : hi.map ev = hi.map ev' := by cases hi <;> simp; exact h _ (by simp)
    have h3 : mx.map ev = mx.map ev' := by cases mx <;> simp; exact h _ (by simp)
    simp only [h x (by simp), h1, h2, h3]
  case bld zero ps =>
    have h1 : (∀ p ∈ ps, (ev p.2.2).flat = true) ↔ (∀ p ∈ ps, (ev' p.2.2).flat = true) := by
      constructor <;> intro q p hp
      · rw [← h p.2.2 (List.mem_map.2 ⟨p, hp, rfl⟩)]; exact q p hp
      · rw [h p.2.2 (List.mem_map.2 ⟨p, hp, rfl⟩)]; exact q p hp
    have h2 : (ps.map fun p => (p.1, p.2.1, (ev p.2.2).cells)) = ps.map fun p => (p.1, p.2.1, (ev' p.2.2).cells) :=
      List.map_congr_left fun p hp => by rw [h p.2.2 (List.mem_map.2 ⟨p, hp, rfl⟩)]
    rw [h2]; simp only [h1]
  case bsl zero e len ps =>
    have h1 : (∀ p ∈ ps, (ev p.2).flat = true) ↔ (∀ p ∈ ps, (ev' p.2).flat = true) := by
      constructor <;> intro q p hp
      · rw [← h p.2 (List.mem_map.2 ⟨p, hp, rfl⟩)]; exact q p hp
      · rw [h p.2 (List.mem_map.2 ⟨p, hp, rfl⟩)]; exact q p hp
    have h2 : (ps.map fun p => (p.1 * e, e, (ev p.2).cells)) = ps.map fun p => (p.1 * e, e, (ev' p.2).cells) :=
      List.map_congr_left fun p hp => by rw [h p.2 (List.mem_map.2 ⟨p, hp, rfl⟩)]
    rw [h2]; simp only [h1]
  case mkf f a b =>
    have h1 : a.map ev = a.map ev' := List.map_congr_left fun y hy => h y (by simp [hy])
    have h2 : b.map ev = b.map ev' := List.map_congr_left fun y hy => h y (by simp [hy])
    rw [h1, h2]
  case mapup S x y z => simp only [h x (by simp), h y (by simp), h z (by simp)]
  case call f args =>
    have h1 : args.map ev = args.map ev' := List.map_congr_left fun y hy => h y (by simp [hy])
    simp only [h f (by simp), h1]
  case fst d n x => simp only [h (.s d) (by simp), h x (by simp)]
  all_goals first
    | rfl
    | (rename_i x; simp only [h x (by simp)]; done)
    | (rename_i x y; simp only [h x (by simp), h y (by simp)]; done)

end Go.Vm
