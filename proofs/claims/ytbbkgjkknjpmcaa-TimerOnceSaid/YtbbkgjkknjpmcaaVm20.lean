/-
  VM 20: from a contract of the logic to a law's statement.
-/
import Derived.Test.YtbbkgjkknjpmcaaVm19
import Derived.SizedLaws
import Derived.Carry
set_option linter.unusedSimpArgs false
set_option linter.unusedVariables false
set_option linter.unusedSectionVars false
namespace Go.Vm
open Go Go.ChangeShapes Go.RowKit

variable {P : Program}

def argV (P : Program) (t : TypeId) (us : List V) : V := match P.underlying t with
  | some (.struct _) => .agg us
  | _ => us.headD .und
def TyAll (P : Program) (d : Nat) : List TypeId → List (List V) → Prop
  | [], us => us = []
  | t :: ts, us => ∃ a r, us = a :: r ∧ TyV P d t a ∧ TyAll P d ts r
def argsV (P : Program) : List TypeId → List (List V) → List V
  | t :: ts, u :: us => argV P t u :: argsV P ts us
  | _, _ => []

section
variable {H : Type} {enc : TypeId × Value → H} {W : World}

theorem okWide_one {base : Nat} {t : TypeId} {v : Value} (hs : ∀ fs, P.underlying t ≠ some (.struct fs)) {d : Nat} (hok : okTy P d t = true) (h : Value.okWide P W .any base t v) : v.cells = #[v] := by
  cases d with
  | zero => simp [okTy] at hok
  | succ d =>
    simp only [okTy] at hok
    unfold Value.okWide at h
    split at hok
    · rename_i k hu; simp only [hu] at h; unfold Cell.okWide at h; simp only [hu] at h; unfold Cell.ok at h; simp only [hu] at h
      cases v <;> first | rfl | exact h.elim
    · rename_i hu; simp only [hu] at h; unfold Cell.okWide at h; simp only [hu] at h; unfold Cell.ok at h; simp only [hu] at h
      cases v <;> first | rfl | exact h.elim
    · rename_i hu; simp only [hu] at h; unfold Cell.okWide at h; simp only [hu] at h; unfold Cell.ok at h; simp only [hu] at h
      cases v <;> first | rfl | exact h.elim
    · rename_i e hu; simp only [hu] at h; unfold Cell.okWide at h; simp only [hu] at h; unfold Cell.ok at h; simp only [hu] at h
      cases v <;> first | rfl | exact h.elim
    · rename_i fs hu; exact absurd hu (hs fs)
    · cases hok

theorem arg_V {base d : Nat} {t : TypeId} {v : Value} {dt : DataW H} {ps : List MemPlace} (hok : okTy P d t = true) (hw : Value.okWide P W .any base t v) (h : DataW.Trod enc P W 0 (fun _ => true) true t v dt ps)
    (hz : ∀ n ∈ dt.weights P t, n ≤ reachBytes) : ∃ us, TyV P d t us ∧ VR (F0 W) W (argV P t us) v := by
  obtain ⟨fuel, hf⟩ := h
  obtain ⟨us, h1, h2⟩ := read_V d t _ fuel dt ps hok hf hz
  refine ⟨us, h1, ?_⟩
  unfold argV
  cases hu : P.underlying t with
  | none => cases d <;> simp [okTy, hu] at hok
  | some td =>
    by_cases hst : ∃ fs, td = .struct fs
    · obtain ⟨fs, rfl⟩ := hst
      simp only
      unfold Value.okWide at hw
      simp only [hu] at hw
      obtain ⟨cs, rfl, _⟩ := hw
      simp only [Value.cells, Array.toArray_toList] at h2
      exact .agg us cs h2.1 h2.2.1 h2.2.2
    · have hc := okWide_one (fun fs e => hst ⟨fs, by rw [hu] at e; exact Option.some.inj e⟩) hok hw
      rw [hc] at h2
      have hl := h2.1
      simp at hl
      cases us with
      | nil => simp at hl
      | cons u r =>
        cases r with
        | cons _ _ => simp at hl
        | nil =>
          have := h2.2.2 0 u v rfl (by simp)
          cases td <;> first | exact this | exact absurd ⟨_, rfl⟩ hst

theorem args_V {d : Nat} : ∀ {ts : List TypeId} {vs : List Value} {ds : List (DataW H)} {ps : List MemPlace} (_ : ∀ t ∈ ts, okTy P d t = true) (_ : ∀ (j : Nat) t v, ts[j]? = some t → vs[j]? = some v → ∃ base, Value.okWide P W .any base t v)
    (_ : DataW.TrodAll enc P W 0 (fun _ => true) true ts vs ds ps) (_ : ∀ n ∈ DataW.weightsEach P ts ds, n ≤ reachBytes),
    ∃ us, TyAll P d ts us ∧ (argsV P ts us).length = vs.length ∧ ds.length = ts.length ∧ ∀ (j : Nat) u x, (argsV P ts us)[j]? = some u → vs[j]? = some x → VR (F0 W) W u x
  | [], [], [], _, _, _, _, _ => ⟨[], rfl, rfl, rfl, by simp [argsV]⟩
  | t :: ts, v :: vs, dt :: ds, _, hok, hw, h, hz => by
    obtain ⟨p, q, h1, h2, rfl⟩ := h
    simp only [DataW.weightsEach, List.mem_append] at hz
    obtain ⟨base, hb⟩ := hw 0 t v rfl rfl
    obtain ⟨a, ha, hva⟩ := arg_V (hok t (by simp)) hb h1 (fun n hn => hz n (.inl hn))
    obtain ⟨r, hr, hl, hdl, hvr⟩ := args_V (fun t ht => hok t (by simp [ht])) (fun j t v a b => hw (j + 1) t v (by simpa using a) (by simpa using b)) h2 (fun n hn => hz n (.inr hn))
    refine ⟨a :: r, ⟨a, r, rfl, ha, hr⟩, by simp [argsV, hl], by simp [hdl], fun j u x hu hx => ?_⟩
    cases j with
    | zero => simp [argsV] at hu hx; subst hu; subst hx; exact hva
    | succ j => exact hvr j u x (by simpa [argsV] using hu) (by simpa using hx)
  | [], _ :: _, _, _, _, _, h, _ => h.elim
  | [], [], _ :: _, _, _, _, h, _ => h.elim
  | _ :: _, [], _, _, _, _, h, _ => h.elim
  | _ :: _, _ :: _, [], _, _, _, h, _ => h.elim

theorem trod_stays {W' : World} (hl : laidOutB P = true) (hb : Below W.heap.size W W') : ∀ {ts : List TypeId} {vs : List Value} {ds : List (DataW H)} {ps : List MemPlace} (_ : ∀ t ∈ ts, P.readableRec t = true ∧ t < P.types.size)
    (_ : DataW.TrodAll enc P W 0 (fun _ => true) true ts vs ds ps) (_ : ∀ x ∈ ps, x.block < W.heap.size), DataW.TrodAll enc P W' 0 (fun b => decide (b < W.heap.size)) true ts vs ds ps
  | [], [], [], _, _, h, _ => h
  | t :: ts, v :: vs, d :: ds, _, hr, h, hp => by
    obtain ⟨p, q, h1, h2, rfl⟩ := h
    exact ⟨p, q, Below.trod hl (hr t (by simp)).1 (hr t (by simp)).2 h1 hb (fun x hx => hp x (by simp [hx])), trod_stays hl hb (fun t ht => hr t (by simp [ht])) h2 (fun x hx => hp x (by simp [hx])), rfl⟩
  | [], _ :: _, _, _, _, h, _ => h.elim
  | [], [], _ :: _, _, _, h, _ => h.elim
  | _ :: _, [], _, _, _, h, _ => h.elim
  | _ :: _, _ :: _, [], _, _, h, _ => h.elim

/-- No block is in the store. -/
def S0 : Store := fun _ => none
theorem sim0 (W : World) : Sim (F0 W) S0 W := ⟨fun _ _ h => h, fun _ _ _ h => by simp [S0, Store.rd] at h, fun _ _ _ h => by simp [S0] at h, fun _ _ _ h => by simp [S0, Store.rd] at h, fun _ _ _ _ h => by simp [S0] at h⟩

/-- A LAW's CONTRACT, OUT OF THE LOGIC's. -/
theorem law_calls {f : FuncId} {fn : Func} {s : ChangeSpec} {fresh handsOn : Bool} {tb : TypeId} (hl : laidOutB P = true) (hty : ∀ t ∈ fn.params.toList, okTy P 20 t = true) (hrd : ∀ t ∈ fn.params.toList, P.readableRec t = true ∧ t < P.types.size)
    (hres : fn.resultTypes = #[tb]) (hb : P.underlying tb = some .bool) (hv : s.vars = [])
    (hs : ∀ ds : List (DataW H), ds.length = fn.params.toList.length → s.fn H ds = { results := [.lit (.bool true)], args := ds })
    (hcall : ∀ us, TyAll P 20 fn.params.toList us → VCalls P f (argsV P fn.params.toList us) S0 (fun v _ => v = .bool true))
    {base : Nat} {args : Array Value} {ds gs : List (DataW H)} {before : List MemPlace}
    (hval : ∀ (j : Nat) t v, fn.params[j]? = some t → args[j]? = some v → Value.okWide P W .any base t v)
    (hW : DataW.Whole enc P fn.params.toList s.vars false W args.toList ds gs before)
    (hz : (DataW.weightsEach P (fn.params.toList ++ s.plain.varTypes P) (ds ++ gs)).all (· ≤ reachBytes) = true) :
    Calls P f args W fun e W' => ∃ v, e = .returned v ∧ s.post enc P fn false fresh handsOn false W args v W' := by
  have hW' := hW
  obtain ⟨p, q, hA, hV, rfl, _, _⟩ := hW
  rw [hv] at hV
  obtain ⟨rfl, rfl⟩ := trodVars_none hV
  have hvt : s.plain.varTypes P = [] := by simp [ChangeSpec.plain, DataSpec.varTypes, hv]
  simp only [List.append_nil, hvt] at hz hW'
  have hz' : ∀ n ∈ DataW.weightsEach P fn.params.toList ds, n ≤ reachBytes := by simpa using hz
  obtain ⟨us, h1, h2, h3, h4⟩ := args_V hty (fun j t v a b => ⟨base, hval j t v (by simpa using a) (by simpa using b)⟩) hA hz'
  have hc := (hcall us h1).2 (F0 W) W args (sim0 W) (by simpa using h2.symm) (fun j u x hu hx => h4 j u x hu (by simpa using hx))
  refine hc.mono fun e W' hp => ?_
  obtain ⟨x, v, σ', F', rfl, rfl, hvr, _, hx⟩ := hp
  cases hvr
  have hbelow : Below W.heap.size W W' := ⟨hx.os, hx.tape, hx.output, hx.size, fun k hk => hx.keep k hk rfl⟩
  have hlt : ∀ y ∈ p, y.block < W.heap.size := fun y hy => hW'.lt y (by simpa using hy)
  have hspec := hs ds h3
  refine ⟨_, rfl, ds, [], p, [], p, [], hW', ?_, ?_, ?_, hbelow.frame _, fun h => by cases h⟩
  · rw [List.append_nil, hspec, hres]
    exact trodAll_mk1 ⟨1, by simp [DataW.trod, Value.cells, hb]⟩
  · rw [List.append_nil, hspec]
    exact trod_stays hl hbelow hrd hA hlt
  · rw [List.append_nil, hspec, hv]; rfl
end
end Go.Vm
