/-
  VM 1: values and a store over the model's worlds: a slice that is never written again is a pure list; blocks that may be written lie in a store; what relates them to a world.
-/
import Derived.Calls
import Derived.Orders
import Derived.Scope
import Derived.OpenShut
import Derived.Laws.Rows
import Derived.Laws.Tables
set_option linter.unusedSimpArgs false
set_option linter.unusedVariables false
set_option linter.unusedSectionVars false
namespace Go.Vm
open Go

inductive V where
  | und
  | int (k : IntKind) (n : Int)
  | bool (b : Bool)
  | str (s : ByteArray)
  | fz (e : Nat) (xs : List (List V)) (c : Nat) (own : Option Nat)
  | fp (cs : List V)
  | sl (b off len c : Nat)
  | ptr (b off : Nat)
  | nilp
  | mp (b : Nat)
  | nilmp
  | fn (f : FuncId) (first cap : List V)
  | nilfn
  | agg (cs : List V)
  | tup (vs : List V)
  deriving Inhabited

/-- A value of one cell. -/
def V.one : V → Bool
  | .und | .agg _ | .tup _ => false
  | _ => true

/-- A block that may be written: a row of cells with slack behind them; a row of which the first n cells are frozen and the rest is ours (the leave to append); a map, with its clock; an iterator over a map: since which clock, which keys were met, the last one first. -/
inductive Ob where
  | row (cs : List V) (slack : Nat)
  | used (n tot : Nat)
  | map (es : List (V × V)) (clk : Nat)
  | iter (m : Option Nat) (since : Nat) (seen : List V)
  | rrow (cs : List V) (slack : Nat)
  | rmap (es : List (V × V)) (clk : Nat)

/-- What is read there: a block that is only read is read as any other. -/
def Ob.strip : Ob → Ob
  | .rrow cs sl => .row cs sl
  | .rmap es clk => .map es clk
  | o => o
/-- A block that nobody writes. -/
def Ob.still : Option Ob → Bool
  | none | some (.rrow _ _) | some (.rmap _ _) => true
  | _ => false

abbrev Env := Nat → V
abbrev Store := Nat → Option Ob

def Env.put (env : Env) (d : Nat) (v : V) : Env := fun i => if i = d then v else env i
def Store.set (σ : Store) (b : Nat) (o : Ob) : Store := fun i => if i = b then some o else σ i
def Store.rd (σ : Store) (b : Nat) : Option Ob := (σ b).map Ob.strip
def Store.erase (σ : Store) (b : Nat) : Store := fun i => if i = b then none else σ i

inductive VR (F : Nat → Nat → Prop) (w : World) : V → Value → Prop
  | und (x : Value) : VR F w .und x
  | int {k : IntKind} {n : Int} (h : (Lit.int k n).wf = true) : VR F w (.int k n) (.int k n)
  | bool (b : Bool) : VR F w (.bool b) (.bool b)
  | str (s : ByteArray) : VR F w (.str s) (.string s)
  | nilp : VR F w .nilp (.pointer none)
  | ptr (b off : Nat) : VR F w (.ptr b off) (.pointer (some ⟨b, off, none⟩))
  | fp (cs : List V) (b off : Nat) (f : Nat → Value)
      (h1 : ∀ v ∈ cs, v.one = true)
      (hF : ∀ j : Nat, j < cs.length → F b (off + j) ∧ w.cell? ⟨b, off + j, none⟩ = some (f j))
      (hv : ∀ (j : Nat) v, cs[j]? = some v → VR F w v (f j)) : VR F w (.fp cs) (.pointer (some ⟨b, off, none⟩))
  | fz (e : Nat) (xs : List (List V)) (n c : Nat) (own : Option Nat) (A : Option Addr) (b off : Nat) (f : Nat → Value)
      (hl : n = xs.length) (hc : xs.length ≤ c) (hn : xs.length ≤ 140737488355328) (he : ∀ x ∈ xs, x.length = e)
      (h1 : ∀ x ∈ xs, ∀ v ∈ x, v.one = true)
      (hA : (xs ≠ [] ∨ own ≠ none) → A = some ⟨b, off, none⟩) (ho : ∀ o, own = some o → o = b ∧ off = 0)
      (hz : A = none → n = 0 ∧ c = 0)
      (hF : ∀ j : Nat, j < xs.length * e → F b (off + j) ∧ w.cell? ⟨b, off + j, none⟩ = some (f j))
      (hv : ∀ (i j : Nat) x v, xs[i]? = some x → x[j]? = some v → VR F w v (f (i * e + j))) : VR F w (.fz e xs c own) (.slice A n c)
  | sl (b off len c : Nat) (hc : len ≤ c) (hn : len ≤ 140737488355328) : VR F w (.sl b off len c) (.slice (some ⟨b, off, none⟩) len c)
  | mp (b : Nat) : VR F w (.mp b) (.map (some b))
  | nilmp : VR F w .nilmp (.map none)
  | fn (f : FuncId) (first cap : List V) (fs cs : Array Value) (hs : fs.size = first.length) (ht : cs.size = cap.length)
      (hf : ∀ (j : Nat) v (x : Value), first[j]? = some v → fs[j]? = some x → VR F w v x)
      (hg : ∀ (j : Nat) v (x : Value), cap[j]? = some v → cs[j]? = some x → VR F w v x) : VR F w (.fn f first cap) (.func (.func f) fs cs)
  | nilfn : VR F w .nilfn .nilFunc
  | agg (vs : List V) (xs : Array Value) (hs : xs.size = vs.length) (h1 : ∀ v ∈ vs, v.one = true)
      (h : ∀ (j : Nat) v (x : Value), vs[j]? = some v → xs[j]? = some x → VR F w v x) : VR F w (.agg vs) (.agg xs)
  | tup (vs : List V) (xs : Array Value) (hs : xs.size = vs.length)
      (h : ∀ (j : Nat) v (x : Value), vs[j]? = some v → xs[j]? = some x → VR F w v x) : VR F w (.tup vs) (.tuple xs)

/-- What stays when the frozen cells stay. -/
theorem VR.mono {F F' : Nat → Nat → Prop} {w w' : World} (hs : ∀ b o, F b o → F' b o) (hc : ∀ b o, F b o → w'.cell? ⟨b, o, none⟩ = w.cell? ⟨b, o, none⟩)
    {v : V} {x : Value} (h : VR F w v x) : VR F' w' v x := by
  induction h with
  | und x => exact .und x
  | int h => exact .int h
  | bool b => exact .bool b
  | str s => exact .str s
  | nilp => exact .nilp
  | ptr b off => exact .ptr b off
  | fp cs b off f h1 hF _ ih => exact .fp cs b off f h1 (fun j hj => ⟨hs _ _ (hF j hj).1, (hc _ _ (hF j hj).1).trans (hF j hj).2⟩) ih
  | fz e xs n c own A b off f hl hcc hn he h1 hA ho hz hF _ ih =>
    exact .fz e xs n c own A b off f hl hcc hn he h1 hA ho hz (fun j hj => ⟨hs _ _ (hF j hj).1, (hc _ _ (hF j hj).1).trans (hF j hj).2⟩) ih
  | sl b off len c h1 h2 => exact .sl b off len c h1 h2
  | mp b => exact .mp b
  | nilmp => exact .nilmp
  | fn f first cap fs cs hs ht _ _ ih1 ih2 => exact .fn f first cap fs cs hs ht ih1 ih2
  | nilfn => exact .nilfn
  | agg vs xs hs h1 _ ih => exact .agg vs xs hs h1 ih
  | tup vs xs hs _ ih => exact .tup vs xs hs ih

theorem VR.oneCell {F : Nat → Nat → Prop} {w : World} {v : V} {x : Value} (h : VR F w v x) (h1 : v.one = true) : x.oneCell' = true := by
  cases h <;> first | rfl | cases h1

theorem VR.cells_one {F : Nat → Nat → Prop} {w : World} {v : V} {x : Value} (h : VR F w v x) (h1 : v.one = true) : x.cells = #[x] := by
  cases h <;> first | rfl | cases h1

/-- The cells of a value. -/
def V.cells : V → List V
  | .agg cs => cs
  | v => [v]

/-- A value that may be stored: of one cell, or cells in a row. -/
def V.flat : V → Bool
  | .agg _ => true
  | v => v.one

/-- Cell by cell. -/
def CR (F : Nat → Nat → Prop) (w : World) (vs : List V) (xs : Array Value) : Prop :=
  xs.size = vs.length ∧ (∀ v ∈ vs, v.one = true) ∧ ∀ (j : Nat) v (x : Value), vs[j]? = some v → xs[j]? = some x → VR F w v x

theorem VR.cells {F : Nat → Nat → Prop} {w : World} {v : V} {x : Value} (h : VR F w v x) (hf : v.flat = true) : CR F w v.cells x.cells := by
  by_cases h1 : v.one = true
  · have hx := h.cells_one h1
    have hv : v.cells = [v] := by cases v <;> first | rfl | cases h1
    rw [hx, hv]
    refine ⟨rfl, by simpa using h1, fun j u y hu hy => ?_⟩
    cases j with
    | zero => simp at hu hy; subst hu; subst hy; exact h
    | succ j => simp at hu
  · cases h with
    | agg vs xs hs hall h => exact ⟨hs, hall, h⟩
    | _ => first | exact absurd rfl h1 | cases hf

theorem CR.mono {F F' : Nat → Nat → Prop} {w w' : World} (hs : ∀ b o, F b o → F' b o) (hc : ∀ b o, F b o → w'.cell? ⟨b, o, none⟩ = w.cell? ⟨b, o, none⟩)
    {vs : List V} {xs : Array Value} (h : CR F w vs xs) : CR F' w' vs xs := ⟨h.1, h.2.1, fun j v x hv hx => (h.2.2 j v x hv hx).mono hs hc⟩

/-- A row's block. -/
def RowAt (F : Nat → Nat → Prop) (w : World) (b : Nat) (cs : List V) (slack : Nat) : Prop :=
  (∃ arr e, w.heap[b]? = some (.cells arr e (0, 0)) ∧ arr.size = cs.length + slack ∧ CR F w cs (arr.extract 0 cs.length)) ∧ ∀ o, ¬ F b o

def UsedAt (F : Nat → Nat → Prop) (w : World) (b n tot : Nat) : Prop :=
  (∃ arr e, w.heap[b]? = some (.cells arr e (0, 0)) ∧ arr.size = tot) ∧ ∀ o, F b o → o < n

/-- A map's block: the entries in the model's order; no key twice. -/
def MapAt (F : Nat → Nat → Prop) (w : World) (b : Nat) (es : List (V × V)) (clk : Nat) : Prop :=
  (∃ ms : Array MapEntry, w.heap[b]? = some (.map ms clk) ∧ ms.size = es.length ∧ (es.map (·.1)).Nodup ∧
    (∀ (j : Nat) (m : MapEntry), ms[j]? = some m → m.born < clk) ∧ (∀ (i j : Nat) (m n : MapEntry), ms[i]? = some m → ms[j]? = some n → m.born = n.born → i = j) ∧
    ∀ (j : Nat) k v (m : MapEntry), es[j]? = some (k, v) → ms[j]? = some m → VR F w k m.key ∧ VR F w v m.val ∧ k.flat = true ∧ v.flat = true) ∧ ∀ o, ¬ F b o

def IterAt (F : Nat → Nat → Prop) (w : World) (σ : Store) (b : Nat) (m : Option Nat) (since : Nat) (seen : List V) : Prop :=
  (∃ ss : Array Nat, w.heap[b]? = some (.mapIter m since ss since) ∧ ((ss.size = seen.length ∧ ∀ r, m = some r → r < w.heap.size) ∧ ∀ r es c, m = some r → σ r = some (.map es c) → since ≤ c) ∧
    ∀ r es, m = some r → σ r = some (.map es since) → ∃ ms : Array MapEntry, w.heap[r]? = some (.map ms since) ∧
      ∀ (j : Nat) k v (e : MapEntry), es[j]? = some (k, v) → ms[j]? = some e → (e.born ∈ ss ↔ k ∈ seen) ∧ (ss.back? = some e.born ↔ seen.head? = some k)) ∧ ∀ o, ¬ F b o

/-- What the store says of a world. -/
structure Sim (F : Nat → Nat → Prop) (σ : Store) (w : World) : Prop where
  froz : ∀ b o, F b o → b < w.heap.size
  row : ∀ b cs sl, σ.rd b = some (.row cs sl) → RowAt F w b cs sl
  used : ∀ b n tot, σ b = some (.used n tot) → UsedAt F w b n tot
  map : ∀ b es clk, σ.rd b = some (.map es clk) → MapAt F w b es clk
  iter : ∀ b m since seen, σ b = some (.iter m since seen) → IterAt F w σ b m since seen

theorem Sim.lt {F : Nat → Nat → Prop} {σ : Store} {w : World} (h : Sim F σ w) {b : Nat} {o : Ob} (hb : σ b = some o) : b < w.heap.size := by
  have key : ∀ x, w.heap[b]? = some x → b < w.heap.size := fun x hx => (Array.getElem?_eq_some_iff.1 hx).1
  cases o with
  | row cs sl => obtain ⟨⟨arr, e, hh, _⟩, _⟩ := h.row b cs sl (by simp [Store.rd, hb, Ob.strip]); exact key _ hh
  | rrow cs sl => obtain ⟨⟨arr, e, hh, _⟩, _⟩ := h.row b cs sl (by simp [Store.rd, hb, Ob.strip]); exact key _ hh
  | used n tot => obtain ⟨⟨arr, e, hh, _⟩, _⟩ := h.used b n tot hb; exact key _ hh
  | map es clk => obtain ⟨⟨ms, hh, _⟩, _⟩ := h.map b es clk (by simp [Store.rd, hb, Ob.strip]); exact key _ hh
  | rmap es clk => obtain ⟨⟨ms, hh, _⟩, _⟩ := h.map b es clk (by simp [Store.rd, hb, Ob.strip]); exact key _ hh
  | iter m s seen => obtain ⟨⟨ss, hh, _⟩, _⟩ := h.iter b m s seen hb; exact key _ hh

theorem Store.rd_of {σ : Store} {b : Nat} {o : Ob} (h : σ.rd b = some o) : ∃ o', σ b = some o' ∧ o'.strip = o := by
  unfold Store.rd at h; cases hs : σ b with
  | none => simp [hs] at h
  | some o' => simp [hs] at h; exact ⟨o', rfl, h⟩
theorem Store.rd_some {σ : Store} {b : Nat} {o : Ob} (h : σ b = some o) : σ.rd b = some o.strip := by simp [Store.rd, h]
theorem Store.rd_row {σ : Store} {b : Nat} {cs : List V} {sl : Nat} (h : σ b = some (.row cs sl)) : σ.rd b = some (.row cs sl) := Store.rd_some h
theorem Store.rd_map {σ : Store} {b : Nat} {es : List (V × V)} {c : Nat} (h : σ b = some (.map es c)) : σ.rd b = some (.map es c) := Store.rd_some h
theorem Sim.rlt {F : Nat → Nat → Prop} {σ : Store} {w : World} (h : Sim F σ w) {b : Nat} {o : Ob} (hb : σ.rd b = some o) : b < w.heap.size := by
  obtain ⟨o', h1, _⟩ := Store.rd_of hb; exact h.lt h1
theorem Sim.row' {F : Nat → Nat → Prop} {σ : Store} {w : World} (h : Sim F σ w) {b : Nat} {cs : List V} {sl : Nat} (hb : σ b = some (.row cs sl)) : RowAt F w b cs sl := h.row b cs sl (Store.rd_row hb)
theorem Sim.map' {F : Nat → Nat → Prop} {σ : Store} {w : World} (h : Sim F σ w) {b : Nat} {es : List (V × V)} {c : Nat} (hb : σ b = some (.map es c)) : MapAt F w b es c := h.map b es c (Store.rd_map hb)

/-- What a stretch of a run keeps: the frozen cells; the blocks that were not in the store. -/
structure Ext (F : Nat → Nat → Prop) (σ : Store) (w : World) (F' : Nat → Nat → Prop) (σ' : Store) (w' : World) : Prop where
  sub : ∀ b o, F b o → F' b o
  cell : ∀ b o, F b o → w'.cell? ⟨b, o, none⟩ = w.cell? ⟨b, o, none⟩
  keep : ∀ b, b < w.heap.size → Ob.still (σ b) = true → w'.heap[b]? = w.heap[b]?
  stl : ∀ b, b < w.heap.size → Ob.still (σ b) = true → Ob.still (σ' b) = true
  dom : ∀ b, σ' b ≠ none → σ b ≠ none ∨ w.heap.size ≤ b
  size : w.heap.size ≤ w'.heap.size
  drawn : w.drawn ≤ w'.drawn
  os : w'.os = w.os
  tape : w'.tape = w.tape
  output : w'.output = w.output

theorem Ext.refl (F : Nat → Nat → Prop) (σ : Store) (w : World) : Ext F σ w F σ w :=
  ⟨fun _ _ h => h, fun _ _ _ => rfl, fun _ _ _ => rfl, fun _ _ h => h, fun _ h => .inl h, Nat.le_refl _, Nat.le_refl _, rfl, rfl, rfl⟩

theorem Ext.trans {F F1 F2 : Nat → Nat → Prop} {σ σ1 σ2 : Store} {w w1 w2 : World} (h : Ext F σ w F1 σ1 w1) (k : Ext F1 σ1 w1 F2 σ2 w2) : Ext F σ w F2 σ2 w2 where
  sub b o hF := k.sub _ _ (h.sub _ _ hF)
  cell b o hF := (k.cell _ _ (h.sub _ _ hF)).trans (h.cell _ _ hF)
  keep b hb hn := (k.keep b (Nat.lt_of_lt_of_le hb h.size) (h.stl b hb hn)).trans (h.keep b hb hn)
  stl b hb hn := k.stl b (Nat.lt_of_lt_of_le hb h.size) (h.stl b hb hn)
  dom b hb := by
    rcases k.dom b hb with h1 | h1
    · exact h.dom b h1
    · exact .inr (Nat.le_trans h.size h1)
  size := Nat.le_trans h.size k.size
  drawn := Nat.le_trans h.drawn k.drawn
  os := k.os.trans h.os
  tape := k.tape.trans h.tape
  output := k.output.trans h.output

theorem Ext.vr {F F' : Nat → Nat → Prop} {σ σ' : Store} {w w' : World} (h : Ext F σ w F' σ' w') {v : V} {x : Value} (hv : VR F w v x) : VR F' w' v x := hv.mono h.sub h.cell

/-- A smaller store says less. -/
def Store.le (σ σ' : Store) : Prop := ∀ b o, σ b = some o → σ' b = some o
theorem Store.le_refl (σ : Store) : σ.le σ := fun _ _ h => h
theorem Store.le_trans {a b c : Store} (h : a.le b) (k : b.le c) : a.le c := fun _ _ hb => k _ _ (h _ _ hb)
theorem Store.le.rd {σ σ' : Store} (h : σ.le σ') {b : Nat} {o : Ob} (hb : σ.rd b = some o) : σ'.rd b = some o := by
  obtain ⟨o', h1, rfl⟩ := Store.rd_of hb; exact Store.rd_some (h _ _ h1)
theorem Sim.less {F : Nat → Nat → Prop} {σ σ' : Store} {w : World} (h : Sim F σ' w) (hl : σ.le σ') : Sim F σ w where
  froz := h.froz
  row b cs sl hb := h.row b cs sl (hl.rd hb)
  used b n t hb := h.used b n t (hl _ _ hb)
  map b es c hb := h.map b es c (hl.rd hb)
  iter b m s seen hb := by
    obtain ⟨⟨ss, h1, h2, h3⟩, h4⟩ := h.iter b m s seen (hl _ _ hb)
    exact ⟨⟨ss, h1, ⟨h2.1, fun r es c hm hr => h2.2 r es c hm (hl _ _ hr)⟩, fun r es hm hr => h3 r es hm (hl _ _ hr)⟩, h4⟩
theorem Ext.less {F F' : Nat → Nat → Prop} {σ σ' σ'' : Store} {w w' : World} (h : Ext F σ w F' σ' w') (hl : σ''.le σ') : Ext F σ w F' σ'' w' :=
  ⟨h.sub, h.cell, h.keep, fun b hb hn => by
    cases hs : σ'' b with
    | none => rfl
    | some o => have := h.stl b hb hn; rwa [hl _ _ hs] at this, fun b hb => h.dom b (by
    cases hs : σ'' b with
    | none => exact absurd hs hb
    | some o => simp [hl _ _ hs]), h.size, h.drawn, h.os, h.tape, h.output⟩


@[simp] theorem Store.get_set_same (σ : Store) (b : Nat) (o : Ob) : (σ.set b o) b = some o := by simp [Store.set]
theorem Store.get_set_ne (σ : Store) {b k : Nat} (o : Ob) (h : k ≠ b) : (σ.set b o) k = σ k := by simp [Store.set, h]
@[simp] theorem Store.get_erase_same (σ : Store) (b : Nat) : (σ.erase b) b = none := by simp [Store.erase]
theorem Store.get_erase_ne (σ : Store) {b k : Nat} (h : k ≠ b) : (σ.erase b) k = σ k := by simp [Store.erase, h]
@[simp] theorem Store.rd_set_same (σ : Store) (b : Nat) (o : Ob) : (σ.set b o).rd b = some o.strip := by simp [Store.rd]
theorem Store.rd_set_ne (σ : Store) {b k : Nat} (o : Ob) (h : k ≠ b) : (σ.set b o).rd k = σ.rd k := by simp [Store.rd, Store.get_set_ne σ o h]
@[simp] theorem Store.rd_erase_same (σ : Store) (b : Nat) : (σ.erase b).rd b = none := by simp [Store.rd]
theorem Store.rd_erase_ne (σ : Store) {b k : Nat} (h : k ≠ b) : (σ.erase b).rd k = σ.rd k := by simp [Store.rd, Store.get_erase_ne σ h]
theorem Store.erase_le (σ : Store) (b : Nat) : (σ.erase b).le σ := fun k o h => by
  by_cases hk : k = b
  · subst hk; simp at h
  · rwa [Store.get_erase_ne σ hk] at h
theorem Store.le_set (σ : Store) {b : Nat} (o : Ob) (h : σ b = none) : σ.le (σ.set b o) := fun k o' h' => by
  have hk : k ≠ b := by rintro rfl; rw [h] at h'; cases h'
  rw [Store.get_set_ne σ o hk]; exact h'
@[simp] theorem Store.set_set (σ : Store) (b : Nat) (o o' : Ob) : (σ.set b o).set b o' = σ.set b o' := by
  funext k; by_cases h : k = b <;> simp [Store.set, h]
@[simp] theorem Store.erase_set (σ : Store) (b : Nat) (o : Ob) : (σ.erase b).set b o = σ.set b o := by
  funext k; by_cases h : k = b <;> simp [Store.set, Store.erase, h]
theorem Store.set_erase_new (σ : Store) {b : Nat} (o : Ob) (h : σ b = none) : (σ.set b o).erase b = σ := by
  funext k; by_cases hk : k = b
  · subst hk; simp [h]
  · simp [Store.set, Store.erase, hk]
theorem Store.erase_none (σ : Store) {b : Nat} (h : σ b = none) : σ.erase b = σ := by
  funext k; by_cases hk : k = b
  · subst hk; simp [h]
  · simp [Store.erase, hk]
theorem Store.set_comm (σ : Store) {a b : Nat} (x y : Ob) (h : a ≠ b) : (σ.set a x).set b y = (σ.set b y).set a x := by
  funext k
  by_cases hk : k = a
  · subst hk; simp [Store.set, h]
  · simp [Store.set, hk]
theorem Store.set_same (σ : Store) {b : Nat} {o : Ob} (h : σ b = some o) : σ.set b o = σ := by
  funext k; by_cases hk : k = b
  · subst hk; simp [h]
  · simp [Store.set, hk]

@[simp] theorem Env.get_put_same (env : Env) (d : Nat) (v : V) : (env.put d v) d = v := by simp [Env.put]
theorem Env.get_put_ne (env : Env) {d i : Nat} (v : V) (h : i ≠ d) : (env.put d v) i = env i := by simp [Env.put, h]

/-- The rows, the maps .. do not turn where their blocks do not. -/
theorem RowAt.keep {F F' : Nat → Nat → Prop} {w w' : World} {b : Nat} {cs : List V} {sl : Nat} (h : RowAt F w b cs sl) (hs : ∀ b o, F b o → F' b o)
    (hc : ∀ b o, F b o → w'.cell? ⟨b, o, none⟩ = w.cell? ⟨b, o, none⟩) (hb : w'.heap[b]? = w.heap[b]?) (hn : ∀ o, F' b o → F b o) : RowAt F' w' b cs sl := by
  obtain ⟨⟨arr, e, h1, h2, h3⟩, h4⟩ := h
  exact ⟨⟨arr, e, hb.trans h1, h2, h3.mono hs hc⟩, fun o ho => h4 o (hn o ho)⟩
theorem MapAt.keep {F F' : Nat → Nat → Prop} {w w' : World} {b : Nat} {es : List (V × V)} {clk : Nat} (h : MapAt F w b es clk) (hs : ∀ b o, F b o → F' b o)
    (hc : ∀ b o, F b o → w'.cell? ⟨b, o, none⟩ = w.cell? ⟨b, o, none⟩) (hb : w'.heap[b]? = w.heap[b]?) (hn : ∀ o, F' b o → F b o) : MapAt F' w' b es clk := by
  obtain ⟨⟨ms, h1, h2, h3, h4, h5, h6⟩, h7⟩ := h
  exact ⟨⟨ms, hb.trans h1, h2, h3, h4, h5, fun j k v m hj hm => let ⟨x, y, z⟩ := h6 j k v m hj hm; ⟨x.mono hs hc, y.mono hs hc, z⟩⟩, fun o ho => h7 o (hn o ho)⟩

/-- One block b may turn (and blocks may come); nothing else does. -/
theorem Sim.change {F F' : Nat → Nat → Prop} {σ : Store} {w w' : World} (b : Nat) (h : Sim F σ w) (hs : ∀ b o, F b o → F' b o)
    (hc : ∀ b o, F b o → w'.cell? ⟨b, o, none⟩ = w.cell? ⟨b, o, none⟩) (hz : w.heap.size ≤ w'.heap.size)
    (hb : ∀ k, k ≠ b → k < w.heap.size → w'.heap[k]? = w.heap[k]?) (hn : ∀ k o, k ≠ b → F' k o → F k o) (hlt : ∀ o, F' b o → b < w'.heap.size) : Sim F' (σ.erase b) w' where
  froz k o hk := by
    by_cases e : k = b
    · subst e; exact hlt o hk
    · exact Nat.lt_of_lt_of_le (h.froz k o (hn k o e hk)) hz
  row k cs sl hk := by
    have e : k ≠ b := by rintro rfl; simp at hk
    rw [Store.rd_erase_ne σ e] at hk
    exact (h.row k cs sl hk).keep hs hc (hb k e (h.rlt hk)) (fun o => hn k o e)
  used k n t hk := by
    have e : k ≠ b := by rintro rfl; simp at hk
    rw [Store.get_erase_ne σ e] at hk
    obtain ⟨⟨arr, ty, h1, h2⟩, h3⟩ := h.used k n t hk
    exact ⟨⟨arr, ty, (hb k e (h.lt hk)).trans h1, h2⟩, fun o ho => h3 o (hn k o e ho)⟩
  map k es c hk := by
    have e : k ≠ b := by rintro rfl; simp at hk
    rw [Store.rd_erase_ne σ e] at hk
    exact (h.map k es c hk).keep hs hc (hb k e (h.rlt hk)) (fun o => hn k o e)
  iter k m s seen hk := by
    have e : k ≠ b := by rintro rfl; simp at hk
    rw [Store.get_erase_ne σ e] at hk
    obtain ⟨⟨ss, h1, h2, h3⟩, h4⟩ := h.iter k m s seen hk
    refine ⟨⟨ss, (hb k e (h.lt hk)).trans h1, ⟨⟨h2.1.1, fun r hm => Nat.lt_of_lt_of_le (h2.1.2 r hm) hz⟩, fun r es c hm hr => h2.2 r es c hm (Store.erase_le σ b _ _ hr)⟩, fun r es hm hr => ?_⟩, fun o ho => h4 o (hn k o e ho)⟩
    have er : r ≠ b := by rintro rfl; simp at hr
    rw [Store.get_erase_ne σ er] at hr
    obtain ⟨ms, h5, h6⟩ := h3 r es hm hr
    exact ⟨ms, (hb r er (h.lt hr)).trans h5, h6⟩

theorem Ext.change {F F' : Nat → Nat → Prop} {σ σ' : Store} {w w' : World} (b : Nat) (hs : ∀ b o, F b o → F' b o)
    (hc : ∀ b o, F b o → w'.cell? ⟨b, o, none⟩ = w.cell? ⟨b, o, none⟩) (hz : w.heap.size ≤ w'.heap.size)
    (hb : ∀ k, k ≠ b → k < w.heap.size → w'.heap[k]? = w.heap[k]?) (hin : Ob.still (σ b) = false ∨ w.heap.size ≤ b) (hd : ∀ k, k ≠ b → σ' k = σ k)
    (hdr : w.drawn ≤ w'.drawn) (ho : w'.os = w.os) (ht : w'.tape = w.tape) (hp : w'.output = w.output) : Ext F σ w F' σ' w' where
  sub := hs
  cell := hc
  keep k hk hn := hb k (by rintro rfl; rcases hin with h | h; rw [h] at hn; cases hn; omega) hk
  stl k hk hn := by
    rw [hd k (by rintro rfl; rcases hin with h | h; rw [h] at hn; cases hn; omega)]; exact hn
  dom k hk := by
    by_cases e : k = b
    · subst e
      rcases hin with h | h
      · exact .inl (by intro hn; rw [hn] at h; cases h)
      · exact .inr h
    · exact .inl (by rwa [hd k e] at hk)
  size := hz
  drawn := hdr
  os := ho
  tape := ht
  output := hp

/-- An object more in the store, where no iterator looks at it. -/
theorem Sim.put_row {F : Nat → Nat → Prop} {σ : Store} {w : World} {b : Nat} {cs : List V} {sl : Nat} (h : Sim F (σ.erase b) w) (hr : RowAt F w b cs sl) : Sim F (σ.set b (.row cs sl)) w where
  froz := h.froz
  row k cs' sl' hk := by
    by_cases e : k = b
    · subst e; simp [Ob.strip] at hk; obtain ⟨rfl, rfl⟩ := hk; exact hr
    · rw [Store.rd_set_ne σ _ e, ← Store.rd_erase_ne σ e] at hk; exact h.row k cs' sl' hk
  used k n t hk := by
    by_cases e : k = b
    · subst e; simp at hk
    · rw [Store.get_set_ne σ _ e, ← Store.get_erase_ne σ e] at hk; exact h.used k n t hk
  map k es c hk := by
    by_cases e : k = b
    · subst e; simp [Ob.strip] at hk
    · rw [Store.rd_set_ne σ _ e, ← Store.rd_erase_ne σ e] at hk; exact h.map k es c hk
  iter k m s seen hk := by
    by_cases e : k = b
    · subst e; simp at hk
    · rw [Store.get_set_ne σ _ e, ← Store.get_erase_ne σ e] at hk
      obtain ⟨⟨ss, h1, h2, h3⟩, h4⟩ := h.iter k m s seen hk
      refine ⟨⟨ss, h1, ⟨h2.1, fun r es c hm hr' => ?_⟩, fun r es hm hr' => ?_⟩, h4⟩
      · by_cases er : r = b
        · subst er; simp at hr'
        · rw [Store.get_set_ne σ _ er, ← Store.get_erase_ne σ er] at hr'; exact h2.2 r es c hm hr'
      by_cases er : r = b
      · subst er; simp at hr'
      · rw [Store.get_set_ne σ _ er, ← Store.get_erase_ne σ er] at hr'; exact h3 r es hm hr'
theorem Sim.put_used {F : Nat → Nat → Prop} {σ : Store} {w : World} {b n t : Nat} (h : Sim F (σ.erase b) w) (hr : UsedAt F w b n t) : Sim F (σ.set b (.used n t)) w where
  froz := h.froz
  row k cs' sl' hk := by
    by_cases e : k = b
    · subst e; simp [Ob.strip] at hk
    · rw [Store.rd_set_ne σ _ e, ← Store.rd_erase_ne σ e] at hk; exact h.row k cs' sl' hk
  used k n t hk := by
    by_cases e : k = b
    · subst e; simp at hk; obtain ⟨rfl, rfl⟩ := hk; exact hr
    · rw [Store.get_set_ne σ _ e, ← Store.get_erase_ne σ e] at hk; exact h.used k n t hk
  map k es c hk := by
    by_cases e : k = b
    · subst e; simp [Ob.strip] at hk
    · rw [Store.rd_set_ne σ _ e, ← Store.rd_erase_ne σ e] at hk; exact h.map k es c hk
  iter k m s seen hk := by
    by_cases e : k = b
    · subst e; simp at hk
    · rw [Store.get_set_ne σ _ e, ← Store.get_erase_ne σ e] at hk
      obtain ⟨⟨ss, h1, h2, h3⟩, h4⟩ := h.iter k m s seen hk
      refine ⟨⟨ss, h1, ⟨h2.1, fun r es c hm hr' => ?_⟩, fun r es hm hr' => ?_⟩, h4⟩
      · by_cases er : r = b
        · subst er; simp at hr'
        · rw [Store.get_set_ne σ _ er, ← Store.get_erase_ne σ er] at hr'; exact h2.2 r es c hm hr'
      by_cases er : r = b
      · subst er; simp at hr'
      · rw [Store.get_set_ne σ _ er, ← Store.get_erase_ne σ er] at hr'; exact h3 r es hm hr'
/-- A map: what iterators look at it is said beside it. -/
theorem Sim.put_map {F : Nat → Nat → Prop} {σ : Store} {w : World} {b : Nat} {es : List (V × V)} {clk : Nat} (h : Sim F (σ.erase b) w) (hr : MapAt F w b es clk)
    (hc : ∀ k since seen, k ≠ b → σ k = some (.iter (some b) since seen) → since ≤ clk)
    (hi : ∀ k since seen, k ≠ b → σ k = some (.iter (some b) since seen) → since = clk → ∃ ss : Array Nat, w.heap[k]? = some (.mapIter (some b) since ss since) ∧
      ∃ ms : Array MapEntry, w.heap[b]? = some (.map ms clk) ∧ ∀ (j : Nat) k v (e : MapEntry), es[j]? = some (k, v) → ms[j]? = some e → (e.born ∈ ss ↔ k ∈ seen) ∧ (ss.back? = some e.born ↔ seen.head? = some k)) :
    Sim F (σ.set b (.map es clk)) w where
  froz := h.froz
  row k cs' sl' hk := by
    by_cases e : k = b
    · subst e; simp [Ob.strip] at hk
    · rw [Store.rd_set_ne σ _ e, ← Store.rd_erase_ne σ e] at hk; exact h.row k cs' sl' hk
  used k n t hk := by
    by_cases e : k = b
    · subst e; simp at hk
    · rw [Store.get_set_ne σ _ e, ← Store.get_erase_ne σ e] at hk; exact h.used k n t hk
  map k es c hk := by
    by_cases e : k = b
    · subst e; simp [Ob.strip] at hk; obtain ⟨rfl, rfl⟩ := hk; exact hr
    · rw [Store.rd_set_ne σ _ e, ← Store.rd_erase_ne σ e] at hk; exact h.map k es c hk
  iter k m s seen hk := by
    by_cases e : k = b
    · subst e; simp at hk
    · rw [Store.get_set_ne σ _ e] at hk
      have hk' := hk
      rw [← Store.get_erase_ne σ e] at hk'
      obtain ⟨⟨ss, h1, h2, h3⟩, h4⟩ := h.iter k m s seen hk'
      refine ⟨⟨ss, h1, ⟨h2.1, fun r es' c hm hr' => ?_⟩, fun r es' hm hr' => ?_⟩, h4⟩
      · by_cases er : r = b
        · subst er; simp at hr'; obtain ⟨_, rfl⟩ := hr'; subst hm; exact hc k s seen e hk
        · rw [Store.get_set_ne σ _ er, ← Store.get_erase_ne σ er] at hr'; exact h2.2 r es' c hm hr'
      by_cases er : r = b
      · subst er; simp at hr'; obtain ⟨rfl, rfl⟩ := hr'
        subst hm
        obtain ⟨ss', g1, ms, g2, g3⟩ := hi k clk seen e hk rfl
        rw [h1] at g1; injection g1 with g1; injection g1 with _ _ g1 _; subst g1
        exact ⟨ms, g2, g3⟩
      · rw [Store.get_set_ne σ _ er, ← Store.get_erase_ne σ er] at hr'; exact h3 r es' hm hr'
/-- An iterator. -/
theorem Sim.put_iter {F : Nat → Nat → Prop} {σ : Store} {w : World} {b : Nat} {m : Option Nat} {since : Nat} {seen : List V} (h : Sim F (σ.erase b) w)
    (hr : IterAt F w (σ.erase b) b m since seen) : Sim F (σ.set b (.iter m since seen)) w where
  froz := h.froz
  row k cs' sl' hk := by
    by_cases e : k = b
    · subst e; simp [Ob.strip] at hk
    · rw [Store.rd_set_ne σ _ e, ← Store.rd_erase_ne σ e] at hk; exact h.row k cs' sl' hk
  used k n t hk := by
    by_cases e : k = b
    · subst e; simp at hk
    · rw [Store.get_set_ne σ _ e, ← Store.get_erase_ne σ e] at hk; exact h.used k n t hk
  map k es c hk := by
    by_cases e : k = b
    · subst e; simp [Ob.strip] at hk
    · rw [Store.rd_set_ne σ _ e, ← Store.rd_erase_ne σ e] at hk; exact h.map k es c hk
  iter k m' s seen' hk := by
    have go : ∀ r es s', (σ.set b (.iter m since seen)) r = some (.map es s') → (σ.erase b) r = some (.map es s') := fun r es s' hr' => by
      by_cases er : r = b
      · subst er; simp at hr'
      · rw [Store.get_set_ne σ _ er, ← Store.get_erase_ne σ er] at hr'; exact hr'
    by_cases e : k = b
    · subst e; simp at hk; obtain ⟨rfl, rfl, rfl⟩ := hk
      obtain ⟨⟨ss, h1, h2, h3⟩, h4⟩ := hr
      exact ⟨⟨ss, h1, ⟨h2.1, fun r es c hm hr' => h2.2 r es c hm (go r es _ hr')⟩, fun r es hm hr' => h3 r es hm (go r es _ hr')⟩, h4⟩
    · rw [Store.get_set_ne σ _ e, ← Store.get_erase_ne σ e] at hk
      obtain ⟨⟨ss, h1, h2, h3⟩, h4⟩ := h.iter k m' s seen' hk
      exact ⟨⟨ss, h1, ⟨h2.1, fun r es c hm hr' => h2.2 r es c hm (go r es _ hr')⟩, fun r es hm hr' => h3 r es hm (go r es _ hr')⟩, h4⟩

end Go.Vm
