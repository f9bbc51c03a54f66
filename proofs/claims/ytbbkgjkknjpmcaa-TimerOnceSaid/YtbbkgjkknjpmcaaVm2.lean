/-
  VM 2: the code of the logic, and the weakest precondition over values and stores.
-/
import Derived.Test.YtbbkgjkknjpmcaaVm1
set_option linter.unusedSimpArgs false
set_option linter.unusedVariables false
set_option linter.unusedSectionVars false
namespace Go.Vm
open Go

inductive Opd where
  | s (n : Nat)
  | c (v : V)
  | f (k : FuncId)

def Opd.ev (env : Env) : Opd → V
  | .s n => env n
  | .c v => v
  | .f k => .fn k [] []

/-- A key: 'ag': is it a row of cells? -/
structure KSh where
  ag : Bool
  sh : List Bool

inductive VOp where
  | mv (x : Opd)
  | pick (c a b : Opd)
  | arith (op : BinOp) (x y : Opd)
  | cmp (op : BinOp) (x y : Opd)
  | divm (op : BinOp) (x y : Opd)
  | bits (op : BinOp) (x y : Opd)
  | shift (op : BinOp) (x y : Opd)
  | beq (ne : Bool) (x y : Opd)
  | pnil (mp ne : Bool) (x : Opd)
  | aeq (ne : Bool) (sh : List Bool) (x y : Opd)
  | not (x : Opd)
  | neg (x : Opd)
  | conv (k : IntKind) (x : Opd)
  | nilc (x : Opd)
  | fld (off : Nat) (x : Opd)
  | idx (e : Nat) (x i : Opd)
  | aidx (len e : Nat) (x i : Opd)
  | getf (off n : Nat) (ag : Bool) (x : Opd)
  | geti (len e : Nat) (ag : Bool) (x i : Opd)
  | sidx (x i : Opd)
  | ext (i : Nat) (x : Opd)
  | slc (e : Nat) (x : Opd) (lo hi mx : Option Opd)
  | bld (zero : List V) (parts : List (Nat × Nat × Opd))
  | len (x : Opd)
  | mkf (f : FuncId) (first cap : List Opd)
  | minm (mx : Bool) (x y : Opd)
  -- these look into the store
  | load (n : Option Nat) (x : Opd)
  | fload (n : Option Nat) (x : Opd)
  | look (S : KSh) (zero : V) (ok : Bool) (m k : Opd)
  | mlen (m : Opd)
  | entry (it : Opd)
  -- these act
  | alloc (zero : List V)
  | box (n : Nat) (x : Opd)
  | fbox (n : Nat) (x : Opd)
  | bsl (zero : List V) (e len : Nat) (parts : List (Nat × Opd))
  | store (n : Nat) (p x : Opd)
  | fst (d n : Nat) (x : Opd)
  | app (e bytes : Nat) (s x : Opd)
  | appr (e bytes : Nat) (s x : Opd)
  | mapup (S : KSh) (m k x : Opd)
  | del (S : KSh) (m k : Opd)
  | mkmap
  | mksl (zero : List V) (e bytes : Nat) (l c : Opd)
  | copy (e : Nat) (d s : Opd)
  | range (m : Opd)
  | next (it : Opd)
  | call (f : Opd) (args : List Opd)

structure VOper where
  dst : Option Nat
  op : VOp
  guard : Option (Nat × Bool) := none
  agr : Bool := false

inductive VC where
  | skip
  | seq (a b : VC)
  | cond (c : Opd) (t e : VC)
  | block (id : Nat) (b : VC)
  | loop (b : VC)
  | exit (id : Nat)
  | ret
  | reg (ops : List VOper)
  | draw (ops : List VOper) (order : List Nat)

inductive VExit where
  | normal
  | exit (id : Nat)
  | ret

/-- What the model can relate to something: its numbers fit, its lists are not too long. -/
def V.Ok (v : V) : Prop := ∃ F w x, VR F w v x
def Store.Ok (σ : Store) : Prop := ∃ F w, Sim F σ w

/-- A function with a body, to be called as any other. -/
def okF (P : Program) (f : FuncId) : Bool := (P.funcs[f]?).any fun fn => fn.body.isSome && fn.name != "runtime.NumGoroutine"

def VCalls (P : Program) (f : FuncId) (args : List V) (σ : Store) (R : V → Store → Prop) : Prop :=
  okF P f = true ∧ ∀ (F : Nat → Nat → Prop) (w : World) (xs : Array Value), Sim F σ w → xs.size = args.length → (∀ (j : Nat) v (x : Value), args[j]? = some v → xs[j]? = some x → VR F w v x) →
    Calls P f xs w fun e w' => ∃ x v σ' F', e = .returned x ∧ R v σ' ∧ VR F' w' v x ∧ Sim F' σ' w' ∧ Ext F σ w F' σ' w'

theorem VCalls.mono {P : Program} {f : FuncId} {args : List V} {σ : Store} {R R' : V → Store → Prop} (h : VCalls P f args σ R) (hr : ∀ v σ', R v σ' → R' v σ') : VCalls P f args σ R' :=
  ⟨h.1, fun F w xs hs hz hv => (h.2 F w xs hs hz hv).mono fun _ _ ⟨x, v, σ', F', h1, h2, h3⟩ => ⟨x, v, σ', F', h1, hr _ _ h2, h3⟩⟩

/-- Equality of cells that can be compared by looking: numbers (true), truth values (false). -/
def V.ceq : Bool → V → V → Option Bool
  | true, .int k a, .int k' b => if k = k' then some (a == b) else none
  | false, .bool a, .bool b => some (a == b)
  | _, _, _ => none
def V.ceqs : List Bool → List V → List V → Option Bool
  | [], [], [] => some true
  | s :: ss, x :: xs, y :: ys => match x.ceq s y, V.ceqs ss xs ys with
    | some a, some b => some (a && b)
    | _, _ => none
  | _, _, _ => none

def V.keq (S : KSh) (x y : V) : Option Bool :=
  if S.ag = true then match x, y with
    | .agg xs, .agg ys => V.ceqs S.sh xs ys
    | _, _ => none
  else match x, y with
    | .agg _, _ => none
    | _, .agg _ => none
    | x, y => V.ceqs S.sh [x] [y]

def fill (cells : List V) : List (Nat × Nat × List V) → Option (List V)
  | [] => some cells
  | (off, size, vs) :: rest => if vs.length = size ∧ off + size ≤ cells.length then fill (cells.take off ++ vs ++ cells.drop (off + size)) rest else none

def V.asInt : V → Option Int
  | .int _ n => some n
  | _ => none

def grant (σ : Store) (own : Option Nat) (n tot : Nat) : Store :=
  match own with
  | none => σ
  | some b => σ.set b (.used n tot)

/-- The elements of a slice that is read. -/
def elems (σ : Store) (e : Nat) : V → Option (List (List V))
  | .fz e' xs _ _ => if e' = e then some xs else none
  | .sl b off len _ => match σ.rd b with
    | some (.row cs _) => if off + len * e ≤ cs.length then some ((List.range len).map fun i => (cs.drop (off + i * e)).take e) else none
    | _ => none
  | _ => none

noncomputable instance instDecEqV : DecidableEq V := fun a b => Classical.propDecidable (a = b)

section
noncomputable def mget (k : V) (es : List (V × V)) : Option V := (es.find? fun p => decide (p.1 = k)).map (·.2)
noncomputable def mput (k v : V) (es : List (V × V)) : List (V × V) := if k ∈ es.map (·.1) then es.map fun p => if p.1 = k then (k, v) else p else es ++ [(k, v)]
noncomputable def mdel (k : V) (es : List (V × V)) : List (V × V) := es.filter fun p => decide (p.1 ≠ k)
noncomputable def mclk (k : V) (es : List (V × V)) (clk : Nat) : Nat := if k ∈ es.map (·.1) then clk else clk + 1
end

def arith : BinOp → Int → Int → Option Int
  | .add, a, b => some (a + b)
  | .sub, a, b => some (a - b)
  | .mul, a, b => some (a * b)
  | _, _, _ => none
def cmpI : BinOp → Int → Int → Option Bool
  | .eql, a, b => some (a == b)
  | .neq, a, b => some (a != b)
  | .lss, a, b => some (decide (a < b))
  | .leq, a, b => some (decide (a ≤ b))
  | .gtr, a, b => some (decide (a > b))
  | .geq, a, b => some (decide (a ≥ b))
  | _, _, _ => none

/-- A slice's bounds: low, high, max. -/
def bounds (len cap : Nat) (lo hi mx : Option V) (K : Nat → Nat → Nat → Prop) : Prop :=
  ∃ l h m : Nat, (match mx with | none => m = cap | some v => ∃ k, v = .int k (m : Int)) ∧ (match hi with | none => h = len | some v => ∃ k, v = .int k (h : Int)) ∧
    (match lo with | none => l = 0 | some v => ∃ k, v = .int k (l : Int)) ∧ l ≤ h ∧ h ≤ len ∧ h ≤ m ∧ m ≤ cap ∧ (mx.isSome = true → hi.isSome = true) ∧ K l h m

/-- One cell, or so many. -/
def ldK (n : Option Nat) (cs : List V) (Q : V → Prop) : Prop := match n with
  | none => ∃ v, cs[0]? = some v ∧ Q v
  | some n => n ≤ cs.length ∧ Q (.agg (cs.take n))

/-- One operation: what is asked, and what follows. -/
def vop (P : Program) (o : VOp) (ev : Opd → V) (σ : Store) (K : V → Store → Prop) : Prop :=
  match o with
  | .mv x => K (ev x) σ
  | .pick c a b => match ev c with | .bool t => K (if t = true then ev a else ev b) σ | _ => False
  | .arith op x y => match ev x, ev y with | .int k a, .int k' b => k = k' ∧ ∃ r, arith op a b = some r ∧ K (.int k (k.wrap r)) σ | _, _ => False
  | .cmp op x y => match ev x, ev y with | .int k a, .int k' b => k = k' ∧ ∃ r, cmpI op a b = some r ∧ K (.bool r) σ | _, _ => False
  | .divm op x y => match ev x, ev y with
    | .int k a, .int k' b => k = k' ∧ b ≠ 0 ∧ (match op with | .quo => K (.int k (k.wrap (a.tdiv b))) σ | .rem => K (.int k (a.tmod b)) σ | _ => False) | _, _ => False
  | .bits op x y => match ev x, ev y with
    | .int k a, .int k' b => k = k' ∧ (op = .and ∨ op = .or ∨ op = .xor ∨ op = .andNot) ∧ K (.int k (bits op k a b)) σ | _, _ => False
  | .shift op x y => match ev x, ev y with
    | .int k a, .int _ b => 0 ≤ b ∧ (match op with | .shl => K (.int k (k.wrap (a * 2 ^ (min b.toNat k.bits)))) σ | .shr => K (.int k (a.fdiv (2 ^ (min b.toNat k.bits)))) σ | _ => False) | _, _ => False
  | .beq ne x y => match ev x, ev y with | .bool a, .bool b => K (.bool (if ne = true then !(a == b) else a == b)) σ | _, _ => False
  | .pnil mp ne x => match mp, ev x with
    | false, .nilp | true, .nilmp => K (.bool (!ne)) σ
    | false, .ptr _ _ | false, .fp _ | true, .mp _ => K (.bool ne) σ
    | _, _ => False
  | .aeq ne sh x y => match ev x, ev y with | .agg a, .agg b => ∃ r, V.ceqs sh a b = some r ∧ K (.bool (if ne = true then !r else r)) σ | _, _ => False
  | .not x => match ev x with | .bool b => K (.bool !b) σ | _ => False
  | .neg x => match ev x with | .int k a => K (.int k (k.wrap (0 - a))) σ | _ => False
  | .conv k x => match ev x with | .int _ a => K (.int k (k.wrap a)) σ | _ => False
  | .nilc x => match ev x with
    | .ptr b off => K (.ptr b off) σ
    | .fp cs => K (.fp cs) σ
    | _ => False
  | .fld off x => match ev x with
    | .ptr b o => K (.ptr b (o + off)) σ
    | .fp cs => K (.fp (cs.drop off)) σ
    | _ => False
  | .idx e x i => match ev x, ev i with
    | .fz e' xs _ _, .int _ n => e' = e ∧ ∃ el, 0 ≤ n ∧ xs[n.toNat]? = some el ∧ K (.fp el) σ
    | .sl b off len _, .int _ n => 0 ≤ n ∧ n < (len : Int) ∧ K (.ptr b (off + n.toNat * e)) σ
    | _, _ => False
  | .aidx len e x i => match ev x, ev i with
    | .ptr b o, .int _ n => 0 ≤ n ∧ n < (len : Int) ∧ K (.ptr b (o + n.toNat * e)) σ
    | .fp cs, .int _ n => 0 ≤ n ∧ n < (len : Int) ∧ K (.fp (cs.drop (n.toNat * e))) σ
    | _, _ => False
  | .getf off n ag x => match ev x with
    | .agg cs => if ag = true then off + n ≤ cs.length ∧ K (.agg ((cs.drop off).take n)) σ else ∃ v, cs[off]? = some v ∧ K v σ
    | _ => False
  | .geti len e ag x i => match ev x, ev i with
    | .agg cs, .int _ n => 0 ≤ n ∧ n < (len : Int) ∧ (if ag = true then n.toNat * e + e ≤ cs.length ∧ K (.agg ((cs.drop (n.toNat * e)).take e)) σ else ∃ v, cs[n.toNat * e]? = some v ∧ K v σ)
    | _, _ => False
  | .sidx x i => match ev x, ev i with | .str s, .int _ n => 0 ≤ n ∧ ∃ b : UInt8, s[n.toNat]? = some b ∧ K (.int .u8 (b.toNat : Int)) σ | _, _ => False
  | .ext i x => match ev x with | .tup vs => ∃ v, vs[i]? = some v ∧ K v σ | _ => False
  | .slc e x lo hi mx => match ev x with
    | .fz e' xs c _ => e' = e ∧ bounds xs.length c (lo.map ev) (hi.map ev) (mx.map ev) fun l h m => K (.fz e ((xs.take h).drop l) (m - l) none) σ
    | .sl b off len c => bounds len c (lo.map ev) (hi.map ev) (mx.map ev) fun l h m => l < m ∧ K (.sl b (off + l * e) (h - l) (m - l)) σ
    | _ => False
  | .bld zero parts => (∀ v ∈ zero, v.one = true) ∧ (∀ p ∈ parts, (ev p.2.2).flat = true) ∧ ∃ cs, fill zero (parts.map fun p => (p.1, p.2.1, (ev p.2.2).cells)) = some cs ∧ K (.agg cs) σ
  | .len x => match ev x with
    | .fz _ xs _ _ => K (.int .i64 (xs.length : Int)) σ
    | .sl _ _ len _ => K (.int .i64 (len : Int)) σ
    | _ => False
  | .mkf f first cap => K (.fn f (first.map ev) (cap.map ev)) σ
  | .minm mx x y => match ev x, ev y with | .int k a, .int k' b => k = k' ∧ K (.int k (if mx = true then (if b > a then b else a) else (if b < a then b else a))) σ | _, _ => False
  | .load n x => match ev x with
    | .ptr b off => ∃ cs sl, σ.rd b = some (.row cs sl) ∧ ldK n (cs.drop off) fun v => K v σ
    | .fp cs => ldK n cs fun v => K v σ
    | _ => False
  | .fload n x => match ev x with
    | .fp cs => ldK n cs fun v => K v σ
    | _ => False
  | .look S zero ok m k => ((ev k).keq S (ev k)).isSome = true ∧ match ev m with
    | .nilmp => K (if ok = true then .tup [zero, .bool false] else zero) σ
    | .mp b => ∃ es clk, σ.rd b = some (.map es clk) ∧ (∀ p ∈ es, ((ev k).keq S p.1).isSome = true) ∧ match mget (ev k) es with
      | some v => K (if ok = true then .tup [v, .bool true] else v) σ
      | none => K (if ok = true then .tup [zero, .bool false] else zero) σ
    | _ => False
  | .mlen m => match ev m with
    | .nilmp => K (.int .i64 0) σ
    | .mp b => ∃ es clk, σ.rd b = some (.map es clk) ∧ es.length ≤ 9223372036854775807 ∧ K (.int .i64 (es.length : Int)) σ
    | _ => False
  | .entry it => match ev it with
    | .ptr b 0 => ∃ r since k seen es v, σ b = some (.iter (some r) since (k :: seen)) ∧ σ r = some (.map es since) ∧ (k, v) ∈ es ∧ K (.tup [k, v]) σ
    | _ => False
  | .alloc zero => (∀ v ∈ zero, v.one = true) ∧ ∀ b, σ b = none → K (.ptr b 0) (σ.set b (.row zero 0))
  | .box n x => (ev x).flat = true ∧ (ev x).cells.length = n ∧ ∀ b, σ b = none → K (.ptr b 0) (σ.set b (.row (ev x).cells 0))
  | .fbox n x => (ev x).flat = true ∧ (ev x).cells.length = n ∧ K (.fp (ev x).cells) σ
  | .bsl zero e len parts => (∀ v ∈ zero, v.one = true) ∧ zero.length = e ∧ (∀ p ∈ parts, (ev p.2).flat = true) ∧ ∃ cs, fill ((List.replicate len zero).flatten) (parts.map fun p => (p.1 * e, e, (ev p.2).cells)) = some cs ∧
      K (.fz e ((List.range len).map fun i => (cs.drop (i * e)).take e) len none) σ
  | .store n p x => match ev p with
    | .ptr b off => (ev x).flat = true ∧ (ev x).cells.length = n ∧ ∃ cs sl, σ b = some (.row cs sl) ∧ off + n ≤ cs.length ∧
        K .und (σ.set b (.row (cs.take off ++ (ev x).cells ++ cs.drop (off + n)) sl))
    | _ => False
  | .fst d n x => match ev (.s d) with
    | .ptr b 0 => (ev x).flat = true ∧ (ev x).cells.length = n ∧ ∃ cs, σ b = some (.row cs 0) ∧ cs.length = n ∧ K (.fp (ev x).cells) (σ.erase b)
    | _ => False
  | .app e bytes s x => ∃ ys, elems σ e (ev x) = some ys ∧ match ev s with
    | .fz e' xs c own => e' = e ∧ (xs.length + ys.length) * bytes ≤ 140737488355328 ∧ (match own with
      | none => c = xs.length ∧ ∀ own' c', (∀ b, own' = some b → σ b = none ∧ xs.length + ys.length ≤ c') → (own' = none → c' = xs.length + ys.length) →
          K (.fz e (xs ++ ys) c' own') (grant σ own' ((xs.length + ys.length) * e) (c' * e))
      | some b => σ b = some (.used (xs.length * e) (c * e)) ∧ ∀ b' c', (σ.erase b) b' = none → xs.length + ys.length ≤ c' →
          K (.fz e (xs ++ ys) c' (some b')) ((σ.erase b).set b' (.used ((xs.length + ys.length) * e) (c' * e))))
    | _ => False
  | .appr e bytes s x => ∃ ys, elems σ e (ev x) = some ys ∧ match ev s with
    | .fz e' [] c none => e' = e ∧ c = 0 ∧ ys.length * bytes ≤ 140737488355328 ∧ (ys = [] → K (.fz e [] 0 none) σ) ∧ (ys ≠ [] → ∀ b' c', σ b' = none → ys.length ≤ c' →
          K (.sl b' 0 ys.length c') (σ.set b' (.row ys.flatten ((c' - ys.length) * e))))
    | .sl b 0 len c => (len + ys.length) * bytes ≤ 140737488355328 ∧ ∃ cs, cs.length = len * e ∧ σ b = some (.row cs ((c - len) * e)) ∧ ∀ b' c', (σ.erase b) b' = none → len + ys.length ≤ c' →
          K (.sl b' 0 (len + ys.length) c') ((σ.erase b).set b' (.row (cs ++ ys.flatten) ((c' - (len + ys.length)) * e)))
    | _ => False
  | .mapup S m k x => ((ev k).keq S (ev k)).isSome = true ∧ (ev x).flat = true ∧ match ev m with
    | .mp b => ∃ es clk, σ b = some (.map es clk) ∧ (∀ p ∈ es, ((ev k).keq S p.1).isSome = true) ∧ K .und (σ.set b (.map (mput (ev k) (ev x) es) (mclk (ev k) es clk)))
    | _ => False
  | .del S m k => ((ev k).keq S (ev k)).isSome = true ∧ match ev m with
    | .nilmp => K (.tup []) σ
    | .mp b => ∃ es clk, σ b = some (.map es clk) ∧ (∀ p ∈ es, ((ev k).keq S p.1).isSome = true) ∧ K (.tup []) (σ.set b (.map (mdel (ev k) es) clk))
    | _ => False
  | .mkmap => ∀ b, σ b = none → K (.mp b) (σ.set b (.map [] 0))
  | .mksl zero e bytes l c => (∀ v ∈ zero, v.one = true) ∧ zero.length = e ∧ match ev l, ev c with
    | .int _ n, .int _ m => 0 ≤ n ∧ n ≤ m ∧ n ≤ 140737488355328 ∧ m * bytes ≤ 140737488355328 ∧ m ≤ 9223372036854775807 ∧ ∀ b, σ b = none →
        K (.sl b 0 n.toNat m.toNat) (σ.set b (.row ((List.replicate n.toNat zero).flatten) ((m - n).toNat * e)))
    | _, _ => False
  | .copy e d s => match ev d with
    | .sl b off len _ => ∃ ys cs sl, elems σ e (ev s) = some ys ∧ σ b = some (.row cs sl) ∧ off + len * e ≤ cs.length ∧
        K (.int .i64 (min ys.length len : Nat)) (σ.set b (.row (cs.take off ++ (ys.take len).flatten ++ cs.drop (off + (min ys.length len) * e)) sl))
    | .fz _ [] _ _ => K (.int .i64 0) σ
    | _ => False
  | .range m => match ev m with
    | .nilmp => ∀ b, σ b = none → K (.ptr b 0) (σ.set b (.iter none 0 []))
    | .mp r => ∃ es clk, σ r = some (.map es clk) ∧ ∀ b, σ b = none → K (.ptr b 0) (σ.set b (.iter (some r) clk []))
    | _ => False
  | .next it => match ev it with
    | .ptr b 0 => (σ b = some (.iter none 0 []) ∧ K (.tup [.bool false]) σ) ∨
        ∃ r since seen es, σ b = some (.iter (some r) since seen) ∧ σ r = some (.map es since) ∧
          ((∀ p ∈ es, p.1 ∈ seen) → K (.tup [.bool false]) σ) ∧
          ∀ k v, (k, v) ∈ es → k ∉ seen → K (.tup [.bool true, k, v]) (σ.set b (.iter (some r) since (k :: seen)))
    | _ => False
  | .call f args => match ev f with
    | .fn k first cap => ∃ R, VCalls P k (first ++ args.map ev ++ cap) σ R ∧ ∀ v σ', R v σ' → v.Ok → σ'.Ok → K v σ'
    | _ => False

/-- What turns the store. -/
def VOp.acts : VOp → Bool
  | .alloc _ | .box _ _ | .store .. | .fst .. | .app .. | .appr .. | .mapup .. | .del .. | .mkmap | .mksl .. | .copy .. | .range _ | .next _ | .call .. => true
  | _ => false
/-- What looks into it. -/
def VOp.reads : VOp → Bool
  | .load .. | .look .. | .mlen _ | .entry _ => true
  | _ => false
def VOp.opds : VOp → List Opd
  | .mv x | .not x | .neg x | .conv _ x | .nilc x | .fld _ x | .getf _ _ _ x | .ext _ x | .len x | .load _ x | .fload _ x | .mlen x | .entry x | .box _ x | .fbox _ x | .range x | .next x | .pnil _ _ x => [x]
  | .pick a b c => [a, b, c]
  | .arith _ x y | .cmp _ x y | .divm _ x y | .bits _ x y | .shift _ x y | .beq _ x y | .aeq _ _ x y | .idx _ x y | .aidx _ _ x y | .geti _ _ _ x y | .sidx x y | .minm _ x y | .look _ _ _ x y | .store _ x y | .app _ _ x y | .appr _ _ x y | .del _ x y | .mksl _ _ _ x y | .copy _ x y => [x, y]
  | .slc _ x lo hi mx => x :: (lo.toList ++ hi.toList ++ mx.toList)
  | .bld _ ps => ps.map (·.2.2)
  | .bsl _ _ _ ps => ps.map (·.2)
  | .mkf _ a b => a ++ b
  | .mapup _ x y z => [x, y, z]
  | .fst d _ x => [.s d, x]
  | .alloc _ | .mkmap => []
  | .call f args => f :: args

def Env.putD (env : Env) (d : Option Nat) (v : V) : Env := match d with | some d => env.put d v | none => env

def vops (P : Program) : List VOper → (Env → Store → Prop) → Env → Store → Prop
  | [], K, env, σ => K env σ
  | o :: rest, K, env, σ => match o.guard with
    | none => vop P o.op (Opd.ev env) σ fun v σ' => (o.agr = true → σ.le σ') ∧ vops P rest K (env.putD o.dst v) σ'
    | some (g, t) => match env g with
      | .bool t' => (t' = t → vop P o.op (Opd.ev env) σ fun v σ' => (o.agr = true → σ.le σ') ∧ vops P rest K (env.putD o.dst v) σ') ∧ (t' ≠ t → vops P rest K (env.putD o.dst .und) σ)
      | _ => False

def vwp (P : Program) : VC → (VExit → Env → Store → Prop) → Env → Store → Prop
  | .skip, Q, env, σ => Q .normal env σ
  | .seq a b, Q, env, σ => vwp P a (fun x env' σ' => match x with | .normal => vwp P b Q env' σ' | .exit i => Q (.exit i) env' σ' | .ret => Q .ret env' σ') env σ
  | .cond c t e, Q, env, σ => match c.ev env with | .bool b => (b = true → vwp P t Q env σ) ∧ (b = false → vwp P e Q env σ) | _ => False
  | .block id b, Q, env, σ => vwp P b (fun x env' σ' => match x with | .normal => Q .normal env' σ' | .exit i => if i = id then Q .normal env' σ' else Q (.exit i) env' σ' | .ret => Q .ret env' σ') env σ
  | .loop b, Q, env, σ => ∃ (I : Env → Store → Prop) (μ : Env → Store → Nat), I env σ ∧ ∀ env' σ', I env' σ' →
      vwp P b (fun x env'' σ'' => match x with | .normal => I env'' σ'' ∧ μ env'' σ'' < μ env' σ' | .exit i => Q (.exit i) env'' σ'' | .ret => Q .ret env'' σ'') env' σ'
  | .exit id, Q, env, σ => Q (.exit id) env σ
  | .ret, Q, env, σ => Q .ret env σ
  | .reg ops, Q, env, σ => vops P ops (Q .normal) env σ
  | .draw ops _, Q, env, σ => vops P ops (Q .normal) env σ

end Go.Vm
