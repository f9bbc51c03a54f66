/-
  VM 18: each operation by itself.
-/
import Derived.Test.YtbbkgjkknjpmcaaVm17
set_option linter.unusedSimpArgs false
set_option linter.unusedVariables false
set_option linter.unusedSectionVars false
namespace Go.Vm
open Go

variable {P : Program} {ev : Opd → V} {σ : Store} {K : V → Store → Prop}
theorem v_mv {x : Opd} : vop P (.mv x) ev σ K = (K (ev x) σ) := rfl
theorem v_pick {c : Opd} {a : Opd} {b : Opd} : vop P (.pick c a b) ev σ K = (match ev c with | .bool t => K (if t = true then ev a else ev b) σ | _ => False) := rfl
theorem v_arith {op : BinOp} {x : Opd} {y : Opd} : vop P (.arith op x y) ev σ K = (match ev x, ev y with | .int k a, .int k' b => k = k' ∧ ∃ r, arith op a b = some r ∧ K (.int k (k.wrap r)) σ | _, _ => False) := rfl
theorem v_cmp {op : BinOp} {x : Opd} {y : Opd} : vop P (.cmp op x y) ev σ K = (match ev x, ev y with | .int k a, .int k' b => k = k' ∧ ∃ r, cmpI op a b = some r ∧ K (.bool r) σ | _, _ => False) := rfl
theorem v_divm {op : BinOp} {x : Opd} {y : Opd} : vop P (.divm op x y) ev σ K = (match ev x, ev y with
    | .int k a, .int k' b => k = k' ∧ b ≠ 0 ∧ (match op with | .quo => K (.int k (k.wrap (a.tdiv b))) σ | .rem => K (.int k (a.tmod b)) σ | _ => False) | _, _ => False) := rfl
theorem v_bits {op : BinOp} {x : Opd} {y : Opd} : vop P (.bits op x y) ev σ K = (match ev x, ev y with
    | .int k a, .int k' b => k = k' ∧ (op = .and ∨ op = .or ∨ op = .xor ∨ op = .andNot) ∧ K (.int k (bits op k a b)) σ | _, _ => False) := rfl
theorem v_shift {op : BinOp} {x : Opd} {y : Opd} : vop P (.shift op x y) ev σ K = (match ev x, ev y with
    | .int k a, .int _ b => 0 ≤ b ∧ (match op with | .shl => K (.int k (k.wrap (a * 2 ^ (min b.toNat k.bits)))) σ | .shr => K (.int k (a.fdiv (2 ^ (min b.toNat k.bits)))) σ | _ => False) | _, _ => False) := rfl
theorem v_beq {ne : Bool} {x : Opd} {y : Opd} : vop P (.beq ne x y) ev σ K = (match ev x, ev y with | .bool a, .bool b => K (.bool (if ne = true then !(a == b) else a == b)) σ | _, _ => False) := rfl
theorem v_pnil {mp : Bool} {ne : Bool} {x : Opd} : vop P (.pnil mp ne x) ev σ K = (match mp, ev x with
    | false, .nilp | true, .nilmp => K (.bool (!ne)) σ
    | false, .ptr _ _ | false, .fp _ | true, .mp _ => K (.bool ne) σ
    | _, _ => False) := rfl
theorem v_aeq {ne : Bool} {sh : List Bool} {x : Opd} {y : Opd} : vop P (.aeq ne sh x y) ev σ K = (match ev x, ev y with | .agg a, .agg b => ∃ r, V.ceqs sh a b = some r ∧ K (.bool (if ne = true then !r else r)) σ | _, _ => False) := rfl
theorem v_not {x : Opd} : vop P (.not x) ev σ K = (match ev x with | .bool b => K (.bool !b) σ | _ => False) := rfl
theorem v_neg {x : Opd} : vop P (.neg x) ev σ K = (match ev x with | .int k a => K (.int k (k.wrap (0 - a))) σ | _ => False) := rfl
theorem v_conv {k : IntKind} {x : Opd} : vop P (.conv k x) ev σ K = (match ev x with | .int _ a => K (.int k (k.wrap a)) σ | _ => False) := rfl
theorem v_nilc {x : Opd} : vop P (.nilc x) ev σ K = (match ev x with
    | .ptr b off => K (.ptr b off) σ
    | .fp cs => K (.fp cs) σ
    | _ => False) := rfl
theorem v_fld {off : Nat} {x : Opd} : vop P (.fld off x) ev σ K = (match ev x with
    | .ptr b o => K (.ptr b (o + off)) σ
    | .fp cs => K (.fp (cs.drop off)) σ
    | _ => False) := rfl
theorem v_idx {e : Nat} {x : Opd} {i : Opd} : vop P (.idx e x i) ev σ K = (match ev x, ev i with
    | .fz e' xs _ _, .int _ n => e' = e ∧ ∃ el, 0 ≤ n ∧ xs[n.toNat]? = some el ∧ K (.fp el) σ
    | .sl b off len _, .int _ n => 0 ≤ n ∧ n < (len : Int) ∧ K (.ptr b (off + n.toNat * e)) σ
    | _, _ => False) := rfl
theorem v_aidx {len : Nat} {e : Nat} {x : Opd} {i : Opd} : vop P (.aidx len e x i) ev σ K = (match ev x, ev i with
    | .ptr b o, .int _ n => 0 ≤ n ∧ n < (len : Int) ∧ K (.ptr b (o + n.toNat * e)) σ
    | .fp cs, .int _ n => 0 ≤ n ∧ n < (len : Int) ∧ K (.fp (cs.drop (n.toNat * e))) σ
    | _, _ => False) := rfl
theorem v_getf {off : Nat} {n : Nat} {ag : Bool} {x : Opd} : vop P (.getf off n ag x) ev σ K = (match ev x with
    | .agg cs => if ag = true then off + n ≤ cs.length ∧ K (.agg ((cs.drop off).take n)) σ else ∃ v, cs[off]? = some v ∧ K v σ
    | _ => False) := rfl
theorem v_geti {len : Nat} {e : Nat} {ag : Bool} {x : Opd} {i : Opd} : vop P (.geti len e ag x i) ev σ K = (match ev x, ev i with
    | .agg cs, .int _ n => 0 ≤ n ∧ n < (len : Int) ∧ (if ag = true then n.toNat * e + e ≤ cs.length ∧ K (.agg ((cs.drop (n.toNat * e)).take e)) σ else ∃ v, cs[n.toNat * e]? = some v ∧ K v σ)
    | _, _ => False) := rfl
theorem v_sidx {x : Opd} {i : Opd} : vop P (.sidx x i) ev σ K = (match ev x, ev i with | .str s, .int _ n => 0 ≤ n ∧ ∃ b : UInt8, s[n.toNat]? = some b ∧ K (.int .u8 (b.toNat : Int)) σ | _, _ => False) := rfl
theorem v_ext {i : Nat} {x : Opd} : vop P (.ext i x) ev σ K = (match ev x with | .tup vs => ∃ v, vs[i]? = some v ∧ K v σ | _ => False) := rfl
theorem v_bld {zero : List V} {parts : List (Nat × Nat × Opd)} : vop P (.bld zero parts) ev σ K = ((∀ v ∈ zero, v.one = true) ∧ (∀ p ∈ parts, (ev p.2.2).flat = true) ∧ ∃ cs, fill zero (parts.map fun p => (p.1, p.2.1, (ev p.2.2).cells)) = some cs ∧ K (.agg cs) σ) := rfl
theorem v_len {x : Opd} : vop P (.len x) ev σ K = (match ev x with
    | .fz _ xs _ _ => K (.int .i64 (xs.length : Int)) σ
    | .sl _ _ len _ => K (.int .i64 (len : Int)) σ
    | _ => False) := rfl
theorem v_mkf {f : FuncId} {first : List Opd} {cap : List Opd} : vop P (.mkf f first cap) ev σ K = (K (.fn f (first.map ev) (cap.map ev)) σ) := rfl
theorem v_minm {mx : Bool} {x : Opd} {y : Opd} : vop P (.minm mx x y) ev σ K = (match ev x, ev y with | .int k a, .int k' b => k = k' ∧ K (.int k (if mx = true then (if b > a then b else a) else (if b < a then b else a))) σ | _, _ => False) := rfl
theorem v_load {n : Option Nat} {x : Opd} : vop P (.load n x) ev σ K = (match ev x with
    | .ptr b off => ∃ cs sl, σ.rd b = some (.row cs sl) ∧ ldK n (cs.drop off) fun v => K v σ
    | .fp cs => ldK n cs fun v => K v σ
    | _ => False) := rfl
theorem v_fload {n : Option Nat} {x : Opd} : vop P (.fload n x) ev σ K = (match ev x with
    | .fp cs => ldK n cs fun v => K v σ
    | _ => False) := rfl
theorem v_look {S : KSh} {zero : V} {ok : Bool} {m : Opd} {k : Opd} : vop P (.look S zero ok m k) ev σ K = (((ev k).keq S (ev k)).isSome = true ∧ match ev m with
    | .nilmp => K (if ok = true then .tup [zero, .bool false] else zero) σ
    | .mp b => ∃ es clk, σ.rd b = some (.map es clk) ∧ (∀ p ∈ es, ((ev k).keq S p.1).isSome = true) ∧ match mget (ev k) es with
      | some v => K (if ok = true then .tup [v, .bool true] else v) σ
      | none => K (if ok = true then .tup [zero, .bool false] else zero) σ
    | _ => False) := rfl
theorem v_mlen {m : Opd} : vop P (.mlen m) ev σ K = (match ev m with
    | .nilmp => K (.int .i64 0) σ
    | .mp b => ∃ es clk, σ.rd b = some (.map es clk) ∧ es.length ≤ 9223372036854775807 ∧ K (.int .i64 (es.length : Int)) σ
    | _ => False) := rfl
theorem v_fbox {n : Nat} {x : Opd} : vop P (.fbox n x) ev σ K = ((ev x).flat = true ∧ (ev x).cells.length = n ∧ K (.fp (ev x).cells) σ) := rfl
theorem v_store {n : Nat} {p : Opd} {x : Opd} : vop P (.store n p x) ev σ K = (match ev p with
    | .ptr b off => (ev x).flat = true ∧ (ev x).cells.length = n ∧ ∃ cs sl, σ b = some (.row cs sl) ∧ off + n ≤ cs.length ∧
        K .und (σ.set b (.row (cs.take off ++ (ev x).cells ++ cs.drop (off + n)) sl))
    | _ => False) := rfl
theorem v_mapup {S : KSh} {m : Opd} {k : Opd} {x : Opd} : vop P (.mapup S m k x) ev σ K = (((ev k).keq S (ev k)).isSome = true ∧ (ev x).flat = true ∧ match ev m with
    | .mp b => ∃ es clk, σ b = some (.map es clk) ∧ (∀ p ∈ es, ((ev k).keq S p.1).isSome = true) ∧ K .und (σ.set b (.map (mput (ev k) (ev x) es) (mclk (ev k) es clk)))
    | _ => False) := rfl
theorem v_del {S : KSh} {m : Opd} {k : Opd} : vop P (.del S m k) ev σ K = (((ev k).keq S (ev k)).isSome = true ∧ match ev m with
    | .nilmp => K (.tup []) σ
    | .mp b => ∃ es clk, σ b = some (.map es clk) ∧ (∀ p ∈ es, ((ev k).keq S p.1).isSome = true) ∧ K (.tup []) (σ.set b (.map (mdel (ev k) es) clk))
    | _ => False) := rfl

theorem bounds_hi {len cap h : Nat} {k : IntKind} {K : Nat → Nat → Nat → Prop} : bounds len cap none (some (.int k (h : Int))) none K = (h ≤ len ∧ h ≤ cap ∧ K 0 h cap) := by
  unfold bounds
  apply propext; constructor
  · rintro ⟨l, h', m, rfl, ⟨k', hh⟩, rfl, _, a, b, _, _, hk⟩
    simp at hh; obtain ⟨_, hh⟩ := hh; cases Int.ofNat.inj hh
    exact ⟨a, b, hk⟩
  · rintro ⟨a, b, hk⟩
    exact ⟨0, h, cap, rfl, ⟨k, rfl⟩, rfl, Nat.zero_le _, a, b, Nat.le_refl _, by simp, hk⟩
theorem bounds_lo {len cap l : Nat} {k : IntKind} {K : Nat → Nat → Nat → Prop} : bounds len cap (some (.int k (l : Int))) none none K = (l ≤ len ∧ len ≤ cap ∧ K l len cap) := by
  unfold bounds
  apply propext; constructor
  · rintro ⟨l', h', m, rfl, rfl, ⟨k', hh⟩, a, _, b, _, _, hk⟩
    simp at hh; obtain ⟨_, hh⟩ := hh; cases Int.ofNat.inj hh
    exact ⟨a, b, hk⟩
  · rintro ⟨a, b, hk⟩
    exact ⟨l, len, cap, rfl, rfl, ⟨k, rfl⟩, a, Nat.le_refl _, b, Nat.le_refl _, by simp, hk⟩
theorem bounds_lohi {len cap l h : Nat} {k k' : IntKind} {K : Nat → Nat → Nat → Prop} : bounds len cap (some (.int k (l : Int))) (some (.int k' (h : Int))) none K = (l ≤ h ∧ h ≤ len ∧ h ≤ cap ∧ K l h cap) := by
  unfold bounds
  apply propext; constructor
  · rintro ⟨l', h', m, rfl, ⟨_, hh⟩, ⟨_, hl⟩, a, b, c, _, _, hk⟩
    simp at hh hl; obtain ⟨_, hh⟩ := hh; obtain ⟨_, hl⟩ := hl; cases Int.ofNat.inj hh; cases Int.ofNat.inj hl
    exact ⟨a, b, c, hk⟩
  · rintro ⟨a, b, c, hk⟩
    exact ⟨l, h, cap, rfl, ⟨_, rfl⟩, ⟨_, rfl⟩, a, b, c, Nat.le_refl _, by simp, hk⟩
theorem v_slc {e : Nat} {x : Opd} {lo hi mx : Option Opd} : vop P (.slc e x lo hi mx) ev σ K = (match ev x with
    | .fz e' xs c _ => e' = e ∧ bounds xs.length c (lo.map ev) (hi.map ev) (mx.map ev) fun l h m => K (.fz e ((xs.take h).drop l) (m - l) none) σ
    | .sl b off len c => bounds len c (lo.map ev) (hi.map ev) (mx.map ev) fun l h m => l < m ∧ K (.sl b (off + l * e) (h - l) (m - l)) σ
    | _ => False) := rfl
/-- A literal of no element; of one. -/
theorem v_bsl0 {zero : List V} {e : Nat} (h1' : zero.all V.one = true) (h2 : zero.length = e) : vop P (.bsl zero e 0 []) ev σ K = K (.fz e [] 0 none) σ := by
  have h1 : ∀ v ∈ zero, v.one = true := by simpa using h1'
  simp only [vop]
  apply propext; constructor
  · rintro ⟨_, _, _, cs, hf, hk⟩; simpa using hk
  · intro hk; exact ⟨h1, h2, by simp, [], by simp [fill], by simpa using hk⟩
theorem v_bsl1 {zero : List V} {e : Nat} {x : Opd} (h1' : zero.all V.one = true) (h2 : zero.length = e) : vop P (.bsl zero e 1 [(0, x)]) ev σ K = ((ev x).flat = true ∧ (ev x).cells.length = e ∧ K (.fz e [(ev x).cells] 1 none) σ) := by
  have h1 : ∀ v ∈ zero, v.one = true := by simpa using h1'
  simp only [vop]
  have hz : (List.replicate 1 zero).flatten = zero := by simp
  apply propext; constructor
  · rintro ⟨_, _, hfl, cs, hf, hk⟩
    rw [hz] at hf
    simp only [List.map_cons, List.map_nil, Nat.zero_mul, fill] at hf
    split at hf
    · rename_i hc
      simp only [List.take_zero, List.nil_append, Nat.zero_add, Option.some.injEq] at hf
      refine ⟨hfl (0, x) (by simp), hc.1, ?_⟩
      subst hf
      rw [show List.drop e zero = [] from List.drop_eq_nil_of_le (by omega), List.append_nil] at hk
      have : (List.range 1).map (fun i => (((ev x).cells).drop (i * e)).take e) = [(ev x).cells] := by simp [List.range_succ, ← hc.1]
      rw [this] at hk; exact hk
    · cases hf
  · rintro ⟨a, b, hk⟩
    refine ⟨h1, h2, by simpa using a, (ev x).cells, ?_, ?_⟩
    · rw [hz]
      simp only [List.map_cons, List.map_nil, Nat.zero_mul, fill]
      rw [if_pos ⟨b, by omega⟩]
      simp [h2, List.drop_eq_nil_of_le]
    · have : (List.range 1).map (fun i => (((ev x).cells).drop (i * e)).take e) = [(ev x).cells] := by simp [List.range_succ, ← b]
      rw [this]; exact hk
/-- A variable that is written once. -/
theorem o_var {P : Program} {rest : List VOper} {K : Env → Store → Prop} {env : Env} {σ : Store} {d n : Nat} {zero : List V} {x : Opd} (h1 : ∀ v ∈ zero, v.one = true) (h2 : zero.length = n) (hx : x ≠ .s d)
    (hf : (x.ev env).flat = true) (hn : (x.ev env).cells.length = n) (h : vops P rest K (env.put d (.fp (x.ev env).cells)) σ) :
    vops P (⟨some d, .alloc zero, none, false⟩ :: ⟨some d, .fst d n x, none, false⟩ :: rest) K env σ := by
  rw [o_none]
  refine ⟨h1, fun b hb => ?_⟩
  rw [k_some, o_none]
  have hev : Opd.ev (env.put d (.ptr b 0)) x = Opd.ev env x := by
    cases x with
    | s m => simp only [Opd.ev]; exact Env.get_put_ne _ _ (fun e => hx (by rw [e]))
    | c v => rfl
    | f k => rfl
  have hd : Opd.ev (env.put d (.ptr b 0)) (.s d) = .ptr b 0 := by simp [Opd.ev]
  simp only [vop, hd, hev]
  refine ⟨hf, hn, zero, by simp, h2, ?_⟩
  rw [Store.set_erase_new _ _ hb, k_some]
  have : (env.put d (.ptr b 0)).put d (.fp (x.ev env).cells) = env.put d (.fp (x.ev env).cells) := by
    funext i; by_cases h : i = d <;> simp [Env.put, h]
  rw [this]; exact h
/-- An append to a slice that is only appended to: there is the leave, or no room. -/
def OwnOk (σ : Store) (e n c : Nat) (own : Option Nat) : Prop := (own = none → c = n) ∧ ∀ o, own = some o → σ o = some (.used (n * e) (c * e))
/-- All is kept but (it may be) one block. -/
def Kept (σ σ' : Store) (own : Option Nat) : Prop := ∀ k o, own ≠ some k → σ k = some o → σ' k = some o
/-- The leave is the old one, or new. -/
def Newly (σ : Store) (own own' : Option Nat) : Prop := ∀ o, own' = some o → own = some o ∨ σ o = none
theorem v_app {P : Program} {ev : Opd → V} {σ : Store} {K : V → Store → Prop} {e bytes c : Nat} {s x : Opd} {xs ys : List (List V)} {own : Option Nat} (hs : ev s = .fz e xs c own) (hy : elems σ e (ev x) = some ys)
    (hb : (xs.length + ys.length) * bytes ≤ 140737488355328) (ho : OwnOk σ e xs.length c own)
    (hk : ∀ c' own' σ', OwnOk σ' e (xs ++ ys).length c' own' → Kept σ σ' own → Newly σ own own' → K (.fz e (xs ++ ys) c' own') σ') : vop P (.app e bytes s x) ev σ K := by
  simp only [vop]
  refine ⟨ys, hy, ?_⟩
  rw [hs]
  refine ⟨rfl, hb, ?_⟩
  cases own with
  | none =>
    refine ⟨ho.1 rfl, fun own' c' h1 h2 => hk c' own' _ ⟨fun h => by rw [h2 h]; simp, fun o h => ?_⟩ ?_ (fun o h => .inr (h1 o h).1)⟩
    · subst h; simp [grant]
    · cases own' with
      | none => exact fun _ _ _ h => h
      | some b => exact fun k o _ h => Store.le_set σ _ (h1 b rfl).1 k o h
  | some b =>
    refine ⟨ho.2 b rfl, fun b' c' h1 h2 => hk c' (some b') _ ⟨(by simp), fun o h => by cases h; simp⟩ ?_ ?_⟩
    · intro k o hu hk'
      have hkb : k ≠ b := fun e => hu (by rw [e])
      have hkb' : k ≠ b' := by rintro rfl; rw [Store.get_erase_ne _ hkb, hk'] at h1; cases h1
      rw [Store.get_set_ne _ _ hkb', Store.get_erase_ne _ hkb]; exact hk'
    · intro o h
      cases h
      by_cases e : b' = b
      · exact .inl (by rw [e])
      · rw [Store.get_erase_ne _ e] at h1; exact .inr h1
theorem v_mkmap' {P : Program} {ev : Opd → V} {σ : Store} {K : V → Store → Prop} (hk : ∀ b, σ b = none → K (.mp b) (σ.set b (.map [] 0))) : vop P .mkmap ev σ K := hk
theorem v_box' {P : Program} {ev : Opd → V} {σ : Store} {K : V → Store → Prop} {n : Nat} {x : Opd} (h1 : (ev x).flat = true) (h2 : (ev x).cells.length = n) (hk : ∀ b, σ b = none → K (.ptr b 0) (σ.set b (.row (ev x).cells 0))) : vop P (.box n x) ev σ K := ⟨h1, h2, hk⟩
theorem v_alloc' {P : Program} {ev : Opd → V} {σ : Store} {K : V → Store → Prop} {zero : List V} (h1 : zero.all V.one = true) (hk : ∀ b, σ b = none → K (.ptr b 0) (σ.set b (.row zero 0))) : vop P (.alloc zero) ev σ K := ⟨by simpa using h1, hk⟩
theorem v_range' {P : Program} {ev : Opd → V} {σ : Store} {K : V → Store → Prop} {x : Opd} {r clk : Nat} {es : List (V × V)} (h : ev x = .mp r) (h2 : σ r = some (.map es clk))
    (hk : ∀ b, σ b = none → K (.ptr b 0) (σ.set b (.iter (some r) clk []))) : vop P (.range x) ev σ K := by
  simp only [vop, h]; exact ⟨es, clk, h2, hk⟩
theorem v_next' {P : Program} {ev : Opd → V} {σ : Store} {K : V → Store → Prop} {x : Opd} {b r since : Nat} {es : List (V × V)} {seen : List V} (h : ev x = .ptr b 0) (h1 : σ b = some (.iter (some r) since seen)) (h2 : σ r = some (.map es since))
    (hs : (∀ p ∈ es, p.1 ∈ seen) → K (.tup [.bool false]) σ) (hg : ∀ k v, (k, v) ∈ es → k ∉ seen → K (.tup [.bool true, k, v]) (σ.set b (.iter (some r) since (k :: seen)))) : vop P (.next x) ev σ K := by
  simp only [vop, h]; exact .inr ⟨r, since, seen, es, h1, h2, hs, hg⟩
theorem v_entry' {P : Program} {ev : Opd → V} {σ : Store} {K : V → Store → Prop} {x : Opd} {b r since : Nat} {es : List (V × V)} {k v : V} {seen : List V} (h : ev x = .ptr b 0) (h1 : σ b = some (.iter (some r) since (k :: seen))) (h2 : σ r = some (.map es since))
    (hm : (k, v) ∈ es) (hk : K (.tup [k, v]) σ) : vop P (.entry x) ev σ K := by
  simp only [vop, h]; exact ⟨r, since, k, seen, es, v, h1, h2, hm, hk⟩
theorem Kept.le {σ σ' : Store} (h : Kept σ σ' none) : σ.le σ' := fun k o hk => h k o (by simp) hk

end Go.Vm
