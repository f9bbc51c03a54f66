/-
  The sort: bits.Len, nextPowerOfTwo, xorshift.Next, breakPatternsCmpFunc.
-/
import Derived.Test.YtbbkgjkknjpmcaaSort3
import Derived.Sort.Lot0
set_option linter.unusedSimpArgs false
set_option linter.unusedVariables false
set_option linter.unusedSectionVars false
namespace Go.Vm.Srt
open Go Go.Vm Go.Sort

variable {P : Program} {e : Nat} {d : Row} {φ : Nat → Nat} {b sl c : Nat} {σ0 σ : Store} {T : List V → Prop} {cf : List V → List V → Int} {k : FuncId} {first cap : List V}

theorem lenTab_is : ∀ x : Fin 256, ∃ y ∈ lenTab[x.val]?, y.toNat ≤ 8 ∧ (1 ≤ x.val → 2 ^ y.toNat ≤ 2 * x.val) := by decide +kernel
theorem lenTab_ok {x : Nat} (h : x < 256) : ∃ y : UInt8, lenTab[x]? = some y ∧ y.toNat ≤ 8 ∧ (1 ≤ x → 2 ^ y.toNat ≤ 2 * x) := by
  obtain ⟨y, h1, h2⟩ := lenTab_is ⟨x, h⟩
  exact ⟨y, by simpa using h1, h2⟩
theorem wshr (m s : Nat) (hs : s < 64) : ((m : Nat) : Int).fdiv (2 ^ (min ((s : Nat) : Int).toNat IntKind.u64.bits)) = ((m / 2 ^ s : Nat) : Int) := by
  have : min ((s : Nat) : Int).toNat IntKind.u64.bits = s := by
    rw [Int.toNat_natCast]; show min s 64 = s; omega
  rw [this, Int.fdiv_eq_ediv_of_nonneg _ (by exact_mod_cast Nat.zero_le _)]
  simp
theorem wrapu {n : Nat} (h : n < 18446744073709551616) : IntKind.u64.wrap (n : Int) = (n : Int) := by
  have : IntKind.u64.wrap (n : Int) = (n : Int) % 18446744073709551616 := rfl
  rw [this]; omega
theorem wrapu8 {n : Nat} (h : n < 256) : IntKind.u8.wrap (n : Int) = (n : Int) := by
  have : IntKind.u8.wrap (n : Int) = (n : Int) % 256 := rfl
  rw [this]; omega
theorem wraps {n : Nat} (h : n ≤ 140737488355328) : IntKind.i64.wrap (n : Int) = (n : Int) := wrap64 (by omega) (by omega)

theorem len64_do (L : Lays P e φ) (n : Nat) (hn : n < 18446744073709551616) :
    VCalls P (φ 38) [.int .u64 n] σ (fun v σ' => ∃ r : Nat, v = .int .i64 r ∧ r ≤ 64 ∧ (1 ≤ n → 2 ^ r ≤ 2 * n) ∧ σ' = σ) := by
  refine vcalls_of L.c38 (fun _ hok => ?_)
  have fin : ∀ (env : Env) (x acc : Nat), env 0 = .int .u64 x → env 2 = .int .i64 acc → x < 256 → acc ≤ 56 → (1 ≤ n → 1 ≤ x ∧ 2 ^ acc * x ≤ n) →
      vwp P (vc38_4 e φ) (vend [2] (Rets fun v σ' => ∃ r : Nat, v = .int .i64 r ∧ r ≤ 64 ∧ (1 ≤ n → 2 ^ r ≤ 2 * n) ∧ σ' = σ)) env σ := by
    intro env x acc e0 e2 hx ha hle
    obtain ⟨y, h1, h2, h3⟩ := lenTab_ok hx
    simp only [vsA, arith, cmpI, ldK, V.flat, V.one, V.cells, ↓reduceIte, reduceCtorEq, Nat.reduceEqDiff, Nat.reduceLeDiff, Nat.reduceAdd, Nat.reduceMul, fill, vc38, vc38_1, vc38_2, vc38_3, vc38_4, vc38_5, vc38_101, vc38_102, vc38_103, vc38_104, vc38_105, vc38_106, vc38_107, vc38_108, vc38_109, vc38_110, vc38_111, vc38_112, e0, e2, wrapu8 hx, show ((0 : Int) ≤ (x : Int)) = True by simp]
    refine ⟨y, h1, ?_⟩
    simp only [vsA, arith, cmpI, ldK, V.flat, V.one, V.cells, ↓reduceIte, reduceCtorEq, Nat.reduceEqDiff, Nat.reduceLeDiff, Nat.reduceAdd, Nat.reduceMul, fill, vc38, vc38_1, vc38_2, vc38_3, vc38_4, vc38_5, vc38_101, vc38_102, vc38_103, vc38_104, vc38_105, vc38_106, vc38_107, vc38_108, vc38_109, vc38_110, vc38_111, vc38_112, e0, e2, wraps (show y.toNat ≤ 140737488355328 by omega), wadd (show acc ≤ 140737488355328 by omega) (show y.toNat ≤ 140737488355328 by omega)]
    refine Rets.of ⟨acc + y.toNat, rfl, by omega, fun h => ?_, rfl⟩
    obtain ⟨g1, g2⟩ := hle h
    have g3 := h3 g1
    rw [Nat.pow_add]
    have : 2 ^ acc * 2 ^ y.toNat ≤ 2 ^ acc * (2 * x) := Nat.mul_le_mul_left _ g3
    have e1 : 2 ^ acc * (2 * x) = 2 * (2 ^ acc * x) := by rw [Nat.mul_left_comm]
    omega
  have s1 := fun m => wshr m 32 (by omega)
  have s2 := fun m => wshr m 16 (by omega)
  have s3 := fun m => wshr m 8 (by omega)
  have k0 : IntKind.i64.wrap (32 + 16) = 48 := by decide
  have k1 : IntKind.i64.wrap (48 + 8) = 56 := by decide
  have k2 : IntKind.i64.wrap (32 + 8) = 40 := by decide
  have k3 : IntKind.i64.wrap (0 + 16) = 16 := by decide
  have k4 : IntKind.i64.wrap (16 + 8) = 24 := by decide
  have k5 : IntKind.i64.wrap (0 + 8) = 8 := by decide
  have z1 : ((0 : Int) ≤ 32) = True := by simp
  have z2 : ((0 : Int) ≤ 16) = True := by simp
  have z3 : ((0 : Int) ≤ 8) = True := by simp
  have step3 : ∀ (env : Env) (x acc : Nat), env 0 = .int .u64 x → env 2 = .int .i64 acc → x < 65536 → acc ≤ 48 → (1 ≤ n → 1 ≤ x ∧ 2 ^ acc * x ≤ n) →
      vwp P (vc38_3 e φ) (vend [2] (Rets fun v σ' => ∃ r : Nat, v = .int .i64 r ∧ r ≤ 64 ∧ (1 ≤ n → 2 ^ r ≤ 2 * n) ∧ σ' = σ)) env σ := by
    intro env x acc e0 e2 hx ha hle
    by_cases c3 : x ≥ 256
    · have d3 : decide ((x : Int) ≥ 256) = true := by simp; omega
      have w3 : IntKind.i64.wrap ((acc : Int) + 8) = ((acc + 8 : Nat) : Int) := wadd (j := 8) (by omega) (by omega)
      simp only [vsA, arith, cmpI, ldK, V.flat, V.one, V.cells, ↓reduceIte, reduceCtorEq, Nat.reduceEqDiff, Nat.reduceLeDiff, Nat.reduceAdd, Nat.reduceMul, fill, vc38, vc38_1, vc38_2, vc38_3, vc38_5, vc38_101, vc38_102, vc38_103, vc38_104, vc38_105, vc38_106, vc38_107, vc38_108, vc38_109, vc38_110, vc38_111, vc38_112, e0, e2, d3, s3, z3, w3]
      refine fin _ (x / 2 ^ 8) (acc + 8) (by simp only [vsA, arith, cmpI, ldK, V.flat, V.one, V.cells, ↓reduceIte, reduceCtorEq, Nat.reduceEqDiff, Nat.reduceLeDiff, Nat.reduceAdd, Nat.reduceMul, fill, e0]; exact s3 x) (by simp only [vsA, arith, cmpI, ldK, V.flat, V.one, V.cells, ↓reduceIte, reduceCtorEq, Nat.reduceEqDiff, Nat.reduceLeDiff, Nat.reduceAdd, Nat.reduceMul, fill]) (by omega) (by omega) (fun h => ?_)
      obtain ⟨g1, g2⟩ := hle h
      refine ⟨by omega, Nat.le_trans ?_ g2⟩
      rw [Nat.pow_add, Nat.mul_assoc]; exact Nat.mul_le_mul_left _ (Nat.mul_div_le _ _)
    · have d3 : decide ((x : Int) ≥ 256) = false := by simp; omega
      simp only [vsA, arith, cmpI, ldK, V.flat, V.one, V.cells, ↓reduceIte, reduceCtorEq, Nat.reduceEqDiff, Nat.reduceLeDiff, Nat.reduceAdd, Nat.reduceMul, fill, vc38, vc38_1, vc38_2, vc38_3, vc38_5, vc38_101, vc38_102, vc38_103, vc38_104, vc38_105, vc38_106, vc38_107, vc38_108, vc38_109, vc38_110, vc38_111, vc38_112, e0, e2, d3]
      exact fin _ x acc (by simp only [vsA, arith, cmpI, ldK, V.flat, V.one, V.cells, ↓reduceIte, reduceCtorEq, Nat.reduceEqDiff, Nat.reduceLeDiff, Nat.reduceAdd, Nat.reduceMul, fill, e0]) (by simp only [vsA, arith, cmpI, ldK, V.flat, V.one, V.cells, ↓reduceIte, reduceCtorEq, Nat.reduceEqDiff, Nat.reduceLeDiff, Nat.reduceAdd, Nat.reduceMul, fill, e2]) (by omega) (by omega) hle
  have step2 : ∀ (env : Env) (x acc : Nat), env 0 = .int .u64 x → env 2 = .int .i64 acc → x < 4294967296 → acc ≤ 32 → (1 ≤ n → 1 ≤ x ∧ 2 ^ acc * x ≤ n) →
      vwp P (vc38_2 e φ) (vend [2] (Rets fun v σ' => ∃ r : Nat, v = .int .i64 r ∧ r ≤ 64 ∧ (1 ≤ n → 2 ^ r ≤ 2 * n) ∧ σ' = σ)) env σ := by
    intro env x acc e0 e2 hx ha hle
    by_cases c3 : x ≥ 65536
    · have d3 : decide ((x : Int) ≥ 65536) = true := by simp; omega
      have w3 : IntKind.i64.wrap ((acc : Int) + 16) = ((acc + 16 : Nat) : Int) := wadd (j := 16) (by omega) (by omega)
      simp only [vsA, arith, cmpI, ldK, V.flat, V.one, V.cells, ↓reduceIte, reduceCtorEq, Nat.reduceEqDiff, Nat.reduceLeDiff, Nat.reduceAdd, Nat.reduceMul, fill, vc38, vc38_1, vc38_2, vc38_4, vc38_5, vc38_101, vc38_102, vc38_103, vc38_104, vc38_105, vc38_106, vc38_107, vc38_108, vc38_109, vc38_110, vc38_111, vc38_112, e0, e2, d3, s2, z2, w3]
      refine step3 _ (x / 2 ^ 16) (acc + 16) (by simp only [vsA, arith, cmpI, ldK, V.flat, V.one, V.cells, ↓reduceIte, reduceCtorEq, Nat.reduceEqDiff, Nat.reduceLeDiff, Nat.reduceAdd, Nat.reduceMul, fill, e0]; exact s2 x) (by simp only [vsA, arith, cmpI, ldK, V.flat, V.one, V.cells, ↓reduceIte, reduceCtorEq, Nat.reduceEqDiff, Nat.reduceLeDiff, Nat.reduceAdd, Nat.reduceMul, fill]) (by omega) (by omega) (fun h => ?_)
      obtain ⟨g1, g2⟩ := hle h
      refine ⟨by omega, Nat.le_trans ?_ g2⟩
      rw [Nat.pow_add, Nat.mul_assoc]; exact Nat.mul_le_mul_left _ (Nat.mul_div_le _ _)
    · have d3 : decide ((x : Int) ≥ 65536) = false := by simp; omega
      simp only [vsA, arith, cmpI, ldK, V.flat, V.one, V.cells, ↓reduceIte, reduceCtorEq, Nat.reduceEqDiff, Nat.reduceLeDiff, Nat.reduceAdd, Nat.reduceMul, fill, vc38, vc38_1, vc38_2, vc38_4, vc38_5, vc38_101, vc38_102, vc38_103, vc38_104, vc38_105, vc38_106, vc38_107, vc38_108, vc38_109, vc38_110, vc38_111, vc38_112, e0, e2, d3]
      exact step3 _ x acc (by simp only [vsA, arith, cmpI, ldK, V.flat, V.one, V.cells, ↓reduceIte, reduceCtorEq, Nat.reduceEqDiff, Nat.reduceLeDiff, Nat.reduceAdd, Nat.reduceMul, fill, e0]) (by simp only [vsA, arith, cmpI, ldK, V.flat, V.one, V.cells, ↓reduceIte, reduceCtorEq, Nat.reduceEqDiff, Nat.reduceLeDiff, Nat.reduceAdd, Nat.reduceMul, fill, e2]) (by omega) (by omega) hle
  by_cases c3 : n ≥ 4294967296
  · have d3 : decide ((n : Int) ≥ 4294967296) = true := by simp; omega
    simp only [vsA, arith, cmpI, ldK, V.flat, V.one, V.cells, ↓reduceIte, reduceCtorEq, Nat.reduceEqDiff, Nat.reduceLeDiff, Nat.reduceAdd, Nat.reduceMul, fill, vc38, vc38_1, vc38_3, vc38_4, vc38_5, vc38_101, vc38_102, vc38_103, vc38_104, vc38_105, vc38_106, vc38_107, vc38_108, vc38_109, vc38_110, vc38_111, vc38_112, d3, s1, z1]
    refine step2 _ (n / 2 ^ 32) 32 (by simp only [vsA, arith, cmpI, ldK, V.flat, V.one, V.cells, ↓reduceIte, reduceCtorEq, Nat.reduceEqDiff, Nat.reduceLeDiff, Nat.reduceAdd, Nat.reduceMul, fill]; exact s1 n) (by simp only [vsA, arith, cmpI, ldK, V.flat, V.one, V.cells, ↓reduceIte, reduceCtorEq, Nat.reduceEqDiff, Nat.reduceLeDiff, Nat.reduceAdd, Nat.reduceMul, fill]; rfl) (by omega) (by omega) (fun h => ⟨by omega, Nat.mul_div_le _ _⟩)
  · have d3 : decide ((n : Int) ≥ 4294967296) = false := by simp; omega
    simp only [vsA, arith, cmpI, ldK, V.flat, V.one, V.cells, ↓reduceIte, reduceCtorEq, Nat.reduceEqDiff, Nat.reduceLeDiff, Nat.reduceAdd, Nat.reduceMul, fill, vc38, vc38_1, vc38_3, vc38_4, vc38_5, vc38_101, vc38_102, vc38_103, vc38_104, vc38_105, vc38_106, vc38_107, vc38_108, vc38_109, vc38_110, vc38_111, vc38_112, d3]
    exact step2 _ n 0 (by simp only [vsA, arith, cmpI, ldK, V.flat, V.one, V.cells, ↓reduceIte, reduceCtorEq, Nat.reduceEqDiff, Nat.reduceLeDiff, Nat.reduceAdd, Nat.reduceMul, fill]) (by simp only [vsA, arith, cmpI, ldK, V.flat, V.one, V.cells, ↓reduceIte, reduceCtorEq, Nat.reduceEqDiff, Nat.reduceLeDiff, Nat.reduceAdd, Nat.reduceMul, fill]; rfl) (by omega) (by omega) (fun h => ⟨h, by omega⟩)

theorem len_do (L : Lays P e φ) (n : Nat) (hn : n < 18446744073709551616) :
    VCalls P (φ 25) [.int .u64 n] σ (fun v σ' => ∃ r : Nat, v = .int .i64 r ∧ r ≤ 64 ∧ (1 ≤ n → 2 ^ r ≤ 2 * n) ∧ σ' = σ) := by
  refine vcalls_of L.c25 (fun _ hok => ?_)
  simp only [vsA, arith, cmpI, ldK, V.flat, V.one, V.cells, ↓reduceIte, reduceCtorEq, Nat.reduceEqDiff, Nat.reduceLeDiff, Nat.reduceAdd, Nat.reduceMul, fill, vc25, vc25_1, vc25_2, vc25_3, vc25_101, vc25_102]
  refine call_f (vs := [.int .u64 n]) (by simp only [vsA, arith, cmpI, ldK, V.flat, V.one, V.cells, ↓reduceIte, reduceCtorEq, Nat.reduceEqDiff, Nat.reduceLeDiff, Nat.reduceAdd, Nat.reduceMul, fill]) (len64_do L n hn) ?_
  rintro v σ1 ⟨r, rfl, h1, h2, rfl⟩ _ _
  simp only [vsA, arith, cmpI, ldK, V.flat, V.one, V.cells, ↓reduceIte, reduceCtorEq, Nat.reduceEqDiff, Nat.reduceLeDiff, Nat.reduceAdd, Nat.reduceMul, fill, vc25, vc25_1, vc25_2, vc25_3, vc25_101, vc25_102]
  exact Rets.of ⟨r, rfl, h1, h2, rfl⟩

theorem pow2_do (L : Lays P e φ) (n : Nat) (h1 : 1 ≤ n) (hn : n ≤ 140737488355328) :
    VCalls P (φ 41) [.int .i64 n] σ (fun v σ' => ∃ m : Nat, v = .int .u64 m ∧ 1 ≤ m ∧ m ≤ 2 * n ∧ σ' = σ) := by
  refine vcalls_of L.c41 (fun _ hok => ?_)
  simp only [vsA, arith, cmpI, ldK, V.flat, V.one, V.cells, ↓reduceIte, reduceCtorEq, Nat.reduceEqDiff, Nat.reduceLeDiff, Nat.reduceAdd, Nat.reduceMul, fill, vc41, vc41_1, vc41_2, wrapu (show n < 18446744073709551616 by omega)]
  refine call_f (vs := [.int .u64 n]) (by simp only [vsA, arith, cmpI, ldK, V.flat, V.one, V.cells, ↓reduceIte, reduceCtorEq, Nat.reduceEqDiff, Nat.reduceLeDiff, Nat.reduceAdd, Nat.reduceMul, fill]) (len_do L n (by omega)) ?_
  rintro v σ1 ⟨r, rfl, h2, h3, rfl⟩ _ _
  have h4 := h3 h1
  have hr : r < 64 := by
    rcases Nat.lt_or_ge r 64 with h | h
    · exact h
    · have : 2 ^ 64 ≤ 2 ^ r := Nat.pow_le_pow_right (by omega) h
      omega
  have hw : IntKind.u64.wrap (1 * 2 ^ (min ((r : Nat) : Int).toNat IntKind.u64.bits)) = ((2 ^ r : Nat) : Int) := by
    have : min ((r : Nat) : Int).toNat IntKind.u64.bits = r := by rw [Int.toNat_natCast]; show min r 64 = r; omega
    rw [this, Int.one_mul, show (2 : Int) ^ r = ((2 ^ r : Nat) : Int) by simp, wrapu (by omega)]
  have hp : 1 ≤ 2 ^ r := Nat.one_le_two_pow
  simp only [Int.toNat_natCast] at hw
  simp only [vsA, arith, cmpI, ldK, V.flat, V.one, V.cells, ↓reduceIte, reduceCtorEq, Nat.reduceEqDiff, Nat.reduceLeDiff, Nat.reduceAdd, Nat.reduceMul, fill, vc41, vc41_1, vc41_2, show ((0 : Int) ≤ (r : Int)) = True by simp, hw]
  exact Rets.of ⟨2 ^ r, rfl, hp, h4, rfl⟩

theorem xor_do (L : Lays P e φ) {s : Nat} {x : Int} (h : σ s = some (.row [.int .u64 x] 0)) :
    VCalls P (φ 42) [.ptr s 0] σ (fun v σ' => ∃ y : Int, v = .int .u64 y ∧ σ' = σ.set s (.row [.int .u64 y] 0)) := by
  refine vcalls_of L.c42 (fun _ hok => ?_)
  have hr := Store.rd_row h
  simp only [vsA, arith, cmpI, ldK, V.flat, V.one, V.cells, ↓reduceIte, reduceCtorEq, Nat.reduceEqDiff, Nat.reduceLeDiff, Nat.reduceAdd, Nat.reduceMul, fill, vc42, vc42_1, vc42_2, vc42_3, vc42_4, vc42_5, vc42_1003, vc42_1012, vc42_1021, hr, h, Store.get_set_same, Store.rd_set_same, Ob.strip, Store.set_set, show ((0 : Int) ≤ 13) = True by simp, show ((0 : Int) ≤ 7) = True by simp, show ((0 : Int) ≤ 17) = True by simp, false_or, or_true]
  refine Rets.of ?_
  exact ⟨_, rfl, rfl⟩

theorem band_le (y : Int) (m : Nat) (h : m < 18446744073709551616) : ∃ r : Nat, bits .and .u64 y (m : Int) = (r : Int) ∧ r ≤ m := by
  refine ⟨(BitVec.ofInt 64 y &&& BitVec.ofInt 64 (m : Int)).toNat, ?_, ?_⟩
  · show IntKind.u64.wrap ((BitVec.ofInt 64 y &&& BitVec.ofInt 64 (m : Int)).toNat : Int) = _
    exact wrapu (BitVec.isLt _)
  · rw [BitVec.toNat_and]
    refine Nat.le_trans Nat.and_le_right ?_
    rw [BitVec.toNat_ofInt]; omega

set_option maxHeartbeats 1000000 in
theorem break_do (L : Lays P e φ) (hT : ∀ x, T x → x.length = e) (h : RowOk e b σ0 σ T d sl) (hn : d.size ≤ 140737488355328) {a z : Nat} (ha : a ≤ z) (hz : z ≤ d.size) (f : V) :
    VCalls P (φ 31) [.sl b 0 d.size c, .int .i64 a, .int .i64 z, f] σ (fun v σ' => v = .tup [] ∧ ∃ d', PermIn a z d d' ∧ σ' = σ.set b (.row (flat d') sl) ∧ RowOk e b σ0 σ' T d' sl) := by
  refine vcalls_of L.c31 (fun _ hok => ?_)
  have w1 := wsub (show z ≤ 140737488355328 by omega) (show a ≤ z by omega)
  by_cases h8 : z - a ≥ 8
  · have g8 : decide (((z - a : Nat) : Int) ≥ 8) = true := by simp; omega
    simp only [vsA, arith, cmpI, ldK, V.flat, V.one, V.cells, ↓reduceIte, reduceCtorEq, Nat.reduceEqDiff, Nat.reduceLeDiff, Nat.reduceAdd, Nat.reduceMul, fill, vc31, vc31_1, vc31_2, vc31_101, vc31_102, vc31_103, vc31_104, vc31_106, vc31_107, vc31_108, vc31_110, vc31_111, vc31_112, vc31_113, vc31_114, vc31_115, vc31_116, vc31_117, vc31_118, vc31_1049, w1, g8, wrapu (show z - a < 18446744073709551616 by omega)]
    refine v_alloc' rfl (fun s hs => ?_)
    have hsb : s ≠ b := by rintro rfl; rw [h.row] at hs; cases hs
    have hs0 : σ0 s = none := by
      cases h0 : σ0 s with
      | none => rfl
      | some o => rw [h.off s o hsb h0] at hs; cases hs
    simp only [vsA, arith, cmpI, ldK, V.flat, V.one, V.cells, ↓reduceIte, reduceCtorEq, Nat.reduceEqDiff, Nat.reduceLeDiff, Nat.reduceAdd, Nat.reduceMul, fill, vc31, vc31_1, vc31_2, vc31_101, vc31_102, vc31_103, vc31_104, vc31_106, vc31_107, vc31_108, vc31_110, vc31_111, vc31_112, vc31_113, vc31_114, vc31_115, vc31_116, vc31_117, vc31_118, vc31_1049, Store.get_set_same, Store.set_set]
    refine call_f (vs := [.int .i64 ((z - a : Nat) : Int)]) (by simp only [vsA, arith, cmpI, ldK, V.flat, V.one, V.cells, ↓reduceIte, reduceCtorEq, Nat.reduceEqDiff, Nat.reduceLeDiff, Nat.reduceAdd, Nat.reduceMul, fill]) (pow2_do L (z - a) (by omega) (by omega)) ?_
    rintro v σ1 ⟨m, rfl, hm1, hm2, hσ1⟩ _ _
    subst hσ1
    have hq : 4 * ((z - a) / 4) ≤ z - a := Nat.mul_div_le _ _
    have w2 : IntKind.i64.wrap (((z - a : Nat) : Int).tdiv 4) = (((z - a) / 4 : Nat) : Int) := wdiv (i := z - a) (k := 4) (by omega)
    generalize hq' : (z - a) / 4 = q at *
    have hq2 : 2 ≤ q := by omega
    have m2 : IntKind.i64.wrap ((q : Int) * 2) = ((q * 2 : Nat) : Int) := wmulk (k := 2) (by omega)
    have p2 := wadd (show a ≤ 140737488355328 by omega) (show q * 2 ≤ 140737488355328 by omega)
    have p3 := wsub1 (show a + q * 2 ≤ 140737488355328 by omega) (show 1 ≤ a + q * 2 by omega)
    have p4 := wadd1 (show a + q * 2 ≤ 140737488355328 by omega)
    simp only [vsA, arith, cmpI, ldK, V.flat, V.one, V.cells, ↓reduceIte, reduceCtorEq, Nat.reduceEqDiff, Nat.reduceLeDiff, Nat.reduceAdd, Nat.reduceMul, fill, vc31, vc31_1, vc31_2, vc31_101, vc31_102, vc31_103, vc31_104, vc31_106, vc31_107, vc31_108, vc31_110, vc31_111, vc31_112, vc31_113, vc31_114, vc31_115, vc31_116, vc31_117, vc31_118, vc31_1049, w2, m2, p2, p3, show ((4 : Int) ≠ 0) = True by simp]
    refine w_loop (fun env' σ' => ∃ (idx : Nat) (y : Int) (d' : Row), env' 0 = .sl b 0 d.size c ∧ env' 1 = .int .i64 a ∧ env' 8 = .int .i64 ((z - a : Nat) : Int) ∧ env' 9 = .ptr s 0 ∧ env' 10 = .int .u64 m ∧ env' 11 = .int .i64 idx ∧
        RowOk e b σ0 σ' T d' sl ∧ σ' = (σ.set s (.row [.int .u64 y] 0)).set b (.row (flat d') sl) ∧ PermIn a z d d' ∧ a + q * 2 - 1 ≤ idx ∧ idx ≤ a + q * 2 + 2)
      (fun env' _ => a + q * 2 + 2 - (env' 11).nat) ?init ?_
    case init =>
      refine ⟨a + q * 2 - 1, ((z - a : Nat) : Int), d, by simp only [vsA, arith, cmpI, ldK, V.flat, V.one, V.cells, ↓reduceIte, reduceCtorEq, Nat.reduceEqDiff, Nat.reduceLeDiff, Nat.reduceAdd, Nat.reduceMul, fill], by simp only [vsA, arith, cmpI, ldK, V.flat, V.one, V.cells, ↓reduceIte, reduceCtorEq, Nat.reduceEqDiff, Nat.reduceLeDiff, Nat.reduceAdd, Nat.reduceMul, fill], by simp only [vsA, arith, cmpI, ldK, V.flat, V.one, V.cells, ↓reduceIte, reduceCtorEq, Nat.reduceEqDiff, Nat.reduceLeDiff, Nat.reduceAdd, Nat.reduceMul, fill], by simp only [vsA, arith, cmpI, ldK, V.flat, V.one, V.cells, ↓reduceIte, reduceCtorEq, Nat.reduceEqDiff, Nat.reduceLeDiff, Nat.reduceAdd, Nat.reduceMul, fill], by simp only [vsA, arith, cmpI, ldK, V.flat, V.one, V.cells, ↓reduceIte, reduceCtorEq, Nat.reduceEqDiff, Nat.reduceLeDiff, Nat.reduceAdd, Nat.reduceMul, fill], by simp only [vsA, arith, cmpI, ldK, V.flat, V.one, V.cells, ↓reduceIte, reduceCtorEq, Nat.reduceEqDiff, Nat.reduceLeDiff, Nat.reduceAdd, Nat.reduceMul, fill], ?_, ?_, permIn_refl _ _ _, by omega, by omega⟩
      · exact ⟨by rw [Store.get_set_ne _ _ hsb.symm]; exact h.row, h.all, fun j o hj ho => by
          have : j ≠ s := by rintro rfl; rw [hs0] at ho; cases ho
          rw [Store.get_set_ne _ _ this]; exact h.off j o hj ho⟩
      · exact (Store.set_same _ (by rw [Store.get_set_ne _ _ hsb.symm]; exact h.row)).symm
    rintro env' σ' ⟨idx, y, d', e0, e1, e8, e9, e10, e11, hr, hσ', hp, hi1, hi2⟩
    have hsz : d'.size = d.size := hp.1
    by_cases hlt : idx ≤ a + q * 2 + 1
    · have hd : decide ((idx : Int) ≤ ((a + q * 2 + 1 : Nat) : Int)) = true := by simp; omega
      simp only [vsA, arith, cmpI, ldK, V.flat, V.one, V.cells, ↓reduceIte, reduceCtorEq, Nat.reduceEqDiff, Nat.reduceLeDiff, Nat.reduceAdd, Nat.reduceMul, fill, vc31, vc31_1, vc31_2, vc31_101, vc31_102, vc31_103, vc31_104, vc31_106, vc31_107, vc31_108, vc31_110, vc31_111, vc31_112, vc31_113, vc31_114, vc31_115, vc31_116, vc31_117, vc31_118, vc31_1049, e0, e1, e8, e9, e10, e11, w2, m2, p2, p4, hd, show ((4 : Int) ≠ 0) = True by simp]
      have hss : σ' s = some (.row [.int .u64 y] 0) := by rw [hσ', Store.get_set_ne _ _ hsb]; simp
      refine call_f (vs := [.ptr s 0]) (by simp only [vsA, arith, cmpI, ldK, V.flat, V.one, V.cells, ↓reduceIte, reduceCtorEq, Nat.reduceEqDiff, Nat.reduceLeDiff, Nat.reduceAdd, Nat.reduceMul, fill, e9]) (xor_do L hss) ?_
      rintro v σ1 ⟨y', rfl, hσ1⟩ _ _
      have hr1 : RowOk e b σ0 σ1 T d' sl := by
        rw [hσ1]
        exact ⟨by rw [Store.get_set_ne _ _ hsb.symm]; exact hr.row, hr.all, fun j o hj ho => by
          have : j ≠ s := by rintro rfl; rw [hs0] at ho; cases ho
          rw [Store.get_set_ne _ _ this]; exact hr.off j o hj ho⟩
      have hσ1' : σ1 = (σ.set s (.row [.int .u64 y'] 0)).set b (.row (flat d') sl) := by
        rw [hσ1, hσ', Store.set_comm _ _ _ hsb.symm, Store.set_set]
      clear hσ1
      have wm : IntKind.u64.wrap ((m : Int) - 1) = ((m - 1 : Nat) : Int) := by
        have : (m : Int) - 1 = ((m - 1 : Nat) : Int) := by omega
        rw [this, wrapu (by omega)]
      obtain ⟨r, hr2, hr3⟩ := band_le y' (m - 1) (by omega)
      have rest : ∀ (Q : VExit → Env → Store → Prop) (env : Env) (t : Nat), env 0 = .sl b 0 d.size c → env 1 = .int .i64 a → env 8 = .int .i64 ((z - a : Nat) : Int) → env 9 = .ptr s 0 → env 10 = .int .u64 m → env 11 = .int .i64 idx → env 12 = .int .i64 t → t < z - a →
          (∀ env', env' 0 = .sl b 0 d.size c → env' 1 = .int .i64 a → env' 8 = .int .i64 ((z - a : Nat) : Int) → env' 9 = .ptr s 0 → env' 10 = .int .u64 m → env' 11 = .int .i64 idx → Q .normal env' (σ1.set b (.row (flat (swp d' idx (a + t))) sl))) →
          vwp P (vc31_105 e φ) Q env σ1 := by
        intro Q env t f0 f1 f8 f9 f10 f11 f12 ht hQ
        have hrd := Store.rd_row hr1.row
        have hal := hr1.len hT
        have hj1 : a + t < d'.size := by omega
        have hi1' : idx < d'.size := by omega
        have g1 : (0 : Int) ≤ ((a + t : Nat) : Int) := by omega
        have g2 : ((a + t : Nat) : Int) < (d.size : Int) := by omega
        have g3 : (0 : Int) ≤ (idx : Int) := by omega
        have g4 : (idx : Int) < (d.size : Int) := by omega
        simp only [vsA, arith, cmpI, ldK, V.flat, V.one, V.cells, ↓reduceIte, reduceCtorEq, Nat.reduceEqDiff, Nat.reduceLeDiff, Nat.reduceAdd, Nat.reduceMul, fill, vc31, vc31_1, vc31_2, vc31_101, vc31_102, vc31_103, vc31_104, vc31_105, vc31_106, vc31_107, vc31_108, vc31_109, vc31_110, vc31_111, vc31_112, vc31_113, vc31_114, vc31_115, vc31_116, vc31_117, vc31_118, vc31_1049, f0, f1, f8, f9, f10, f11, f12, wadd (show a ≤ 140737488355328 by omega) (show t ≤ 140737488355328 by omega), hrd, g1, g2, g3, g4, le_flat hal hj1, le_flat hal hi1', get_flat hal hj1, get_flat hal hi1', hr1.row, set_flat hal hi1', le2_flat hal hi1', Store.get_set_same, Store.set_set, hal.get hj1, hal.get hi1',
          le2_flat (hal.set (i := idx) (hal.get hj1)) (show a + t < _ by rw [size_set]; exact hj1), set_flat (hal.set (i := idx) (hal.get hj1)) (show a + t < _ by rw [size_set]; exact hj1)]
        exact hQ _ (by simp only [vsA, arith, cmpI, ldK, V.flat, V.one, V.cells, ↓reduceIte, reduceCtorEq, Nat.reduceEqDiff, Nat.reduceLeDiff, Nat.reduceAdd, Nat.reduceMul, fill, f0]) (by simp only [vsA, arith, cmpI, ldK, V.flat, V.one, V.cells, ↓reduceIte, reduceCtorEq, Nat.reduceEqDiff, Nat.reduceLeDiff, Nat.reduceAdd, Nat.reduceMul, fill, f1]) (by simp only [vsA, arith, cmpI, ldK, V.flat, V.one, V.cells, ↓reduceIte, reduceCtorEq, Nat.reduceEqDiff, Nat.reduceLeDiff, Nat.reduceAdd, Nat.reduceMul, fill, f8]) (by simp only [vsA, arith, cmpI, ldK, V.flat, V.one, V.cells, ↓reduceIte, reduceCtorEq, Nat.reduceEqDiff, Nat.reduceLeDiff, Nat.reduceAdd, Nat.reduceMul, fill, f9]) (by simp only [vsA, arith, cmpI, ldK, V.flat, V.one, V.cells, ↓reduceIte, reduceCtorEq, Nat.reduceEqDiff, Nat.reduceLeDiff, Nat.reduceAdd, Nat.reduceMul, fill, f10]) (by simp only [vsA, arith, cmpI, ldK, V.flat, V.one, V.cells, ↓reduceIte, reduceCtorEq, Nat.reduceEqDiff, Nat.reduceLeDiff, Nat.reduceAdd, Nat.reduceMul, fill, f11])
      have wr : IntKind.i64.wrap (r : Int) = (r : Int) := wrap64 (by omega) (by omega)
      by_cases hge : r ≥ z - a
      · have hd2 : decide ((r : Int) ≥ ((z - a : Nat) : Int)) = true := by simp; omega
        have wsr : IntKind.i64.wrap ((r : Int) - ((z - a : Nat) : Int)) = ((r - (z - a) : Nat) : Int) := by rw [wrap64 (by omega) (by omega)]; omega
        simp only [vsA, arith, cmpI, ldK, V.flat, V.one, V.cells, ↓reduceIte, reduceCtorEq, Nat.reduceEqDiff, Nat.reduceLeDiff, Nat.reduceAdd, Nat.reduceMul, fill, vc31, vc31_1, vc31_2, vc31_101, vc31_102, vc31_103, vc31_104, vc31_106, vc31_107, vc31_108, vc31_110, vc31_111, vc31_112, vc31_113, vc31_114, vc31_115, vc31_116, vc31_117, vc31_118, vc31_1049, e0, e1, e8, e9, e10, e11, wm, hr2, wr, hd2, wsr]
        refine rest _ _ (r - (z - a)) (by simp only [vsA, arith, cmpI, ldK, V.flat, V.one, V.cells, ↓reduceIte, reduceCtorEq, Nat.reduceEqDiff, Nat.reduceLeDiff, Nat.reduceAdd, Nat.reduceMul, fill, e0]) (by simp only [vsA, arith, cmpI, ldK, V.flat, V.one, V.cells, ↓reduceIte, reduceCtorEq, Nat.reduceEqDiff, Nat.reduceLeDiff, Nat.reduceAdd, Nat.reduceMul, fill, e1]) (by simp only [vsA, arith, cmpI, ldK, V.flat, V.one, V.cells, ↓reduceIte, reduceCtorEq, Nat.reduceEqDiff, Nat.reduceLeDiff, Nat.reduceAdd, Nat.reduceMul, fill, e8]) (by simp only [vsA, arith, cmpI, ldK, V.flat, V.one, V.cells, ↓reduceIte, reduceCtorEq, Nat.reduceEqDiff, Nat.reduceLeDiff, Nat.reduceAdd, Nat.reduceMul, fill, e9]) (by simp only [vsA, arith, cmpI, ldK, V.flat, V.one, V.cells, ↓reduceIte, reduceCtorEq, Nat.reduceEqDiff, Nat.reduceLeDiff, Nat.reduceAdd, Nat.reduceMul, fill, e10]) (by simp only [vsA, arith, cmpI, ldK, V.flat, V.one, V.cells, ↓reduceIte, reduceCtorEq, Nat.reduceEqDiff, Nat.reduceLeDiff, Nat.reduceAdd, Nat.reduceMul, fill, e11]) (by simp only [vsA, arith, cmpI, ldK, V.flat, V.one, V.cells, ↓reduceIte, reduceCtorEq, Nat.reduceEqDiff, Nat.reduceLeDiff, Nat.reduceAdd, Nat.reduceMul, fill]) (by omega) ?_
        intro env f0 f1 f8 f9 f10 f11
        have hj1 : a + (r - (z - a)) < d'.size := by omega
        have hi1' : idx < d'.size := by omega
        simp only [vsA, arith, cmpI, ldK, V.flat, V.one, V.cells, ↓reduceIte, reduceCtorEq, Nat.reduceEqDiff, Nat.reduceLeDiff, Nat.reduceAdd, Nat.reduceMul, fill, vc31, vc31_1, vc31_2, vc31_101, vc31_102, vc31_103, vc31_104, vc31_105, vc31_106, vc31_107, vc31_108, vc31_109, vc31_110, vc31_111, vc31_112, vc31_113, vc31_114, vc31_115, vc31_116, vc31_117, vc31_118, vc31_1049, f0, f1, f8, f9, f10, f11, wadd1 (show idx ≤ 140737488355328 by omega), e11, nat_int]
        refine ⟨⟨idx + 1, rfl, y', swp d' idx (a + (r - (z - a))), hr1.swp hi1' hj1, ?_, permIn_trans _ _ _ _ _ hp (swp_permIn _ _ _ _ _ (by omega) (by omega) (by omega) (by omega) (by omega)), by omega, by omega⟩, by omega⟩
        rw [hσ1', Store.set_set]
      · have hd2 : decide ((r : Int) ≥ ((z - a : Nat) : Int)) = false := by simp; omega
        simp only [vsA, arith, cmpI, ldK, V.flat, V.one, V.cells, ↓reduceIte, reduceCtorEq, Nat.reduceEqDiff, Nat.reduceLeDiff, Nat.reduceAdd, Nat.reduceMul, fill, vc31, vc31_1, vc31_2, vc31_101, vc31_102, vc31_103, vc31_104, vc31_106, vc31_107, vc31_108, vc31_110, vc31_111, vc31_112, vc31_113, vc31_114, vc31_115, vc31_116, vc31_117, vc31_118, vc31_1049, e0, e1, e8, e9, e10, e11, wm, hr2, wr, hd2]
        refine rest _ _ (r) (by simp only [vsA, arith, cmpI, ldK, V.flat, V.one, V.cells, ↓reduceIte, reduceCtorEq, Nat.reduceEqDiff, Nat.reduceLeDiff, Nat.reduceAdd, Nat.reduceMul, fill, e0]) (by simp only [vsA, arith, cmpI, ldK, V.flat, V.one, V.cells, ↓reduceIte, reduceCtorEq, Nat.reduceEqDiff, Nat.reduceLeDiff, Nat.reduceAdd, Nat.reduceMul, fill, e1]) (by simp only [vsA, arith, cmpI, ldK, V.flat, V.one, V.cells, ↓reduceIte, reduceCtorEq, Nat.reduceEqDiff, Nat.reduceLeDiff, Nat.reduceAdd, Nat.reduceMul, fill, e8]) (by simp only [vsA, arith, cmpI, ldK, V.flat, V.one, V.cells, ↓reduceIte, reduceCtorEq, Nat.reduceEqDiff, Nat.reduceLeDiff, Nat.reduceAdd, Nat.reduceMul, fill, e9]) (by simp only [vsA, arith, cmpI, ldK, V.flat, V.one, V.cells, ↓reduceIte, reduceCtorEq, Nat.reduceEqDiff, Nat.reduceLeDiff, Nat.reduceAdd, Nat.reduceMul, fill, e10]) (by simp only [vsA, arith, cmpI, ldK, V.flat, V.one, V.cells, ↓reduceIte, reduceCtorEq, Nat.reduceEqDiff, Nat.reduceLeDiff, Nat.reduceAdd, Nat.reduceMul, fill, e11]) (by simp only [vsA, arith, cmpI, ldK, V.flat, V.one, V.cells, ↓reduceIte, reduceCtorEq, Nat.reduceEqDiff, Nat.reduceLeDiff, Nat.reduceAdd, Nat.reduceMul, fill]) (by omega) ?_
        intro env f0 f1 f8 f9 f10 f11
        have hj1 : a + (r) < d'.size := by omega
        have hi1' : idx < d'.size := by omega
        simp only [vsA, arith, cmpI, ldK, V.flat, V.one, V.cells, ↓reduceIte, reduceCtorEq, Nat.reduceEqDiff, Nat.reduceLeDiff, Nat.reduceAdd, Nat.reduceMul, fill, vc31, vc31_1, vc31_2, vc31_101, vc31_102, vc31_103, vc31_104, vc31_105, vc31_106, vc31_107, vc31_108, vc31_109, vc31_110, vc31_111, vc31_112, vc31_113, vc31_114, vc31_115, vc31_116, vc31_117, vc31_118, vc31_1049, f0, f1, f8, f9, f10, f11, wadd1 (show idx ≤ 140737488355328 by omega), e11, nat_int]
        refine ⟨⟨idx + 1, rfl, y', swp d' idx (a + (r)), hr1.swp hi1' hj1, ?_, permIn_trans _ _ _ _ _ hp (swp_permIn _ _ _ _ _ (by omega) (by omega) (by omega) (by omega) (by omega)), by omega, by omega⟩, by omega⟩
        rw [hσ1', Store.set_set]
    · have hd : decide ((idx : Int) ≤ ((a + q * 2 + 1 : Nat) : Int)) = false := by simp; omega
      simp only [vsA, arith, cmpI, ldK, V.flat, V.one, V.cells, ↓reduceIte, reduceCtorEq, Nat.reduceEqDiff, Nat.reduceLeDiff, Nat.reduceAdd, Nat.reduceMul, fill, vc31, vc31_1, vc31_2, vc31_101, vc31_102, vc31_103, vc31_104, vc31_105, vc31_106, vc31_107, vc31_108, vc31_109, vc31_110, vc31_111, vc31_112, vc31_113, vc31_114, vc31_115, vc31_116, vc31_117, vc31_118, vc31_1049, e0, e1, e8, e9, e10, e11, w2, m2, p2, p4, hd, show ((4 : Int) ≠ 0) = True by simp]
      refine Rets.le (σ' := σ.set b (.row (flat d') sl)) ?_ ?_
      · rw [hσ', Store.set_comm _ _ _ hsb]
        exact Store.le_set _ _ (by rw [Store.get_set_ne _ _ hsb]; exact hs)
      · exact ⟨rfl, d', hp, rfl, ⟨by simp, hr.all, fun j o hj ho => by rw [Store.get_set_ne _ _ hj]; exact h.off j o hj ho⟩⟩
  · have g8 : decide (((z - a : Nat) : Int) ≥ 8) = false := by simp; omega
    simp only [vsA, arith, cmpI, ldK, V.flat, V.one, V.cells, ↓reduceIte, reduceCtorEq, Nat.reduceEqDiff, Nat.reduceLeDiff, Nat.reduceAdd, Nat.reduceMul, fill, vc31, vc31_1, vc31_2, vc31_101, vc31_102, vc31_103, vc31_104, vc31_105, vc31_106, vc31_107, vc31_108, vc31_109, vc31_110, vc31_111, vc31_112, vc31_113, vc31_114, vc31_115, vc31_116, vc31_117, vc31_118, vc31_1049, w1, g8]
    refine Rets.of ⟨rfl, d, permIn_refl _ _ _, (Store.set_same _ h.row).symm, h⟩
end Go.Vm.Srt
