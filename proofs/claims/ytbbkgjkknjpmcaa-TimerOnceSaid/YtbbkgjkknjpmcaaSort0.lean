/-
  The code of slices.SortFunc and of what it calls, at elements of e cells, the functions numbered by phi.
-/
import Derived.Test.YtbbkgjkknjpmcaaVm22
set_option linter.unusedSimpArgs false
set_option linter.unusedVariables false
set_option linter.unusedSectionVars false
namespace Go.Vm.Srt
open Go Go.Vm
def lenTab : ByteArray := ⟨#[0, 1, 2, 2, 3, 3, 3, 3, 4, 4, 4, 4, 4, 4, 4, 4, 5, 5, 5, 5, 5, 5, 5, 5, 5, 5, 5, 5, 5, 5, 5, 5, 6, 6, 6, 6, 6, 6, 6, 6, 6, 6, 6, 6, 6, 6, 6, 6, 6, 6, 6, 6, 6, 6, 6, 6, 6, 6, 6, 6, 6, 6, 6, 6, 7, 7, 7, 7, 7, 7, 7, 7, 7, 7, 7, 7, 7, 7, 7, 7, 7, 7, 7, 7, 7, 7, 7, 7, 7, 7, 7, 7, 7, 7, 7, 7, 7, 7, 7, 7, 7, 7, 7, 7, 7, 7, 7, 7, 7, 7, 7, 7, 7, 7, 7, 7, 7, 7, 7, 7, 7, 7, 7, 7, 7, 7, 7, 7, 8, 8, 8, 8, 8, 8, 8, 8, 8, 8, 8, 8, 8, 8, 8, 8, 8, 8, 8, 8, 8, 8, 8, 8, 8, 8, 8, 8, 8, 8, 8, 8, 8, 8, 8, 8, 8, 8, 8, 8, 8, 8, 8, 8, 8, 8, 8, 8, 8, 8, 8, 8, 8, 8, 8, 8, 8, 8, 8, 8, 8, 8, 8, 8, 8, 8, 8, 8, 8, 8, 8, 8, 8, 8, 8, 8, 8, 8, 8, 8, 8, 8, 8, 8, 8, 8, 8, 8, 8, 8, 8, 8, 8, 8, 8, 8, 8, 8, 8, 8, 8, 8, 8, 8, 8, 8, 8, 8, 8, 8, 8, 8, 8, 8, 8, 8, 8, 8, 8, 8, 8, 8, 8, 8, 8, 8, 8, 8]⟩

def vc21_1 (e : Nat) (φ : Nat → Nat) : VC :=
  (.reg [⟨some 7, .mv (.s 0), none, false⟩,
    ⟨some 8, .mv (.s 4), none, false⟩,
    ⟨some 9, .mv (.s 4), none, false⟩,
    ⟨some 10, .conv .u64 (.s 9), none, false⟩,
    ⟨some 11, .call (.f (φ 25)) [(.s 10)], none, false⟩,
    ⟨some 12, .mv (.s 1), none, false⟩,
    ⟨some 13, .call (.f (φ 24)) [(.s 7), (.c (.int .i64 0)), (.s 8), (.s 11), (.s 12)], none, false⟩])
/-- slices.SortFunc[[]bypath/api.Timer,bypath/api.Timer] -/
def vc21 (e : Nat) (φ : Nat → Nat) : VC :=
  (.seq
    (.reg [⟨some 5, .mv (.s 0), none, false⟩,
      ⟨some 6, .len (.s 5), none, false⟩,
      ⟨some 4, .mv (.s 6), none, false⟩])
    (vc21_1 e φ))

def vc24_101 (e : Nat) (φ : Nat → Nat) : VC :=
  .ret
def vc24_102 (e : Nat) (φ : Nat → Nat) : VC :=
  (.seq
      (.reg [⟨some 26, .mv (.s 0), none, false⟩,
        ⟨some 27, .mv (.s 1), none, false⟩,
        ⟨some 28, .mv (.s 2), none, false⟩,
        ⟨some 29, .mv (.s 4), none, false⟩,
        ⟨some 30, .call (.f (φ 29)) [(.s 26), (.s 27), (.s 28), (.s 29)], none, false⟩])
    (vc24_101 e φ))
def vc24_103 (e : Nat) (φ : Nat → Nat) : VC :=
  (.cond (.s 25)
    (vc24_102 e φ)
    .skip)
def vc24_104 (e : Nat) (φ : Nat → Nat) : VC :=
  (.seq
      (.reg [⟨some 24, .mv (.s 12), none, false⟩,
        ⟨some 25, .cmp .leq (.s 24) (.c (.int .i64 12)), none, false⟩])
    (vc24_103 e φ))
def vc24_105 (e : Nat) (φ : Nat → Nat) : VC :=
  .ret
def vc24_106 (e : Nat) (φ : Nat → Nat) : VC :=
  (.seq
      (.reg [⟨some 33, .mv (.s 0), none, false⟩,
        ⟨some 34, .mv (.s 1), none, false⟩,
        ⟨some 35, .mv (.s 2), none, false⟩,
        ⟨some 36, .mv (.s 4), none, false⟩,
        ⟨some 37, .call (.f (φ 30)) [(.s 33), (.s 34), (.s 35), (.s 36)], none, false⟩])
    (vc24_105 e φ))
def vc24_107 (e : Nat) (φ : Nat → Nat) : VC :=
  (.cond (.s 32)
    (vc24_106 e φ)
    .skip)
def vc24_108 (e : Nat) (φ : Nat → Nat) : VC :=
  (.seq
      (.reg [⟨some 31, .mv (.s 3), none, false⟩,
        ⟨some 32, .cmp .eql (.s 31) (.c (.int .i64 0)), none, false⟩])
    (vc24_107 e φ))
def vc24_109 (e : Nat) (φ : Nat → Nat) : VC :=
  (.reg [⟨some 45, .mv (.s 3), none, false⟩,
    ⟨some 46, .arith .sub (.s 45) (.c (.int .i64 1)), none, false⟩,
    ⟨some 3, .mv (.s 46), none, false⟩])
def vc24_110 (e : Nat) (φ : Nat → Nat) : VC :=
  (.seq
      (.reg [⟨some 40, .mv (.s 0), none, false⟩,
        ⟨some 41, .mv (.s 1), none, false⟩,
        ⟨some 42, .mv (.s 2), none, false⟩,
        ⟨some 43, .mv (.s 4), none, false⟩,
        ⟨some 44, .call (.f (φ 31)) [(.s 40), (.s 41), (.s 42), (.s 43)], none, false⟩])
    (vc24_109 e φ))
def vc24_111 (e : Nat) (φ : Nat → Nat) : VC :=
  (.cond (.s 39)
    (vc24_110 e φ)
    .skip)
def vc24_112 (e : Nat) (φ : Nat → Nat) : VC :=
  (.seq
      (.reg [⟨some 38, .mv (.s 10), none, false⟩,
        ⟨some 39, .not (.s 38), none, false⟩])
    (vc24_111 e φ))
def vc24_113 (e : Nat) (φ : Nat → Nat) : VC :=
  (.reg [⟨some 14, .mv (.c (.int .i64 1)), none, false⟩])
def vc24_114 (e : Nat) (φ : Nat → Nat) : VC :=
  (.seq
    (.reg [⟨some 62, .mv (.s 2), none, false⟩,
      ⟨some 63, .arith .sub (.s 62) (.c (.int .i64 1)), none, false⟩,
      ⟨some 64, .mv (.s 13), none, false⟩,
      ⟨some 65, .mv (.s 1), none, false⟩,
      ⟨some 66, .arith .sub (.s 64) (.s 65), none, false⟩,
      ⟨some 67, .arith .sub (.s 63) (.s 66), none, false⟩,
      ⟨some 13, .mv (.s 67), none, false⟩])
    (vc24_113 e φ))
def vc24_115 (e : Nat) (φ : Nat → Nat) : VC :=
  (vc24_114 e φ)
def vc24_116 (e : Nat) (φ : Nat → Nat) : VC :=
  (.seq
      (.reg [⟨some 57, .mv (.s 0), none, false⟩,
        ⟨some 58, .mv (.s 1), none, false⟩,
        ⟨some 59, .mv (.s 2), none, false⟩,
        ⟨some 60, .mv (.s 4), none, false⟩,
        ⟨some 61, .call (.f (φ 33)) [(.s 57), (.s 58), (.s 59), (.s 60)], none, false⟩])
    (vc24_115 e φ))
def vc24_117 (e : Nat) (φ : Nat → Nat) : VC :=
  (.cond (.s 56)
    (vc24_116 e φ)
    .skip)
def vc24_118 (e : Nat) (φ : Nat → Nat) : VC :=
  (.seq
      (.reg [⟨some 55, .mv (.s 14), none, false⟩,
        ⟨some 56, .cmp .eql (.s 55) (.c (.int .i64 2)), none, false⟩])
    (vc24_117 e φ))
def vc24_119 (e : Nat) (φ : Nat → Nat) : VC :=
  (.cond (.s 80)
    .ret
    .skip)
def vc24_120 (e : Nat) (φ : Nat → Nat) : VC :=
  (.seq
      (.reg [⟨some 76, .mv (.s 0), none, false⟩,
        ⟨some 77, .mv (.s 1), none, false⟩,
        ⟨some 78, .mv (.s 2), none, false⟩,
        ⟨some 79, .mv (.s 4), none, false⟩,
        ⟨some 80, .call (.f (φ 34)) [(.s 76), (.s 77), (.s 78), (.s 79)], none, false⟩])
    (vc24_119 e φ))
def vc24_121 (e : Nat) (φ : Nat → Nat) : VC :=
  (.cond (.s 75)
    (vc24_120 e φ)
    .skip)
def vc24_122 (e : Nat) (φ : Nat → Nat) : VC :=
  (.seq
      (.reg [⟨some 68, .mv (.s 10), none, false⟩,
        ⟨some 69, .mv (.s 68), none, false⟩,
        ⟨some 70, .mv (.s 11), some (69, true), false⟩,
        ⟨some 71, .pick (.s 69) (.s 70) (.c (.bool false)), none, false⟩,
        ⟨some 72, .mv (.s 71), none, false⟩,
        ⟨some 73, .mv (.s 14), some (72, true), false⟩,
        ⟨some 74, .cmp .eql (.s 73) (.c (.int .i64 1)), some (72, true), false⟩,
        ⟨some 75, .pick (.s 72) (.s 74) (.c (.bool false)), none, false⟩])
    (vc24_121 e φ))
def vc24_1081 (e : Nat) (φ : Nat → Nat) : VC :=
  (.draw [⟨some 81, .mv (.s 1), none, false⟩,
    ⟨some 82, .cmp .gtr (.s 81) (.c (.int .i64 0)), none, false⟩,
    ⟨some 83, .mv (.s 82), none, false⟩,
    ⟨some 84, .mv (.s 4), some (83, true), false⟩,
    ⟨some 85, .mv (.s 0), some (83, true), false⟩,
    ⟨some 86, .mv (.s 1), some (83, true), false⟩,
    ⟨some 87, .arith .sub (.s 86) (.c (.int .i64 1)), some (83, true), false⟩,
    ⟨some 88, .idx e (.s 85) (.s 87), some (83, true), false⟩,
    ⟨some 89, .load (some e) (.s 88), some (83, true), false⟩,
    ⟨some 90, .mv (.s 0), some (83, true), false⟩,
    ⟨some 91, .mv (.s 13), some (83, true), false⟩,
    ⟨some 92, .idx e (.s 90) (.s 91), some (83, true), false⟩,
    ⟨some 93, .load (some e) (.s 92), some (83, true), false⟩,
    ⟨some 94, .call (.s 84) [(.s 89), (.s 93)], some (83, true), false⟩,
    ⟨some 95, .cmp .lss (.s 94) (.c (.int .i64 0)), some (83, true), false⟩,
    ⟨some 96, .not (.s 95), some (83, true), false⟩,
    ⟨some 97, .pick (.s 83) (.s 96) (.c (.bool false)), none, false⟩] [0, 1, 2, 3, 4, 5, 6, 7, 8, 9, 10, 11, 12, 13, 14, 15, 16])
def vc24_123 (e : Nat) (φ : Nat → Nat) : VC :=
  (.exit 1)
def vc24_124 (e : Nat) (φ : Nat → Nat) : VC :=
  (.seq
    (.reg [⟨some 104, .mv (.s 15), none, false⟩,
      ⟨some 1, .mv (.s 104), none, false⟩])
    (vc24_123 e φ))
def vc24_125 (e : Nat) (φ : Nat → Nat) : VC :=
  (vc24_124 e φ)
def vc24_126 (e : Nat) (φ : Nat → Nat) : VC :=
  (.seq
      (.reg [⟨some 98, .mv (.s 0), none, false⟩,
        ⟨some 99, .mv (.s 1), none, false⟩,
        ⟨some 100, .mv (.s 2), none, false⟩,
        ⟨some 101, .mv (.s 13), none, false⟩,
        ⟨some 102, .mv (.s 4), none, false⟩,
        ⟨some 103, .call (.f (φ 35)) [(.s 98), (.s 99), (.s 100), (.s 101), (.s 102)], none, false⟩,
        ⟨some 15, .mv (.s 103), none, false⟩])
    (vc24_125 e φ))
def vc24_127 (e : Nat) (φ : Nat → Nat) : VC :=
  (.cond (.s 97)
    (vc24_126 e φ)
    .skip)
def vc24_128 (e : Nat) (φ : Nat → Nat) : VC :=
  (.seq
      (vc24_1081 e φ)
    (vc24_127 e φ))
def vc24_129 (e : Nat) (φ : Nat → Nat) : VC :=
  (.reg [⟨some 135, .mv (.s 16), none, false⟩,
    ⟨some 136, .arith .add (.s 135) (.c (.int .i64 1)), none, false⟩,
    ⟨some 1, .mv (.s 136), none, false⟩])
def vc24_130 (e : Nat) (φ : Nat → Nat) : VC :=
  (.seq
    (.reg [⟨some 129, .mv (.s 0), none, false⟩,
      ⟨some 130, .mv (.s 1), none, false⟩,
      ⟨some 131, .mv (.s 16), none, false⟩,
      ⟨some 132, .mv (.s 3), none, false⟩,
      ⟨some 133, .mv (.s 4), none, false⟩,
      ⟨some 134, .call (.f (φ 24)) [(.s 129), (.s 130), (.s 131), (.s 132), (.s 133)], none, false⟩])
    (vc24_129 e φ))
def vc24_131 (e : Nat) (φ : Nat → Nat) : VC :=
  (vc24_130 e φ)
def vc24_132 (e : Nat) (φ : Nat → Nat) : VC :=
  (.seq
      (.reg [⟨some 126, .mv (.s 18), none, false⟩,
        ⟨some 127, .mv (.s 20), none, false⟩,
        ⟨some 128, .cmp .geq (.s 126) (.s 127), none, false⟩,
        ⟨some 10, .mv (.s 128), none, false⟩])
    (vc24_131 e φ))
def vc24_133 (e : Nat) (φ : Nat → Nat) : VC :=
  (.reg [⟨some 147, .mv (.s 16), none, false⟩,
    ⟨some 2, .mv (.s 147), none, false⟩])
def vc24_134 (e : Nat) (φ : Nat → Nat) : VC :=
  (.seq
    (.reg [⟨some 140, .mv (.s 0), none, false⟩,
      ⟨some 141, .mv (.s 16), none, false⟩,
      ⟨some 142, .arith .add (.s 141) (.c (.int .i64 1)), none, false⟩,
      ⟨some 143, .mv (.s 2), none, false⟩,
      ⟨some 144, .mv (.s 3), none, false⟩,
      ⟨some 145, .mv (.s 4), none, false⟩,
      ⟨some 146, .call (.f (φ 24)) [(.s 140), (.s 142), (.s 143), (.s 144), (.s 145)], none, false⟩])
    (vc24_133 e φ))
def vc24_135 (e : Nat) (φ : Nat → Nat) : VC :=
  (vc24_134 e φ)
def vc24_136 (e : Nat) (φ : Nat → Nat) : VC :=
  (.seq
      (.reg [⟨some 137, .mv (.s 19), none, false⟩,
        ⟨some 138, .mv (.s 20), none, false⟩,
        ⟨some 139, .cmp .geq (.s 137) (.s 138), none, false⟩,
        ⟨some 10, .mv (.s 139), none, false⟩])
    (vc24_135 e φ))
def vc24_137 (e : Nat) (φ : Nat → Nat) : VC :=
  (.cond (.s 125)
    (vc24_132 e φ)
    (vc24_136 e φ))
def vc24_138 (e : Nat) (φ : Nat → Nat) : VC :=
  (.seq
    (.reg [⟨some 123, .mv (.s 18), none, false⟩,
      ⟨some 124, .mv (.s 19), none, false⟩,
      ⟨some 125, .cmp .lss (.s 123) (.s 124), none, false⟩])
    (vc24_137 e φ))
def vc24_139 (e : Nat) (φ : Nat → Nat) : VC :=
  (vc24_138 e φ)
def vc24_140 (e : Nat) (φ : Nat → Nat) : VC :=
  (.seq
    (.reg [⟨some 121, .mv (.s 12), none, false⟩,
      ⟨some 122, .divm .quo (.s 121) (.c (.int .i64 8)), none, false⟩,
      ⟨some 20, .mv (.s 122), none, false⟩])
    (vc24_139 e φ))
def vc24_141 (e : Nat) (φ : Nat → Nat) : VC :=
  (vc24_140 e φ)
def vc24_142 (e : Nat) (φ : Nat → Nat) : VC :=
  (.seq
    (.reg [⟨some 115, .mv (.s 16), none, false⟩,
      ⟨some 116, .mv (.s 1), none, false⟩,
      ⟨some 117, .arith .sub (.s 115) (.s 116), none, false⟩,
      ⟨some 118, .mv (.s 2), none, false⟩,
      ⟨some 119, .mv (.s 16), none, false⟩,
      ⟨some 120, .arith .sub (.s 118) (.s 119), none, false⟩,
      ⟨some 18, .mv (.s 117), none, false⟩,
      ⟨some 19, .mv (.s 120), none, false⟩])
    (vc24_141 e φ))
def vc24_143 (e : Nat) (φ : Nat → Nat) : VC :=
  (vc24_142 e φ)
def vc24_144 (e : Nat) (φ : Nat → Nat) : VC :=
  (.seq
    (.reg [⟨some 114, .mv (.s 17), none, false⟩,
      ⟨some 11, .mv (.s 114), none, false⟩])
    (vc24_143 e φ))
def vc24_145 (e : Nat) (φ : Nat → Nat) : VC :=
  (vc24_144 e φ)
def vc24_146 (e : Nat) (φ : Nat → Nat) : VC :=
  (.seq
    (.reg [⟨some 106, .mv (.s 0), none, false⟩,
      ⟨some 107, .mv (.s 1), none, false⟩,
      ⟨some 108, .mv (.s 2), none, false⟩,
      ⟨some 109, .mv (.s 13), none, false⟩,
      ⟨some 110, .mv (.s 4), none, false⟩,
      ⟨some 111, .call (.f (φ 36)) [(.s 106), (.s 107), (.s 108), (.s 109), (.s 110)], none, false⟩,
      ⟨some 105, .mv (.s 111), none, false⟩,
      ⟨some 112, .ext 0 (.s 105), none, false⟩,
      ⟨some 113, .ext 1 (.s 105), none, false⟩,
      ⟨some 16, .mv (.s 112), none, false⟩,
      ⟨some 17, .mv (.s 113), none, false⟩])
    (vc24_145 e φ))
def vc24_147 (e : Nat) (φ : Nat → Nat) : VC :=
  (vc24_146 e φ)
def vc24_148 (e : Nat) (φ : Nat → Nat) : VC :=
  (.seq
    (vc24_128 e φ)
    (vc24_147 e φ))
def vc24_149 (e : Nat) (φ : Nat → Nat) : VC :=
  (vc24_148 e φ)
def vc24_150 (e : Nat) (φ : Nat → Nat) : VC :=
  (.seq
    (vc24_122 e φ)
    (vc24_149 e φ))
def vc24_151 (e : Nat) (φ : Nat → Nat) : VC :=
  (vc24_150 e φ)
def vc24_152 (e : Nat) (φ : Nat → Nat) : VC :=
  (.seq
    (vc24_118 e φ)
    (vc24_151 e φ))
def vc24_153 (e : Nat) (φ : Nat → Nat) : VC :=
  (vc24_152 e φ)
def vc24_154 (e : Nat) (φ : Nat → Nat) : VC :=
  (.seq
    (.reg [⟨some 48, .mv (.s 0), none, false⟩,
      ⟨some 49, .mv (.s 1), none, false⟩,
      ⟨some 50, .mv (.s 2), none, false⟩,
      ⟨some 51, .mv (.s 4), none, false⟩,
      ⟨some 52, .call (.f (φ 32)) [(.s 48), (.s 49), (.s 50), (.s 51)], none, false⟩,
      ⟨some 47, .mv (.s 52), none, false⟩,
      ⟨some 53, .ext 0 (.s 47), none, false⟩,
      ⟨some 54, .ext 1 (.s 47), none, false⟩,
      ⟨some 13, .mv (.s 53), none, false⟩,
      ⟨some 14, .mv (.s 54), none, false⟩])
    (vc24_153 e φ))
def vc24_155 (e : Nat) (φ : Nat → Nat) : VC :=
  (vc24_154 e φ)
def vc24_156 (e : Nat) (φ : Nat → Nat) : VC :=
  (.seq
    (vc24_112 e φ)
    (vc24_155 e φ))
def vc24_157 (e : Nat) (φ : Nat → Nat) : VC :=
  (vc24_156 e φ)
def vc24_158 (e : Nat) (φ : Nat → Nat) : VC :=
  (.seq
    (vc24_108 e φ)
    (vc24_157 e φ))
def vc24_159 (e : Nat) (φ : Nat → Nat) : VC :=
  (vc24_158 e φ)
def vc24_160 (e : Nat) (φ : Nat → Nat) : VC :=
  (.seq
    (vc24_104 e φ)
    (vc24_159 e φ))
def vc24_161 (e : Nat) (φ : Nat → Nat) : VC :=
  (vc24_160 e φ)
def vc24_162 (e : Nat) (φ : Nat → Nat) : VC :=
  (.seq
          (.reg [⟨some 21, .mv (.s 2), none, false⟩,
            ⟨some 22, .mv (.s 1), none, false⟩,
            ⟨some 23, .arith .sub (.s 21) (.s 22), none, false⟩,
            ⟨some 12, .mv (.s 23), none, false⟩])
    (vc24_161 e φ))
def vc24_2 (e : Nat) (φ : Nat → Nat) : VC :=
  (.block 0
    (.loop
      (.block 1
        (vc24_162 e φ))))
def vc24_1 (e : Nat) (φ : Nat → Nat) : VC :=
  (.seq
    (.reg [⟨some 11, .mv (.c (.bool true)), none, false⟩])
    (vc24_2 e φ))
/-- slices.pdqsortCmpFunc[bypath/api.Timer] -/
def vc24 (e : Nat) (φ : Nat → Nat) : VC :=
  (.seq
    (.reg [⟨some 10, .mv (.c (.bool true)), none, false⟩])
    (vc24_1 e φ))

def vc25_101 (e : Nat) (φ : Nat → Nat) : VC :=
  .ret
def vc25_102 (e : Nat) (φ : Nat → Nat) : VC :=
  (.seq
        (.reg [⟨some 3, .mv (.s 0), none, false⟩,
          ⟨some 4, .conv .u32 (.s 3), none, false⟩,
          ⟨some 5, .call (.f (φ 37)) [(.s 4)], none, false⟩,
          ⟨some 2, .mv (.s 5), none, false⟩])
    (vc25_101 e φ))
def vc25_3 (e : Nat) (φ : Nat → Nat) : VC :=
  .ret
def vc25_2 (e : Nat) (φ : Nat → Nat) : VC :=
  (.seq
    (.reg [⟨some 6, .mv (.s 0), none, false⟩,
      ⟨some 7, .call (.f (φ 38)) [(.s 6)], none, false⟩,
      ⟨some 2, .mv (.s 7), none, false⟩])
    (vc25_3 e φ))
def vc25_1 (e : Nat) (φ : Nat → Nat) : VC :=
  (.seq
    (.cond (.c (.bool false))
      (vc25_102 e φ)
      .skip)
    (vc25_2 e φ))
/-- math/bits.Len -/
def vc25 (e : Nat) (φ : Nat → Nat) : VC :=
  (.seq
    (.reg [⟨some 2, .mv (.c (.int .i64 0)), none, false⟩])
    (vc25_1 e φ))

def vc29_101 (e : Nat) (φ : Nat → Nat) : VC :=
  (.cond (.s 14)
    .skip
    (.exit 0))
def vc29_102 (e : Nat) (φ : Nat → Nat) : VC :=
  (.seq
          (.reg [⟨some 12, .mv (.s 8), none, false⟩,
            ⟨some 13, .mv (.s 2), none, false⟩,
            ⟨some 14, .cmp .lss (.s 12) (.s 13), none, false⟩])
    (vc29_101 e φ))
def vc29_1018 (e : Nat) (φ : Nat → Nat) : VC :=
  (.draw [⟨some 18, .mv (.s 9), none, false⟩,
    ⟨some 19, .mv (.s 1), none, false⟩,
    ⟨some 20, .cmp .gtr (.s 18) (.s 19), none, false⟩,
    ⟨some 21, .mv (.s 20), none, false⟩,
    ⟨some 22, .mv (.s 3), some (21, true), false⟩,
    ⟨some 23, .mv (.s 0), some (21, true), false⟩,
    ⟨some 24, .mv (.s 9), some (21, true), false⟩,
    ⟨some 25, .idx e (.s 23) (.s 24), some (21, true), false⟩,
    ⟨some 26, .load (some e) (.s 25), some (21, true), false⟩,
    ⟨some 27, .mv (.s 0), some (21, true), false⟩,
    ⟨some 28, .mv (.s 9), some (21, true), false⟩,
    ⟨some 29, .arith .sub (.s 28) (.c (.int .i64 1)), some (21, true), false⟩,
    ⟨some 30, .idx e (.s 27) (.s 29), some (21, true), false⟩,
    ⟨some 31, .load (some e) (.s 30), some (21, true), false⟩,
    ⟨some 32, .call (.s 22) [(.s 26), (.s 31)], some (21, true), false⟩,
    ⟨some 33, .cmp .lss (.s 32) (.c (.int .i64 0)), some (21, true), false⟩,
    ⟨some 34, .pick (.s 21) (.s 33) (.c (.bool false)), none, false⟩] [0, 1, 2, 3, 4, 5, 6, 7, 8, 9, 10, 11, 12, 13, 14, 15, 16])
def vc29_103 (e : Nat) (φ : Nat → Nat) : VC :=
  (.cond (.s 34)
    .skip
    (.exit 2))
def vc29_104 (e : Nat) (φ : Nat → Nat) : VC :=
  (.seq
          (vc29_1018 e φ)
    (vc29_103 e φ))
def vc29_1037 (e : Nat) (φ : Nat → Nat) : VC :=
  (.draw [⟨some 37, .mv (.s 0), none, false⟩,
    ⟨some 38, .mv (.s 9), none, false⟩,
    ⟨some 39, .mv (.s 0), none, false⟩,
    ⟨some 40, .mv (.s 9), none, false⟩,
    ⟨some 41, .arith .sub (.s 40) (.c (.int .i64 1)), none, false⟩,
    ⟨some 42, .mv (.s 0), none, false⟩,
    ⟨some 43, .mv (.s 9), none, false⟩,
    ⟨some 44, .arith .sub (.s 43) (.c (.int .i64 1)), none, false⟩,
    ⟨some 45, .idx e (.s 42) (.s 44), none, false⟩,
    ⟨some 46, .load (some e) (.s 45), none, false⟩,
    ⟨some 47, .mv (.s 0), none, false⟩,
    ⟨some 48, .mv (.s 9), none, false⟩,
    ⟨some 49, .idx e (.s 47) (.s 48), none, false⟩,
    ⟨some 50, .load (some e) (.s 49), none, false⟩,
    ⟨some 51, .idx e (.s 37) (.s 38), none, false⟩,
    ⟨none, .store e (.s 51) (.s 46), none, false⟩,
    ⟨some 52, .idx e (.s 39) (.s 41), none, false⟩,
    ⟨none, .store e (.s 52) (.s 50), none, false⟩] [0, 1, 2, 3, 4, 5, 6, 7, 8, 9, 10, 11, 12, 13, 14, 15, 16, 17])
def vc29_105 (e : Nat) (φ : Nat → Nat) : VC :=
  (.reg [⟨some 35, .mv (.s 9), none, false⟩,
    ⟨some 36, .arith .sub (.s 35) (.c (.int .i64 1)), none, false⟩,
    ⟨some 9, .mv (.s 36), none, false⟩])
def vc29_106 (e : Nat) (φ : Nat → Nat) : VC :=
  (.seq
    (.block 3
      (vc29_1037 e φ))
    (vc29_105 e φ))
def vc29_107 (e : Nat) (φ : Nat → Nat) : VC :=
  (vc29_106 e φ)
def vc29_108 (e : Nat) (φ : Nat → Nat) : VC :=
  (.seq
        (vc29_104 e φ)
    (vc29_107 e φ))
def vc29_109 (e : Nat) (φ : Nat → Nat) : VC :=
  (.block 2
    (.loop
      (vc29_108 e φ)))
def vc29_110 (e : Nat) (φ : Nat → Nat) : VC :=
  (.seq
        (.reg [⟨some 17, .mv (.s 8), none, false⟩,
          ⟨some 9, .mv (.s 17), none, false⟩])
    (vc29_109 e φ))
def vc29_111 (e : Nat) (φ : Nat → Nat) : VC :=
  (.reg [⟨some 15, .mv (.s 8), none, false⟩,
    ⟨some 16, .arith .add (.s 15) (.c (.int .i64 1)), none, false⟩,
    ⟨some 8, .mv (.s 16), none, false⟩])
def vc29_112 (e : Nat) (φ : Nat → Nat) : VC :=
  (.seq
    (.block 1
      (vc29_110 e φ))
    (vc29_111 e φ))
def vc29_113 (e : Nat) (φ : Nat → Nat) : VC :=
  (vc29_112 e φ)
def vc29_114 (e : Nat) (φ : Nat → Nat) : VC :=
  (.seq
        (vc29_102 e φ)
    (vc29_113 e φ))
def vc29_1 (e : Nat) (φ : Nat → Nat) : VC :=
  (.block 0
    (.loop
      (vc29_114 e φ)))
/-- slices.insertionSortCmpFunc[bypath/api.Timer] -/
def vc29 (e : Nat) (φ : Nat → Nat) : VC :=
  (.seq
    (.reg [⟨some 10, .mv (.s 1), none, false⟩,
      ⟨some 11, .arith .add (.s 10) (.c (.int .i64 1)), none, false⟩,
      ⟨some 8, .mv (.s 11), none, false⟩])
    (vc29_1 e φ))

def vc30_101 (e : Nat) (φ : Nat → Nat) : VC :=
  (.cond (.s 33)
    .skip
    (.exit 2))
def vc30_102 (e : Nat) (φ : Nat → Nat) : VC :=
  (.seq
          (.reg [⟨some 32, .mv (.s 12), none, false⟩,
            ⟨some 33, .cmp .geq (.s 32) (.c (.int .i64 0)), none, false⟩])
    (vc30_101 e φ))
def vc30_1036 (e : Nat) (φ : Nat → Nat) : VC :=
  (.draw [⟨some 36, .mv (.s 0), none, false⟩,
    ⟨some 37, .mv (.s 8), none, false⟩,
    ⟨some 38, .mv (.s 0), none, false⟩,
    ⟨some 39, .mv (.s 8), none, false⟩,
    ⟨some 40, .mv (.s 12), none, false⟩,
    ⟨some 41, .arith .add (.s 39) (.s 40), none, false⟩,
    ⟨some 42, .mv (.s 0), none, false⟩,
    ⟨some 43, .mv (.s 8), none, false⟩,
    ⟨some 44, .mv (.s 12), none, false⟩,
    ⟨some 45, .arith .add (.s 43) (.s 44), none, false⟩,
    ⟨some 46, .idx e (.s 42) (.s 45), none, false⟩,
    ⟨some 47, .load (some e) (.s 46), none, false⟩,
    ⟨some 48, .mv (.s 0), none, false⟩,
    ⟨some 49, .mv (.s 8), none, false⟩,
    ⟨some 50, .idx e (.s 48) (.s 49), none, false⟩,
    ⟨some 51, .load (some e) (.s 50), none, false⟩,
    ⟨some 52, .idx e (.s 36) (.s 37), none, false⟩,
    ⟨none, .store e (.s 52) (.s 47), none, false⟩,
    ⟨some 53, .idx e (.s 38) (.s 41), none, false⟩,
    ⟨none, .store e (.s 53) (.s 51), none, false⟩] [0, 1, 2, 3, 4, 5, 6, 7, 8, 9, 10, 11, 12, 13, 14, 15, 16, 17, 18, 19])
def vc30_103 (e : Nat) (φ : Nat → Nat) : VC :=
  (.reg [⟨some 54, .mv (.s 0), none, false⟩,
    ⟨some 55, .mv (.s 9), none, false⟩,
    ⟨some 56, .mv (.s 12), none, false⟩,
    ⟨some 57, .mv (.s 8), none, false⟩,
    ⟨some 58, .mv (.s 3), none, false⟩,
    ⟨some 59, .call (.f (φ 40)) [(.s 54), (.s 55), (.s 56), (.s 57), (.s 58)], none, false⟩])
def vc30_104 (e : Nat) (φ : Nat → Nat) : VC :=
  (.seq
        (vc30_1036 e φ)
    (vc30_103 e φ))
def vc30_105 (e : Nat) (φ : Nat → Nat) : VC :=
  (.reg [⟨some 34, .mv (.s 12), none, false⟩,
    ⟨some 35, .arith .sub (.s 34) (.c (.int .i64 1)), none, false⟩,
    ⟨some 12, .mv (.s 35), none, false⟩])
def vc30_106 (e : Nat) (φ : Nat → Nat) : VC :=
  (.seq
    (.block 3
      (vc30_104 e φ))
    (vc30_105 e φ))
def vc30_107 (e : Nat) (φ : Nat → Nat) : VC :=
  (vc30_106 e φ)
def vc30_108 (e : Nat) (φ : Nat → Nat) : VC :=
  (.seq
        (vc30_102 e φ)
    (vc30_107 e φ))
def vc30_109 (e : Nat) (φ : Nat → Nat) : VC :=
  (.cond (.s 21)
    .skip
    (.exit 0))
def vc30_110 (e : Nat) (φ : Nat → Nat) : VC :=
  (.seq
          (.reg [⟨some 20, .mv (.s 11), none, false⟩,
            ⟨some 21, .cmp .geq (.s 20) (.c (.int .i64 0)), none, false⟩])
    (vc30_109 e φ))
def vc30_111 (e : Nat) (φ : Nat → Nat) : VC :=
  (.reg [⟨some 22, .mv (.s 11), none, false⟩,
    ⟨some 23, .arith .sub (.s 22) (.c (.int .i64 1)), none, false⟩,
    ⟨some 11, .mv (.s 23), none, false⟩])
def vc30_112 (e : Nat) (φ : Nat → Nat) : VC :=
  (.seq
    (.block 1
      (.reg [⟨some 24, .mv (.s 0), none, false⟩,
        ⟨some 25, .mv (.s 11), none, false⟩,
        ⟨some 26, .mv (.s 10), none, false⟩,
        ⟨some 27, .mv (.s 8), none, false⟩,
        ⟨some 28, .mv (.s 3), none, false⟩,
        ⟨some 29, .call (.f (φ 40)) [(.s 24), (.s 25), (.s 26), (.s 27), (.s 28)], none, false⟩]))
    (vc30_111 e φ))
def vc30_113 (e : Nat) (φ : Nat → Nat) : VC :=
  (vc30_112 e φ)
def vc30_114 (e : Nat) (φ : Nat → Nat) : VC :=
  (.seq
        (vc30_110 e φ)
    (vc30_113 e φ))
def vc30_115 (e : Nat) (φ : Nat → Nat) : VC :=
  (.block 0
    (.loop
      (vc30_114 e φ)))
def vc30_116 (e : Nat) (φ : Nat → Nat) : VC :=
  (.seq
      (.reg [⟨some 17, .mv (.s 10), none, false⟩,
        ⟨some 18, .arith .sub (.s 17) (.c (.int .i64 1)), none, false⟩,
        ⟨some 19, .divm .quo (.s 18) (.c (.int .i64 2)), none, false⟩,
        ⟨some 11, .mv (.s 19), none, false⟩])
    (vc30_115 e φ))
def vc30_5 (e : Nat) (φ : Nat → Nat) : VC :=
  (.block 2
    (.loop
      (vc30_108 e φ)))
def vc30_4 (e : Nat) (φ : Nat → Nat) : VC :=
  (.seq
    (.reg [⟨some 30, .mv (.s 10), none, false⟩,
      ⟨some 31, .arith .sub (.s 30) (.c (.int .i64 1)), none, false⟩,
      ⟨some 12, .mv (.s 31), none, false⟩])
    (vc30_5 e φ))
def vc30_3 (e : Nat) (φ : Nat → Nat) : VC :=
  (.seq
    (vc30_116 e φ)
    (vc30_4 e φ))
def vc30_2 (e : Nat) (φ : Nat → Nat) : VC :=
  (.seq
    (.reg [⟨some 14, .mv (.s 2), none, false⟩,
      ⟨some 15, .mv (.s 1), none, false⟩,
      ⟨some 16, .arith .sub (.s 14) (.s 15), none, false⟩,
      ⟨some 10, .mv (.s 16), none, false⟩])
    (vc30_3 e φ))
def vc30_1 (e : Nat) (φ : Nat → Nat) : VC :=
  (.seq
    (.reg [⟨some 9, .mv (.c (.int .i64 0)), none, false⟩])
    (vc30_2 e φ))
/-- slices.heapSortCmpFunc[bypath/api.Timer] -/
def vc30 (e : Nat) (φ : Nat → Nat) : VC :=
  (.seq
    (.reg [⟨some 13, .mv (.s 1), none, false⟩,
      ⟨some 8, .mv (.s 13), none, false⟩])
    (vc30_1 e φ))

def vc31_101 (e : Nat) (φ : Nat → Nat) : VC :=
  (.cond (.s 35)
    .skip
    (.exit 0))
def vc31_102 (e : Nat) (φ : Nat → Nat) : VC :=
  (.seq
          (.reg [⟨some 28, .mv (.s 11), none, false⟩,
            ⟨some 29, .mv (.s 1), none, false⟩,
            ⟨some 30, .mv (.s 8), none, false⟩,
            ⟨some 31, .divm .quo (.s 30) (.c (.int .i64 4)), none, false⟩,
            ⟨some 32, .arith .mul (.s 31) (.c (.int .i64 2)), none, false⟩,
            ⟨some 33, .arith .add (.s 29) (.s 32), none, false⟩,
            ⟨some 34, .arith .add (.s 33) (.c (.int .i64 1)), none, false⟩,
            ⟨some 35, .cmp .leq (.s 28) (.s 34), none, false⟩])
    (vc31_101 e φ))
def vc31_103 (e : Nat) (φ : Nat → Nat) : VC :=
  (.cond (.s 45)
    (.reg [⟨some 46, .mv (.s 12), none, false⟩,
      ⟨some 47, .mv (.s 8), none, false⟩,
      ⟨some 48, .arith .sub (.s 46) (.s 47), none, false⟩,
      ⟨some 12, .mv (.s 48), none, false⟩])
    .skip)
def vc31_104 (e : Nat) (φ : Nat → Nat) : VC :=
  (.seq
      (.reg [⟨some 43, .mv (.s 12), none, false⟩,
        ⟨some 44, .mv (.s 8), none, false⟩,
        ⟨some 45, .cmp .geq (.s 43) (.s 44), none, false⟩])
    (vc31_103 e φ))
def vc31_1049 (e : Nat) (φ : Nat → Nat) : VC :=
  (.draw [⟨some 49, .mv (.s 0), none, false⟩,
    ⟨some 50, .mv (.s 11), none, false⟩,
    ⟨some 51, .mv (.s 0), none, false⟩,
    ⟨some 52, .mv (.s 1), none, false⟩,
    ⟨some 53, .mv (.s 12), none, false⟩,
    ⟨some 54, .arith .add (.s 52) (.s 53), none, false⟩,
    ⟨some 55, .mv (.s 0), none, false⟩,
    ⟨some 56, .mv (.s 1), none, false⟩,
    ⟨some 57, .mv (.s 12), none, false⟩,
    ⟨some 58, .arith .add (.s 56) (.s 57), none, false⟩,
    ⟨some 59, .idx e (.s 55) (.s 58), none, false⟩,
    ⟨some 60, .load (some e) (.s 59), none, false⟩,
    ⟨some 61, .mv (.s 0), none, false⟩,
    ⟨some 62, .mv (.s 11), none, false⟩,
    ⟨some 63, .idx e (.s 61) (.s 62), none, false⟩,
    ⟨some 64, .load (some e) (.s 63), none, false⟩,
    ⟨some 65, .idx e (.s 49) (.s 50), none, false⟩,
    ⟨none, .store e (.s 65) (.s 60), none, false⟩,
    ⟨some 66, .idx e (.s 51) (.s 54), none, false⟩,
    ⟨none, .store e (.s 66) (.s 64), none, false⟩] [0, 1, 2, 3, 4, 5, 6, 7, 8, 9, 10, 11, 12, 13, 14, 15, 16, 17, 18, 19])
def vc31_105 (e : Nat) (φ : Nat → Nat) : VC :=
  (vc31_1049 e φ)
def vc31_106 (e : Nat) (φ : Nat → Nat) : VC :=
  (.seq
    (vc31_104 e φ)
    (vc31_105 e φ))
def vc31_107 (e : Nat) (φ : Nat → Nat) : VC :=
  (vc31_106 e φ)
def vc31_108 (e : Nat) (φ : Nat → Nat) : VC :=
  (.seq
        (.reg [⟨some 38, .call (.f (φ 42)) [(.s 9)], none, false⟩,
          ⟨some 39, .mv (.s 10), none, false⟩,
          ⟨some 40, .arith .sub (.s 39) (.c (.int .u64 1)), none, false⟩,
          ⟨some 41, .bits .and (.s 38) (.s 40), none, false⟩,
          ⟨some 42, .conv .i64 (.s 41), none, false⟩,
          ⟨some 12, .mv (.s 42), none, false⟩])
    (vc31_107 e φ))
def vc31_109 (e : Nat) (φ : Nat → Nat) : VC :=
  (.reg [⟨some 36, .mv (.s 11), none, false⟩,
    ⟨some 37, .arith .add (.s 36) (.c (.int .i64 1)), none, false⟩,
    ⟨some 11, .mv (.s 37), none, false⟩])
def vc31_110 (e : Nat) (φ : Nat → Nat) : VC :=
  (.seq
    (.block 1
      (vc31_108 e φ))
    (vc31_109 e φ))
def vc31_111 (e : Nat) (φ : Nat → Nat) : VC :=
  (vc31_110 e φ)
def vc31_112 (e : Nat) (φ : Nat → Nat) : VC :=
  (.seq
        (vc31_102 e φ)
    (vc31_111 e φ))
def vc31_113 (e : Nat) (φ : Nat → Nat) : VC :=
  (.block 0
    (.loop
      (vc31_112 e φ)))
def vc31_114 (e : Nat) (φ : Nat → Nat) : VC :=
  (.seq
    (.reg [⟨some 22, .mv (.s 1), none, false⟩,
      ⟨some 23, .mv (.s 8), none, false⟩,
      ⟨some 24, .divm .quo (.s 23) (.c (.int .i64 4)), none, false⟩,
      ⟨some 25, .arith .mul (.s 24) (.c (.int .i64 2)), none, false⟩,
      ⟨some 26, .arith .add (.s 22) (.s 25), none, false⟩,
      ⟨some 27, .arith .sub (.s 26) (.c (.int .i64 1)), none, false⟩,
      ⟨some 11, .mv (.s 27), none, false⟩])
    (vc31_113 e φ))
def vc31_115 (e : Nat) (φ : Nat → Nat) : VC :=
  (vc31_114 e φ)
def vc31_116 (e : Nat) (φ : Nat → Nat) : VC :=
  (.seq
    (.reg [⟨some 20, .mv (.s 8), none, false⟩,
      ⟨some 21, .call (.f (φ 41)) [(.s 20)], none, false⟩,
      ⟨some 10, .mv (.s 21), none, false⟩])
    (vc31_115 e φ))
def vc31_117 (e : Nat) (φ : Nat → Nat) : VC :=
  (vc31_116 e φ)
def vc31_118 (e : Nat) (φ : Nat → Nat) : VC :=
  (.seq
      (.reg [⟨some 18, .mv (.s 8), none, false⟩,
        ⟨some 19, .conv .u64 (.s 18), none, false⟩,
        ⟨some 9, .alloc [.int .u64 0], none, false⟩,
        ⟨none, .store 1 (.s 9) (.s 19), none, false⟩])
    (vc31_117 e φ))
def vc31_2 (e : Nat) (φ : Nat → Nat) : VC :=
  (.cond (.s 17)
    (vc31_118 e φ)
    .skip)
def vc31_1 (e : Nat) (φ : Nat → Nat) : VC :=
  (.seq
    (.reg [⟨some 16, .mv (.s 8), none, false⟩,
      ⟨some 17, .cmp .geq (.s 16) (.c (.int .i64 8)), none, false⟩])
    (vc31_2 e φ))
/-- slices.breakPatternsCmpFunc[bypath/api.Timer] -/
def vc31 (e : Nat) (φ : Nat → Nat) : VC :=
  (.seq
    (.reg [⟨some 13, .mv (.s 2), none, false⟩,
      ⟨some 14, .mv (.s 1), none, false⟩,
      ⟨some 15, .arith .sub (.s 13) (.s 14), none, false⟩,
      ⟨some 8, .mv (.s 15), none, false⟩])
    (vc31_1 e φ))

def vc32_101 (e : Nat) (φ : Nat → Nat) : VC :=
  .ret
def vc32_102 (e : Nat) (φ : Nat → Nat) : VC :=
  (.seq
      (.reg [⟨some 59, .mv (.s 13), none, false⟩,
        ⟨some 8, .mv (.s 59), none, false⟩,
        ⟨some 9, .mv (.c (.int .i64 1)), none, false⟩])
    (vc32_101 e φ))
def vc32_103 (e : Nat) (φ : Nat → Nat) : VC :=
  .ret
def vc32_104 (e : Nat) (φ : Nat → Nat) : VC :=
  (.seq
      (.reg [⟨some 62, .mv (.s 13), none, false⟩,
        ⟨some 8, .mv (.s 62), none, false⟩,
        ⟨some 9, .mv (.c (.int .i64 2)), none, false⟩])
    (vc32_103 e φ))
def vc32_105 (e : Nat) (φ : Nat → Nat) : VC :=
  .ret
def vc32_106 (e : Nat) (φ : Nat → Nat) : VC :=
  (.seq
      (.reg [⟨some 56, .mv (.s 13), none, false⟩,
        ⟨some 8, .mv (.s 56), none, false⟩,
        ⟨some 9, .mv (.c (.int .i64 0)), none, false⟩])
    (vc32_105 e φ))
def vc32_107 (e : Nat) (φ : Nat → Nat) : VC :=
  (.cond (.s 60)
    (vc32_104 e φ)
    (vc32_106 e φ))
def vc32_108 (e : Nat) (φ : Nat → Nat) : VC :=
  (.seq
      (.reg [⟨some 61, .cmp .eql (.s 55) (.c (.int .i64 12)), none, false⟩,
        ⟨some 60, .mv (.s 61), none, false⟩])
    (vc32_107 e φ))
def vc32_109 (e : Nat) (φ : Nat → Nat) : VC :=
  (.cond (.s 57)
    (vc32_102 e φ)
    (vc32_108 e φ))
def vc32_110 (e : Nat) (φ : Nat → Nat) : VC :=
  (.seq
      (.reg [⟨some 58, .cmp .eql (.s 55) (.c (.int .i64 0)), none, false⟩,
        ⟨some 57, .mv (.s 58), none, false⟩])
    (vc32_109 e φ))
def vc32_111 (e : Nat) (φ : Nat → Nat) : VC :=
  (.reg [⟨some 45, .mv (.s 0), none, false⟩,
    ⟨some 46, .mv (.s 14), none, false⟩,
    ⟨some 47, .mv (.s 3), none, false⟩,
    ⟨some 48, .call (.f (φ 43)) [(.s 45), (.s 46), (.s 11), (.s 47)], none, false⟩,
    ⟨some 14, .mv (.s 48), none, false⟩])
def vc32_112 (e : Nat) (φ : Nat → Nat) : VC :=
  (.seq
    (.reg [⟨some 41, .mv (.s 0), none, false⟩,
      ⟨some 42, .mv (.s 13), none, false⟩,
      ⟨some 43, .mv (.s 3), none, false⟩,
      ⟨some 44, .call (.f (φ 43)) [(.s 41), (.s 42), (.s 11), (.s 43)], none, false⟩,
      ⟨some 13, .mv (.s 44), none, false⟩])
    (vc32_111 e φ))
def vc32_113 (e : Nat) (φ : Nat → Nat) : VC :=
  (vc32_112 e φ)
def vc32_114 (e : Nat) (φ : Nat → Nat) : VC :=
  (.seq
      (.reg [⟨some 37, .mv (.s 0), none, false⟩,
        ⟨some 38, .mv (.s 12), none, false⟩,
        ⟨some 39, .mv (.s 3), none, false⟩,
        ⟨some 40, .call (.f (φ 43)) [(.s 37), (.s 38), (.s 11), (.s 39)], none, false⟩,
        ⟨some 12, .mv (.s 40), none, false⟩])
    (vc32_113 e φ))
def vc32_115 (e : Nat) (φ : Nat → Nat) : VC :=
  (.cond (.s 36)
    (vc32_114 e φ)
    .skip)
def vc32_116 (e : Nat) (φ : Nat → Nat) : VC :=
  (.seq
        (.reg [⟨some 35, .mv (.s 10), none, false⟩,
          ⟨some 36, .cmp .geq (.s 35) (.c (.int .i64 50)), none, false⟩])
    (vc32_115 e φ))
def vc32_117 (e : Nat) (φ : Nat → Nat) : VC :=
  (.reg [⟨some 49, .mv (.s 0), none, false⟩,
    ⟨some 50, .mv (.s 12), none, false⟩,
    ⟨some 51, .mv (.s 13), none, false⟩,
    ⟨some 52, .mv (.s 14), none, false⟩,
    ⟨some 53, .mv (.s 3), none, false⟩,
    ⟨some 54, .call (.f (φ 44)) [(.s 49), (.s 50), (.s 51), (.s 52), (.s 11), (.s 53)], none, false⟩,
    ⟨some 13, .mv (.s 54), none, false⟩])
def vc32_118 (e : Nat) (φ : Nat → Nat) : VC :=
  (.seq
      (vc32_116 e φ)
    (vc32_117 e φ))
def vc32_119 (e : Nat) (φ : Nat → Nat) : VC :=
  (.cond (.s 34)
    (vc32_118 e φ)
    .skip)
def vc32_120 (e : Nat) (φ : Nat → Nat) : VC :=
  (.seq
      (.reg [⟨some 33, .mv (.s 10), none, false⟩,
        ⟨some 34, .cmp .geq (.s 33) (.c (.int .i64 8)), none, false⟩])
    (vc32_119 e φ))
def vc32_8 (e : Nat) (φ : Nat → Nat) : VC :=
  (.block 0
    (vc32_110 e φ))
def vc32_7 (e : Nat) (φ : Nat → Nat) : VC :=
  (.seq
    (.reg [⟨some 55, .load none (.s 11), none, false⟩])
    (vc32_8 e φ))
def vc32_6 (e : Nat) (φ : Nat → Nat) : VC :=
  (.seq
    (vc32_120 e φ)
    (vc32_7 e φ))
def vc32_5 (e : Nat) (φ : Nat → Nat) : VC :=
  (.seq
    (.reg [⟨some 28, .mv (.s 1), none, false⟩,
      ⟨some 29, .mv (.s 10), none, false⟩,
      ⟨some 30, .divm .quo (.s 29) (.c (.int .i64 4)), none, false⟩,
      ⟨some 31, .arith .mul (.s 30) (.c (.int .i64 3)), none, false⟩,
      ⟨some 32, .arith .add (.s 28) (.s 31), none, false⟩,
      ⟨some 14, .mv (.s 32), none, false⟩])
    (vc32_6 e φ))
def vc32_4 (e : Nat) (φ : Nat → Nat) : VC :=
  (.seq
    (.reg [⟨some 23, .mv (.s 1), none, false⟩,
      ⟨some 24, .mv (.s 10), none, false⟩,
      ⟨some 25, .divm .quo (.s 24) (.c (.int .i64 4)), none, false⟩,
      ⟨some 26, .arith .mul (.s 25) (.c (.int .i64 2)), none, false⟩,
      ⟨some 27, .arith .add (.s 23) (.s 26), none, false⟩,
      ⟨some 13, .mv (.s 27), none, false⟩])
    (vc32_5 e φ))
def vc32_3 (e : Nat) (φ : Nat → Nat) : VC :=
  (.seq
    (.reg [⟨some 18, .mv (.s 1), none, false⟩,
      ⟨some 19, .mv (.s 10), none, false⟩,
      ⟨some 20, .divm .quo (.s 19) (.c (.int .i64 4)), none, false⟩,
      ⟨some 21, .arith .mul (.s 20) (.c (.int .i64 1)), none, false⟩,
      ⟨some 22, .arith .add (.s 18) (.s 21), none, false⟩,
      ⟨some 12, .mv (.s 22), none, false⟩])
    (vc32_4 e φ))
def vc32_2 (e : Nat) (φ : Nat → Nat) : VC :=
  (.seq
    (.reg [⟨some 11, .alloc [.int .i64 0], none, false⟩])
    (vc32_3 e φ))
def vc32_1 (e : Nat) (φ : Nat → Nat) : VC :=
  (.seq
    (.reg [⟨some 15, .mv (.s 2), none, false⟩,
      ⟨some 16, .mv (.s 1), none, false⟩,
      ⟨some 17, .arith .sub (.s 15) (.s 16), none, false⟩,
      ⟨some 10, .mv (.s 17), none, false⟩])
    (vc32_2 e φ))
/-- slices.choosePivotCmpFunc[bypath/api.Timer] -/
def vc32 (e : Nat) (φ : Nat → Nat) : VC :=
  (.seq
    (.reg [⟨some 8, .mv (.c (.int .i64 0)), none, false⟩,
      ⟨some 9, .mv (.c (.int .i64 0)), none, false⟩])
    (vc32_1 e φ))

def vc33_101 (e : Nat) (φ : Nat → Nat) : VC :=
  (.cond (.s 15)
    .skip
    (.exit 0))
def vc33_102 (e : Nat) (φ : Nat → Nat) : VC :=
  (.seq
          (.reg [⟨some 13, .mv (.s 8), none, false⟩,
            ⟨some 14, .mv (.s 9), none, false⟩,
            ⟨some 15, .cmp .lss (.s 13) (.s 14), none, false⟩])
    (vc33_101 e φ))
def vc33_1016 (e : Nat) (φ : Nat → Nat) : VC :=
  (.draw [⟨some 16, .mv (.s 0), none, false⟩,
    ⟨some 17, .mv (.s 8), none, false⟩,
    ⟨some 18, .mv (.s 0), none, false⟩,
    ⟨some 19, .mv (.s 9), none, false⟩,
    ⟨some 20, .mv (.s 0), none, false⟩,
    ⟨some 21, .mv (.s 9), none, false⟩,
    ⟨some 22, .idx e (.s 20) (.s 21), none, false⟩,
    ⟨some 23, .load (some e) (.s 22), none, false⟩,
    ⟨some 24, .mv (.s 0), none, false⟩,
    ⟨some 25, .mv (.s 8), none, false⟩,
    ⟨some 26, .idx e (.s 24) (.s 25), none, false⟩,
    ⟨some 27, .load (some e) (.s 26), none, false⟩,
    ⟨some 28, .idx e (.s 16) (.s 17), none, false⟩,
    ⟨none, .store e (.s 28) (.s 23), none, false⟩,
    ⟨some 29, .idx e (.s 18) (.s 19), none, false⟩,
    ⟨none, .store e (.s 29) (.s 27), none, false⟩] [0, 1, 2, 3, 4, 5, 6, 7, 8, 9, 10, 11, 12, 13, 14, 15])
def vc33_103 (e : Nat) (φ : Nat → Nat) : VC :=
  (.reg [⟨some 32, .mv (.s 9), none, false⟩,
    ⟨some 33, .arith .sub (.s 32) (.c (.int .i64 1)), none, false⟩,
    ⟨some 9, .mv (.s 33), none, false⟩])
def vc33_104 (e : Nat) (φ : Nat → Nat) : VC :=
  (.seq
    (.reg [⟨some 30, .mv (.s 8), none, false⟩,
      ⟨some 31, .arith .add (.s 30) (.c (.int .i64 1)), none, false⟩,
      ⟨some 8, .mv (.s 31), none, false⟩])
    (vc33_103 e φ))
def vc33_105 (e : Nat) (φ : Nat → Nat) : VC :=
  (vc33_104 e φ)
def vc33_106 (e : Nat) (φ : Nat → Nat) : VC :=
  (.seq
      (vc33_1016 e φ)
    (vc33_105 e φ))
def vc33_107 (e : Nat) (φ : Nat → Nat) : VC :=
  (.block 1
    (vc33_106 e φ))
def vc33_108 (e : Nat) (φ : Nat → Nat) : VC :=
  (.seq
        (vc33_102 e φ)
    (vc33_107 e φ))
def vc33_2 (e : Nat) (φ : Nat → Nat) : VC :=
  (.block 0
    (.loop
      (vc33_108 e φ)))
def vc33_1 (e : Nat) (φ : Nat → Nat) : VC :=
  (.seq
    (.reg [⟨some 11, .mv (.s 2), none, false⟩,
      ⟨some 12, .arith .sub (.s 11) (.c (.int .i64 1)), none, false⟩,
      ⟨some 9, .mv (.s 12), none, false⟩])
    (vc33_2 e φ))
/-- slices.reverseRangeCmpFunc[bypath/api.Timer] -/
def vc33 (e : Nat) (φ : Nat → Nat) : VC :=
  (.seq
    (.reg [⟨some 10, .mv (.s 1), none, false⟩,
      ⟨some 8, .mv (.s 10), none, false⟩])
    (vc33_1 e φ))

def vc34_101 (e : Nat) (φ : Nat → Nat) : VC :=
  (.cond (.s 16)
    .skip
    (.exit 0))
def vc34_102 (e : Nat) (φ : Nat → Nat) : VC :=
  (.seq
          (.reg [⟨some 15, .mv (.s 10), none, false⟩,
            ⟨some 16, .cmp .lss (.s 15) (.c (.int .i64 5)), none, false⟩])
    (vc34_101 e φ))
def vc34_1019 (e : Nat) (φ : Nat → Nat) : VC :=
  (.draw [⟨some 19, .mv (.s 9), none, false⟩,
    ⟨some 20, .mv (.s 2), none, false⟩,
    ⟨some 21, .cmp .lss (.s 19) (.s 20), none, false⟩,
    ⟨some 22, .mv (.s 21), none, false⟩,
    ⟨some 23, .mv (.s 3), some (22, true), false⟩,
    ⟨some 24, .mv (.s 0), some (22, true), false⟩,
    ⟨some 25, .mv (.s 9), some (22, true), false⟩,
    ⟨some 26, .idx e (.s 24) (.s 25), some (22, true), false⟩,
    ⟨some 27, .load (some e) (.s 26), some (22, true), false⟩,
    ⟨some 28, .mv (.s 0), some (22, true), false⟩,
    ⟨some 29, .mv (.s 9), some (22, true), false⟩,
    ⟨some 30, .arith .sub (.s 29) (.c (.int .i64 1)), some (22, true), false⟩,
    ⟨some 31, .idx e (.s 28) (.s 30), some (22, true), false⟩,
    ⟨some 32, .load (some e) (.s 31), some (22, true), false⟩,
    ⟨some 33, .call (.s 23) [(.s 27), (.s 32)], some (22, true), false⟩,
    ⟨some 34, .cmp .lss (.s 33) (.c (.int .i64 0)), some (22, true), false⟩,
    ⟨some 35, .not (.s 34), some (22, true), false⟩,
    ⟨some 36, .pick (.s 22) (.s 35) (.c (.bool false)), none, false⟩] [0, 1, 2, 3, 4, 5, 6, 7, 8, 9, 10, 11, 12, 13, 14, 15, 16, 17])
def vc34_103 (e : Nat) (φ : Nat → Nat) : VC :=
  (.cond (.s 36)
    .skip
    (.exit 2))
def vc34_104 (e : Nat) (φ : Nat → Nat) : VC :=
  (.seq
                (vc34_1019 e φ)
    (vc34_103 e φ))
def vc34_105 (e : Nat) (φ : Nat → Nat) : VC :=
  (.block 3
    (.reg [⟨some 37, .mv (.s 9), none, false⟩,
      ⟨some 38, .arith .add (.s 37) (.c (.int .i64 1)), none, false⟩,
      ⟨some 9, .mv (.s 38), none, false⟩]))
def vc34_106 (e : Nat) (φ : Nat → Nat) : VC :=
  (.seq
              (vc34_104 e φ)
    (vc34_105 e φ))
def vc34_107 (e : Nat) (φ : Nat → Nat) : VC :=
  .ret
def vc34_108 (e : Nat) (φ : Nat → Nat) : VC :=
  (.seq
      (.reg [⟨some 8, .mv (.c (.bool true)), none, false⟩])
    (vc34_107 e φ))
def vc34_109 (e : Nat) (φ : Nat → Nat) : VC :=
  (.cond (.s 41)
    (vc34_108 e φ)
    .skip)
def vc34_110 (e : Nat) (φ : Nat → Nat) : VC :=
  (.seq
      (.reg [⟨some 39, .mv (.s 9), none, false⟩,
        ⟨some 40, .mv (.s 2), none, false⟩,
        ⟨some 41, .cmp .eql (.s 39) (.s 40), none, false⟩])
    (vc34_109 e φ))
def vc34_111 (e : Nat) (φ : Nat → Nat) : VC :=
  .ret
def vc34_112 (e : Nat) (φ : Nat → Nat) : VC :=
  (.seq
      (.reg [⟨some 8, .mv (.c (.bool false)), none, false⟩])
    (vc34_111 e φ))
def vc34_113 (e : Nat) (φ : Nat → Nat) : VC :=
  (.cond (.s 45)
    (vc34_112 e φ)
    .skip)
def vc34_114 (e : Nat) (φ : Nat → Nat) : VC :=
  (.seq
      (.reg [⟨some 42, .mv (.s 2), none, false⟩,
        ⟨some 43, .mv (.s 1), none, false⟩,
        ⟨some 44, .arith .sub (.s 42) (.s 43), none, false⟩,
        ⟨some 45, .cmp .lss (.s 44) (.c (.int .i64 50)), none, false⟩])
    (vc34_113 e φ))
def vc34_1046 (e : Nat) (φ : Nat → Nat) : VC :=
  (.draw [⟨some 46, .mv (.s 0), none, false⟩,
    ⟨some 47, .mv (.s 9), none, false⟩,
    ⟨some 48, .mv (.s 0), none, false⟩,
    ⟨some 49, .mv (.s 9), none, false⟩,
    ⟨some 50, .arith .sub (.s 49) (.c (.int .i64 1)), none, false⟩,
    ⟨some 51, .mv (.s 0), none, false⟩,
    ⟨some 52, .mv (.s 9), none, false⟩,
    ⟨some 53, .arith .sub (.s 52) (.c (.int .i64 1)), none, false⟩,
    ⟨some 54, .idx e (.s 51) (.s 53), none, false⟩,
    ⟨some 55, .load (some e) (.s 54), none, false⟩,
    ⟨some 56, .mv (.s 0), none, false⟩,
    ⟨some 57, .mv (.s 9), none, false⟩,
    ⟨some 58, .idx e (.s 56) (.s 57), none, false⟩,
    ⟨some 59, .load (some e) (.s 58), none, false⟩,
    ⟨some 60, .idx e (.s 46) (.s 47), none, false⟩,
    ⟨none, .store e (.s 60) (.s 55), none, false⟩,
    ⟨some 61, .idx e (.s 48) (.s 50), none, false⟩,
    ⟨none, .store e (.s 61) (.s 59), none, false⟩] [0, 1, 2, 3, 4, 5, 6, 7, 8, 9, 10, 11, 12, 13, 14, 15, 16, 17])
def vc34_115 (e : Nat) (φ : Nat → Nat) : VC :=
  (.cond (.s 69)
    .skip
    (.exit 4))
def vc34_116 (e : Nat) (φ : Nat → Nat) : VC :=
  (.seq
          (.reg [⟨some 68, .mv (.s 11), none, false⟩,
            ⟨some 69, .cmp .geq (.s 68) (.c (.int .i64 1)), none, false⟩])
    (vc34_115 e φ))
def vc34_1072 (e : Nat) (φ : Nat → Nat) : VC :=
  (.draw [⟨some 72, .mv (.s 3), none, false⟩,
    ⟨some 73, .mv (.s 0), none, false⟩,
    ⟨some 74, .mv (.s 11), none, false⟩,
    ⟨some 75, .idx e (.s 73) (.s 74), none, false⟩,
    ⟨some 76, .load (some e) (.s 75), none, false⟩,
    ⟨some 77, .mv (.s 0), none, false⟩,
    ⟨some 78, .mv (.s 11), none, false⟩,
    ⟨some 79, .arith .sub (.s 78) (.c (.int .i64 1)), none, false⟩,
    ⟨some 80, .idx e (.s 77) (.s 79), none, false⟩,
    ⟨some 81, .load (some e) (.s 80), none, false⟩,
    ⟨some 82, .call (.s 72) [(.s 76), (.s 81)], none, false⟩,
    ⟨some 83, .cmp .lss (.s 82) (.c (.int .i64 0)), none, false⟩,
    ⟨some 84, .not (.s 83), none, false⟩] [0, 1, 2, 3, 4, 5, 6, 7, 8, 9, 10, 11, 12])
def vc34_117 (e : Nat) (φ : Nat → Nat) : VC :=
  (.cond (.s 84)
    (.exit 4)
    .skip)
def vc34_118 (e : Nat) (φ : Nat → Nat) : VC :=
  (.seq
          (vc34_1072 e φ)
    (vc34_117 e φ))
def vc34_1085 (e : Nat) (φ : Nat → Nat) : VC :=
  (.draw [⟨some 85, .mv (.s 0), none, false⟩,
    ⟨some 86, .mv (.s 11), none, false⟩,
    ⟨some 87, .mv (.s 0), none, false⟩,
    ⟨some 88, .mv (.s 11), none, false⟩,
    ⟨some 89, .arith .sub (.s 88) (.c (.int .i64 1)), none, false⟩,
    ⟨some 90, .mv (.s 0), none, false⟩,
    ⟨some 91, .mv (.s 11), none, false⟩,
    ⟨some 92, .arith .sub (.s 91) (.c (.int .i64 1)), none, false⟩,
    ⟨some 93, .idx e (.s 90) (.s 92), none, false⟩,
    ⟨some 94, .load (some e) (.s 93), none, false⟩,
    ⟨some 95, .mv (.s 0), none, false⟩,
    ⟨some 96, .mv (.s 11), none, false⟩,
    ⟨some 97, .idx e (.s 95) (.s 96), none, false⟩,
    ⟨some 98, .load (some e) (.s 97), none, false⟩,
    ⟨some 99, .idx e (.s 85) (.s 86), none, false⟩,
    ⟨none, .store e (.s 99) (.s 94), none, false⟩,
    ⟨some 100, .idx e (.s 87) (.s 89), none, false⟩,
    ⟨none, .store e (.s 100) (.s 98), none, false⟩] [0, 1, 2, 3, 4, 5, 6, 7, 8, 9, 10, 11, 12, 13, 14, 15, 16, 17])
def vc34_119 (e : Nat) (φ : Nat → Nat) : VC :=
  (vc34_1085 e φ)
def vc34_120 (e : Nat) (φ : Nat → Nat) : VC :=
  (.seq
        (vc34_118 e φ)
    (vc34_119 e φ))
def vc34_121 (e : Nat) (φ : Nat → Nat) : VC :=
  (.reg [⟨some 70, .mv (.s 11), none, false⟩,
    ⟨some 71, .arith .sub (.s 70) (.c (.int .i64 1)), none, false⟩,
    ⟨some 11, .mv (.s 71), none, false⟩])
def vc34_122 (e : Nat) (φ : Nat → Nat) : VC :=
  (.seq
    (.block 5
      (vc34_120 e φ))
    (vc34_121 e φ))
def vc34_123 (e : Nat) (φ : Nat → Nat) : VC :=
  (vc34_122 e φ)
def vc34_124 (e : Nat) (φ : Nat → Nat) : VC :=
  (.seq
        (vc34_116 e φ)
    (vc34_123 e φ))
def vc34_125 (e : Nat) (φ : Nat → Nat) : VC :=
  (.block 4
    (.loop
      (vc34_124 e φ)))
def vc34_126 (e : Nat) (φ : Nat → Nat) : VC :=
  (.seq
      (.reg [⟨some 66, .mv (.s 9), none, false⟩,
        ⟨some 67, .arith .sub (.s 66) (.c (.int .i64 1)), none, false⟩,
        ⟨some 11, .mv (.s 67), none, false⟩])
    (vc34_125 e φ))
def vc34_127 (e : Nat) (φ : Nat → Nat) : VC :=
  (.cond (.s 65)
    (vc34_126 e φ)
    .skip)
def vc34_128 (e : Nat) (φ : Nat → Nat) : VC :=
  (.seq
      (.reg [⟨some 62, .mv (.s 9), none, false⟩,
        ⟨some 63, .mv (.s 1), none, false⟩,
        ⟨some 64, .arith .sub (.s 62) (.s 63), none, false⟩,
        ⟨some 65, .cmp .geq (.s 64) (.c (.int .i64 2)), none, false⟩])
    (vc34_127 e φ))
def vc34_129 (e : Nat) (φ : Nat → Nat) : VC :=
  (.cond (.s 109)
    .skip
    (.exit 6))
def vc34_130 (e : Nat) (φ : Nat → Nat) : VC :=
  (.seq
          (.reg [⟨some 107, .mv (.s 12), none, false⟩,
            ⟨some 108, .mv (.s 2), none, false⟩,
            ⟨some 109, .cmp .lss (.s 107) (.s 108), none, false⟩])
    (vc34_129 e φ))
def vc34_1112 (e : Nat) (φ : Nat → Nat) : VC :=
  (.draw [⟨some 112, .mv (.s 3), none, false⟩,
    ⟨some 113, .mv (.s 0), none, false⟩,
    ⟨some 114, .mv (.s 12), none, false⟩,
    ⟨some 115, .idx e (.s 113) (.s 114), none, false⟩,
    ⟨some 116, .load (some e) (.s 115), none, false⟩,
    ⟨some 117, .mv (.s 0), none, false⟩,
    ⟨some 118, .mv (.s 12), none, false⟩,
    ⟨some 119, .arith .sub (.s 118) (.c (.int .i64 1)), none, false⟩,
    ⟨some 120, .idx e (.s 117) (.s 119), none, false⟩,
    ⟨some 121, .load (some e) (.s 120), none, false⟩,
    ⟨some 122, .call (.s 112) [(.s 116), (.s 121)], none, false⟩,
    ⟨some 123, .cmp .lss (.s 122) (.c (.int .i64 0)), none, false⟩,
    ⟨some 124, .not (.s 123), none, false⟩] [0, 1, 2, 3, 4, 5, 6, 7, 8, 9, 10, 11, 12])
def vc34_131 (e : Nat) (φ : Nat → Nat) : VC :=
  (.cond (.s 124)
    (.exit 6)
    .skip)
def vc34_132 (e : Nat) (φ : Nat → Nat) : VC :=
  (.seq
          (vc34_1112 e φ)
    (vc34_131 e φ))
def vc34_1125 (e : Nat) (φ : Nat → Nat) : VC :=
  (.draw [⟨some 125, .mv (.s 0), none, false⟩,
    ⟨some 126, .mv (.s 12), none, false⟩,
    ⟨some 127, .mv (.s 0), none, false⟩,
    ⟨some 128, .mv (.s 12), none, false⟩,
    ⟨some 129, .arith .sub (.s 128) (.c (.int .i64 1)), none, false⟩,
    ⟨some 130, .mv (.s 0), none, false⟩,
    ⟨some 131, .mv (.s 12), none, false⟩,
    ⟨some 132, .arith .sub (.s 131) (.c (.int .i64 1)), none, false⟩,
    ⟨some 133, .idx e (.s 130) (.s 132), none, false⟩,
    ⟨some 134, .load (some e) (.s 133), none, false⟩,
    ⟨some 135, .mv (.s 0), none, false⟩,
    ⟨some 136, .mv (.s 12), none, false⟩,
    ⟨some 137, .idx e (.s 135) (.s 136), none, false⟩,
    ⟨some 138, .load (some e) (.s 137), none, false⟩,
    ⟨some 139, .idx e (.s 125) (.s 126), none, false⟩,
    ⟨none, .store e (.s 139) (.s 134), none, false⟩,
    ⟨some 140, .idx e (.s 127) (.s 129), none, false⟩,
    ⟨none, .store e (.s 140) (.s 138), none, false⟩] [0, 1, 2, 3, 4, 5, 6, 7, 8, 9, 10, 11, 12, 13, 14, 15, 16, 17])
def vc34_133 (e : Nat) (φ : Nat → Nat) : VC :=
  (vc34_1125 e φ)
def vc34_134 (e : Nat) (φ : Nat → Nat) : VC :=
  (.seq
        (vc34_132 e φ)
    (vc34_133 e φ))
def vc34_135 (e : Nat) (φ : Nat → Nat) : VC :=
  (.reg [⟨some 110, .mv (.s 12), none, false⟩,
    ⟨some 111, .arith .add (.s 110) (.c (.int .i64 1)), none, false⟩,
    ⟨some 12, .mv (.s 111), none, false⟩])
def vc34_136 (e : Nat) (φ : Nat → Nat) : VC :=
  (.seq
    (.block 7
      (vc34_134 e φ))
    (vc34_135 e φ))
def vc34_137 (e : Nat) (φ : Nat → Nat) : VC :=
  (vc34_136 e φ)
def vc34_138 (e : Nat) (φ : Nat → Nat) : VC :=
  (.seq
        (vc34_130 e φ)
    (vc34_137 e φ))
def vc34_139 (e : Nat) (φ : Nat → Nat) : VC :=
  (.block 6
    (.loop
      (vc34_138 e φ)))
def vc34_140 (e : Nat) (φ : Nat → Nat) : VC :=
  (.seq
      (.reg [⟨some 105, .mv (.s 9), none, false⟩,
        ⟨some 106, .arith .add (.s 105) (.c (.int .i64 1)), none, false⟩,
        ⟨some 12, .mv (.s 106), none, false⟩])
    (vc34_139 e φ))
def vc34_141 (e : Nat) (φ : Nat → Nat) : VC :=
  (.cond (.s 104)
    (vc34_140 e φ)
    .skip)
def vc34_142 (e : Nat) (φ : Nat → Nat) : VC :=
  (.seq
    (.reg [⟨some 101, .mv (.s 2), none, false⟩,
      ⟨some 102, .mv (.s 9), none, false⟩,
      ⟨some 103, .arith .sub (.s 101) (.s 102), none, false⟩,
      ⟨some 104, .cmp .geq (.s 103) (.c (.int .i64 2)), none, false⟩])
    (vc34_141 e φ))
def vc34_143 (e : Nat) (φ : Nat → Nat) : VC :=
  (vc34_142 e φ)
def vc34_144 (e : Nat) (φ : Nat → Nat) : VC :=
  (.seq
    (vc34_128 e φ)
    (vc34_143 e φ))
def vc34_145 (e : Nat) (φ : Nat → Nat) : VC :=
  (vc34_144 e φ)
def vc34_146 (e : Nat) (φ : Nat → Nat) : VC :=
  (.seq
    (vc34_1046 e φ)
    (vc34_145 e φ))
def vc34_147 (e : Nat) (φ : Nat → Nat) : VC :=
  (vc34_146 e φ)
def vc34_148 (e : Nat) (φ : Nat → Nat) : VC :=
  (.seq
    (vc34_114 e φ)
    (vc34_147 e φ))
def vc34_149 (e : Nat) (φ : Nat → Nat) : VC :=
  (vc34_148 e φ)
def vc34_150 (e : Nat) (φ : Nat → Nat) : VC :=
  (.seq
    (vc34_110 e φ)
    (vc34_149 e φ))
def vc34_151 (e : Nat) (φ : Nat → Nat) : VC :=
  (vc34_150 e φ)
def vc34_152 (e : Nat) (φ : Nat → Nat) : VC :=
  (.seq
        (.block 2
          (.loop
            (vc34_106 e φ)))
    (vc34_151 e φ))
def vc34_153 (e : Nat) (φ : Nat → Nat) : VC :=
  (.reg [⟨some 17, .mv (.s 10), none, false⟩,
    ⟨some 18, .arith .add (.s 17) (.c (.int .i64 1)), none, false⟩,
    ⟨some 10, .mv (.s 18), none, false⟩])
def vc34_154 (e : Nat) (φ : Nat → Nat) : VC :=
  (.seq
    (.block 1
      (vc34_152 e φ))
    (vc34_153 e φ))
def vc34_155 (e : Nat) (φ : Nat → Nat) : VC :=
  (vc34_154 e φ)
def vc34_156 (e : Nat) (φ : Nat → Nat) : VC :=
  (.seq
        (vc34_102 e φ)
    (vc34_155 e φ))
def vc34_157 (e : Nat) (φ : Nat → Nat) : VC :=
  (.block 0
    (.loop
      (vc34_156 e φ)))
def vc34_158 (e : Nat) (φ : Nat → Nat) : VC :=
  (.seq
      (.reg [⟨some 10, .mv (.c (.int .i64 0)), none, false⟩])
    (vc34_157 e φ))
def vc34_4 (e : Nat) (φ : Nat → Nat) : VC :=
  .ret
def vc34_3 (e : Nat) (φ : Nat → Nat) : VC :=
  (.seq
    (.reg [⟨some 8, .mv (.c (.bool false)), none, false⟩])
    (vc34_4 e φ))
def vc34_2 (e : Nat) (φ : Nat → Nat) : VC :=
  (.seq
    (vc34_158 e φ)
    (vc34_3 e φ))
def vc34_1 (e : Nat) (φ : Nat → Nat) : VC :=
  (.seq
    (.reg [⟨some 13, .mv (.s 1), none, false⟩,
      ⟨some 14, .arith .add (.s 13) (.c (.int .i64 1)), none, false⟩,
      ⟨some 9, .mv (.s 14), none, false⟩])
    (vc34_2 e φ))
/-- slices.partialInsertionSortCmpFunc[bypath/api.Timer] -/
def vc34 (e : Nat) (φ : Nat → Nat) : VC :=
  (.seq
    (.reg [⟨some 8, .mv (.c (.bool false)), none, false⟩])
    (vc34_1 e φ))

def vc35_1031 (e : Nat) (φ : Nat → Nat) : VC :=
  (.draw [⟨some 31, .mv (.s 11), none, false⟩,
    ⟨some 32, .mv (.s 12), none, false⟩,
    ⟨some 33, .cmp .leq (.s 31) (.s 32), none, false⟩,
    ⟨some 34, .mv (.s 33), none, false⟩,
    ⟨some 35, .mv (.s 4), some (34, true), false⟩,
    ⟨some 36, .mv (.s 0), some (34, true), false⟩,
    ⟨some 37, .mv (.s 1), some (34, true), false⟩,
    ⟨some 38, .idx e (.s 36) (.s 37), some (34, true), false⟩,
    ⟨some 39, .load (some e) (.s 38), some (34, true), false⟩,
    ⟨some 40, .mv (.s 0), some (34, true), false⟩,
    ⟨some 41, .mv (.s 11), some (34, true), false⟩,
    ⟨some 42, .idx e (.s 40) (.s 41), some (34, true), false⟩,
    ⟨some 43, .load (some e) (.s 42), some (34, true), false⟩,
    ⟨some 44, .call (.s 35) [(.s 39), (.s 43)], some (34, true), false⟩,
    ⟨some 45, .cmp .lss (.s 44) (.c (.int .i64 0)), some (34, true), false⟩,
    ⟨some 46, .not (.s 45), some (34, true), false⟩,
    ⟨some 47, .pick (.s 34) (.s 46) (.c (.bool false)), none, false⟩] [0, 1, 2, 3, 4, 5, 6, 7, 8, 9, 10, 11, 12, 13, 14, 15, 16])
def vc35_101 (e : Nat) (φ : Nat → Nat) : VC :=
  (.cond (.s 47)
    .skip
    (.exit 2))
def vc35_102 (e : Nat) (φ : Nat → Nat) : VC :=
  (.seq
                    (vc35_1031 e φ)
    (vc35_101 e φ))
def vc35_103 (e : Nat) (φ : Nat → Nat) : VC :=
  (.block 3
    (.reg [⟨some 48, .mv (.s 11), none, false⟩,
      ⟨some 49, .arith .add (.s 48) (.c (.int .i64 1)), none, false⟩,
      ⟨some 11, .mv (.s 49), none, false⟩]))
def vc35_104 (e : Nat) (φ : Nat → Nat) : VC :=
  (.seq
                  (vc35_102 e φ)
    (vc35_103 e φ))
def vc35_1050 (e : Nat) (φ : Nat → Nat) : VC :=
  (.draw [⟨some 50, .mv (.s 11), none, false⟩,
    ⟨some 51, .mv (.s 12), none, false⟩,
    ⟨some 52, .cmp .leq (.s 50) (.s 51), none, false⟩,
    ⟨some 53, .mv (.s 52), none, false⟩,
    ⟨some 54, .mv (.s 4), some (53, true), false⟩,
    ⟨some 55, .mv (.s 0), some (53, true), false⟩,
    ⟨some 56, .mv (.s 1), some (53, true), false⟩,
    ⟨some 57, .idx e (.s 55) (.s 56), some (53, true), false⟩,
    ⟨some 58, .load (some e) (.s 57), some (53, true), false⟩,
    ⟨some 59, .mv (.s 0), some (53, true), false⟩,
    ⟨some 60, .mv (.s 12), some (53, true), false⟩,
    ⟨some 61, .idx e (.s 59) (.s 60), some (53, true), false⟩,
    ⟨some 62, .load (some e) (.s 61), some (53, true), false⟩,
    ⟨some 63, .call (.s 54) [(.s 58), (.s 62)], some (53, true), false⟩,
    ⟨some 64, .cmp .lss (.s 63) (.c (.int .i64 0)), some (53, true), false⟩,
    ⟨some 65, .pick (.s 53) (.s 64) (.c (.bool false)), none, false⟩] [0, 1, 2, 3, 4, 5, 6, 7, 8, 9, 10, 11, 12, 13, 14, 15])
def vc35_105 (e : Nat) (φ : Nat → Nat) : VC :=
  (.cond (.s 65)
    .skip
    (.exit 4))
def vc35_106 (e : Nat) (φ : Nat → Nat) : VC :=
  (.seq
            (vc35_1050 e φ)
    (vc35_105 e φ))
def vc35_107 (e : Nat) (φ : Nat → Nat) : VC :=
  (.block 5
    (.reg [⟨some 66, .mv (.s 12), none, false⟩,
      ⟨some 67, .arith .sub (.s 66) (.c (.int .i64 1)), none, false⟩,
      ⟨some 12, .mv (.s 67), none, false⟩]))
def vc35_108 (e : Nat) (φ : Nat → Nat) : VC :=
  (.seq
          (vc35_106 e φ)
    (vc35_107 e φ))
def vc35_109 (e : Nat) (φ : Nat → Nat) : VC :=
  (.cond (.s 70)
    (.exit 0)
    .skip)
def vc35_110 (e : Nat) (φ : Nat → Nat) : VC :=
  (.seq
      (.reg [⟨some 68, .mv (.s 11), none, false⟩,
        ⟨some 69, .mv (.s 12), none, false⟩,
        ⟨some 70, .cmp .gtr (.s 68) (.s 69), none, false⟩])
    (vc35_109 e φ))
def vc35_1071 (e : Nat) (φ : Nat → Nat) : VC :=
  (.draw [⟨some 71, .mv (.s 0), none, false⟩,
    ⟨some 72, .mv (.s 11), none, false⟩,
    ⟨some 73, .mv (.s 0), none, false⟩,
    ⟨some 74, .mv (.s 12), none, false⟩,
    ⟨some 75, .mv (.s 0), none, false⟩,
    ⟨some 76, .mv (.s 12), none, false⟩,
    ⟨some 77, .idx e (.s 75) (.s 76), none, false⟩,
    ⟨some 78, .load (some e) (.s 77), none, false⟩,
    ⟨some 79, .mv (.s 0), none, false⟩,
    ⟨some 80, .mv (.s 11), none, false⟩,
    ⟨some 81, .idx e (.s 79) (.s 80), none, false⟩,
    ⟨some 82, .load (some e) (.s 81), none, false⟩,
    ⟨some 83, .idx e (.s 71) (.s 72), none, false⟩,
    ⟨none, .store e (.s 83) (.s 78), none, false⟩,
    ⟨some 84, .idx e (.s 73) (.s 74), none, false⟩,
    ⟨none, .store e (.s 84) (.s 82), none, false⟩] [0, 1, 2, 3, 4, 5, 6, 7, 8, 9, 10, 11, 12, 13, 14, 15])
def vc35_111 (e : Nat) (φ : Nat → Nat) : VC :=
  (.reg [⟨some 87, .mv (.s 12), none, false⟩,
    ⟨some 88, .arith .sub (.s 87) (.c (.int .i64 1)), none, false⟩,
    ⟨some 12, .mv (.s 88), none, false⟩])
def vc35_112 (e : Nat) (φ : Nat → Nat) : VC :=
  (.seq
    (.reg [⟨some 85, .mv (.s 11), none, false⟩,
      ⟨some 86, .arith .add (.s 85) (.c (.int .i64 1)), none, false⟩,
      ⟨some 11, .mv (.s 86), none, false⟩])
    (vc35_111 e φ))
def vc35_113 (e : Nat) (φ : Nat → Nat) : VC :=
  (vc35_112 e φ)
def vc35_114 (e : Nat) (φ : Nat → Nat) : VC :=
  (.seq
    (vc35_1071 e φ)
    (vc35_113 e φ))
def vc35_115 (e : Nat) (φ : Nat → Nat) : VC :=
  (vc35_114 e φ)
def vc35_116 (e : Nat) (φ : Nat → Nat) : VC :=
  (.seq
    (vc35_110 e φ)
    (vc35_115 e φ))
def vc35_117 (e : Nat) (φ : Nat → Nat) : VC :=
  (vc35_116 e φ)
def vc35_118 (e : Nat) (φ : Nat → Nat) : VC :=
  (.seq
    (.block 4
      (.loop
        (vc35_108 e φ)))
    (vc35_117 e φ))
def vc35_119 (e : Nat) (φ : Nat → Nat) : VC :=
  (vc35_118 e φ)
def vc35_120 (e : Nat) (φ : Nat → Nat) : VC :=
  (.seq
            (.block 2
              (.loop
                (vc35_104 e φ)))
    (vc35_119 e φ))
def vc35_1013 (e : Nat) (φ : Nat → Nat) : VC :=
  (.draw [⟨some 13, .mv (.s 0), none, false⟩,
    ⟨some 14, .mv (.s 1), none, false⟩,
    ⟨some 15, .mv (.s 0), none, false⟩,
    ⟨some 16, .mv (.s 3), none, false⟩,
    ⟨some 17, .mv (.s 0), none, false⟩,
    ⟨some 18, .mv (.s 3), none, false⟩,
    ⟨some 19, .idx e (.s 17) (.s 18), none, false⟩,
    ⟨some 20, .load (some e) (.s 19), none, false⟩,
    ⟨some 21, .mv (.s 0), none, false⟩,
    ⟨some 22, .mv (.s 1), none, false⟩,
    ⟨some 23, .idx e (.s 21) (.s 22), none, false⟩,
    ⟨some 24, .load (some e) (.s 23), none, false⟩,
    ⟨some 25, .idx e (.s 13) (.s 14), none, false⟩,
    ⟨none, .store e (.s 25) (.s 20), none, false⟩,
    ⟨some 26, .idx e (.s 15) (.s 16), none, false⟩,
    ⟨none, .store e (.s 26) (.s 24), none, false⟩] [0, 1, 2, 3, 4, 5, 6, 7, 8, 9, 10, 11, 12, 13, 14, 15])
def vc35_5 (e : Nat) (φ : Nat → Nat) : VC :=
  .ret
def vc35_4 (e : Nat) (φ : Nat → Nat) : VC :=
  (.seq
    (.reg [⟨some 89, .mv (.s 11), none, false⟩,
      ⟨some 10, .mv (.s 89), none, false⟩])
    (vc35_5 e φ))
def vc35_3 (e : Nat) (φ : Nat → Nat) : VC :=
  (.seq
    (.block 0
      (.loop
        (.block 1
          (vc35_120 e φ))))
    (vc35_4 e φ))
def vc35_2 (e : Nat) (φ : Nat → Nat) : VC :=
  (.seq
    (.reg [⟨some 27, .mv (.s 1), none, false⟩,
      ⟨some 28, .arith .add (.s 27) (.c (.int .i64 1)), none, false⟩,
      ⟨some 29, .mv (.s 2), none, false⟩,
      ⟨some 30, .arith .sub (.s 29) (.c (.int .i64 1)), none, false⟩,
      ⟨some 11, .mv (.s 28), none, false⟩,
      ⟨some 12, .mv (.s 30), none, false⟩])
    (vc35_3 e φ))
def vc35_1 (e : Nat) (φ : Nat → Nat) : VC :=
  (.seq
    (vc35_1013 e φ)
    (vc35_2 e φ))
/-- slices.partitionEqualCmpFunc[bypath/api.Timer] -/
def vc35 (e : Nat) (φ : Nat → Nat) : VC :=
  (.seq
    (.reg [⟨some 10, .mv (.c (.int .i64 0)), none, false⟩])
    (vc35_1 e φ))

def vc36_1163 (e : Nat) (φ : Nat → Nat) : VC :=
  (.draw [⟨some 163, .mv (.s 0), none, false⟩,
    ⟨some 164, .mv (.s 13), none, false⟩,
    ⟨some 165, .mv (.s 0), none, false⟩,
    ⟨some 166, .mv (.s 1), none, false⟩,
    ⟨some 167, .mv (.s 0), none, false⟩,
    ⟨some 168, .mv (.s 1), none, false⟩,
    ⟨some 169, .idx e (.s 167) (.s 168), none, false⟩,
    ⟨some 170, .load (some e) (.s 169), none, false⟩,
    ⟨some 171, .mv (.s 0), none, false⟩,
    ⟨some 172, .mv (.s 13), none, false⟩,
    ⟨some 173, .idx e (.s 171) (.s 172), none, false⟩,
    ⟨some 174, .load (some e) (.s 173), none, false⟩,
    ⟨some 175, .idx e (.s 163) (.s 164), none, false⟩,
    ⟨none, .store e (.s 175) (.s 170), none, false⟩,
    ⟨some 176, .idx e (.s 165) (.s 166), none, false⟩,
    ⟨none, .store e (.s 176) (.s 174), none, false⟩] [0, 1, 2, 3, 4, 5, 6, 7, 8, 9, 10, 11, 12, 13, 14, 15])
def vc36_1105 (e : Nat) (φ : Nat → Nat) : VC :=
  (.draw [⟨some 105, .mv (.s 12), none, false⟩,
    ⟨some 106, .mv (.s 13), none, false⟩,
    ⟨some 107, .cmp .leq (.s 105) (.s 106), none, false⟩,
    ⟨some 108, .mv (.s 107), none, false⟩,
    ⟨some 109, .mv (.s 4), some (108, true), false⟩,
    ⟨some 110, .mv (.s 0), some (108, true), false⟩,
    ⟨some 111, .mv (.s 12), some (108, true), false⟩,
    ⟨some 112, .idx e (.s 110) (.s 111), some (108, true), false⟩,
    ⟨some 113, .load (some e) (.s 112), some (108, true), false⟩,
    ⟨some 114, .mv (.s 0), some (108, true), false⟩,
    ⟨some 115, .mv (.s 1), some (108, true), false⟩,
    ⟨some 116, .idx e (.s 114) (.s 115), some (108, true), false⟩,
    ⟨some 117, .load (some e) (.s 116), some (108, true), false⟩,
    ⟨some 118, .call (.s 109) [(.s 113), (.s 117)], some (108, true), false⟩,
    ⟨some 119, .cmp .lss (.s 118) (.c (.int .i64 0)), some (108, true), false⟩,
    ⟨some 120, .pick (.s 108) (.s 119) (.c (.bool false)), none, false⟩] [0, 1, 2, 3, 4, 5, 6, 7, 8, 9, 10, 11, 12, 13, 14, 15])
def vc36_101 (e : Nat) (φ : Nat → Nat) : VC :=
  (.cond (.s 120)
    .skip
    (.exit 6))
def vc36_102 (e : Nat) (φ : Nat → Nat) : VC :=
  (.seq
                    (vc36_1105 e φ)
    (vc36_101 e φ))
def vc36_103 (e : Nat) (φ : Nat → Nat) : VC :=
  (.block 7
    (.reg [⟨some 121, .mv (.s 12), none, false⟩,
      ⟨some 122, .arith .add (.s 121) (.c (.int .i64 1)), none, false⟩,
      ⟨some 12, .mv (.s 122), none, false⟩]))
def vc36_104 (e : Nat) (φ : Nat → Nat) : VC :=
  (.seq
                  (vc36_102 e φ)
    (vc36_103 e φ))
def vc36_1123 (e : Nat) (φ : Nat → Nat) : VC :=
  (.draw [⟨some 123, .mv (.s 12), none, false⟩,
    ⟨some 124, .mv (.s 13), none, false⟩,
    ⟨some 125, .cmp .leq (.s 123) (.s 124), none, false⟩,
    ⟨some 126, .mv (.s 125), none, false⟩,
    ⟨some 127, .mv (.s 4), some (126, true), false⟩,
    ⟨some 128, .mv (.s 0), some (126, true), false⟩,
    ⟨some 129, .mv (.s 13), some (126, true), false⟩,
    ⟨some 130, .idx e (.s 128) (.s 129), some (126, true), false⟩,
    ⟨some 131, .load (some e) (.s 130), some (126, true), false⟩,
    ⟨some 132, .mv (.s 0), some (126, true), false⟩,
    ⟨some 133, .mv (.s 1), some (126, true), false⟩,
    ⟨some 134, .idx e (.s 132) (.s 133), some (126, true), false⟩,
    ⟨some 135, .load (some e) (.s 134), some (126, true), false⟩,
    ⟨some 136, .call (.s 127) [(.s 131), (.s 135)], some (126, true), false⟩,
    ⟨some 137, .cmp .lss (.s 136) (.c (.int .i64 0)), some (126, true), false⟩,
    ⟨some 138, .not (.s 137), some (126, true), false⟩,
    ⟨some 139, .pick (.s 126) (.s 138) (.c (.bool false)), none, false⟩] [0, 1, 2, 3, 4, 5, 6, 7, 8, 9, 10, 11, 12, 13, 14, 15, 16])
def vc36_105 (e : Nat) (φ : Nat → Nat) : VC :=
  (.cond (.s 139)
    .skip
    (.exit 8))
def vc36_106 (e : Nat) (φ : Nat → Nat) : VC :=
  (.seq
            (vc36_1123 e φ)
    (vc36_105 e φ))
def vc36_107 (e : Nat) (φ : Nat → Nat) : VC :=
  (.block 9
    (.reg [⟨some 140, .mv (.s 13), none, false⟩,
      ⟨some 141, .arith .sub (.s 140) (.c (.int .i64 1)), none, false⟩,
      ⟨some 13, .mv (.s 141), none, false⟩]))
def vc36_108 (e : Nat) (φ : Nat → Nat) : VC :=
  (.seq
          (vc36_106 e φ)
    (vc36_107 e φ))
def vc36_109 (e : Nat) (φ : Nat → Nat) : VC :=
  (.cond (.s 144)
    (.exit 4)
    .skip)
def vc36_110 (e : Nat) (φ : Nat → Nat) : VC :=
  (.seq
      (.reg [⟨some 142, .mv (.s 12), none, false⟩,
        ⟨some 143, .mv (.s 13), none, false⟩,
        ⟨some 144, .cmp .gtr (.s 142) (.s 143), none, false⟩])
    (vc36_109 e φ))
def vc36_1145 (e : Nat) (φ : Nat → Nat) : VC :=
  (.draw [⟨some 145, .mv (.s 0), none, false⟩,
    ⟨some 146, .mv (.s 12), none, false⟩,
    ⟨some 147, .mv (.s 0), none, false⟩,
    ⟨some 148, .mv (.s 13), none, false⟩,
    ⟨some 149, .mv (.s 0), none, false⟩,
    ⟨some 150, .mv (.s 13), none, false⟩,
    ⟨some 151, .idx e (.s 149) (.s 150), none, false⟩,
    ⟨some 152, .load (some e) (.s 151), none, false⟩,
    ⟨some 153, .mv (.s 0), none, false⟩,
    ⟨some 154, .mv (.s 12), none, false⟩,
    ⟨some 155, .idx e (.s 153) (.s 154), none, false⟩,
    ⟨some 156, .load (some e) (.s 155), none, false⟩,
    ⟨some 157, .idx e (.s 145) (.s 146), none, false⟩,
    ⟨none, .store e (.s 157) (.s 152), none, false⟩,
    ⟨some 158, .idx e (.s 147) (.s 148), none, false⟩,
    ⟨none, .store e (.s 158) (.s 156), none, false⟩] [0, 1, 2, 3, 4, 5, 6, 7, 8, 9, 10, 11, 12, 13, 14, 15])
def vc36_111 (e : Nat) (φ : Nat → Nat) : VC :=
  (.reg [⟨some 161, .mv (.s 13), none, false⟩,
    ⟨some 162, .arith .sub (.s 161) (.c (.int .i64 1)), none, false⟩,
    ⟨some 13, .mv (.s 162), none, false⟩])
def vc36_112 (e : Nat) (φ : Nat → Nat) : VC :=
  (.seq
    (.reg [⟨some 159, .mv (.s 12), none, false⟩,
      ⟨some 160, .arith .add (.s 159) (.c (.int .i64 1)), none, false⟩,
      ⟨some 12, .mv (.s 160), none, false⟩])
    (vc36_111 e φ))
def vc36_113 (e : Nat) (φ : Nat → Nat) : VC :=
  (vc36_112 e φ)
def vc36_114 (e : Nat) (φ : Nat → Nat) : VC :=
  (.seq
    (vc36_1145 e φ)
    (vc36_113 e φ))
def vc36_115 (e : Nat) (φ : Nat → Nat) : VC :=
  (vc36_114 e φ)
def vc36_116 (e : Nat) (φ : Nat → Nat) : VC :=
  (.seq
    (vc36_110 e φ)
    (vc36_115 e φ))
def vc36_117 (e : Nat) (φ : Nat → Nat) : VC :=
  (vc36_116 e φ)
def vc36_118 (e : Nat) (φ : Nat → Nat) : VC :=
  (.seq
    (.block 8
      (.loop
        (vc36_108 e φ)))
    (vc36_117 e φ))
def vc36_119 (e : Nat) (φ : Nat → Nat) : VC :=
  (vc36_118 e φ)
def vc36_120 (e : Nat) (φ : Nat → Nat) : VC :=
  (.seq
            (.block 6
              (.loop
                (vc36_104 e φ)))
    (vc36_119 e φ))
def vc36_1087 (e : Nat) (φ : Nat → Nat) : VC :=
  (.draw [⟨some 87, .mv (.s 0), none, false⟩,
    ⟨some 88, .mv (.s 12), none, false⟩,
    ⟨some 89, .mv (.s 0), none, false⟩,
    ⟨some 90, .mv (.s 13), none, false⟩,
    ⟨some 91, .mv (.s 0), none, false⟩,
    ⟨some 92, .mv (.s 13), none, false⟩,
    ⟨some 93, .idx e (.s 91) (.s 92), none, false⟩,
    ⟨some 94, .load (some e) (.s 93), none, false⟩,
    ⟨some 95, .mv (.s 0), none, false⟩,
    ⟨some 96, .mv (.s 12), none, false⟩,
    ⟨some 97, .idx e (.s 95) (.s 96), none, false⟩,
    ⟨some 98, .load (some e) (.s 97), none, false⟩,
    ⟨some 99, .idx e (.s 87) (.s 88), none, false⟩,
    ⟨none, .store e (.s 99) (.s 94), none, false⟩,
    ⟨some 100, .idx e (.s 89) (.s 90), none, false⟩,
    ⟨none, .store e (.s 100) (.s 98), none, false⟩] [0, 1, 2, 3, 4, 5, 6, 7, 8, 9, 10, 11, 12, 13, 14, 15])
def vc36_1072 (e : Nat) (φ : Nat → Nat) : VC :=
  (.draw [⟨some 72, .mv (.s 0), none, false⟩,
    ⟨some 73, .mv (.s 13), none, false⟩,
    ⟨some 74, .mv (.s 0), none, false⟩,
    ⟨some 75, .mv (.s 1), none, false⟩,
    ⟨some 76, .mv (.s 0), none, false⟩,
    ⟨some 77, .mv (.s 1), none, false⟩,
    ⟨some 78, .idx e (.s 76) (.s 77), none, false⟩,
    ⟨some 79, .load (some e) (.s 78), none, false⟩,
    ⟨some 80, .mv (.s 0), none, false⟩,
    ⟨some 81, .mv (.s 13), none, false⟩,
    ⟨some 82, .idx e (.s 80) (.s 81), none, false⟩,
    ⟨some 83, .load (some e) (.s 82), none, false⟩,
    ⟨some 84, .idx e (.s 72) (.s 73), none, false⟩,
    ⟨none, .store e (.s 84) (.s 79), none, false⟩,
    ⟨some 85, .idx e (.s 74) (.s 75), none, false⟩,
    ⟨none, .store e (.s 85) (.s 83), none, false⟩] [0, 1, 2, 3, 4, 5, 6, 7, 8, 9, 10, 11, 12, 13, 14, 15])
def vc36_121 (e : Nat) (φ : Nat → Nat) : VC :=
  .ret
def vc36_122 (e : Nat) (φ : Nat → Nat) : VC :=
  (.seq
    (.reg [⟨some 86, .mv (.s 13), none, false⟩,
      ⟨some 10, .mv (.s 86), none, false⟩,
      ⟨some 11, .mv (.c (.bool true)), none, false⟩])
    (vc36_121 e φ))
def vc36_123 (e : Nat) (φ : Nat → Nat) : VC :=
  (vc36_122 e φ)
def vc36_124 (e : Nat) (φ : Nat → Nat) : VC :=
  (.seq
      (vc36_1072 e φ)
    (vc36_123 e φ))
def vc36_125 (e : Nat) (φ : Nat → Nat) : VC :=
  (.cond (.s 71)
    (vc36_124 e φ)
    .skip)
def vc36_126 (e : Nat) (φ : Nat → Nat) : VC :=
  (.seq
      (.reg [⟨some 69, .mv (.s 12), none, false⟩,
        ⟨some 70, .mv (.s 13), none, false⟩,
        ⟨some 71, .cmp .gtr (.s 69) (.s 70), none, false⟩])
    (vc36_125 e φ))
def vc36_1050 (e : Nat) (φ : Nat → Nat) : VC :=
  (.draw [⟨some 50, .mv (.s 12), none, false⟩,
    ⟨some 51, .mv (.s 13), none, false⟩,
    ⟨some 52, .cmp .leq (.s 50) (.s 51), none, false⟩,
    ⟨some 53, .mv (.s 52), none, false⟩,
    ⟨some 54, .mv (.s 4), some (53, true), false⟩,
    ⟨some 55, .mv (.s 0), some (53, true), false⟩,
    ⟨some 56, .mv (.s 13), some (53, true), false⟩,
    ⟨some 57, .idx e (.s 55) (.s 56), some (53, true), false⟩,
    ⟨some 58, .load (some e) (.s 57), some (53, true), false⟩,
    ⟨some 59, .mv (.s 0), some (53, true), false⟩,
    ⟨some 60, .mv (.s 1), some (53, true), false⟩,
    ⟨some 61, .idx e (.s 59) (.s 60), some (53, true), false⟩,
    ⟨some 62, .load (some e) (.s 61), some (53, true), false⟩,
    ⟨some 63, .call (.s 54) [(.s 58), (.s 62)], some (53, true), false⟩,
    ⟨some 64, .cmp .lss (.s 63) (.c (.int .i64 0)), some (53, true), false⟩,
    ⟨some 65, .not (.s 64), some (53, true), false⟩,
    ⟨some 66, .pick (.s 53) (.s 65) (.c (.bool false)), none, false⟩] [0, 1, 2, 3, 4, 5, 6, 7, 8, 9, 10, 11, 12, 13, 14, 15, 16])
def vc36_127 (e : Nat) (φ : Nat → Nat) : VC :=
  (.cond (.s 66)
    .skip
    (.exit 2))
def vc36_128 (e : Nat) (φ : Nat → Nat) : VC :=
  (.seq
            (vc36_1050 e φ)
    (vc36_127 e φ))
def vc36_129 (e : Nat) (φ : Nat → Nat) : VC :=
  (.block 3
    (.reg [⟨some 67, .mv (.s 13), none, false⟩,
      ⟨some 68, .arith .sub (.s 67) (.c (.int .i64 1)), none, false⟩,
      ⟨some 13, .mv (.s 68), none, false⟩]))
def vc36_130 (e : Nat) (φ : Nat → Nat) : VC :=
  (.seq
          (vc36_128 e φ)
    (vc36_129 e φ))
def vc36_1032 (e : Nat) (φ : Nat → Nat) : VC :=
  (.draw [⟨some 32, .mv (.s 12), none, false⟩,
    ⟨some 33, .mv (.s 13), none, false⟩,
    ⟨some 34, .cmp .leq (.s 32) (.s 33), none, false⟩,
    ⟨some 35, .mv (.s 34), none, false⟩,
    ⟨some 36, .mv (.s 4), some (35, true), false⟩,
    ⟨some 37, .mv (.s 0), some (35, true), false⟩,
    ⟨some 38, .mv (.s 12), some (35, true), false⟩,
    ⟨some 39, .idx e (.s 37) (.s 38), some (35, true), false⟩,
    ⟨some 40, .load (some e) (.s 39), some (35, true), false⟩,
    ⟨some 41, .mv (.s 0), some (35, true), false⟩,
    ⟨some 42, .mv (.s 1), some (35, true), false⟩,
    ⟨some 43, .idx e (.s 41) (.s 42), some (35, true), false⟩,
    ⟨some 44, .load (some e) (.s 43), some (35, true), false⟩,
    ⟨some 45, .call (.s 36) [(.s 40), (.s 44)], some (35, true), false⟩,
    ⟨some 46, .cmp .lss (.s 45) (.c (.int .i64 0)), some (35, true), false⟩,
    ⟨some 47, .pick (.s 35) (.s 46) (.c (.bool false)), none, false⟩] [0, 1, 2, 3, 4, 5, 6, 7, 8, 9, 10, 11, 12, 13, 14, 15])
def vc36_131 (e : Nat) (φ : Nat → Nat) : VC :=
  (.cond (.s 47)
    .skip
    (.exit 0))
def vc36_132 (e : Nat) (φ : Nat → Nat) : VC :=
  (.seq
            (vc36_1032 e φ)
    (vc36_131 e φ))
def vc36_133 (e : Nat) (φ : Nat → Nat) : VC :=
  (.block 1
    (.reg [⟨some 48, .mv (.s 12), none, false⟩,
      ⟨some 49, .arith .add (.s 48) (.c (.int .i64 1)), none, false⟩,
      ⟨some 12, .mv (.s 49), none, false⟩]))
def vc36_134 (e : Nat) (φ : Nat → Nat) : VC :=
  (.seq
          (vc36_132 e φ)
    (vc36_133 e φ))
def vc36_1014 (e : Nat) (φ : Nat → Nat) : VC :=
  (.draw [⟨some 14, .mv (.s 0), none, false⟩,
    ⟨some 15, .mv (.s 1), none, false⟩,
    ⟨some 16, .mv (.s 0), none, false⟩,
    ⟨some 17, .mv (.s 3), none, false⟩,
    ⟨some 18, .mv (.s 0), none, false⟩,
    ⟨some 19, .mv (.s 3), none, false⟩,
    ⟨some 20, .idx e (.s 18) (.s 19), none, false⟩,
    ⟨some 21, .load (some e) (.s 20), none, false⟩,
    ⟨some 22, .mv (.s 0), none, false⟩,
    ⟨some 23, .mv (.s 1), none, false⟩,
    ⟨some 24, .idx e (.s 22) (.s 23), none, false⟩,
    ⟨some 25, .load (some e) (.s 24), none, false⟩,
    ⟨some 26, .idx e (.s 14) (.s 15), none, false⟩,
    ⟨none, .store e (.s 26) (.s 21), none, false⟩,
    ⟨some 27, .idx e (.s 16) (.s 17), none, false⟩,
    ⟨none, .store e (.s 27) (.s 25), none, false⟩] [0, 1, 2, 3, 4, 5, 6, 7, 8, 9, 10, 11, 12, 13, 14, 15])
def vc36_12 (e : Nat) (φ : Nat → Nat) : VC :=
  .ret
def vc36_11 (e : Nat) (φ : Nat → Nat) : VC :=
  (.seq
    (.reg [⟨some 177, .mv (.s 13), none, false⟩,
      ⟨some 10, .mv (.s 177), none, false⟩,
      ⟨some 11, .mv (.c (.bool false)), none, false⟩])
    (vc36_12 e φ))
def vc36_10 (e : Nat) (φ : Nat → Nat) : VC :=
  (.seq
    (vc36_1163 e φ)
    (vc36_11 e φ))
def vc36_9 (e : Nat) (φ : Nat → Nat) : VC :=
  (.seq
    (.block 4
      (.loop
        (.block 5
          (vc36_120 e φ))))
    (vc36_10 e φ))
def vc36_8 (e : Nat) (φ : Nat → Nat) : VC :=
  (.seq
    (.reg [⟨some 103, .mv (.s 13), none, false⟩,
      ⟨some 104, .arith .sub (.s 103) (.c (.int .i64 1)), none, false⟩,
      ⟨some 13, .mv (.s 104), none, false⟩])
    (vc36_9 e φ))
def vc36_7 (e : Nat) (φ : Nat → Nat) : VC :=
  (.seq
    (.reg [⟨some 101, .mv (.s 12), none, false⟩,
      ⟨some 102, .arith .add (.s 101) (.c (.int .i64 1)), none, false⟩,
      ⟨some 12, .mv (.s 102), none, false⟩])
    (vc36_8 e φ))
def vc36_6 (e : Nat) (φ : Nat → Nat) : VC :=
  (.seq
    (vc36_1087 e φ)
    (vc36_7 e φ))
def vc36_5 (e : Nat) (φ : Nat → Nat) : VC :=
  (.seq
    (vc36_126 e φ)
    (vc36_6 e φ))
def vc36_4 (e : Nat) (φ : Nat → Nat) : VC :=
  (.seq
    (.block 2
      (.loop
        (vc36_130 e φ)))
    (vc36_5 e φ))
def vc36_3 (e : Nat) (φ : Nat → Nat) : VC :=
  (.seq
    (.block 0
      (.loop
        (vc36_134 e φ)))
    (vc36_4 e φ))
def vc36_2 (e : Nat) (φ : Nat → Nat) : VC :=
  (.seq
    (.reg [⟨some 28, .mv (.s 1), none, false⟩,
      ⟨some 29, .arith .add (.s 28) (.c (.int .i64 1)), none, false⟩,
      ⟨some 30, .mv (.s 2), none, false⟩,
      ⟨some 31, .arith .sub (.s 30) (.c (.int .i64 1)), none, false⟩,
      ⟨some 12, .mv (.s 29), none, false⟩,
      ⟨some 13, .mv (.s 31), none, false⟩])
    (vc36_3 e φ))
def vc36_1 (e : Nat) (φ : Nat → Nat) : VC :=
  (.seq
    (vc36_1014 e φ)
    (vc36_2 e φ))
/-- slices.partitionCmpFunc[bypath/api.Timer] -/
def vc36 (e : Nat) (φ : Nat → Nat) : VC :=
  (.seq
    (.reg [⟨some 10, .mv (.c (.int .i64 0)), none, false⟩,
      ⟨some 11, .mv (.c (.bool false)), none, false⟩])
    (vc36_1 e φ))

def vc38_101 (e : Nat) (φ : Nat → Nat) : VC :=
  (.reg [⟨some 17, .mv (.s 2), none, false⟩,
    ⟨some 18, .arith .add (.s 17) (.c (.int .i64 8)), none, false⟩,
    ⟨some 2, .mv (.s 18), none, false⟩])
def vc38_102 (e : Nat) (φ : Nat → Nat) : VC :=
  (.seq
      (.reg [⟨some 15, .mv (.s 0), none, false⟩,
        ⟨some 16, .shift .shr (.s 15) (.c (.int .u64 8)), none, false⟩,
        ⟨some 0, .mv (.s 16), none, false⟩])
    (vc38_101 e φ))
def vc38_103 (e : Nat) (φ : Nat → Nat) : VC :=
  (.cond (.s 14)
    (vc38_102 e φ)
    .skip)
def vc38_104 (e : Nat) (φ : Nat → Nat) : VC :=
  (.seq
      (.reg [⟨some 13, .mv (.s 0), none, false⟩,
        ⟨some 14, .cmp .geq (.s 13) (.c (.int .u64 256)), none, false⟩])
    (vc38_103 e φ))
def vc38_105 (e : Nat) (φ : Nat → Nat) : VC :=
  (.reg [⟨some 11, .mv (.s 2), none, false⟩,
    ⟨some 12, .arith .add (.s 11) (.c (.int .i64 16)), none, false⟩,
    ⟨some 2, .mv (.s 12), none, false⟩])
def vc38_106 (e : Nat) (φ : Nat → Nat) : VC :=
  (.seq
      (.reg [⟨some 9, .mv (.s 0), none, false⟩,
        ⟨some 10, .shift .shr (.s 9) (.c (.int .u64 16)), none, false⟩,
        ⟨some 0, .mv (.s 10), none, false⟩])
    (vc38_105 e φ))
def vc38_107 (e : Nat) (φ : Nat → Nat) : VC :=
  (.cond (.s 8)
    (vc38_106 e φ)
    .skip)
def vc38_108 (e : Nat) (φ : Nat → Nat) : VC :=
  (.seq
      (.reg [⟨some 7, .mv (.s 0), none, false⟩,
        ⟨some 8, .cmp .geq (.s 7) (.c (.int .u64 65536)), none, false⟩])
    (vc38_107 e φ))
def vc38_109 (e : Nat) (φ : Nat → Nat) : VC :=
  (.reg [⟨some 2, .mv (.c (.int .i64 32)), none, false⟩])
def vc38_110 (e : Nat) (φ : Nat → Nat) : VC :=
  (.seq
      (.reg [⟨some 5, .mv (.s 0), none, false⟩,
        ⟨some 6, .shift .shr (.s 5) (.c (.int .u64 32)), none, false⟩,
        ⟨some 0, .mv (.s 6), none, false⟩])
    (vc38_109 e φ))
def vc38_111 (e : Nat) (φ : Nat → Nat) : VC :=
  (.cond (.s 4)
    (vc38_110 e φ)
    .skip)
def vc38_112 (e : Nat) (φ : Nat → Nat) : VC :=
  (.seq
      (.reg [⟨some 3, .mv (.s 0), none, false⟩,
        ⟨some 4, .cmp .geq (.s 3) (.c (.int .u64 4294967296)), none, false⟩])
    (vc38_111 e φ))
def vc38_5 (e : Nat) (φ : Nat → Nat) : VC :=
  .ret
def vc38_4 (e : Nat) (φ : Nat → Nat) : VC :=
  (.seq
    (.reg [⟨some 19, .mv (.s 2), none, false⟩,
      ⟨some 20, .mv (.s 0), none, false⟩,
      ⟨some 21, .conv .u8 (.s 20), none, false⟩,
      ⟨some 22, .sidx (.c (.str lenTab)) (.s 21), none, false⟩,
      ⟨some 23, .conv .i64 (.s 22), none, false⟩,
      ⟨some 24, .arith .add (.s 19) (.s 23), none, false⟩,
      ⟨some 2, .mv (.s 24), none, false⟩])
    (vc38_5 e φ))
def vc38_3 (e : Nat) (φ : Nat → Nat) : VC :=
  (.seq
    (vc38_104 e φ)
    (vc38_4 e φ))
def vc38_2 (e : Nat) (φ : Nat → Nat) : VC :=
  (.seq
    (vc38_108 e φ)
    (vc38_3 e φ))
def vc38_1 (e : Nat) (φ : Nat → Nat) : VC :=
  (.seq
    (vc38_112 e φ)
    (vc38_2 e φ))
/-- math/bits.Len64 -/
def vc38 (e : Nat) (φ : Nat → Nat) : VC :=
  (.seq
    (.reg [⟨some 2, .mv (.c (.int .i64 0)), none, false⟩])
    (vc38_1 e φ))

def vc40_101 (e : Nat) (φ : Nat → Nat) : VC :=
  (.cond (.s 18)
    (.exit 0)
    .skip)
def vc40_102 (e : Nat) (φ : Nat → Nat) : VC :=
  (.seq
      (.reg [⟨some 16, .mv (.s 11), none, false⟩,
        ⟨some 17, .mv (.s 2), none, false⟩,
        ⟨some 18, .cmp .geq (.s 16) (.s 17), none, false⟩])
    (vc40_101 e φ))
def vc40_1019 (e : Nat) (φ : Nat → Nat) : VC :=
  (.draw [⟨some 19, .mv (.s 11), none, false⟩,
    ⟨some 20, .arith .add (.s 19) (.c (.int .i64 1)), none, false⟩,
    ⟨some 21, .mv (.s 2), none, false⟩,
    ⟨some 22, .cmp .lss (.s 20) (.s 21), none, false⟩,
    ⟨some 23, .mv (.s 22), none, false⟩,
    ⟨some 24, .mv (.s 4), some (23, true), false⟩,
    ⟨some 25, .mv (.s 0), some (23, true), false⟩,
    ⟨some 26, .mv (.s 3), some (23, true), false⟩,
    ⟨some 27, .mv (.s 11), some (23, true), false⟩,
    ⟨some 28, .arith .add (.s 26) (.s 27), some (23, true), false⟩,
    ⟨some 29, .idx e (.s 25) (.s 28), some (23, true), false⟩,
    ⟨some 30, .load (some e) (.s 29), some (23, true), false⟩,
    ⟨some 31, .mv (.s 0), some (23, true), false⟩,
    ⟨some 32, .mv (.s 3), some (23, true), false⟩,
    ⟨some 33, .mv (.s 11), some (23, true), false⟩,
    ⟨some 34, .arith .add (.s 32) (.s 33), some (23, true), false⟩,
    ⟨some 35, .arith .add (.s 34) (.c (.int .i64 1)), some (23, true), false⟩,
    ⟨some 36, .idx e (.s 31) (.s 35), some (23, true), false⟩,
    ⟨some 37, .load (some e) (.s 36), some (23, true), false⟩,
    ⟨some 38, .call (.s 24) [(.s 30), (.s 37)], some (23, true), false⟩,
    ⟨some 39, .cmp .lss (.s 38) (.c (.int .i64 0)), some (23, true), false⟩,
    ⟨some 40, .pick (.s 23) (.s 39) (.c (.bool false)), none, false⟩] [0, 1, 2, 3, 4, 5, 6, 7, 8, 9, 10, 11, 12, 13, 14, 15, 16, 17, 18, 19, 20, 21])
def vc40_103 (e : Nat) (φ : Nat → Nat) : VC :=
  (.cond (.s 40)
    (.reg [⟨some 41, .mv (.s 11), none, false⟩,
      ⟨some 42, .arith .add (.s 41) (.c (.int .i64 1)), none, false⟩,
      ⟨some 11, .mv (.s 42), none, false⟩])
    .skip)
def vc40_104 (e : Nat) (φ : Nat → Nat) : VC :=
  (.seq
      (vc40_1019 e φ)
    (vc40_103 e φ))
def vc40_1043 (e : Nat) (φ : Nat → Nat) : VC :=
  (.draw [⟨some 43, .mv (.s 4), none, false⟩,
    ⟨some 44, .mv (.s 0), none, false⟩,
    ⟨some 45, .mv (.s 3), none, false⟩,
    ⟨some 46, .mv (.s 10), none, false⟩,
    ⟨some 47, .arith .add (.s 45) (.s 46), none, false⟩,
    ⟨some 48, .idx e (.s 44) (.s 47), none, false⟩,
    ⟨some 49, .load (some e) (.s 48), none, false⟩,
    ⟨some 50, .mv (.s 0), none, false⟩,
    ⟨some 51, .mv (.s 3), none, false⟩,
    ⟨some 52, .mv (.s 11), none, false⟩,
    ⟨some 53, .arith .add (.s 51) (.s 52), none, false⟩,
    ⟨some 54, .idx e (.s 50) (.s 53), none, false⟩,
    ⟨some 55, .load (some e) (.s 54), none, false⟩,
    ⟨some 56, .call (.s 43) [(.s 49), (.s 55)], none, false⟩,
    ⟨some 57, .cmp .lss (.s 56) (.c (.int .i64 0)), none, false⟩,
    ⟨some 58, .not (.s 57), none, false⟩] [0, 1, 2, 3, 4, 5, 6, 7, 8, 9, 10, 11, 12, 13, 14, 15])
def vc40_105 (e : Nat) (φ : Nat → Nat) : VC :=
  (.cond (.s 58)
    .ret
    .skip)
def vc40_106 (e : Nat) (φ : Nat → Nat) : VC :=
  (.seq
      (vc40_1043 e φ)
    (vc40_105 e φ))
def vc40_1059 (e : Nat) (φ : Nat → Nat) : VC :=
  (.draw [⟨some 59, .mv (.s 0), none, false⟩,
    ⟨some 60, .mv (.s 3), none, false⟩,
    ⟨some 61, .mv (.s 10), none, false⟩,
    ⟨some 62, .arith .add (.s 60) (.s 61), none, false⟩,
    ⟨some 63, .mv (.s 0), none, false⟩,
    ⟨some 64, .mv (.s 3), none, false⟩,
    ⟨some 65, .mv (.s 11), none, false⟩,
    ⟨some 66, .arith .add (.s 64) (.s 65), none, false⟩,
    ⟨some 67, .mv (.s 0), none, false⟩,
    ⟨some 68, .mv (.s 3), none, false⟩,
    ⟨some 69, .mv (.s 11), none, false⟩,
    ⟨some 70, .arith .add (.s 68) (.s 69), none, false⟩,
    ⟨some 71, .idx e (.s 67) (.s 70), none, false⟩,
    ⟨some 72, .load (some e) (.s 71), none, false⟩,
    ⟨some 73, .mv (.s 0), none, false⟩,
    ⟨some 74, .mv (.s 3), none, false⟩,
    ⟨some 75, .mv (.s 10), none, false⟩,
    ⟨some 76, .arith .add (.s 74) (.s 75), none, false⟩,
    ⟨some 77, .idx e (.s 73) (.s 76), none, false⟩,
    ⟨some 78, .load (some e) (.s 77), none, false⟩,
    ⟨some 79, .idx e (.s 59) (.s 62), none, false⟩,
    ⟨none, .store e (.s 79) (.s 72), none, false⟩,
    ⟨some 80, .idx e (.s 63) (.s 66), none, false⟩,
    ⟨none, .store e (.s 80) (.s 78), none, false⟩] [0, 1, 2, 3, 4, 5, 6, 7, 8, 9, 10, 11, 12, 13, 14, 15, 16, 17, 18, 19, 20, 21, 22, 23])
def vc40_107 (e : Nat) (φ : Nat → Nat) : VC :=
  (.reg [⟨some 81, .mv (.s 11), none, false⟩,
    ⟨some 10, .mv (.s 81), none, false⟩])
def vc40_108 (e : Nat) (φ : Nat → Nat) : VC :=
  (.seq
    (vc40_1059 e φ)
    (vc40_107 e φ))
def vc40_109 (e : Nat) (φ : Nat → Nat) : VC :=
  (vc40_108 e φ)
def vc40_110 (e : Nat) (φ : Nat → Nat) : VC :=
  (.seq
    (vc40_106 e φ)
    (vc40_109 e φ))
def vc40_111 (e : Nat) (φ : Nat → Nat) : VC :=
  (vc40_110 e φ)
def vc40_112 (e : Nat) (φ : Nat → Nat) : VC :=
  (.seq
    (vc40_104 e φ)
    (vc40_111 e φ))
def vc40_113 (e : Nat) (φ : Nat → Nat) : VC :=
  (vc40_112 e φ)
def vc40_114 (e : Nat) (φ : Nat → Nat) : VC :=
  (.seq
    (vc40_102 e φ)
    (vc40_113 e φ))
def vc40_115 (e : Nat) (φ : Nat → Nat) : VC :=
  (vc40_114 e φ)
def vc40_116 (e : Nat) (φ : Nat → Nat) : VC :=
  (.seq
          (.reg [⟨some 13, .mv (.s 10), none, false⟩,
            ⟨some 14, .arith .mul (.c (.int .i64 2)) (.s 13), none, false⟩,
            ⟨some 15, .arith .add (.s 14) (.c (.int .i64 1)), none, false⟩,
            ⟨some 11, .mv (.s 15), none, false⟩])
    (vc40_115 e φ))
def vc40_1 (e : Nat) (φ : Nat → Nat) : VC :=
  (.block 0
    (.loop
      (.block 1
        (vc40_116 e φ))))
/-- slices.siftDownCmpFunc[bypath/api.Timer] -/
def vc40 (e : Nat) (φ : Nat → Nat) : VC :=
  (.seq
    (.reg [⟨some 12, .mv (.s 1), none, false⟩,
      ⟨some 10, .mv (.s 12), none, false⟩])
    (vc40_1 e φ))

def vc41_2 (e : Nat) (φ : Nat → Nat) : VC :=
  .ret
def vc41_1 (e : Nat) (φ : Nat → Nat) : VC :=
  (.seq
    (.reg [⟨some 3, .mv (.s 0), none, false⟩,
      ⟨some 4, .conv .u64 (.s 3), none, false⟩,
      ⟨some 5, .call (.f (φ 25)) [(.s 4)], none, false⟩,
      ⟨some 6, .shift .shl (.c (.int .u64 1)) (.s 5), none, false⟩,
      ⟨some 2, .mv (.s 6), none, false⟩])
    (vc41_2 e φ))
/-- slices.nextPowerOfTwo -/
def vc41 (e : Nat) (φ : Nat → Nat) : VC :=
  (.seq
    (.reg [⟨some 2, .mv (.c (.int .u64 0)), none, false⟩])
    (vc41_1 e φ))

def vc42_1021 (e : Nat) (φ : Nat → Nat) : VC :=
  (.draw [⟨some 21, .mv (.s 0), none, false⟩,
    ⟨some 22, .nilc (.s 21), none, false⟩,
    ⟨some 23, .load none (.s 22), none, false⟩,
    ⟨some 24, .mv (.s 0), none, false⟩,
    ⟨some 25, .nilc (.s 24), none, false⟩,
    ⟨some 26, .load none (.s 25), none, false⟩,
    ⟨some 27, .shift .shl (.s 26) (.c (.int .u64 17)), none, false⟩,
    ⟨some 28, .bits .xor (.s 23) (.s 27), none, false⟩,
    ⟨some 29, .nilc (.s 21), none, false⟩,
    ⟨none, .store 1 (.s 29) (.s 28), none, false⟩] [0, 1, 2, 3, 4, 5, 6, 7, 8, 9])
def vc42_1012 (e : Nat) (φ : Nat → Nat) : VC :=
  (.draw [⟨some 12, .mv (.s 0), none, false⟩,
    ⟨some 13, .nilc (.s 12), none, false⟩,
    ⟨some 14, .load none (.s 13), none, false⟩,
    ⟨some 15, .mv (.s 0), none, false⟩,
    ⟨some 16, .nilc (.s 15), none, false⟩,
    ⟨some 17, .load none (.s 16), none, false⟩,
    ⟨some 18, .shift .shr (.s 17) (.c (.int .u64 7)), none, false⟩,
    ⟨some 19, .bits .xor (.s 14) (.s 18), none, false⟩,
    ⟨some 20, .nilc (.s 12), none, false⟩,
    ⟨none, .store 1 (.s 20) (.s 19), none, false⟩] [0, 1, 2, 3, 4, 5, 6, 7, 8, 9])
def vc42_1003 (e : Nat) (φ : Nat → Nat) : VC :=
  (.draw [⟨some 3, .mv (.s 0), none, false⟩,
    ⟨some 4, .nilc (.s 3), none, false⟩,
    ⟨some 5, .load none (.s 4), none, false⟩,
    ⟨some 6, .mv (.s 0), none, false⟩,
    ⟨some 7, .nilc (.s 6), none, false⟩,
    ⟨some 8, .load none (.s 7), none, false⟩,
    ⟨some 9, .shift .shl (.s 8) (.c (.int .u64 13)), none, false⟩,
    ⟨some 10, .bits .xor (.s 5) (.s 9), none, false⟩,
    ⟨some 11, .nilc (.s 3), none, false⟩,
    ⟨none, .store 1 (.s 11) (.s 10), none, false⟩] [0, 1, 2, 3, 4, 5, 6, 7, 8, 9])
def vc42_5 (e : Nat) (φ : Nat → Nat) : VC :=
  .ret
def vc42_4 (e : Nat) (φ : Nat → Nat) : VC :=
  (.seq
    (.reg [⟨some 30, .mv (.s 0), none, false⟩,
      ⟨some 31, .nilc (.s 30), none, false⟩,
      ⟨some 32, .load none (.s 31), none, false⟩,
      ⟨some 2, .mv (.s 32), none, false⟩])
    (vc42_5 e φ))
def vc42_3 (e : Nat) (φ : Nat → Nat) : VC :=
  (.seq
    (vc42_1021 e φ)
    (vc42_4 e φ))
def vc42_2 (e : Nat) (φ : Nat → Nat) : VC :=
  (.seq
    (vc42_1012 e φ)
    (vc42_3 e φ))
def vc42_1 (e : Nat) (φ : Nat → Nat) : VC :=
  (.seq
    (vc42_1003 e φ)
    (vc42_2 e φ))
/-- (*slices.xorshift).Next -/
def vc42 (e : Nat) (φ : Nat → Nat) : VC :=
  (.seq
    (.reg [⟨some 2, .mv (.c (.int .u64 0)), none, false⟩])
    (vc42_1 e φ))

def vc43_2 (e : Nat) (φ : Nat → Nat) : VC :=
  .ret
def vc43_1 (e : Nat) (φ : Nat → Nat) : VC :=
  (.seq
    (.reg [⟨some 9, .mv (.s 0), none, false⟩,
      ⟨some 10, .mv (.s 1), none, false⟩,
      ⟨some 11, .arith .sub (.s 10) (.c (.int .i64 1)), none, false⟩,
      ⟨some 12, .mv (.s 1), none, false⟩,
      ⟨some 13, .mv (.s 1), none, false⟩,
      ⟨some 14, .arith .add (.s 13) (.c (.int .i64 1)), none, false⟩,
      ⟨some 15, .mv (.s 2), none, false⟩,
      ⟨some 16, .mv (.s 3), none, false⟩,
      ⟨some 17, .call (.f (φ 44)) [(.s 9), (.s 11), (.s 12), (.s 14), (.s 15), (.s 16)], none, false⟩,
      ⟨some 8, .mv (.s 17), none, false⟩])
    (vc43_2 e φ))
/-- slices.medianAdjacentCmpFunc[bypath/api.Timer] -/
def vc43 (e : Nat) (φ : Nat → Nat) : VC :=
  (.seq
    (.reg [⟨some 8, .mv (.c (.int .i64 0)), none, false⟩])
    (vc43_1 e φ))

def vc44_5 (e : Nat) (φ : Nat → Nat) : VC :=
  .ret
def vc44_4 (e : Nat) (φ : Nat → Nat) : VC :=
  (.seq
    (.reg [⟨some 40, .mv (.s 2), none, false⟩,
      ⟨some 12, .mv (.s 40), none, false⟩])
    (vc44_5 e φ))
def vc44_3 (e : Nat) (φ : Nat → Nat) : VC :=
  (.seq
    (.reg [⟨some 32, .mv (.s 0), none, false⟩,
      ⟨some 33, .mv (.s 1), none, false⟩,
      ⟨some 34, .mv (.s 2), none, false⟩,
      ⟨some 35, .mv (.s 4), none, false⟩,
      ⟨some 36, .mv (.s 5), none, false⟩,
      ⟨some 37, .call (.f (φ 45)) [(.s 32), (.s 33), (.s 34), (.s 35), (.s 36)], none, false⟩,
      ⟨some 31, .mv (.s 37), none, false⟩,
      ⟨some 38, .ext 0 (.s 31), none, false⟩,
      ⟨some 39, .ext 1 (.s 31), none, false⟩,
      ⟨some 1, .mv (.s 38), none, false⟩,
      ⟨some 2, .mv (.s 39), none, false⟩])
    (vc44_4 e φ))
def vc44_2 (e : Nat) (φ : Nat → Nat) : VC :=
  (.seq
    (.reg [⟨some 23, .mv (.s 0), none, false⟩,
      ⟨some 24, .mv (.s 2), none, false⟩,
      ⟨some 25, .mv (.s 3), none, false⟩,
      ⟨some 26, .mv (.s 4), none, false⟩,
      ⟨some 27, .mv (.s 5), none, false⟩,
      ⟨some 28, .call (.f (φ 45)) [(.s 23), (.s 24), (.s 25), (.s 26), (.s 27)], none, false⟩,
      ⟨some 22, .mv (.s 28), none, false⟩,
      ⟨some 29, .ext 0 (.s 22), none, false⟩,
      ⟨some 30, .ext 1 (.s 22), none, false⟩,
      ⟨some 2, .mv (.s 29), none, false⟩,
      ⟨some 3, .mv (.s 30), none, false⟩])
    (vc44_3 e φ))
def vc44_1 (e : Nat) (φ : Nat → Nat) : VC :=
  (.seq
    (.reg [⟨some 14, .mv (.s 0), none, false⟩,
      ⟨some 15, .mv (.s 1), none, false⟩,
      ⟨some 16, .mv (.s 2), none, false⟩,
      ⟨some 17, .mv (.s 4), none, false⟩,
      ⟨some 18, .mv (.s 5), none, false⟩,
      ⟨some 19, .call (.f (φ 45)) [(.s 14), (.s 15), (.s 16), (.s 17), (.s 18)], none, false⟩,
      ⟨some 13, .mv (.s 19), none, false⟩,
      ⟨some 20, .ext 0 (.s 13), none, false⟩,
      ⟨some 21, .ext 1 (.s 13), none, false⟩,
      ⟨some 1, .mv (.s 20), none, false⟩,
      ⟨some 2, .mv (.s 21), none, false⟩])
    (vc44_2 e φ))
/-- slices.medianCmpFunc[bypath/api.Timer] -/
def vc44 (e : Nat) (φ : Nat → Nat) : VC :=
  (.seq
    (.reg [⟨some 12, .mv (.c (.int .i64 0)), none, false⟩])
    (vc44_1 e φ))

def vc45_1012 (e : Nat) (φ : Nat → Nat) : VC :=
  (.draw [⟨some 12, .mv (.s 4), none, false⟩,
    ⟨some 13, .mv (.s 0), none, false⟩,
    ⟨some 14, .mv (.s 2), none, false⟩,
    ⟨some 15, .idx e (.s 13) (.s 14), none, false⟩,
    ⟨some 16, .load (some e) (.s 15), none, false⟩,
    ⟨some 17, .mv (.s 0), none, false⟩,
    ⟨some 18, .mv (.s 1), none, false⟩,
    ⟨some 19, .idx e (.s 17) (.s 18), none, false⟩,
    ⟨some 20, .load (some e) (.s 19), none, false⟩,
    ⟨some 21, .call (.s 12) [(.s 16), (.s 20)], none, false⟩,
    ⟨some 22, .cmp .lss (.s 21) (.c (.int .i64 0)), none, false⟩] [0, 1, 2, 3, 4, 5, 6, 7, 8, 9, 10])
def vc45_101 (e : Nat) (φ : Nat → Nat) : VC :=
  .ret
def vc45_102 (e : Nat) (φ : Nat → Nat) : VC :=
  (.seq
    (.reg [⟨some 28, .mv (.s 2), none, false⟩,
      ⟨some 29, .mv (.s 1), none, false⟩,
      ⟨some 10, .mv (.s 28), none, false⟩,
      ⟨some 11, .mv (.s 29), none, false⟩])
    (vc45_101 e φ))
def vc45_103 (e : Nat) (φ : Nat → Nat) : VC :=
  (vc45_102 e φ)
def vc45_104 (e : Nat) (φ : Nat → Nat) : VC :=
  (.seq
      (.reg [⟨some 23, .mv (.s 3), none, false⟩,
        ⟨some 24, .nilc (.s 23), none, false⟩,
        ⟨some 25, .load none (.s 24), none, false⟩,
        ⟨some 26, .arith .add (.s 25) (.c (.int .i64 1)), none, false⟩,
        ⟨some 27, .nilc (.s 23), none, false⟩,
        ⟨none, .store 1 (.s 27) (.s 26), none, false⟩])
    (vc45_103 e φ))
def vc45_105 (e : Nat) (φ : Nat → Nat) : VC :=
  (.cond (.s 22)
    (vc45_104 e φ)
    .skip)
def vc45_106 (e : Nat) (φ : Nat → Nat) : VC :=
  (.seq
      (vc45_1012 e φ)
    (vc45_105 e φ))
def vc45_3 (e : Nat) (φ : Nat → Nat) : VC :=
  .ret
def vc45_2 (e : Nat) (φ : Nat → Nat) : VC :=
  (.seq
    (.reg [⟨some 30, .mv (.s 1), none, false⟩,
      ⟨some 31, .mv (.s 2), none, false⟩,
      ⟨some 10, .mv (.s 30), none, false⟩,
      ⟨some 11, .mv (.s 31), none, false⟩])
    (vc45_3 e φ))
def vc45_1 (e : Nat) (φ : Nat → Nat) : VC :=
  (.seq
    (vc45_106 e φ)
    (vc45_2 e φ))
/-- slices.order2CmpFunc[bypath/api.Timer] -/
def vc45 (e : Nat) (φ : Nat → Nat) : VC :=
  (.seq
    (.reg [⟨some 10, .mv (.c (.int .i64 0)), none, false⟩,
      ⟨some 11, .mv (.c (.int .i64 0)), none, false⟩])
    (vc45_1 e φ))

/-- A program that holds the sort. -/
structure Lays (P : Program) (e : Nat) (φ : Nat → Nat) : Prop where
  c21 : chkF P (φ 21) 2 (vc21 e φ) [] = true
  c24 : chkF P (φ 24) 5 (vc24 e φ) [] = true
  c25 : chkF P (φ 25) 1 (vc25 e φ) [2] = true
  c29 : chkF P (φ 29) 4 (vc29 e φ) [] = true
  c30 : chkF P (φ 30) 4 (vc30 e φ) [] = true
  c31 : chkF P (φ 31) 4 (vc31 e φ) [] = true
  c32 : chkF P (φ 32) 4 (vc32 e φ) [8, 9] = true
  c33 : chkF P (φ 33) 4 (vc33 e φ) [] = true
  c34 : chkF P (φ 34) 4 (vc34 e φ) [8] = true
  c35 : chkF P (φ 35) 5 (vc35 e φ) [10] = true
  c36 : chkF P (φ 36) 5 (vc36 e φ) [10, 11] = true
  c38 : chkF P (φ 38) 1 (vc38 e φ) [2] = true
  c40 : chkF P (φ 40) 5 (vc40 e φ) [] = true
  c41 : chkF P (φ 41) 1 (vc41 e φ) [2] = true
  c42 : chkF P (φ 42) 1 (vc42 e φ) [2] = true
  c43 : chkF P (φ 43) 4 (vc43 e φ) [8] = true
  c44 : chkF P (φ 44) 6 (vc44 e φ) [12] = true
  c45 : chkF P (φ 45) 5 (vc45 e φ) [10, 11] = true
end Go.Vm.Srt
