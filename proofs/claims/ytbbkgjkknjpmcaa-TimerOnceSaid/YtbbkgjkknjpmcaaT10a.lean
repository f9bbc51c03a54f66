/-
  The code of timers.
-/
import Derived.Test.YtbbkgjkknjpmcaaProg
import Derived.Test.YtbbkgjkknjpmcaaVm22
set_option linter.unusedSimpArgs false
set_option linter.unusedVariables false
set_option linter.unusedSectionVars false
namespace Go.Vm.T10
open Go Go.Vm

def vc3_101 : VC :=
  (.cond (.s 31)
    .skip
    (.exit 0))
def vc3_102 : VC :=
  (.seq
          (.reg [⟨some 24, .mv (.s 5), none, false⟩,
            ⟨some 25, .mv (.s 0), none, false⟩,
            ⟨some 26, .len (.s 25), none, false⟩,
            ⟨some 27, .cmp .lss (.s 24) (.s 26), none, false⟩,
            ⟨some 28, .mv (.s 27), none, false⟩,
            ⟨some 29, .mv (.s 5), some (28, true), false⟩,
            ⟨some 30, .cmp .lss (.s 29) (.c (.int .i64 200)), some (28, true), false⟩,
            ⟨some 31, .pick (.s 28) (.s 30) (.c (.bool false)), none, false⟩])
    vc3_101)
def vc3_1042 : VC :=
  (.draw [⟨some 42, .mv (.s 3), none, false⟩,
    ⟨some 43, .fld 1 (.s 6), none, false⟩,
    ⟨some 44, .fload (some 2) (.s 43), none, false⟩,
    ⟨some 45, .fld 3 (.s 6), none, false⟩,
    ⟨some 46, .fload none (.s 45), none, false⟩,
    ⟨some 48, .mv (.s 4), none, false⟩,
    ⟨some 49, .fld 1 (.s 6), none, false⟩,
    ⟨some 50, .fload (some 2) (.s 49), none, false⟩,
    ⟨some 51, .fld 3 (.s 6), none, false⟩,
    ⟨some 52, .fload none (.s 51), none, false⟩,
    ⟨some 47, .call (.f 7) [(.s 42), (.s 44), (.s 46)], none, false⟩,
    ⟨some 53, .call (.f 8) [(.s 48), (.s 50), (.s 52)], none, false⟩,
    ⟨some 54, .cmp .neq (.s 47) (.s 53), none, false⟩] [0, 1, 2, 3, 4, 6, 7, 8, 9, 10, 5, 11, 12])
def vc3_103 : VC :=
  .ret
def vc3_104 : VC :=
  (.seq
      (.reg [⟨some 2, .mv (.c (.bool false)), none, false⟩])
    vc3_103)
def vc3_105 : VC :=
  (.cond (.s 54)
    vc3_104
    .skip)
def vc3_106 : VC :=
  (.seq
      vc3_1042
    vc3_105)
def vc3_1057 : VC :=
  (.draw [⟨some 57, .mv (.s 3), none, false⟩,
    ⟨some 58, .fld 1 (.s 6), none, false⟩,
    ⟨some 59, .fload (some 2) (.s 58), none, false⟩,
    ⟨some 61, .mv (.s 4), none, false⟩,
    ⟨some 62, .fld 1 (.s 6), none, false⟩,
    ⟨some 63, .fload (some 2) (.s 62), none, false⟩,
    ⟨some 60, .call (.f 9) [(.s 57), (.s 59)], none, false⟩,
    ⟨some 64, .call (.f 10) [(.s 61), (.s 63)], none, false⟩,
    ⟨some 65, .beq true (.s 60) (.s 64), none, false⟩] [0, 1, 2, 4, 5, 6, 3, 7, 8])
def vc3_107 : VC :=
  .ret
def vc3_108 : VC :=
  (.seq
      (.reg [⟨some 2, .mv (.c (.bool false)), none, false⟩])
    vc3_107)
def vc3_109 : VC :=
  (.cond (.s 65)
    vc3_108
    .skip)
def vc3_110 : VC :=
  (.seq
      vc3_1057
    vc3_109)
def vc3_1068 : VC :=
  (.draw [⟨some 68, .mv (.s 3), none, false⟩,
    ⟨some 69, .fld 3 (.s 6), none, false⟩,
    ⟨some 70, .fload none (.s 69), none, false⟩,
    ⟨some 72, .mv (.s 4), none, false⟩,
    ⟨some 73, .fld 3 (.s 6), none, false⟩,
    ⟨some 74, .fload none (.s 73), none, false⟩,
    ⟨some 71, .call (.f 12) [(.s 68), (.s 70)], none, false⟩,
    ⟨some 75, .call (.f 13) [(.s 72), (.s 74)], none, false⟩,
    ⟨some 76, .call (.f 11) [(.s 71), (.s 75)], none, false⟩,
    ⟨some 77, .not (.s 76), none, false⟩] [0, 1, 2, 4, 5, 6, 3, 7, 8, 9])
def vc3_111 : VC :=
  .ret
def vc3_112 : VC :=
  (.seq
      (.reg [⟨some 2, .mv (.c (.bool false)), none, false⟩])
    vc3_111)
def vc3_113 : VC :=
  (.cond (.s 77)
    vc3_112
    .skip)
def vc3_114 : VC :=
  (.seq
      vc3_1068
    vc3_113)
def vc3_115 : VC :=
  (.cond (.s 66)
    vc3_114
    .skip)
def vc3_116 : VC :=
  (.seq
      (.reg [⟨some 67, .cmp .eql (.s 39) (.c (.int .i64 3)), none, false⟩,
        ⟨some 66, .mv (.s 67), none, false⟩])
    vc3_115)
def vc3_117 : VC :=
  (.cond (.s 55)
    vc3_110
    vc3_116)
def vc3_118 : VC :=
  (.seq
      (.reg [⟨some 56, .cmp .eql (.s 39) (.c (.int .i64 2)), none, false⟩,
        ⟨some 55, .mv (.s 56), none, false⟩])
    vc3_117)
def vc3_119 : VC :=
  (.cond (.s 40)
    vc3_106
    vc3_118)
def vc3_120 : VC :=
  (.seq
      (.reg [⟨some 41, .cmp .eql (.s 39) (.c (.int .i64 1)), none, false⟩,
        ⟨some 40, .mv (.s 41), none, false⟩])
    vc3_119)
def vc3_121 : VC :=
  (.block 2
    vc3_120)
def vc3_122 : VC :=
  (.seq
      (.reg [⟨some 38, .fld 0 (.s 6), none, false⟩,
        ⟨some 39, .fload none (.s 38), none, false⟩])
    vc3_121)
def vc3_1102 : VC :=
  (.draw [⟨some 102, .mv (.s 7), none, false⟩,
    ⟨some 103, .mv (.s 9), none, false⟩,
    ⟨some 104, .cmp .neq (.s 102) (.s 103), none, false⟩,
    ⟨some 105, .mv (.s 104), none, false⟩,
    ⟨some 106, .mv (.s 8), some (105, false), false⟩,
    ⟨some 107, .mv (.s 10), some (105, false), false⟩,
    ⟨some 108, .beq true (.s 106) (.s 107), some (105, false), false⟩,
    ⟨some 109, .pick (.s 105) (.c (.bool true)) (.s 108), none, false⟩,
    ⟨some 110, .mv (.s 109), none, false⟩,
    ⟨some 111, .mv (.s 11), some (110, false), false⟩,
    ⟨some 112, .mv (.s 13), some (110, false), false⟩,
    ⟨some 113, .cmp .neq (.s 111) (.s 112), some (110, false), false⟩,
    ⟨some 114, .pick (.s 110) (.c (.bool true)) (.s 113), none, false⟩,
    ⟨some 115, .mv (.s 114), none, false⟩,
    ⟨some 116, .mv (.s 12), some (115, false), false⟩,
    ⟨some 117, .mv (.s 14), some (115, false), false⟩,
    ⟨some 118, .beq true (.s 116) (.s 117), some (115, false), false⟩,
    ⟨some 119, .pick (.s 115) (.c (.bool true)) (.s 118), none, false⟩,
    ⟨some 120, .mv (.s 119), none, false⟩,
    ⟨some 121, .mv (.s 3), some (120, false), false⟩,
    ⟨some 123, .mv (.s 4), some (120, false), false⟩,
    ⟨some 124, .nilc (.s 123), some (120, false), false⟩,
    ⟨some 125, .fld 0 (.s 124), some (120, false), false⟩,
    ⟨some 126, .load none (.s 125), some (120, false), false⟩,
    ⟨some 127, .len (.s 126), some (120, false), false⟩,
    ⟨some 122, .call (.f 18) [(.s 121)], some (120, false), true⟩,
    ⟨some 128, .cmp .neq (.s 122) (.s 127), some (120, false), false⟩,
    ⟨some 129, .pick (.s 120) (.c (.bool true)) (.s 128), none, false⟩] [0, 1, 2, 3, 4, 5, 6, 7, 8, 9, 10, 11, 12, 13, 14, 15, 16, 17, 18, 19, 21, 22, 23, 24, 25, 20, 26, 27])
def vc3_123 : VC :=
  .ret
def vc3_124 : VC :=
  (.seq
      (.reg [⟨some 2, .mv (.c (.bool false)), none, false⟩])
    vc3_123)
def vc3_125 : VC :=
  (.cond (.s 129)
    vc3_124
    .skip)
def vc3_126 : VC :=
  (.seq
    vc3_1102
    vc3_125)
def vc3_127 : VC :=
  vc3_126
def vc3_128 : VC :=
  (.seq
    (.reg [⟨some 98, .mv (.s 4), none, false⟩,
      ⟨some 99, .call (.f 17) [(.s 98)], none, false⟩,
      ⟨some 97, .mv (.s 99), none, false⟩,
      ⟨some 100, .ext 0 (.s 97), none, false⟩,
      ⟨some 101, .ext 1 (.s 97), none, false⟩,
      ⟨some 13, .mv (.s 100), none, false⟩,
      ⟨some 14, .mv (.s 101), none, false⟩])
    vc3_127)
def vc3_129 : VC :=
  vc3_128
def vc3_130 : VC :=
  (.seq
    (.reg [⟨some 93, .mv (.s 3), none, false⟩,
      ⟨some 94, .call (.f 16) [(.s 93)], none, false⟩,
      ⟨some 92, .mv (.s 94), none, false⟩,
      ⟨some 95, .ext 0 (.s 92), none, false⟩,
      ⟨some 96, .ext 1 (.s 92), none, false⟩,
      ⟨some 11, .mv (.s 95), none, false⟩,
      ⟨some 12, .mv (.s 96), none, false⟩])
    vc3_129)
def vc3_131 : VC :=
  vc3_130
def vc3_132 : VC :=
  (.seq
    (.reg [⟨some 86, .mv (.s 4), none, false⟩,
      ⟨some 87, .fld 1 (.s 6), none, false⟩,
      ⟨some 88, .fload (some 2) (.s 87), none, false⟩,
      ⟨some 89, .call (.f 15) [(.s 86), (.s 88)], none, false⟩,
      ⟨some 85, .mv (.s 89), none, false⟩,
      ⟨some 90, .ext 0 (.s 85), none, false⟩,
      ⟨some 91, .ext 1 (.s 85), none, false⟩,
      ⟨some 9, .mv (.s 90), none, false⟩,
      ⟨some 10, .mv (.s 91), none, false⟩])
    vc3_131)
def vc3_133 : VC :=
  vc3_132
def vc3_134 : VC :=
  (.seq
    (.reg [⟨some 79, .mv (.s 3), none, false⟩,
      ⟨some 80, .fld 1 (.s 6), none, false⟩,
      ⟨some 81, .fload (some 2) (.s 80), none, false⟩,
      ⟨some 82, .call (.f 14) [(.s 79), (.s 81)], none, false⟩,
      ⟨some 78, .mv (.s 82), none, false⟩,
      ⟨some 83, .ext 0 (.s 78), none, false⟩,
      ⟨some 84, .ext 1 (.s 78), none, false⟩,
      ⟨some 7, .mv (.s 83), none, false⟩,
      ⟨some 8, .mv (.s 84), none, false⟩])
    vc3_133)
def vc3_135 : VC :=
  vc3_134
def vc3_136 : VC :=
  (.seq
    vc3_122
    vc3_135)
def vc3_137 : VC :=
  vc3_136
def vc3_138 : VC :=
  (.seq
        (.reg [⟨some 34, .mv (.s 0), none, false⟩,
          ⟨some 35, .mv (.s 5), none, false⟩,
          ⟨some 36, .idx 4 (.s 34) (.s 35), none, false⟩,
          ⟨some 37, .load (some 4) (.s 36), none, false⟩,
          ⟨some 6, .alloc [.int .i64 0, .int .i64 0, .int .i64 0, .int .i64 0], none, false⟩,
          ⟨some 6, .fst 6 4 (.s 37), none, false⟩])
    vc3_137)
def vc3_139 : VC :=
  (.reg [⟨some 32, .mv (.s 5), none, false⟩,
    ⟨some 33, .arith .add (.s 32) (.c (.int .i64 1)), none, false⟩,
    ⟨some 5, .mv (.s 33), none, false⟩])
def vc3_140 : VC :=
  (.seq
    (.block 1
      vc3_138)
    vc3_139)
def vc3_141 : VC :=
  vc3_140
def vc3_142 : VC :=
  (.seq
        vc3_102
    vc3_141)
def vc3_143 : VC :=
  (.block 0
    (.loop
      vc3_142))
def vc3_144 : VC :=
  (.seq
      (.reg [⟨some 5, .mv (.c (.int .i64 0)), none, false⟩])
    vc3_143)
def vc3_145 : VC :=
  .ret
def vc3_146 : VC :=
  (.seq
      (.reg [⟨some 2, .mv (.c (.bool false)), none, false⟩])
    vc3_145)
def vc3_147 : VC :=
  (.cond (.s 23)
    vc3_146
    .skip)
def vc3_148 : VC :=
  (.seq
      (.reg [⟨some 18, .call (.f 6) [], none, false⟩,
        ⟨some 19, .not (.s 18), none, false⟩,
        ⟨some 20, .mv (.s 19), none, false⟩,
        ⟨some 21, .mv (.s 3), some (20, false), false⟩,
        ⟨some 22, .pnil false false (.s 21), some (20, false), false⟩,
        ⟨some 23, .pick (.s 20) (.c (.bool true)) (.s 22), none, false⟩])
    vc3_147)
def vc3_5 : VC :=
  .ret
def vc3_4 : VC :=
  (.seq
    (.reg [⟨some 2, .mv (.c (.bool true)), none, false⟩])
    vc3_5)
def vc3_3 : VC :=
  (.seq
    vc3_144
    vc3_4)
def vc3_2 : VC :=
  (.seq
    vc3_148
    vc3_3)
def vc3_1 : VC :=
  (.seq
    (.reg [⟨some 15, .call (.f 5) [], none, false⟩,
      ⟨some 16, .bld [.fz 3 [] 0 none] [], none, false⟩,
      ⟨some 17, .box 1 (.s 16), none, false⟩,
      ⟨some 3, .mv (.s 15), none, false⟩,
      ⟨some 4, .mv (.s 17), none, false⟩])
    vc3_2)
/-- bypath/bypathlaw10.TimerDoes -/
def vc3 : VC :=
  (.seq
    (.reg [⟨some 2, .mv (.c (.bool false)), none, false⟩])
    vc3_1)
theorem ck3 : chkF Go.Proofs.Try.prog 3 1 vc3 [2] = true := by kernel_rfl

def vc4_101 : VC :=
  (.cond (.s 62)
    .skip
    (.exit 2))
def vc4_102 : VC :=
  (.seq
          (.reg [⟨some 59, .mv (.s 8), none, false⟩,
            ⟨some 60, .mv (.s 1), none, false⟩,
            ⟨some 61, .arith .add (.c (.int .i64 1000)) (.s 60), none, false⟩,
            ⟨some 62, .cmp .leq (.s 59) (.s 61), none, false⟩])
    vc4_101)
def vc4_103 : VC :=
  (.cond (.s 72)
    .skip
    (.exit 4))
def vc4_104 : VC :=
  (.seq
          (.reg [⟨some 69, .mv (.s 11), none, false⟩,
            ⟨some 70, .mv (.s 9), none, false⟩,
            ⟨some 71, .len (.s 70), none, false⟩,
            ⟨some 72, .cmp .lss (.s 69) (.s 71), none, false⟩])
    vc4_103)
def vc4_105 : VC :=
  .ret
def vc4_106 : VC :=
  (.seq
      (.reg [⟨some 4, .mv (.c (.bool false)), none, false⟩])
    vc4_105)
def vc4_107 : VC :=
  (.cond (.s 118)
    vc4_106
    .skip)
def vc4_108 : VC :=
  (.seq
      (.reg [⟨some 80, .mv (.s 12), none, false⟩,
        ⟨some 81, .cmp .lss (.s 80) (.c (.int .i64 0)), none, false⟩,
        ⟨some 82, .mv (.s 81), none, false⟩,
        ⟨some 83, .mv (.s 12), some (82, false), false⟩,
        ⟨some 84, .mv (.s 0), some (82, false), false⟩,
        ⟨some 85, .len (.s 84), some (82, false), false⟩,
        ⟨some 86, .cmp .geq (.s 83) (.s 85), some (82, false), false⟩,
        ⟨some 87, .pick (.s 82) (.c (.bool true)) (.s 86), none, false⟩,
        ⟨some 88, .mv (.s 87), none, false⟩,
        ⟨some 89, .mv (.s 0), some (88, false), false⟩,
        ⟨some 90, .mv (.s 12), some (88, false), false⟩,
        ⟨some 91, .idx 1 (.s 89) (.s 90), some (88, false), false⟩,
        ⟨some 92, .load none (.s 91), some (88, false), false⟩,
        ⟨some 93, .mv (.s 8), some (88, false), false⟩,
        ⟨some 94, .cmp .gtr (.s 92) (.s 93), some (88, false), false⟩,
        ⟨some 95, .pick (.s 88) (.c (.bool true)) (.s 94), none, false⟩,
        ⟨some 96, .mv (.s 95), none, false⟩,
        ⟨some 97, .mv (.s 8), some (96, false), false⟩,
        ⟨some 98, .mv (.s 1), some (96, false), false⟩,
        ⟨some 99, .cmp .geq (.s 97) (.s 98), some (96, false), false⟩,
        ⟨some 100, .mv (.s 99), some (96, false), false⟩,
        ⟨some 101, .mv (.s 0), some (100, true), false⟩,
        ⟨some 102, .mv (.s 12), some (100, true), false⟩,
        ⟨some 103, .idx 1 (.s 101) (.s 102), some (100, true), false⟩,
        ⟨some 104, .load none (.s 103), some (100, true), false⟩,
        ⟨some 105, .mv (.s 8), some (100, true), false⟩,
        ⟨some 106, .mv (.s 1), some (100, true), false⟩,
        ⟨some 107, .arith .sub (.s 105) (.s 106), some (100, true), false⟩,
        ⟨some 108, .cmp .leq (.s 104) (.s 107), some (100, true), false⟩,
        ⟨some 109, .pick (.s 100) (.s 108) (.c (.bool false)), some (96, false), false⟩,
        ⟨some 110, .pick (.s 96) (.c (.bool true)) (.s 109), none, false⟩,
        ⟨some 111, .mv (.s 110), none, false⟩,
        ⟨some 112, .mv (.s 0), some (111, false), false⟩,
        ⟨some 113, .mv (.s 12), some (111, false), false⟩,
        ⟨some 114, .idx 1 (.s 112) (.s 113), some (111, false), false⟩,
        ⟨some 115, .load none (.s 114), some (111, false), false⟩,
        ⟨some 116, .mv (.s 10), some (111, false), false⟩,
        ⟨some 117, .cmp .lss (.s 115) (.s 116), some (111, false), false⟩,
        ⟨some 118, .pick (.s 111) (.c (.bool true)) (.s 117), none, false⟩])
    vc4_107)
def vc4_109 : VC :=
  (.reg [⟨some 123, .mv (.s 7), none, false⟩,
    ⟨some 124, .arith .add (.s 123) (.c (.int .i64 1)), none, false⟩,
    ⟨some 7, .mv (.s 124), none, false⟩])
def vc4_110 : VC :=
  (.seq
    (.reg [⟨some 119, .mv (.s 0), none, false⟩,
      ⟨some 120, .mv (.s 12), none, false⟩,
      ⟨some 121, .idx 1 (.s 119) (.s 120), none, false⟩,
      ⟨some 122, .load none (.s 121), none, false⟩,
      ⟨some 10, .mv (.s 122), none, false⟩])
    vc4_109)
def vc4_111 : VC :=
  vc4_110
def vc4_112 : VC :=
  (.seq
    vc4_108
    vc4_111)
def vc4_113 : VC :=
  vc4_112
def vc4_114 : VC :=
  (.seq
        (.reg [⟨some 75, .mv (.s 9), none, false⟩,
          ⟨some 76, .mv (.s 11), none, false⟩,
          ⟨some 77, .idx 2 (.s 75) (.s 76), none, false⟩,
          ⟨some 78, .fld 0 (.s 77), none, false⟩,
          ⟨some 79, .load none (.s 78), none, false⟩,
          ⟨some 12, .mv (.s 79), none, false⟩])
    vc4_113)
def vc4_115 : VC :=
  (.reg [⟨some 73, .mv (.s 11), none, false⟩,
    ⟨some 74, .arith .add (.s 73) (.c (.int .i64 1)), none, false⟩,
    ⟨some 11, .mv (.s 74), none, false⟩])
def vc4_116 : VC :=
  (.seq
    (.block 5
      vc4_114)
    vc4_115)
def vc4_117 : VC :=
  vc4_116
def vc4_118 : VC :=
  (.seq
        vc4_104
    vc4_117)
def vc4_119 : VC :=
  (.block 4
    (.loop
      vc4_118))
def vc4_120 : VC :=
  (.seq
    (.reg [⟨some 11, .mv (.c (.int .i64 0)), none, false⟩])
    vc4_119)
def vc4_121 : VC :=
  vc4_120
def vc4_122 : VC :=
  (.seq
    (.reg [⟨some 10, .mv (.c (.int .i64 0)), none, false⟩])
    vc4_121)
def vc4_123 : VC :=
  vc4_122
def vc4_124 : VC :=
  (.seq
        (.reg [⟨some 66, .mv (.s 5), none, false⟩,
          ⟨some 67, .mv (.s 8), none, false⟩,
          ⟨some 68, .call (.f 12) [(.s 66), (.s 67)], none, false⟩,
          ⟨some 9, .mv (.s 68), none, false⟩])
    vc4_123)
def vc4_125 : VC :=
  (.reg [⟨some 63, .mv (.s 8), none, false⟩,
    ⟨some 64, .mv (.s 1), none, false⟩,
    ⟨some 65, .arith .add (.s 63) (.s 64), none, false⟩,
    ⟨some 8, .mv (.s 65), none, false⟩])
def vc4_126 : VC :=
  (.seq
    (.block 3
      vc4_124)
    vc4_125)
def vc4_127 : VC :=
  vc4_126
def vc4_128 : VC :=
  (.seq
        vc4_102
    vc4_127)
def vc4_129 : VC :=
  (.block 2
    (.loop
      vc4_128))
def vc4_130 : VC :=
  (.seq
      (.reg [⟨some 8, .mv (.c (.int .i64 0)), none, false⟩])
    vc4_129)
def vc4_131 : VC :=
  (.cond (.s 35)
    .skip
    (.exit 0))
def vc4_132 : VC :=
  (.seq
          (.reg [⟨some 32, .mv (.s 6), none, false⟩,
            ⟨some 33, .mv (.s 0), none, false⟩,
            ⟨some 34, .len (.s 33), none, false⟩,
            ⟨some 35, .cmp .lss (.s 32) (.s 34), none, false⟩])
    vc4_131)
def vc4_133 : VC :=
  .ret
def vc4_134 : VC :=
  (.seq
      (.reg [⟨some 4, .mv (.c (.bool true)), none, false⟩])
    vc4_133)
def vc4_135 : VC :=
  (.cond (.s 49)
    vc4_134
    .skip)
def vc4_136 : VC :=
  (.seq
          (.reg [⟨some 38, .mv (.s 0), none, false⟩,
            ⟨some 39, .mv (.s 6), none, false⟩,
            ⟨some 40, .idx 1 (.s 38) (.s 39), none, false⟩,
            ⟨some 41, .load none (.s 40), none, false⟩,
            ⟨some 42, .cmp .lss (.s 41) (.c (.int .i64 0)), none, false⟩,
            ⟨some 43, .mv (.s 42), none, false⟩,
            ⟨some 44, .mv (.s 0), some (43, false), false⟩,
            ⟨some 45, .mv (.s 6), some (43, false), false⟩,
            ⟨some 46, .idx 1 (.s 44) (.s 45), some (43, false), false⟩,
            ⟨some 47, .load none (.s 46), some (43, false), false⟩,
            ⟨some 48, .cmp .gtr (.s 47) (.c (.int .i64 1000)), some (43, false), false⟩,
            ⟨some 49, .pick (.s 43) (.c (.bool true)) (.s 48), none, false⟩])
    vc4_135)
def vc4_137 : VC :=
  .ret
def vc4_138 : VC :=
  (.seq
      (.reg [⟨some 4, .mv (.c (.bool false)), none, false⟩])
    vc4_137)
def vc4_139 : VC :=
  (.cond (.s 58)
    vc4_138
    .skip)
def vc4_140 : VC :=
  (.seq
    (.reg [⟨some 50, .mv (.s 5), none, false⟩,
      ⟨some 51, .mv (.s 6), none, false⟩,
      ⟨some 52, .bld [.int .i64 0, .int .i64 0] [(0, 1, (.s 51))], none, false⟩,
      ⟨some 53, .mv (.s 0), none, false⟩,
      ⟨some 54, .mv (.s 6), none, false⟩,
      ⟨some 55, .idx 1 (.s 53) (.s 54), none, false⟩,
      ⟨some 56, .load none (.s 55), none, false⟩,
      ⟨some 57, .call (.f 7) [(.s 50), (.s 52), (.s 56)], none, false⟩,
      ⟨some 58, .cmp .neq (.s 57) (.c (.int .i64 0)), none, false⟩])
    vc4_139)
def vc4_141 : VC :=
  vc4_140
def vc4_142 : VC :=
  (.seq
        vc4_136
    vc4_141)
def vc4_143 : VC :=
  (.reg [⟨some 36, .mv (.s 6), none, false⟩,
    ⟨some 37, .arith .add (.s 36) (.c (.int .i64 1)), none, false⟩,
    ⟨some 6, .mv (.s 37), none, false⟩])
def vc4_144 : VC :=
  (.seq
    (.block 1
      vc4_142)
    vc4_143)
def vc4_145 : VC :=
  vc4_144
def vc4_146 : VC :=
  (.seq
        vc4_132
    vc4_145)
def vc4_147 : VC :=
  (.block 0
    (.loop
      vc4_146))
def vc4_148 : VC :=
  (.seq
      (.reg [⟨some 6, .mv (.c (.int .i64 0)), none, false⟩])
    vc4_147)
def vc4_149 : VC :=
  .ret
def vc4_150 : VC :=
  (.seq
      (.reg [⟨some 4, .mv (.c (.bool false)), none, false⟩])
    vc4_149)
def vc4_151 : VC :=
  (.cond (.s 31)
    vc4_150
    .skip)
def vc4_152 : VC :=
  (.seq
      (.reg [⟨some 26, .call (.f 6) [], none, false⟩,
        ⟨some 27, .not (.s 26), none, false⟩,
        ⟨some 28, .mv (.s 27), none, false⟩,
        ⟨some 29, .mv (.s 5), some (28, false), false⟩,
        ⟨some 30, .pnil false false (.s 29), some (28, false), false⟩,
        ⟨some 31, .pick (.s 28) (.c (.bool true)) (.s 30), none, false⟩])
    vc4_151)
def vc4_153 : VC :=
  .ret
def vc4_154 : VC :=
  (.seq
      (.reg [⟨some 24, .call (.f 6) [], none, false⟩,
        ⟨some 4, .mv (.s 24), none, false⟩])
    vc4_153)
def vc4_155 : VC :=
  (.cond (.s 23)
    vc4_154
    .skip)
def vc4_156 : VC :=
  (.seq
      (.reg [⟨some 13, .mv (.s 0), none, false⟩,
        ⟨some 14, .len (.s 13), none, false⟩,
        ⟨some 15, .cmp .gtr (.s 14) (.c (.int .i64 200)), none, false⟩,
        ⟨some 16, .mv (.s 15), none, false⟩,
        ⟨some 17, .mv (.s 1), some (16, false), false⟩,
        ⟨some 18, .cmp .lss (.s 17) (.c (.int .i64 1)), some (16, false), false⟩,
        ⟨some 19, .pick (.s 16) (.c (.bool true)) (.s 18), none, false⟩,
        ⟨some 20, .mv (.s 19), none, false⟩,
        ⟨some 21, .mv (.s 1), some (20, false), false⟩,
        ⟨some 22, .cmp .gtr (.s 21) (.c (.int .i64 1000)), some (20, false), false⟩,
        ⟨some 23, .pick (.s 20) (.c (.bool true)) (.s 22), none, false⟩])
    vc4_155)
def vc4_8 : VC :=
  .ret
def vc4_7 : VC :=
  (.seq
    (.reg [⟨some 125, .mv (.s 7), none, false⟩,
      ⟨some 126, .mv (.s 0), none, false⟩,
      ⟨some 127, .len (.s 126), none, false⟩,
      ⟨some 128, .cmp .eql (.s 125) (.s 127), none, false⟩,
      ⟨some 129, .mv (.s 128), none, false⟩,
      ⟨some 130, .mv (.s 5), some (129, true), false⟩,
      ⟨some 131, .call (.f 18) [(.s 130)], some (129, true), false⟩,
      ⟨some 132, .cmp .eql (.s 131) (.c (.int .i64 0)), some (129, true), false⟩,
      ⟨some 133, .pick (.s 129) (.s 132) (.c (.bool false)), none, false⟩,
      ⟨some 4, .mv (.s 133), none, false⟩])
    vc4_8)
def vc4_6 : VC :=
  (.seq
    vc4_130
    vc4_7)
def vc4_5 : VC :=
  (.seq
    (.reg [⟨some 7, .mv (.c (.int .i64 0)), none, false⟩])
    vc4_6)
def vc4_4 : VC :=
  (.seq
    vc4_148
    vc4_5)
def vc4_3 : VC :=
  (.seq
    vc4_152
    vc4_4)
def vc4_2 : VC :=
  (.seq
    (.reg [⟨some 25, .call (.f 5) [], none, false⟩,
      ⟨some 5, .mv (.s 25), none, false⟩])
    vc4_3)
def vc4_1 : VC :=
  (.seq
    vc4_156
    vc4_2)
/-- bypath/bypathlaw10.TimerOnce -/
def vc4 : VC :=
  (.seq
    (.reg [⟨some 4, .mv (.c (.bool false)), none, false⟩])
    vc4_1)
theorem ck4 : chkF Go.Proofs.Try.prog 4 2 vc4 [4] = true := by kernel_rfl

def vc5_2 : VC :=
  .ret
def vc5_1 : VC :=
  (.seq
    (.reg [⟨some 1, .mkmap, none, false⟩,
      ⟨some 2, .bld [.nilmp] [(0, 1, (.s 1))], none, false⟩,
      ⟨some 3, .box 1 (.s 2), none, false⟩,
      ⟨some 0, .mv (.s 3), none, false⟩])
    vc5_2)
/-- bypath/timer.New -/
def vc5 : VC :=
  (.seq
    (.reg [⟨some 0, .mv (.c (.nilp)), none, false⟩])
    vc5_1)
theorem ck5 : chkF Go.Proofs.Try.prog 5 0 vc5 [0] = true := by kernel_rfl

def vc6_10 : VC :=
  .ret
def vc6_9 : VC :=
  (.seq
    (.reg [⟨some 47, .mv (.s 4), none, false⟩,
      ⟨some 48, .cmp .eql (.s 47) (.c (.int .i64 0)), none, false⟩,
      ⟨some 49, .mv (.s 48), none, false⟩,
      ⟨some 50, .mv (.s 5), some (49, true), false⟩,
      ⟨some 51, .cmp .eql (.s 50) (.c (.int .i64 0)), some (49, true), false⟩,
      ⟨some 52, .pick (.s 49) (.s 51) (.c (.bool false)), none, false⟩,
      ⟨some 53, .mv (.s 52), none, false⟩,
      ⟨some 54, .mv (.s 6), some (53, true), false⟩,
      ⟨some 55, .cmp .eql (.s 54) (.c (.int .i64 1)), some (53, true), false⟩,
      ⟨some 56, .pick (.s 53) (.s 55) (.c (.bool false)), none, false⟩,
      ⟨some 57, .mv (.s 56), none, false⟩,
      ⟨some 58, .mv (.s 7), some (57, true), false⟩,
      ⟨some 59, .cmp .eql (.s 58) (.c (.int .i64 3)), some (57, true), false⟩,
      ⟨some 60, .pick (.s 57) (.s 59) (.c (.bool false)), none, false⟩,
      ⟨some 61, .mv (.s 60), none, false⟩,
      ⟨some 62, .mv (.s 8), some (61, true), false⟩,
      ⟨some 63, .pick (.s 61) (.s 62) (.c (.bool false)), none, false⟩,
      ⟨some 64, .mv (.s 63), none, false⟩,
      ⟨some 65, .mv (.s 9), some (64, true), false⟩,
      ⟨some 66, .fload (some 2) (.s 3), some (64, true), false⟩,
      ⟨some 67, .bsl [.int .i64 0, .int .i64 0] 2 1 [(0, (.s 66))], some (64, true), false⟩,
      ⟨some 68, .call (.f 11) [(.s 65), (.s 67)], some (64, true), false⟩,
      ⟨some 69, .pick (.s 64) (.s 68) (.c (.bool false)), none, false⟩,
      ⟨some 70, .mv (.s 69), none, false⟩,
      ⟨some 71, .mv (.s 10), some (70, true), false⟩,
      ⟨some 72, .cmp .eql (.s 71) (.c (.int .i64 5)), some (70, true), false⟩,
      ⟨some 73, .pick (.s 70) (.s 72) (.c (.bool false)), none, false⟩,
      ⟨some 74, .mv (.s 73), none, false⟩,
      ⟨some 75, .mv (.s 11), some (74, true), false⟩,
      ⟨some 76, .pick (.s 74) (.s 75) (.c (.bool false)), none, false⟩,
      ⟨some 77, .mv (.s 76), none, false⟩,
      ⟨some 78, .mv (.s 12), some (77, true), false⟩,
      ⟨some 79, .pick (.s 77) (.s 78) (.c (.bool false)), none, false⟩,
      ⟨some 80, .mv (.s 79), none, false⟩,
      ⟨some 81, .mv (.s 13), some (80, true), false⟩,
      ⟨some 82, .not (.s 81), some (80, true), false⟩,
      ⟨some 83, .pick (.s 80) (.s 82) (.c (.bool false)), none, false⟩,
      ⟨some 84, .mv (.s 83), none, false⟩,
      ⟨some 85, .mv (.s 1), some (84, true), false⟩,
      ⟨some 86, .call (.f 18) [(.s 85)], some (84, true), false⟩,
      ⟨some 87, .cmp .eql (.s 86) (.c (.int .i64 0)), some (84, true), false⟩,
      ⟨some 88, .pick (.s 84) (.s 87) (.c (.bool false)), none, false⟩,
      ⟨some 0, .mv (.s 88), none, false⟩])
    vc6_10)
def vc6_8 : VC :=
  (.seq
    (.draw [⟨some 41, .mv (.s 1), none, false⟩,
      ⟨some 42, .fload (some 2) (.s 2), none, false⟩,
      ⟨some 44, .mv (.s 1), none, false⟩,
      ⟨some 45, .fload (some 2) (.s 2), none, false⟩,
      ⟨some 43, .call (.f 9) [(.s 41), (.s 42)], none, false⟩,
      ⟨some 46, .call (.f 9) [(.s 44), (.s 45)], none, false⟩,
      ⟨some 12, .mv (.s 43), none, false⟩,
      ⟨some 13, .mv (.s 46), none, false⟩] [0, 1, 3, 4, 2, 5, 6, 7])
    vc6_9)
def vc6_7 : VC :=
  (.seq
    (.reg [⟨some 36, .mv (.s 1), none, false⟩,
      ⟨some 37, .fload (some 2) (.s 2), none, false⟩,
      ⟨some 38, .call (.f 14) [(.s 36), (.s 37)], none, false⟩,
      ⟨some 35, .mv (.s 38), none, false⟩,
      ⟨some 39, .ext 0 (.s 35), none, false⟩,
      ⟨some 40, .ext 1 (.s 35), none, false⟩,
      ⟨some 10, .mv (.s 39), none, false⟩,
      ⟨some 11, .mv (.s 40), none, false⟩])
    vc6_8)
def vc6_6 : VC :=
  (.seq
    (.reg [⟨some 33, .mv (.s 1), none, false⟩,
      ⟨some 34, .call (.f 12) [(.s 33), (.c (.int .i64 4))], none, false⟩,
      ⟨some 9, .mv (.s 34), none, false⟩])
    vc6_7)
def vc6_5 : VC :=
  (.seq
    (.reg [⟨some 29, .mv (.s 1), none, false⟩,
      ⟨some 30, .call (.f 16) [(.s 29)], none, false⟩,
      ⟨some 28, .mv (.s 30), none, false⟩,
      ⟨some 31, .ext 0 (.s 28), none, false⟩,
      ⟨some 32, .ext 1 (.s 28), none, false⟩,
      ⟨some 7, .mv (.s 31), none, false⟩,
      ⟨some 8, .mv (.s 32), none, false⟩])
    vc6_6)
def vc6_4 : VC :=
  (.seq
    (.draw [⟨some 19, .mv (.s 1), none, false⟩,
      ⟨some 20, .fload (some 2) (.s 2), none, false⟩,
      ⟨some 22, .mv (.s 1), none, false⟩,
      ⟨some 23, .fload (some 2) (.s 3), none, false⟩,
      ⟨some 25, .mv (.s 1), none, false⟩,
      ⟨some 26, .fload (some 2) (.s 2), none, false⟩,
      ⟨some 21, .call (.f 7) [(.s 19), (.s 20), (.c (.int .i64 5))], none, false⟩,
      ⟨some 24, .call (.f 7) [(.s 22), (.s 23), (.c (.int .i64 3))], none, false⟩,
      ⟨some 27, .call (.f 7) [(.s 25), (.s 26), (.c (.int .i64 (-1)))], none, false⟩,
      ⟨some 4, .mv (.s 21), none, false⟩,
      ⟨some 5, .mv (.s 24), none, false⟩,
      ⟨some 6, .mv (.s 27), none, false⟩] [0, 1, 3, 4, 6, 7, 2, 5, 8, 9, 10, 11])
    vc6_5)
def vc6_3 : VC :=
  (.seq
    (.reg [⟨some 17, .bld [.int .i64 0, .int .i64 0] [(0, 1, (.c (.int .i64 1))), (1, 1, (.c (.int .i64 2)))], none, false⟩,
      ⟨some 18, .bld [.int .i64 0, .int .i64 0] [(0, 1, (.c (.int .i64 2))), (1, 1, (.c (.int .i64 1)))], none, false⟩,
      ⟨some 2, .alloc [.int .i64 0, .int .i64 0], none, false⟩,
      ⟨some 3, .alloc [.int .i64 0, .int .i64 0], none, false⟩,
      ⟨some 2, .fst 2 2 (.s 17), none, false⟩,
      ⟨some 3, .fst 3 2 (.s 18), none, false⟩])
    vc6_4)
def vc6_2 : VC :=
  (.seq
    (.seq
      (.reg [⟨some 15, .mv (.s 1), none, false⟩,
        ⟨some 16, .pnil false false (.s 15), none, false⟩])
      (.cond (.s 16)
        (.seq
          (.reg [⟨some 0, .mv (.c (.bool false)), none, false⟩])
          .ret)
        .skip))
    vc6_3)
def vc6_1 : VC :=
  (.seq
    (.reg [⟨some 14, .call (.f 5) [], none, false⟩,
      ⟨some 1, .mv (.s 14), none, false⟩])
    vc6_2)
/-- bypath/bypathlaw10.lives -/
def vc6 : VC :=
  (.seq
    (.reg [⟨some 0, .mv (.c (.bool false)), none, false⟩])
    vc6_1)
theorem ck6 : chkF Go.Proofs.Try.prog 6 0 vc6 [0] = true := by kernel_rfl

def vc7_6 : VC :=
  .ret
def vc7_5 : VC :=
  (.seq
    (.reg [⟨some 6, .mv (.c (.int .i64 0)), none, false⟩])
    vc7_6)
def vc7_4 : VC :=
  (.seq
    (.draw [⟨some 45, .mv (.s 0), none, false⟩,
      ⟨some 46, .nilc (.s 45), none, false⟩,
      ⟨some 47, .fld 0 (.s 46), none, false⟩,
      ⟨some 48, .load none (.s 47), none, false⟩,
      ⟨some 49, .fload (some 2) (.s 4), none, false⟩,
      ⟨some 50, .mv (.s 2), none, false⟩,
      ⟨none, .mapup ⟨true, [true, true]⟩ (.s 48) (.s 49) (.s 50), none, false⟩] [0, 1, 2, 3, 4, 5, 6])
    vc7_5)
def vc7_3 : VC :=
  (.seq
    (.block 0
      (.seq
        (.reg [⟨some 28, .mv (.s 2), none, false⟩,
          ⟨some 29, .cmp .lss (.s 28) (.c (.int .i64 0)), none, false⟩,
          ⟨some 30, .mv (.s 29), none, false⟩,
          ⟨some 31, .mv (.s 2), some (30, false), false⟩,
          ⟨some 32, .cmp .gtr (.s 31) (.c (.int .i64 9007199254740991)), some (30, false), false⟩,
          ⟨some 33, .pick (.s 30) (.c (.bool true)) (.s 32), none, false⟩,
          ⟨some 27, .mv (.s 33), none, false⟩])
        (.cond (.s 27)
          (.seq
            (.reg [⟨some 6, .mv (.c (.int .i64 1)), none, false⟩])
            .ret)
          (.seq
            (.reg [⟨some 35, .mv (.s 8), none, false⟩,
              ⟨some 36, .not (.s 35), none, false⟩,
              ⟨some 37, .mv (.s 36), none, false⟩,
              ⟨some 38, .mv (.s 0), some (37, true), false⟩,
              ⟨some 39, .nilc (.s 38), some (37, true), false⟩,
              ⟨some 40, .fld 0 (.s 39), some (37, true), false⟩,
              ⟨some 41, .load none (.s 40), some (37, true), false⟩,
              ⟨some 42, .mlen (.s 41), some (37, true), false⟩,
              ⟨some 43, .cmp .geq (.s 42) (.c (.int .i64 1024)), some (37, true), false⟩,
              ⟨some 44, .pick (.s 37) (.s 43) (.c (.bool false)), none, false⟩,
              ⟨some 34, .mv (.s 44), none, false⟩])
            (.cond (.s 34)
              (.seq
                (.reg [⟨some 6, .mv (.c (.int .i64 2)), none, false⟩])
                .ret)
              .skip)))))
    vc7_4)
def vc7_2 : VC :=
  (.seq
    (.draw [⟨some 19, .mv (.s 0), none, false⟩,
      ⟨some 20, .nilc (.s 19), none, false⟩,
      ⟨some 21, .fld 0 (.s 20), none, false⟩,
      ⟨some 22, .load none (.s 21), none, false⟩,
      ⟨some 23, .fload (some 2) (.s 4), none, false⟩,
      ⟨some 24, .look ⟨true, [true, true]⟩ (.int .i64 0) true (.s 22) (.s 23), none, false⟩,
      ⟨some 18, .mv (.s 24), none, false⟩,
      ⟨some 25, .ext 0 (.s 18), none, false⟩,
      ⟨some 26, .ext 1 (.s 18), none, false⟩,
      ⟨some 7, .mv (.s 25), none, false⟩,
      ⟨some 8, .mv (.s 26), none, false⟩] [0, 1, 2, 3, 4, 5, 6, 7, 8, 9, 10])
    vc7_3)
def vc7_1 : VC :=
  (.seq
    (.seq
      (.reg [⟨some 9, .mv (.s 0), none, false⟩,
        ⟨some 10, .pnil false false (.s 9), none, false⟩,
        ⟨some 11, .mv (.s 10), none, false⟩,
        ⟨some 12, .mv (.s 0), some (11, false), false⟩,
        ⟨some 13, .nilc (.s 12), some (11, false), false⟩,
        ⟨some 14, .fld 0 (.s 13), some (11, false), false⟩,
        ⟨some 15, .load none (.s 14), some (11, false), false⟩,
        ⟨some 16, .pnil true false (.s 15), some (11, false), false⟩,
        ⟨some 17, .pick (.s 11) (.c (.bool true)) (.s 16), none, false⟩])
      (.cond (.s 17)
        (.seq
          (.reg [⟨some 6, .mv (.c (.int .i64 6)), none, false⟩])
          .ret)
        .skip))
    vc7_2)
/-- (*bypath/timer.Timers).Set -/
def vc7 : VC :=
  (.seq
    (.reg [⟨some 4, .fbox 2 (.s 1), none, false⟩,
      ⟨some 6, .mv (.c (.int .i64 0)), none, false⟩])
    vc7_1)
theorem ck7 : chkF Go.Proofs.Try.prog 7 3 vc7 [6] = true := by kernel_rfl

def vc8_6 : VC :=
  .ret
def vc8_5 : VC :=
  (.seq
    (.reg [⟨some 6, .mv (.c (.int .i64 0)), none, false⟩])
    vc8_6)
def vc8_4 : VC :=
  (.seq
    (.draw [⟨some 34, .mv (.s 0), none, false⟩,
      ⟨some 35, .mv (.s 0), none, false⟩,
      ⟨some 36, .nilc (.s 35), none, false⟩,
      ⟨some 37, .fld 0 (.s 36), none, false⟩,
      ⟨some 38, .load none (.s 37), none, false⟩,
      ⟨some 39, .fload (some 2) (.s 4), none, false⟩,
      ⟨some 40, .mv (.s 2), none, false⟩,
      ⟨some 41, .bld [.int .i64 0, .int .i64 0, .int .i64 0] [(0, 2, (.s 39)), (2, 1, (.s 40))], none, false⟩,
      ⟨some 42, .bsl [.int .i64 0, .int .i64 0, .int .i64 0] 3 1 [(0, (.s 41))], none, false⟩,
      ⟨some 43, .app 3 24 (.s 38) (.s 42), none, false⟩,
      ⟨some 44, .nilc (.s 34), none, false⟩,
      ⟨some 45, .fld 0 (.s 44), none, false⟩,
      ⟨none, .store 1 (.s 45) (.s 43), none, false⟩] [0, 1, 2, 3, 4, 5, 6, 7, 8, 9, 10, 11, 12])
    vc8_5)
def vc8_3 : VC :=
  (.seq
    (.seq
      (.reg [⟨some 29, .mv (.s 7), none, false⟩,
        ⟨some 30, .cmp .geq (.s 29) (.c (.int .i64 0)), none, false⟩])
      (.cond (.s 30)
        (.reg [⟨some 31, .mv (.s 0), none, false⟩,
          ⟨some 32, .mv (.s 7), none, false⟩,
          ⟨some 33, .call (.f 20) [(.s 31), (.s 32)], none, false⟩])
        .skip))
    vc8_4)
def vc8_2 : VC :=
  (.seq
    (.block 0
      (.seq
        (.reg [⟨some 12, .mv (.s 2), none, false⟩,
          ⟨some 13, .cmp .lss (.s 12) (.c (.int .i64 0)), none, false⟩,
          ⟨some 14, .mv (.s 13), none, false⟩,
          ⟨some 15, .mv (.s 2), some (14, false), false⟩,
          ⟨some 16, .cmp .gtr (.s 15) (.c (.int .i64 9007199254740991)), some (14, false), false⟩,
          ⟨some 17, .pick (.s 14) (.c (.bool true)) (.s 16), none, false⟩,
          ⟨some 11, .mv (.s 17), none, false⟩])
        (.cond (.s 11)
          (.seq
            (.reg [⟨some 6, .mv (.c (.int .i64 1)), none, false⟩])
            .ret)
          (.seq
            (.reg [⟨some 19, .mv (.s 7), none, false⟩,
              ⟨some 20, .cmp .lss (.s 19) (.c (.int .i64 0)), none, false⟩,
              ⟨some 21, .mv (.s 20), none, false⟩,
              ⟨some 22, .mv (.s 0), some (21, true), false⟩,
              ⟨some 23, .nilc (.s 22), some (21, true), false⟩,
              ⟨some 24, .fld 0 (.s 23), some (21, true), false⟩,
              ⟨some 25, .load none (.s 24), some (21, true), false⟩,
              ⟨some 26, .len (.s 25), some (21, true), false⟩,
              ⟨some 27, .cmp .geq (.s 26) (.c (.int .i64 1024)), some (21, true), false⟩,
              ⟨some 28, .pick (.s 21) (.s 27) (.c (.bool false)), none, false⟩,
              ⟨some 18, .mv (.s 28), none, false⟩])
            (.cond (.s 18)
              (.seq
                (.reg [⟨some 6, .mv (.c (.int .i64 2)), none, false⟩])
                .ret)
              .skip)))))
    vc8_3)
def vc8_1 : VC :=
  (.seq
    (.reg [⟨some 8, .mv (.s 0), none, false⟩,
      ⟨some 9, .fload (some 2) (.s 4), none, false⟩,
      ⟨some 10, .call (.f 19) [(.s 8), (.s 9)], none, false⟩,
      ⟨some 7, .mv (.s 10), none, false⟩])
    vc8_2)
/-- (*bypath/bypathref10.Timers).Set -/
def vc8 : VC :=
  (.seq
    (.reg [⟨some 4, .fbox 2 (.s 1), none, false⟩,
      ⟨some 6, .mv (.c (.int .i64 0)), none, false⟩])
    vc8_1)
theorem ck8 : chkF Go.Proofs.Try.prog 8 3 vc8 [6] = true := by kernel_rfl

def vc9_4 : VC :=
  .ret
def vc9_3 : VC :=
  (.seq
    (.reg [⟨some 19, .mv (.s 6), none, false⟩,
      ⟨some 4, .mv (.s 19), none, false⟩])
    vc9_4)
def vc9_2 : VC :=
  (.seq
    (.seq
      (.reg [⟨some 13, .mv (.s 6), none, false⟩])
      (.cond (.s 13)
        (.draw [⟨some 14, .mv (.s 0), none, false⟩,
          ⟨some 15, .nilc (.s 14), none, false⟩,
          ⟨some 16, .fld 0 (.s 15), none, false⟩,
          ⟨some 17, .load none (.s 16), none, false⟩,
          ⟨some 18, .fload (some 2) (.s 3), none, false⟩,
          ⟨none, .del ⟨true, [true, true]⟩ (.s 17) (.s 18), none, false⟩] [0, 1, 2, 3, 4, 5])
        .skip))
    vc9_3)
def vc9_1 : VC :=
  (.seq
    (.reg [⟨some 8, .mv (.s 0), none, false⟩,
      ⟨some 9, .fload (some 2) (.s 3), none, false⟩,
      ⟨some 10, .call (.f 14) [(.s 8), (.s 9)], none, false⟩,
      ⟨some 7, .mv (.s 10), none, false⟩,
      ⟨some 11, .ext 0 (.s 7), none, false⟩,
      ⟨some 12, .ext 1 (.s 7), none, false⟩,
      ⟨some 5, .mv (.s 11), none, false⟩,
      ⟨some 6, .mv (.s 12), none, false⟩])
    vc9_2)
/-- (*bypath/timer.Timers).Stop -/
def vc9 : VC :=
  (.seq
    (.reg [⟨some 3, .fbox 2 (.s 1), none, false⟩,
      ⟨some 4, .mv (.c (.bool false)), none, false⟩])
    vc9_1)
theorem ck9 : chkF Go.Proofs.Try.prog 9 2 vc9 [4] = true := by kernel_rfl

def vc10_5 : VC :=
  .ret
def vc10_4 : VC :=
  (.seq
    (.reg [⟨some 4, .mv (.c (.bool true)), none, false⟩])
    vc10_5)
def vc10_3 : VC :=
  (.seq
    (.reg [⟨some 11, .mv (.s 0), none, false⟩,
      ⟨some 12, .mv (.s 5), none, false⟩,
      ⟨some 13, .call (.f 20) [(.s 11), (.s 12)], none, false⟩])
    vc10_4)
def vc10_2 : VC :=
  (.seq
    (.seq
      (.reg [⟨some 9, .mv (.s 5), none, false⟩,
        ⟨some 10, .cmp .lss (.s 9) (.c (.int .i64 0)), none, false⟩])
      (.cond (.s 10)
        (.seq
          (.reg [⟨some 4, .mv (.c (.bool false)), none, false⟩])
          .ret)
        .skip))
    vc10_3)
def vc10_1 : VC :=
  (.seq
    (.reg [⟨some 6, .mv (.s 0), none, false⟩,
      ⟨some 7, .fload (some 2) (.s 3), none, false⟩,
      ⟨some 8, .call (.f 19) [(.s 6), (.s 7)], none, false⟩,
      ⟨some 5, .mv (.s 8), none, false⟩])
    vc10_2)
/-- (*bypath/bypathref10.Timers).Stop -/
def vc10 : VC :=
  (.seq
    (.reg [⟨some 3, .fbox 2 (.s 1), none, false⟩,
      ⟨some 4, .mv (.c (.bool false)), none, false⟩])
    vc10_1)
theorem ck10 : chkF Go.Proofs.Try.prog 10 2 vc10 [4] = true := by kernel_rfl

def vc11_4 : VC :=
  .ret
def vc11_3 : VC :=
  (.seq
    (.reg [⟨some 4, .mv (.c (.bool true)), none, false⟩])
    vc11_4)
def vc11_2 : VC :=
  (.seq
    (.seq
      (.reg [⟨some 5, .mv (.c (.int .i64 0)), none, false⟩])
      (.block 0
        (.loop
          (.seq
            (.seq
              (.reg [⟨some 11, .mv (.s 5), none, false⟩,
                ⟨some 12, .mv (.s 0), none, false⟩,
                ⟨some 13, .len (.s 12), none, false⟩,
                ⟨some 14, .cmp .lss (.s 11) (.s 13), none, false⟩])
              (.cond (.s 14)
                .skip
                (.exit 0)))
            (.seq
              (.block 1
                (.seq
                  (.draw [⟨some 17, .mv (.s 0), none, false⟩,
                    ⟨some 18, .mv (.s 5), none, false⟩,
                    ⟨some 19, .idx 2 (.s 17) (.s 18), none, false⟩,
                    ⟨some 20, .load (some 2) (.s 19), none, false⟩,
                    ⟨some 21, .mv (.s 1), none, false⟩,
                    ⟨some 22, .mv (.s 5), none, false⟩,
                    ⟨some 23, .idx 2 (.s 21) (.s 22), none, false⟩,
                    ⟨some 24, .load (some 2) (.s 23), none, false⟩,
                    ⟨some 25, .aeq true [true, true] (.s 20) (.s 24), none, false⟩] [0, 1, 2, 3, 4, 5, 6, 7, 8])
                  (.cond (.s 25)
                    (.seq
                      (.reg [⟨some 4, .mv (.c (.bool false)), none, false⟩])
                      .ret)
                    .skip)))
              (.reg [⟨some 15, .mv (.s 5), none, false⟩,
                ⟨some 16, .arith .add (.s 15) (.c (.int .i64 1)), none, false⟩,
                ⟨some 5, .mv (.s 16), none, false⟩]))))))
    vc11_3)
def vc11_1 : VC :=
  (.seq
    (.seq
      (.reg [⟨some 6, .mv (.s 0), none, false⟩,
        ⟨some 7, .len (.s 6), none, false⟩,
        ⟨some 8, .mv (.s 1), none, false⟩,
        ⟨some 9, .len (.s 8), none, false⟩,
        ⟨some 10, .cmp .neq (.s 7) (.s 9), none, false⟩])
      (.cond (.s 10)
        (.seq
          (.reg [⟨some 4, .mv (.c (.bool false)), none, false⟩])
          .ret)
        .skip))
    vc11_2)
/-- bypath/bypathref10.Same -/
def vc11 : VC :=
  (.seq
    (.reg [⟨some 4, .mv (.c (.bool false)), none, false⟩])
    vc11_1)
theorem ck11 : chkF Go.Proofs.Try.prog 11 2 vc11 [4] = true := by kernel_rfl

def vc12_7 : VC :=
  .ret
def vc12_6 : VC :=
  (.seq
    (.reg [⟨some 45, .mv (.s 5), none, false⟩,
      ⟨some 4, .mv (.s 45), none, false⟩])
    vc12_7)
def vc12_5 : VC :=
  (.seq
    (.seq
      (.reg [⟨some 33, .mv (.s 5), none, false⟩,
        ⟨some 34, .len (.s 33), none, false⟩,
        ⟨some 35, .mv (.c (.int .i64 0)), none, false⟩])
      (.block 2
        (.loop
          (.seq
            (.reg [⟨some 36, .cmp .lss (.s 35) (.s 34), none, false⟩])
            (.seq
              (.cond (.s 36)
                .skip
                (.exit 2))
              (.seq
                (.block 3
                  (.seq
                    (.reg [⟨some 37, .idx 2 (.s 33) (.s 35), none, false⟩,
                      ⟨some 38, .load (some 2) (.s 37), none, false⟩,
                      ⟨some 9, .alloc [.int .i64 0, .int .i64 0], none, false⟩,
                      ⟨some 9, .fst 9 2 (.s 38), none, false⟩])
                    (.draw [⟨some 39, .mv (.s 0), none, false⟩,
                      ⟨some 40, .nilc (.s 39), none, false⟩,
                      ⟨some 41, .fld 0 (.s 40), none, false⟩,
                      ⟨some 42, .load none (.s 41), none, false⟩,
                      ⟨some 43, .fload (some 2) (.s 9), none, false⟩,
                      ⟨none, .del ⟨true, [true, true]⟩ (.s 42) (.s 43), none, false⟩] [0, 1, 2, 3, 4, 5])))
                (.reg [⟨some 44, .arith .add (.s 35) (.c (.int .i64 1)), none, false⟩,
                  ⟨some 35, .mv (.s 44), none, false⟩])))))))
    vc12_6)
def vc12_4 : VC :=
  (.seq
    (.reg [⟨some 29, .mv (.s 5), none, false⟩,
      ⟨some 30, .mv (.s 0), none, false⟩,
      ⟨some 31, .mkf 22 [(.s 30)] [], none, false⟩,
      ⟨some 32, .call (.f 21) [(.s 29), (.s 31)], none, false⟩])
    vc12_5)
def vc12_3 : VC :=
  (.seq
    (.seq
      (.reg [⟨some 12, .mv (.s 0), none, false⟩,
        ⟨some 13, .nilc (.s 12), none, false⟩,
        ⟨some 14, .fld 0 (.s 13), none, false⟩,
        ⟨some 15, .load none (.s 14), none, false⟩,
        ⟨some 16, .range (.s 15), none, false⟩])
      (.block 0
        (.loop
          (.seq
            (.reg [⟨some 17, .next (.s 16), none, false⟩,
              ⟨some 18, .ext 0 (.s 17), none, false⟩])
            (.seq
              (.cond (.s 18)
                .skip
                (.exit 0))
              (.block 1
                (.seq
                  (.reg [⟨some 19, .entry (.s 16), none, false⟩,
                    ⟨some 20, .ext 0 (.s 19), none, false⟩,
                    ⟨some 21, .ext 1 (.s 19), none, false⟩,
                    ⟨some 6, .alloc [.int .i64 0, .int .i64 0], none, false⟩,
                    ⟨some 6, .fst 6 2 (.s 20), none, false⟩,
                    ⟨some 7, .mv (.s 21), none, false⟩])
                  (.seq
                    (.reg [⟨some 22, .mv (.s 7), none, false⟩,
                      ⟨some 23, .mv (.s 1), none, false⟩,
                      ⟨some 24, .cmp .leq (.s 22) (.s 23), none, false⟩])
                    (.cond (.s 24)
                      (.reg [⟨some 25, .mv (.s 5), none, false⟩,
                        ⟨some 26, .fload (some 2) (.s 6), none, false⟩,
                        ⟨some 27, .bsl [.int .i64 0, .int .i64 0] 2 1 [(0, (.s 26))], none, false⟩,
                        ⟨some 28, .appr 2 16 (.s 25) (.s 27), none, false⟩,
                        ⟨some 5, .mv (.s 28), none, false⟩])
                      .skip)))))))))
    vc12_4)
def vc12_2 : VC :=
  (.seq
    (.reg [⟨some 5, .mv (.c (.fz 2 [] 0 none)), none, false⟩])
    vc12_3)
def vc12_1 : VC :=
  (.seq
    (.seq
      (.reg [⟨some 10, .mv (.s 0), none, false⟩,
        ⟨some 11, .pnil false false (.s 10), none, false⟩])
      (.cond (.s 11)
        (.seq
          (.reg [⟨some 4, .mv (.c (.fz 2 [] 0 none)), none, false⟩])
          .ret)
        .skip))
    vc12_2)
/-- (*bypath/timer.Timers).Due -/
def vc12 : VC :=
  (.seq
    (.reg [⟨some 4, .mv (.c (.fz 2 [] 0 none)), none, false⟩])
    vc12_1)
theorem ck12 : chkF Go.Proofs.Try.prog 12 2 vc12 [4] = true := by kernel_rfl

def vc13_2 : VC :=
  (.block 0
    (.loop
      (.block 1
        (.seq
          (.reg [⟨some 7, .mv (.s 0), none, false⟩,
            ⟨some 8, .call (.f 23) [(.s 7)], none, false⟩,
            ⟨some 6, .mv (.s 8), none, false⟩])
          (.seq
            (.seq
              (.reg [⟨some 9, .mv (.s 6), none, false⟩,
                ⟨some 10, .cmp .lss (.s 9) (.c (.int .i64 0)), none, false⟩,
                ⟨some 11, .mv (.s 10), none, false⟩,
                ⟨some 12, .mv (.s 0), some (11, false), false⟩,
                ⟨some 13, .nilc (.s 12), some (11, false), false⟩,
                ⟨some 14, .fld 0 (.s 13), some (11, false), false⟩,
                ⟨some 15, .load none (.s 14), some (11, false), false⟩,
                ⟨some 16, .mv (.s 6), some (11, false), false⟩,
                ⟨some 17, .idx 3 (.s 15) (.s 16), some (11, false), false⟩,
                ⟨some 18, .fld 2 (.s 17), some (11, false), false⟩,
                ⟨some 19, .load none (.s 18), some (11, false), false⟩,
                ⟨some 20, .mv (.s 1), some (11, false), false⟩,
                ⟨some 21, .cmp .gtr (.s 19) (.s 20), some (11, false), false⟩,
                ⟨some 22, .pick (.s 11) (.c (.bool true)) (.s 21), none, false⟩])
              (.cond (.s 22)
                (.seq
                  (.reg [⟨some 23, .mv (.s 5), none, false⟩,
                    ⟨some 4, .mv (.s 23), none, false⟩])
                  .ret)
                .skip))
            (.seq
              (.reg [⟨some 24, .mv (.s 5), none, false⟩,
                ⟨some 25, .mv (.s 0), none, false⟩,
                ⟨some 26, .nilc (.s 25), none, false⟩,
                ⟨some 27, .fld 0 (.s 26), none, false⟩,
                ⟨some 28, .load none (.s 27), none, false⟩,
                ⟨some 29, .mv (.s 6), none, false⟩,
                ⟨some 30, .idx 3 (.s 28) (.s 29), none, false⟩,
                ⟨some 31, .fld 0 (.s 30), none, false⟩,
                ⟨some 32, .load (some 2) (.s 31), none, false⟩,
                ⟨some 33, .bsl [.int .i64 0, .int .i64 0] 2 1 [(0, (.s 32))], none, false⟩,
                ⟨some 34, .app 2 16 (.s 24) (.s 33), none, false⟩,
                ⟨some 5, .mv (.s 34), none, false⟩])
              (.reg [⟨some 35, .mv (.s 0), none, false⟩,
                ⟨some 36, .mv (.s 6), none, false⟩,
                ⟨some 37, .call (.f 20) [(.s 35), (.s 36)], none, false⟩])))))))
def vc13_1 : VC :=
  (.seq
    (.reg [⟨some 5, .mv (.c (.fz 2 [] 0 none)), none, false⟩])
    vc13_2)
/-- (*bypath/bypathref10.Timers).Due -/
def vc13 : VC :=
  (.seq
    (.reg [⟨some 4, .mv (.c (.fz 2 [] 0 none)), none, false⟩])
    vc13_1)
theorem ck13 : chkF Go.Proofs.Try.prog 13 2 vc13 [4] = true := by kernel_rfl

def vc14_4 : VC :=
  .ret
def vc14_3 : VC :=
  (.seq
    (.reg [⟨some 19, .mv (.s 6), none, false⟩,
      ⟨some 20, .mv (.s 7), none, false⟩,
      ⟨some 4, .mv (.s 19), none, false⟩,
      ⟨some 5, .mv (.s 20), none, false⟩])
    vc14_4)
def vc14_2 : VC :=
  (.seq
    (.draw [⟨some 11, .mv (.s 0), none, false⟩,
      ⟨some 12, .nilc (.s 11), none, false⟩,
      ⟨some 13, .fld 0 (.s 12), none, false⟩,
      ⟨some 14, .load none (.s 13), none, false⟩,
      ⟨some 15, .fload (some 2) (.s 3), none, false⟩,
      ⟨some 16, .look ⟨true, [true, true]⟩ (.int .i64 0) true (.s 14) (.s 15), none, false⟩,
      ⟨some 10, .mv (.s 16), none, false⟩,
      ⟨some 17, .ext 0 (.s 10), none, false⟩,
      ⟨some 18, .ext 1 (.s 10), none, false⟩,
      ⟨some 6, .mv (.s 17), none, false⟩,
      ⟨some 7, .mv (.s 18), none, false⟩] [0, 1, 2, 3, 4, 5, 6, 7, 8, 9, 10])
    vc14_3)
def vc14_1 : VC :=
  (.seq
    (.seq
      (.reg [⟨some 8, .mv (.s 0), none, false⟩,
        ⟨some 9, .pnil false false (.s 8), none, false⟩])
      (.cond (.s 9)
        (.seq
          (.reg [⟨some 4, .mv (.c (.int .i64 0)), none, false⟩,
            ⟨some 5, .mv (.c (.bool false)), none, false⟩])
          .ret)
        .skip))
    vc14_2)
/-- (*bypath/timer.Timers).At -/
def vc14 : VC :=
  (.seq
    (.reg [⟨some 3, .fbox 2 (.s 1), none, false⟩,
      ⟨some 4, .mv (.c (.int .i64 0)), none, false⟩,
      ⟨some 5, .mv (.c (.bool false)), none, false⟩])
    vc14_1)
theorem ck14 : chkF Go.Proofs.Try.prog 14 2 vc14 [4, 5] = true := by kernel_rfl

def vc15_4 : VC :=
  .ret
def vc15_3 : VC :=
  (.seq
    (.reg [⟨some 12, .mv (.s 0), none, false⟩,
      ⟨some 13, .nilc (.s 12), none, false⟩,
      ⟨some 14, .fld 0 (.s 13), none, false⟩,
      ⟨some 15, .load none (.s 14), none, false⟩,
      ⟨some 16, .mv (.s 6), none, false⟩,
      ⟨some 17, .idx 3 (.s 15) (.s 16), none, false⟩,
      ⟨some 18, .fld 2 (.s 17), none, false⟩,
      ⟨some 19, .load none (.s 18), none, false⟩,
      ⟨some 4, .mv (.s 19), none, false⟩,
      ⟨some 5, .mv (.c (.bool true)), none, false⟩])
    vc15_4)
def vc15_2 : VC :=
  (.seq
    (.seq
      (.reg [⟨some 10, .mv (.s 6), none, false⟩,
        ⟨some 11, .cmp .lss (.s 10) (.c (.int .i64 0)), none, false⟩])
      (.cond (.s 11)
        (.seq
          (.reg [⟨some 4, .mv (.c (.int .i64 0)), none, false⟩,
            ⟨some 5, .mv (.c (.bool false)), none, false⟩])
          .ret)
        .skip))
    vc15_3)
def vc15_1 : VC :=
  (.seq
    (.reg [⟨some 7, .mv (.s 0), none, false⟩,
      ⟨some 8, .fload (some 2) (.s 3), none, false⟩,
      ⟨some 9, .call (.f 19) [(.s 7), (.s 8)], none, false⟩,
      ⟨some 6, .mv (.s 9), none, false⟩])
    vc15_2)
/-- (*bypath/bypathref10.Timers).At -/
def vc15 : VC :=
  (.seq
    (.reg [⟨some 3, .fbox 2 (.s 1), none, false⟩,
      ⟨some 4, .mv (.c (.int .i64 0)), none, false⟩,
      ⟨some 5, .mv (.c (.bool false)), none, false⟩])
    vc15_1)
theorem ck15 : chkF Go.Proofs.Try.prog 15 2 vc15 [4, 5] = true := by kernel_rfl

def vc16_5 : VC :=
  .ret
def vc16_4 : VC :=
  (.seq
    (.reg [⟨some 22, .mv (.s 4), none, false⟩,
      ⟨some 2, .mv (.s 22), none, false⟩,
      ⟨some 3, .mv (.c (.bool true)), none, false⟩])
    vc16_5)
def vc16_3 : VC :=
  (.seq
    (.seq
      (.reg [⟨some 10, .mv (.s 0), none, false⟩,
        ⟨some 11, .nilc (.s 10), none, false⟩,
        ⟨some 12, .fld 0 (.s 11), none, false⟩,
        ⟨some 13, .load none (.s 12), none, false⟩,
        ⟨some 14, .range (.s 13), none, false⟩])
      (.block 0
        (.loop
          (.seq
            (.reg [⟨some 15, .next (.s 14), none, false⟩,
              ⟨some 16, .ext 0 (.s 15), none, false⟩])
            (.seq
              (.cond (.s 16)
                .skip
                (.exit 0))
              (.block 1
                (.seq
                  (.reg [⟨some 17, .entry (.s 14), none, false⟩,
                    ⟨some 18, .ext 1 (.s 17), none, false⟩,
                    ⟨some 6, .mv (.s 18), none, false⟩])
                  (.reg [⟨some 19, .mv (.s 4), none, false⟩,
                    ⟨some 20, .mv (.s 6), none, false⟩,
                    ⟨some 21, .minm false (.s 19) (.s 20), none, false⟩,
                    ⟨some 4, .mv (.s 21), none, false⟩]))))))))
    vc16_4)
def vc16_2 : VC :=
  (.seq
    (.reg [⟨some 4, .mv (.c (.int .i64 9007199254740991)), none, false⟩])
    vc16_3)
def vc16_1 : VC :=
  (.seq
    (.seq
      (.reg [⟨some 7, .mv (.s 0), none, false⟩,
        ⟨some 8, .call (.f 18) [(.s 7)], none, false⟩,
        ⟨some 9, .cmp .eql (.s 8) (.c (.int .i64 0)), none, false⟩])
      (.cond (.s 9)
        (.seq
          (.reg [⟨some 2, .mv (.c (.int .i64 0)), none, false⟩,
            ⟨some 3, .mv (.c (.bool false)), none, false⟩])
          .ret)
        .skip))
    vc16_2)
/-- (*bypath/timer.Timers).Next -/
def vc16 : VC :=
  (.seq
    (.reg [⟨some 2, .mv (.c (.int .i64 0)), none, false⟩,
      ⟨some 3, .mv (.c (.bool false)), none, false⟩])
    vc16_1)
theorem ck16 : chkF Go.Proofs.Try.prog 16 1 vc16 [2, 3] = true := by kernel_rfl

def vc17_4 : VC :=
  .ret
def vc17_3 : VC :=
  (.seq
    (.reg [⟨some 9, .mv (.s 0), none, false⟩,
      ⟨some 10, .nilc (.s 9), none, false⟩,
      ⟨some 11, .fld 0 (.s 10), none, false⟩,
      ⟨some 12, .load none (.s 11), none, false⟩,
      ⟨some 13, .mv (.s 4), none, false⟩,
      ⟨some 14, .idx 3 (.s 12) (.s 13), none, false⟩,
      ⟨some 15, .fld 2 (.s 14), none, false⟩,
      ⟨some 16, .load none (.s 15), none, false⟩,
      ⟨some 2, .mv (.s 16), none, false⟩,
      ⟨some 3, .mv (.c (.bool true)), none, false⟩])
    vc17_4)
def vc17_2 : VC :=
  (.seq
    (.seq
      (.reg [⟨some 7, .mv (.s 4), none, false⟩,
        ⟨some 8, .cmp .lss (.s 7) (.c (.int .i64 0)), none, false⟩])
      (.cond (.s 8)
        (.seq
          (.reg [⟨some 2, .mv (.c (.int .i64 0)), none, false⟩,
            ⟨some 3, .mv (.c (.bool false)), none, false⟩])
          .ret)
        .skip))
    vc17_3)
def vc17_1 : VC :=
  (.seq
    (.reg [⟨some 5, .mv (.s 0), none, false⟩,
      ⟨some 6, .call (.f 23) [(.s 5)], none, false⟩,
      ⟨some 4, .mv (.s 6), none, false⟩])
    vc17_2)
/-- (*bypath/bypathref10.Timers).Next -/
def vc17 : VC :=
  (.seq
    (.reg [⟨some 2, .mv (.c (.int .i64 0)), none, false⟩,
      ⟨some 3, .mv (.c (.bool false)), none, false⟩])
    vc17_1)
theorem ck17 : chkF Go.Proofs.Try.prog 17 1 vc17 [2, 3] = true := by kernel_rfl

def vc18_3 : VC :=
  .ret
def vc18_2 : VC :=
  (.seq
    (.reg [⟨some 5, .mv (.s 0), none, false⟩,
      ⟨some 6, .nilc (.s 5), none, false⟩,
      ⟨some 7, .fld 0 (.s 6), none, false⟩,
      ⟨some 8, .load none (.s 7), none, false⟩,
      ⟨some 9, .mlen (.s 8), none, false⟩,
      ⟨some 2, .mv (.s 9), none, false⟩])
    vc18_3)
def vc18_1 : VC :=
  (.seq
    (.seq
      (.reg [⟨some 3, .mv (.s 0), none, false⟩,
        ⟨some 4, .pnil false false (.s 3), none, false⟩])
      (.cond (.s 4)
        (.seq
          (.reg [⟨some 2, .mv (.c (.int .i64 0)), none, false⟩])
          .ret)
        .skip))
    vc18_2)
/-- (*bypath/timer.Timers).Len -/
def vc18 : VC :=
  (.seq
    (.reg [⟨some 2, .mv (.c (.int .i64 0)), none, false⟩])
    vc18_1)
theorem ck18 : chkF Go.Proofs.Try.prog 18 1 vc18 [2] = true := by kernel_rfl

def vc19_3 : VC :=
  .ret
def vc19_2 : VC :=
  (.seq
    (.reg [⟨some 4, .mv (.c (.int .i64 (-1))), none, false⟩])
    vc19_3)
def vc19_1 : VC :=
  (.seq
    (.seq
      (.reg [⟨some 5, .mv (.c (.int .i64 0)), none, false⟩])
      (.block 0
        (.loop
          (.seq
            (.seq
              (.reg [⟨some 6, .mv (.s 5), none, false⟩,
                ⟨some 7, .mv (.s 0), none, false⟩,
                ⟨some 8, .nilc (.s 7), none, false⟩,
                ⟨some 9, .fld 0 (.s 8), none, false⟩,
                ⟨some 10, .load none (.s 9), none, false⟩,
                ⟨some 11, .len (.s 10), none, false⟩,
                ⟨some 12, .cmp .lss (.s 6) (.s 11), none, false⟩])
              (.cond (.s 12)
                .skip
                (.exit 0)))
            (.seq
              (.block 1
                (.seq
                  (.draw [⟨some 15, .mv (.s 0), none, false⟩,
                    ⟨some 16, .nilc (.s 15), none, false⟩,
                    ⟨some 17, .fld 0 (.s 16), none, false⟩,
                    ⟨some 18, .load none (.s 17), none, false⟩,
                    ⟨some 19, .mv (.s 5), none, false⟩,
                    ⟨some 20, .idx 3 (.s 18) (.s 19), none, false⟩,
                    ⟨some 21, .fld 0 (.s 20), none, false⟩,
                    ⟨some 22, .load (some 2) (.s 21), none, false⟩,
                    ⟨some 23, .fload (some 2) (.s 3), none, false⟩,
                    ⟨some 24, .aeq false [true, true] (.s 22) (.s 23), none, false⟩] [0, 1, 2, 3, 4, 5, 6, 7, 8, 9])
                  (.cond (.s 24)
                    (.seq
                      (.reg [⟨some 25, .mv (.s 5), none, false⟩,
                        ⟨some 4, .mv (.s 25), none, false⟩])
                      .ret)
                    .skip)))
              (.reg [⟨some 13, .mv (.s 5), none, false⟩,
                ⟨some 14, .arith .add (.s 13) (.c (.int .i64 1)), none, false⟩,
                ⟨some 5, .mv (.s 14), none, false⟩]))))))
    vc19_2)
/-- (*bypath/bypathref10.Timers).find -/
def vc19 : VC :=
  (.seq
    (.reg [⟨some 3, .fbox 2 (.s 1), none, false⟩,
      ⟨some 4, .mv (.c (.int .i64 0)), none, false⟩])
    vc19_1)
theorem ck19 : chkF Go.Proofs.Try.prog 19 2 vc19 [4] = true := by kernel_rfl

/-- (*bypath/bypathref10.Timers).drop -/
def vc20 : VC :=
  (.draw [⟨some 4, .mv (.s 0), none, false⟩,
    ⟨some 5, .bsl [.int .i64 0, .int .i64 0, .int .i64 0] 3 0 [], none, false⟩,
    ⟨some 6, .mv (.s 0), none, false⟩,
    ⟨some 7, .nilc (.s 6), none, false⟩,
    ⟨some 8, .fld 0 (.s 7), none, false⟩,
    ⟨some 9, .load none (.s 8), none, false⟩,
    ⟨some 10, .mv (.s 1), none, false⟩,
    ⟨some 11, .slc 3 (.s 9) none (some (.s 10)) none, none, false⟩,
    ⟨some 13, .mv (.s 0), none, false⟩,
    ⟨some 14, .nilc (.s 13), none, false⟩,
    ⟨some 15, .fld 0 (.s 14), none, false⟩,
    ⟨some 16, .load none (.s 15), none, false⟩,
    ⟨some 17, .mv (.s 1), none, false⟩,
    ⟨some 18, .arith .add (.s 17) (.c (.int .i64 1)), none, false⟩,
    ⟨some 19, .slc 3 (.s 16) (some (.s 18)) none none, none, false⟩,
    ⟨some 12, .app 3 24 (.s 5) (.s 11), none, true⟩,
    ⟨some 20, .app 3 24 (.s 12) (.s 19), none, false⟩,
    ⟨some 21, .nilc (.s 4), none, false⟩,
    ⟨some 22, .fld 0 (.s 21), none, false⟩,
    ⟨none, .store 1 (.s 22) (.s 20), none, false⟩] [0, 1, 2, 3, 4, 5, 6, 7, 9, 10, 11, 12, 13, 14, 15, 8, 16, 17, 18, 19])
theorem ck20 : chkF Go.Proofs.Try.prog 20 2 vc20 [] = true := by kernel_rfl

def vc22_2 : VC :=
  .ret
def vc22_1 : VC :=
  (.seq
    (.draw [⟨some 7, .mv (.s 0), none, false⟩,
      ⟨some 8, .nilc (.s 7), none, false⟩,
      ⟨some 9, .fld 0 (.s 8), none, false⟩,
      ⟨some 10, .load none (.s 9), none, false⟩,
      ⟨some 11, .fload (some 2) (.s 4), none, false⟩,
      ⟨some 12, .look ⟨true, [true, true]⟩ (.int .i64 0) false (.s 10) (.s 11), none, false⟩,
      ⟨some 13, .mv (.s 0), none, false⟩,
      ⟨some 14, .nilc (.s 13), none, false⟩,
      ⟨some 15, .fld 0 (.s 14), none, false⟩,
      ⟨some 16, .load none (.s 15), none, false⟩,
      ⟨some 17, .fload (some 2) (.s 5), none, false⟩,
      ⟨some 18, .look ⟨true, [true, true]⟩ (.int .i64 0) false (.s 16) (.s 17), none, false⟩,
      ⟨some 20, .fld 0 (.s 4), none, false⟩,
      ⟨some 21, .fload none (.s 20), none, false⟩,
      ⟨some 22, .fld 0 (.s 5), none, false⟩,
      ⟨some 23, .fload none (.s 22), none, false⟩,
      ⟨some 25, .fld 1 (.s 4), none, false⟩,
      ⟨some 26, .fload none (.s 25), none, false⟩,
      ⟨some 27, .fld 1 (.s 5), none, false⟩,
      ⟨some 28, .fload none (.s 27), none, false⟩,
      ⟨some 19, .call (.f 27) [(.s 12), (.s 18)], none, false⟩,
      ⟨some 24, .call (.f 27) [(.s 21), (.s 23)], none, false⟩,
      ⟨some 29, .call (.f 27) [(.s 26), (.s 28)], none, false⟩,
      ⟨some 30, .bsl [.int .i64 0] 1 3 [(0, (.s 19)), (1, (.s 24)), (2, (.s 29))], none, false⟩,
      ⟨some 31, .call (.f 26) [(.s 30)], none, false⟩,
      ⟨some 6, .mv (.s 31), none, false⟩] [0, 1, 2, 3, 4, 5, 6, 7, 8, 9, 10, 11, 13, 14, 15, 16, 18, 19, 20, 21, 12, 17, 22, 23, 24, 25])
    vc22_2)
/-- (*bypath/timer.Timers).compare -/
def vc22 : VC :=
  (.seq
    (.reg [⟨some 4, .fbox 2 (.s 1), none, false⟩,
      ⟨some 5, .fbox 2 (.s 2), none, false⟩,
      ⟨some 6, .mv (.c (.int .i64 0)), none, false⟩])
    vc22_1)
theorem ck22 : chkF Go.Proofs.Try.prog 22 3 vc22 [6] = true := by kernel_rfl

def vc23_4 : VC :=
  .ret
def vc23_3 : VC :=
  (.seq
    (.reg [⟨some 34, .mv (.s 3), none, false⟩,
      ⟨some 2, .mv (.s 34), none, false⟩])
    vc23_4)
def vc23_2 : VC :=
  (.seq
    (.seq
      (.reg [⟨some 4, .mv (.c (.int .i64 0)), none, false⟩])
      (.block 0
        (.loop
          (.seq
            (.seq
              (.reg [⟨some 5, .mv (.s 4), none, false⟩,
                ⟨some 6, .mv (.s 0), none, false⟩,
                ⟨some 7, .nilc (.s 6), none, false⟩,
                ⟨some 8, .fld 0 (.s 7), none, false⟩,
                ⟨some 9, .load none (.s 8), none, false⟩,
                ⟨some 10, .len (.s 9), none, false⟩,
                ⟨some 11, .cmp .lss (.s 5) (.s 10), none, false⟩])
              (.cond (.s 11)
                .skip
                (.exit 0)))
            (.seq
              (.block 1
                (.seq
                  (.draw [⟨some 14, .mv (.s 3), none, false⟩,
                    ⟨some 15, .cmp .lss (.s 14) (.c (.int .i64 0)), none, false⟩,
                    ⟨some 16, .mv (.s 15), none, false⟩,
                    ⟨some 17, .mv (.s 0), some (16, false), false⟩,
                    ⟨some 18, .nilc (.s 17), some (16, false), false⟩,
                    ⟨some 19, .fld 0 (.s 18), some (16, false), false⟩,
                    ⟨some 20, .load none (.s 19), some (16, false), false⟩,
                    ⟨some 21, .mv (.s 4), some (16, false), false⟩,
                    ⟨some 22, .idx 3 (.s 20) (.s 21), some (16, false), false⟩,
                    ⟨some 23, .load (some 3) (.s 22), some (16, false), false⟩,
                    ⟨some 24, .mv (.s 0), some (16, false), false⟩,
                    ⟨some 25, .nilc (.s 24), some (16, false), false⟩,
                    ⟨some 26, .fld 0 (.s 25), some (16, false), false⟩,
                    ⟨some 27, .load none (.s 26), some (16, false), false⟩,
                    ⟨some 28, .mv (.s 3), some (16, false), false⟩,
                    ⟨some 29, .idx 3 (.s 27) (.s 28), some (16, false), false⟩,
                    ⟨some 30, .load (some 3) (.s 29), some (16, false), false⟩,
                    ⟨some 31, .call (.f 28) [(.s 23), (.s 30)], some (16, false), false⟩,
                    ⟨some 32, .pick (.s 16) (.c (.bool true)) (.s 31), none, false⟩] [0, 1, 2, 3, 4, 5, 6, 7, 8, 9, 10, 11, 12, 13, 14, 15, 16, 17, 18])
                  (.cond (.s 32)
                    (.reg [⟨some 33, .mv (.s 4), none, false⟩,
                      ⟨some 3, .mv (.s 33), none, false⟩])
                    .skip)))
              (.reg [⟨some 12, .mv (.s 4), none, false⟩,
                ⟨some 13, .arith .add (.s 12) (.c (.int .i64 1)), none, false⟩,
                ⟨some 4, .mv (.s 13), none, false⟩]))))))
    vc23_3)
def vc23_1 : VC :=
  (.seq
    (.reg [⟨some 3, .mv (.c (.int .i64 (-1))), none, false⟩])
    vc23_2)
/-- (*bypath/bypathref10.Timers).First -/
def vc23 : VC :=
  (.seq
    (.reg [⟨some 2, .mv (.c (.int .i64 0)), none, false⟩])
    vc23_1)
theorem ck23 : chkF Go.Proofs.Try.prog 23 1 vc23 [2] = true := by kernel_rfl

def vc26_4 : VC :=
  .ret
def vc26_3 : VC :=
  (.seq
    (.reg [⟨some 17, .mv (.s 3), none, false⟩,
      ⟨some 2, .mv (.s 17), none, false⟩])
    vc26_4)
def vc26_2 : VC :=
  (.seq
    (.seq
      (.reg [⟨some 6, .mv (.s 0), none, false⟩,
        ⟨some 7, .len (.s 6), none, false⟩,
        ⟨some 8, .mv (.c (.int .i64 0)), none, false⟩])
      (.block 0
        (.loop
          (.seq
            (.reg [⟨some 9, .cmp .lss (.s 8) (.s 7), none, false⟩])
            (.seq
              (.cond (.s 9)
                .skip
                (.exit 0))
              (.seq
                (.block 1
                  (.seq
                    (.reg [⟨some 10, .idx 1 (.s 6) (.s 8), none, false⟩,
                      ⟨some 11, .load none (.s 10), none, false⟩,
                      ⟨some 5, .mv (.s 11), none, false⟩])
                    (.seq
                      (.reg [⟨some 12, .mv (.s 5), none, false⟩,
                        ⟨some 13, .mv (.s 3), none, false⟩,
                        ⟨some 14, .cmp .neq (.s 12) (.s 13), none, false⟩])
                      (.cond (.s 14)
                        (.seq
                          (.reg [⟨some 15, .mv (.s 5), none, false⟩,
                            ⟨some 2, .mv (.s 15), none, false⟩])
                          .ret)
                        .skip))))
                (.reg [⟨some 16, .arith .add (.s 8) (.c (.int .i64 1)), none, false⟩,
                  ⟨some 8, .mv (.s 16), none, false⟩])))))))
    vc26_3)
def vc26_1 : VC :=
  (.seq
    (.reg [⟨some 3, .mv (.c (.int .i64 0)), none, false⟩])
    vc26_2)
/-- cmp.Or[int] -/
def vc26 : VC :=
  (.seq
    (.reg [⟨some 2, .mv (.c (.int .i64 0)), none, false⟩])
    vc26_1)
theorem ck26 : chkF Go.Proofs.Try.prog 26 1 vc26 [2] = true := by kernel_rfl

def vc27_8 : VC :=
  .ret
def vc27_7 : VC :=
  (.seq
    (.reg [⟨some 4, .mv (.c (.int .i64 0)), none, false⟩])
    vc27_8)
def vc27_6 : VC :=
  (.seq
    (.seq
      (.reg [⟨some 17, .mv (.s 0), none, false⟩,
        ⟨some 18, .mv (.s 1), none, false⟩,
        ⟨some 19, .cmp .gtr (.s 17) (.s 18), none, false⟩])
      (.cond (.s 19)
        (.seq
          (.reg [⟨some 4, .mv (.c (.int .i64 1)), none, false⟩])
          .ret)
        .skip))
    vc27_7)
def vc27_5 : VC :=
  (.seq
    (.seq
      (.reg [⟨some 14, .mv (.s 0), none, false⟩,
        ⟨some 15, .mv (.s 1), none, false⟩,
        ⟨some 16, .cmp .lss (.s 14) (.s 15), none, false⟩])
      (.cond (.s 16)
        (.seq
          (.reg [⟨some 4, .mv (.c (.int .i64 (-1))), none, false⟩])
          .ret)
        .skip))
    vc27_6)
def vc27_4 : VC :=
  (.seq
    (.seq
      (.reg [⟨some 13, .mv (.s 6), none, false⟩])
      (.cond (.s 13)
        (.seq
          (.reg [⟨some 4, .mv (.c (.int .i64 1)), none, false⟩])
          .ret)
        .skip))
    vc27_5)
def vc27_3 : VC :=
  (.seq
    (.seq
      (.reg [⟨some 11, .mv (.s 5), none, false⟩])
      (.cond (.s 11)
        (.seq
          (.seq
            (.reg [⟨some 12, .mv (.s 6), none, false⟩])
            (.cond (.s 12)
              (.seq
                (.reg [⟨some 4, .mv (.c (.int .i64 0)), none, false⟩])
                .ret)
              .skip))
          (.seq
            (.reg [⟨some 4, .mv (.c (.int .i64 (-1))), none, false⟩])
            .ret))
        .skip))
    vc27_4)
def vc27_2 : VC :=
  (.seq
    (.reg [⟨some 9, .mv (.s 1), none, false⟩,
      ⟨some 10, .call (.f 39) [(.s 9)], none, false⟩,
      ⟨some 6, .mv (.s 10), none, false⟩])
    vc27_3)
def vc27_1 : VC :=
  (.seq
    (.reg [⟨some 7, .mv (.s 0), none, false⟩,
      ⟨some 8, .call (.f 39) [(.s 7)], none, false⟩,
      ⟨some 5, .mv (.s 8), none, false⟩])
    vc27_2)
/-- cmp.Compare[int] -/
def vc27 : VC :=
  (.seq
    (.reg [⟨some 4, .mv (.c (.int .i64 0)), none, false⟩])
    vc27_1)
theorem ck27 : chkF Go.Proofs.Try.prog 27 2 vc27 [4] = true := by kernel_rfl

def vc28_4 : VC :=
  .ret
def vc28_3 : VC :=
  (.seq
    (.reg [⟨some 29, .fld 0 (.s 2), none, false⟩,
      ⟨some 30, .fld 1 (.s 29), none, false⟩,
      ⟨some 31, .fload none (.s 30), none, false⟩,
      ⟨some 32, .fld 0 (.s 3), none, false⟩,
      ⟨some 33, .fld 1 (.s 32), none, false⟩,
      ⟨some 34, .fload none (.s 33), none, false⟩,
      ⟨some 35, .cmp .lss (.s 31) (.s 34), none, false⟩,
      ⟨some 4, .mv (.s 35), none, false⟩])
    vc28_4)
def vc28_2 : VC :=
  (.seq
    (.seq
      (.reg [⟨some 15, .fld 0 (.s 2), none, false⟩,
        ⟨some 16, .fld 0 (.s 15), none, false⟩,
        ⟨some 17, .fload none (.s 16), none, false⟩,
        ⟨some 18, .fld 0 (.s 3), none, false⟩,
        ⟨some 19, .fld 0 (.s 18), none, false⟩,
        ⟨some 20, .fload none (.s 19), none, false⟩,
        ⟨some 21, .cmp .neq (.s 17) (.s 20), none, false⟩])
      (.cond (.s 21)
        (.seq
          (.reg [⟨some 22, .fld 0 (.s 2), none, false⟩,
            ⟨some 23, .fld 0 (.s 22), none, false⟩,
            ⟨some 24, .fload none (.s 23), none, false⟩,
            ⟨some 25, .fld 0 (.s 3), none, false⟩,
            ⟨some 26, .fld 0 (.s 25), none, false⟩,
            ⟨some 27, .fload none (.s 26), none, false⟩,
            ⟨some 28, .cmp .lss (.s 24) (.s 27), none, false⟩,
            ⟨some 4, .mv (.s 28), none, false⟩])
          .ret)
        .skip))
    vc28_3)
def vc28_1 : VC :=
  (.seq
    (.seq
      (.reg [⟨some 5, .fld 2 (.s 2), none, false⟩,
        ⟨some 6, .fload none (.s 5), none, false⟩,
        ⟨some 7, .fld 2 (.s 3), none, false⟩,
        ⟨some 8, .fload none (.s 7), none, false⟩,
        ⟨some 9, .cmp .neq (.s 6) (.s 8), none, false⟩])
      (.cond (.s 9)
        (.seq
          (.reg [⟨some 10, .fld 2 (.s 2), none, false⟩,
            ⟨some 11, .fload none (.s 10), none, false⟩,
            ⟨some 12, .fld 2 (.s 3), none, false⟩,
            ⟨some 13, .fload none (.s 12), none, false⟩,
            ⟨some 14, .cmp .lss (.s 11) (.s 13), none, false⟩,
            ⟨some 4, .mv (.s 14), none, false⟩])
          .ret)
        .skip))
    vc28_2)
/-- bypath/bypathref10.less -/
def vc28 : VC :=
  (.seq
    (.reg [⟨some 2, .fbox 3 (.s 0), none, false⟩,
      ⟨some 3, .fbox 3 (.s 1), none, false⟩,
      ⟨some 4, .mv (.c (.bool false)), none, false⟩])
    vc28_1)
theorem ck28 : chkF Go.Proofs.Try.prog 28 2 vc28 [4] = true := by kernel_rfl

def vc39_2 : VC :=
  .ret
def vc39_1 : VC :=
  (.seq
    (.reg [⟨some 3, .mv (.s 0), none, false⟩,
      ⟨some 4, .mv (.s 0), none, false⟩,
      ⟨some 5, .cmp .neq (.s 3) (.s 4), none, false⟩,
      ⟨some 2, .mv (.s 5), none, false⟩])
    vc39_2)
/-- cmp.isNaN[int] -/
def vc39 : VC :=
  (.seq
    (.reg [⟨some 2, .mv (.c (.bool false)), none, false⟩])
    vc39_1)
theorem ck39 : chkF Go.Proofs.Try.prog 39 1 vc39 [2] = true := by kernel_rfl

end Go.Vm.T10
