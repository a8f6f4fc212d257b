/- Abstract code of functions of the program, printed by a program. -/
import Derived.Test.YtoiehfgdjjmakaaDoorFA
namespace Go.Ab
set_option maxRecDepth 100000
/- sakia/sakialaw23.LockNone -/
def c4 : AFn := ⟨3, [.tmp 6], (
 .seq (
 .reg [
   I 3 (.box (.t 0)),
   I 4 (.box (.t 1)),
   I 6 (.mov (.c (.bool false)))] [2, 3, 4]) (
 .seq (
 .regd [0, 2, 1, 4, 3, 5] [
   I 17 (.indexAddr (some 2) 1 (.t 4) (.c (.int .i64 0))),
   I 19 (.indexAddr (some 2) 1 (.t 4) (.c (.int .i64 1))),
   I 18 (.load none (.t 17)),
   I 7 (.mov (.t 18)),
   I 20 (.load none (.t 19)),
   I 8 (.mov (.t 20))] [2, 3, 7, 8]) (
 .seq (
 .reg [
   I 21 (.load (some 5) (.t 3)),
   I 22 (.call 27 [(.t 21)]),
   I 9 (.alloc [.int .i64 0, .int .i64 0, .int .i64 0, .int .i64 0, .int .u64 0, .slice none 0 0]),
   I0 (.store 6 (.t 9) (.t 22))] [2, 7, 8, 9]) (
 .seq (
 .reg [
   I 23 (.fieldAddr 1 (.t 9)),
   I0 (.store 1 (.t 23) (.c (.int .i64 32)))] [2, 7, 8, 9]) (
 .seq (
 .seq (
 .reg [
   I 24 (.mov (.t 7)),
   I 25 (.bin .geq (.t 24) (.c (.int .i64 1))),
   I 26 (.mov (.t 25)),
   IG (some 27) (26, true) (.mov (.t 7)),
   IG (some 28) (26, true) (.bin .leq (.t 27) (.c (.int .i64 5))),
   I 29 (.pick (.t 26) (.t 28) (.c (.bool false)))] [2, 7, 8, 9, 29]) (
 .cond (.t 29) (
  .reg [
    I 30 (.mov (.t 7)),
    I 31 (.fieldAddr 0 (.t 9)),
    I0 (.store 1 (.t 31) (.t 30))] [2, 8, 9]) (
  .skip))) (
 .seq (
 .seq (
 .reg [
   I 32 (.fieldAddr 0 (.t 9)),
   I 33 (.load none (.t 32)),
   I 34 (.bin .eql (.t 33) (.c (.int .i64 1)))] [2, 8, 9, 34]) (
 .cond (.t 34) (
  .reg [
    I 35 (.fieldAddr 3 (.t 9)),
    I0 (.store 1 (.t 35) (.c (.int .i64 1)))] [2, 8, 9]) (
  .skip))) (
 .seq (
 .reg [
   I 37 (.load (some 6) (.t 9)),
   I 38 (.call 8 [(.t 37)]),
   I 36 (.mov (.t 38)),
   I 39 (.extract (.t 36) 0),
   I 40 (.extract (.t 36) 1),
   I 10 (.alloc [.int .i64 0, .int .i64 0, .int .i64 0, .int .i64 0, .int .u64 0, .slice none 0 0, .int .i64 0, .int .i64 0, .int .i64 0, .int .i64 0, .int .i64 0, .int .i64 0, .int .i64 0, .int .i64 0]),
   I0 (.store 14 (.t 10) (.t 39)),
   I 11 (.mov (.t 40))] [2, 8, 9, 10, 11]) (
 .seq (
 .reg [
   I 41 (.load (some 14) (.t 10)),
   I 42 (.call 9 [(.t 41)]),
   I 43 (.call 10 []),
   I 12 (.mov (.t 42)),
   I 13 (.mov (.t 43))] [2, 8, 9, 11, 12, 13]) (
 .seq (
 .reg [
   I 44 (.mov (.t 12)),
   I 45 (.mov (.t 13)),
   I 46 (.call 28 [(.t 44), (.t 45)]),
   I 14 (.mov (.t 46))] [2, 8, 9, 11, 12, 13, 14]) (
 .seq (
 .seq (
 .reg [
   I 47 (.mov (.t 11)),
   I 48 (.bin .neq (.t 47) (.c (.int .i64 0))),
   I 49 (.mov (.t 48)),
   IG (some 50) (49, false) (.mov (.t 14)),
   IG (some 51) (49, false) (.isNil .ptr false (.t 50)),
   IG (some 52) (49, false) (.fieldAddr 0 (.t 9)),
   IG (some 53) (49, false) (.load none (.t 52)),
   IG (some 54) (49, false) (.bin .neq (.t 53) (.c (.int .i64 5))),
   IG (some 55) (49, false) (.eqB true (.t 51) (.t 54)),
   I 56 (.pick (.t 49) (.c (.bool true)) (.t 55))] [2, 8, 9, 12, 13, 14, 56]) (
 .cond (.t 56) (
  .seq (
  .reg [
    I 6 (.mov (.c (.bool false)))] [6]) (
  .ret)) (
  .skip))) (
 .seq (
 .reg [
   I 15 (.mov (.c (.pointer none)))] [2, 8, 9, 12, 13, 14, 15]) (
 .seq (
 .reg [
   I 57 (.mov (.t 2)),
   I 58 (.build #[.int .i64 0, .int .i64 0, .int .i64 0, .int .i64 0, .int .i64 0, .int .i64 0, .int .u32 0, .int .u32 0, .int .u32 0, .int .u32 0, .slice none 0 0] [((1, 1), (.t 57)), ((8, 1), (.c (.int .u32 7)))]),
   I 59 (.box (.t 58)),
   I 16 (.mov (.t 59))] [2, 8, 9, 12, 13, 14, 15, 16]) (
 .seq (
 .seq (
 .reg [
   I 60 (.mov (.t 15)),
   I 61 (.mov (.t 8)),
   I 62 (.mov (.t 16)),
   I 63 (.call 29 [(.t 60), (.t 61), (.t 62)]),
   I 64 (.un .not (.t 63)),
   I 65 (.mov (.t 64)),
   IG (some 66) (65, false) (.mov (.t 15)),
   IG (some 67) (65, false) (.mov (.t 8)),
   IG (some 68) (65, false) (.mov (.t 16)),
   IG (some 69) (65, false) (.call 30 [(.t 66), (.t 67), (.t 68)]),
   IG (some 70) (65, false) (.un .not (.t 69)),
   I 71 (.pick (.t 65) (.c (.bool true)) (.t 70)),
   I 72 (.mov (.t 71)),
   IG (some 73) (72, false) (.mov (.t 15)),
   IG (some 74) (72, false) (.mov (.t 8)),
   IG (some 75) (72, false) (.mov (.t 16)),
   IG (some 76) (72, false) (.call 31 [(.t 73), (.t 74), (.t 75)]),
   IG (some 77) (72, false) (.un .not (.t 76)),
   I 78 (.pick (.t 72) (.c (.bool true)) (.t 77)),
   I 79 (.mov (.t 78)),
   IG (some 80) (79, false) (.mov (.t 14)),
   IG (some 81) (79, false) (.mov (.t 8)),
   IG (some 82) (79, false) (.call 29 [(.t 80), (.t 81), (.c (.pointer none))]),
   IG (some 83) (79, false) (.un .not (.t 82)),
   I 84 (.pick (.t 79) (.c (.bool true)) (.t 83)),
   I 85 (.mov (.t 84)),
   IG (some 86) (85, false) (.mov (.t 14)),
   IG (some 87) (85, false) (.mov (.t 8)),
   IG (some 88) (85, false) (.call 30 [(.t 86), (.t 87), (.c (.pointer none))]),
   IG (some 89) (85, false) (.un .not (.t 88)),
   I 90 (.pick (.t 85) (.c (.bool true)) (.t 89)),
   I 91 (.mov (.t 90)),
   IG (some 92) (91, false) (.mov (.t 14)),
   IG (some 93) (91, false) (.mov (.t 8)),
   IG (some 94) (91, false) (.call 31 [(.t 92), (.t 93), (.c (.pointer none))]),
   IG (some 95) (91, false) (.un .not (.t 94)),
   I 96 (.pick (.t 91) (.c (.bool true)) (.t 95)),
   I 97 (.mov (.t 96)),
   IG (some 98) (97, false) (.mov (.t 16)),
   IG (some 99) (97, false) (.nilChk (.t 98)),
   IG (some 100) (97, false) (.fieldAddr 8 (.t 99)),
   IG (some 101) (97, false) (.load none (.t 100)),
   IG (some 102) (97, false) (.bin .neq (.t 101) (.c (.int .u32 7))),
   I 103 (.pick (.t 97) (.c (.bool true)) (.t 102)),
   I 104 (.mov (.t 103)),
   IG (some 105) (104, false) (.mov (.t 12)),
   IG (some 106) (104, false) (.callQ 32 [(.t 105)]),
   IG (some 107) (104, false) (.mov (.t 13)),
   IG (some 108) (104, false) (.callQ 25 [(.t 107)]),
   IG (some 109) (104, false) (.bin .add (.t 106) (.t 108)),
   IG (some 110) (104, false) (.bin .neq (.t 109) (.c (.int .i64 0))),
   I 111 (.pick (.t 104) (.c (.bool true)) (.t 110))] [2, 8, 9, 12, 13, 14, 16, 111]) (
 .cond (.t 111) (
  .seq (
  .reg [
    I 6 (.mov (.c (.bool false)))] [6]) (
  .ret)) (
  .skip))) (
 .seq (
 .seq (
 .reg [
   I 112 (.mov (.t 8)),
   I 113 (.bin .geq (.t 112) (.c (.int .i64 0))),
   I 114 (.mov (.t 113)),
   IG (some 115) (114, true) (.mov (.t 8)),
   IG (some 116) (114, true) (.fieldAddr 3 (.t 9)),
   IG (some 117) (114, true) (.load none (.t 116)),
   IG (some 118) (114, true) (.bin .lss (.t 115) (.t 117)),
   I 119 (.pick (.t 114) (.t 118) (.c (.bool false))),
   I 120 (.mov (.t 119)),
   IG (some 121) (120, true) (.mov (.t 2)),
   IG (some 122) (120, true) (.bin .geq (.t 121) (.c (.int .i64 1))),
   I 123 (.pick (.t 120) (.t 122) (.c (.bool false))),
   I 124 (.mov (.t 123)),
   IG (some 125) (124, true) (.mov (.t 2)),
   IG (some 126) (124, true) (.fieldAddr 2 (.t 9)),
   IG (some 127) (124, true) (.load none (.t 126)),
   IG (some 128) (124, true) (.bin .leq (.t 125) (.t 127)),
   I 129 (.pick (.t 124) (.t 128) (.c (.bool false)))] [2, 8, 12, 13, 14, 16, 129]) (
 .cond (.t 129) (
  .seq (
  .reg [
    I 130 (.callE 1 33 []),
    I 6 (.mov (.t 130))] [6]) (
  .ret)) (
  .skip))) (
 .seq (
 .reg [
   I 131 (.mov (.t 14)),
   I 132 (.mov (.t 8)),
   I 133 (.mov (.t 16)),
   I 134 (.call 29 [(.t 131), (.t 132), (.t 133)]),
   I 135 (.mov (.t 134)),
   IG (some 136) (135, true) (.mov (.t 14)),
   IG (some 137) (135, true) (.mov (.t 8)),
   IG (some 138) (135, true) (.mov (.t 16)),
   IG (some 139) (135, true) (.call 30 [(.t 136), (.t 137), (.t 138)]),
   I 140 (.pick (.t 135) (.t 139) (.c (.bool false))),
   I 141 (.mov (.t 140)),
   IG (some 142) (141, true) (.mov (.t 12)),
   IG (some 143) (141, true) (.callQ 32 [(.t 142)]),
   IG (some 144) (141, true) (.mov (.t 13)),
   IG (some 145) (141, true) (.callQ 25 [(.t 144)]),
   IG (some 146) (141, true) (.bin .add (.t 143) (.t 145)),
   IG (some 147) (141, true) (.bin .eql (.t 146) (.c (.int .i64 0))),
   I 148 (.pick (.t 141) (.t 147) (.c (.bool false))),
   I 149 (.mov (.t 148)),
   IG (some 150) (149, true) (.mov (.t 16)),
   IG (some 151) (149, true) (.nilChk (.t 150)),
   IG (some 152) (149, true) (.fieldAddr 1 (.t 151)),
   IG (some 153) (149, true) (.load none (.t 152)),
   IG (some 154) (149, true) (.mov (.t 2)),
   IG (some 155) (149, true) (.bin .eql (.t 153) (.t 154)),
   I 156 (.pick (.t 149) (.t 155) (.c (.bool false))),
   I 157 (.mov (.t 156)),
   IG (some 158) (157, true) (.callE 1 33 []),
   I 159 (.pick (.t 157) (.t 158) (.c (.bool false))),
   I 6 (.mov (.t 159))] [6]) (
 .ret))))))))))))))))⟩

/- sakia/layout.Of -/
def c8 : AFn := ⟨1, [.cell 2 (some 14), .tmp 3], (
 .seq (
 .reg [
   I 1 (.box (.t 0)),
   I 2 (.alloc [.int .i64 0, .int .i64 0, .int .i64 0, .int .i64 0, .int .u64 0, .slice none 0 0, .int .i64 0, .int .i64 0, .int .i64 0, .int .i64 0, .int .i64 0, .int .i64 0, .int .i64 0, .int .i64 0]),
   I 3 (.mov (.c (.int .i64 0)))] [1, 2]) (
 .seq (
 .seq (
 .reg [
   I 7 (.load (some 6) (.t 1)),
   I 8 (.callQ 35 [(.t 7)]),
   I 4 (.mov (.t 8))] [1, 2, 4]) (
 .seq (
 .reg [
   I 9 (.mov (.t 4)),
   I 10 (.bin .neq (.t 9) (.c (.int .i64 0)))] [1, 2, 4, 10]) (
 .cond (.t 10) (
  .seq (
  .reg [
    I 11 (.build #[.int .i64 0, .int .i64 0, .int .i64 0, .int .i64 0, .int .u64 0, .slice none 0 0, .int .i64 0, .int .i64 0, .int .i64 0, .int .i64 0, .int .i64 0, .int .i64 0, .int .i64 0, .int .i64 0] []),
    I 12 (.mov (.t 4)),
    I0 (.store 14 (.t 2) (.t 11)),
    I 3 (.mov (.t 12))] [2, 3]) (
  .ret)) (
  .skip)))) (
 .seq (
 .reg [
   I 13 (.fieldAddr 5 (.t 1)),
   I 14 (.load none (.t 13)),
   I 15 (.call 36 [(.t 14)]),
   I 16 (.fieldAddr 5 (.t 1)),
   I0 (.store 1 (.t 16) (.t 15))] [1, 2]) (
 .seq (
 .reg [
   I 17 (.fieldAddr 5 (.t 1)),
   I 18 (.load none (.t 17)),
   I 19 (.len false (.t 18)),
   I 5 (.mov (.t 19))] [1, 2, 5]) (
 .seq (
 .reg [
   I 20 (.load (some 6) (.t 1)),
   I 21 (.build #[.int .i64 0, .int .i64 0, .int .i64 0, .int .i64 0, .int .u64 0, .slice none 0 0, .int .i64 0, .int .i64 0, .int .i64 0, .int .i64 0, .int .i64 0, .int .i64 0, .int .i64 0, .int .i64 0] [((0, 6), (.t 20)), ((6, 1), (.c (.int .i64 (-1)))), ((7, 1), (.c (.int .i64 (-1)))), ((8, 1), (.c (.int .i64 (-1)))), ((9, 1), (.c (.int .i64 (-1)))), ((10, 1), (.c (.int .i64 (-1)))), ((11, 1), (.c (.int .i64 (-1))))]),
   I 6 (.alloc [.int .i64 0, .int .i64 0, .int .i64 0, .int .i64 0, .int .u64 0, .slice none 0 0, .int .i64 0, .int .i64 0, .int .i64 0, .int .i64 0, .int .i64 0, .int .i64 0, .int .i64 0, .int .i64 0]),
   I0 (.store 14 (.t 6) (.t 21))] [1, 2, 5, 6]) (
 .seq (
 .seq (
 .reg [
   I 22 (.fieldAddr 0 (.t 1)),
   I 23 (.load none (.t 22))] [1, 2, 5, 6, 23]) (
 .block 0 (
  .seq (
  .reg [
    I 35 (.bin .eql (.t 23) (.c (.int .i64 1))),
    I 34 (.mov (.t 35))] [1, 2, 5, 6, 23, 34]) (
  .cond (.t 34) (
   .reg [
     I 36 (.mov (.t 5)),
     I 37 (.mov (.t 5)),
     I 38 (.bin .add (.t 37) (.c (.int .i64 1))),
     I 39 (.fieldAddr 6 (.t 6)),
     I0 (.store 1 (.t 39) (.t 36)),
     I 5 (.mov (.t 38))] [1, 2, 5, 6]) (
   .seq (
   .reg [
     I 41 (.bin .eql (.t 23) (.c (.int .i64 5))),
     I 40 (.mov (.t 41))] [1, 2, 5, 6, 40]) (
   .cond (.t 40) (
    .regd [0, 1, 2, 3, 4, 5, 6, 7, 8, 9, 12, 10, 11, 13, 14, 15, 16, 17, 18, 19, 20] [
      I 42 (.mov (.t 5)),
      I 43 (.mov (.t 5)),
      I 44 (.bin .add (.t 43) (.c (.int .i64 1))),
      I 45 (.mov (.t 5)),
      I 46 (.bin .add (.t 45) (.c (.int .i64 2))),
      I 47 (.mov (.t 5)),
      I 48 (.bin .add (.t 47) (.c (.int .i64 3))),
      I 49 (.mov (.t 5)),
      I 50 (.bin .add (.t 49) (.c (.int .i64 3))),
      I 51 (.fieldAddr 2 (.t 1)),
      I 54 (.fieldAddr 8 (.t 6)),
      I 52 (.load none (.t 51)),
      I 53 (.bin .add (.t 50) (.t 52)),
      I0 (.hold [(none, (.t 51))] (.store 1 (.t 54) (.t 42))),
      I 55 (.fieldAddr 9 (.t 6)),
      I0 (.hold [(none, (.t 51))] (.store 1 (.t 55) (.t 44))),
      I 56 (.fieldAddr 10 (.t 6)),
      I0 (.hold [(none, (.t 51))] (.store 1 (.t 56) (.t 46))),
      I 57 (.fieldAddr 11 (.t 6)),
      I0 (.hold [(none, (.t 51))] (.store 1 (.t 57) (.t 48))),
      I 5 (.mov (.t 53))] [1, 2, 5, 6]) (
    .regd [0, 1, 2, 3, 4, 5, 8, 6, 7, 9, 10, 11, 12] [
      I 24 (.mov (.t 5)),
      I 25 (.mov (.t 5)),
      I 26 (.bin .add (.t 25) (.c (.int .i64 1))),
      I 27 (.mov (.t 5)),
      I 28 (.bin .add (.t 27) (.c (.int .i64 1))),
      I 29 (.fieldAddr 2 (.t 1)),
      I 32 (.fieldAddr 7 (.t 6)),
      I 30 (.load none (.t 29)),
      I 31 (.bin .add (.t 28) (.t 30)),
      I0 (.hold [(none, (.t 29))] (.store 1 (.t 32) (.t 24))),
      I 33 (.fieldAddr 11 (.t 6)),
      I0 (.hold [(none, (.t 29))] (.store 1 (.t 33) (.t 26))),
      I 5 (.mov (.t 31))] [1, 2, 5, 6]))))))) (
 .seq (
 .regd [0, 1, 2, 5, 3, 4, 6, 7, 8] [
   I 58 (.mov (.t 5)),
   I 59 (.mov (.t 5)),
   I 60 (.fieldAddr 2 (.t 1)),
   I 63 (.fieldAddr 12 (.t 6)),
   I 61 (.load none (.t 60)),
   I 62 (.bin .add (.t 59) (.t 61)),
   I0 (.hold [(none, (.t 60))] (.store 1 (.t 63) (.t 58))),
   I 64 (.fieldAddr 13 (.t 6)),
   I0 (.store 1 (.t 64) (.t 62))] [2, 6]) (
 .seq (
 .reg [
   I 65 (.load (some 14) (.t 6)),
   I0 (.store 14 (.t 2) (.t 65)),
   I 3 (.mov (.c (.int .i64 0)))] [2, 3]) (
 .ret)))))))))⟩

/- sakia/board.New[uint32] -/
def c9 : AFn := ⟨1, [.tmp 2], (
 .seq (
 .reg [
   I 1 (.box (.t 0)),
   I 2 (.mov (.c (.pointer none)))] [1]) (
 .seq (
 .seq (
 .regd [0, 1, 2, 3, 4, 5, 7, 6, 8, 9] [
   I 5 (.fieldAddr 13 (.t 1)),
   I 6 (.load none (.t 5)),
   I 7 (.bin .eql (.t 6) (.c (.int .i64 0))),
   I 8 (.mov (.t 7)),
   IG (some 9) (8, false) (.fieldAddr 0 (.t 1)),
   IG (some 10) (8, false) (.fieldAddr 1 (.t 9)),
   IG (some 12) (8, false) (.callE 1 37 []),
   IG (some 11) (8, false) (.load none (.t 10)),
   IG (some 13) (8, false) (.bin .neq (.t 11) (.t 12)),
   I 14 (.pick (.t 8) (.c (.bool true)) (.t 13))] [1, 14]) (
 .cond (.t 14) (
  .seq (
  .reg [
    I 2 (.mov (.c (.pointer none)))] [2]) (
  .ret)) (
  .skip))) (
 .seq (
 .regd [1, 2, 0, 3, 4, 5, 6, 7] [
   I 16 (.fieldAddr 0 (.t 1)),
   I 17 (.fieldAddr 2 (.t 16)),
   I 15 (.load (some 14) (.t 1)),
   I 18 (.load none (.t 17)),
   I 19 (.mkSlice 1 8 #[.int .i64 0] (.t 18)),
   I 20 (.build #[.int .i64 0, .int .i64 0, .int .i64 0, .int .i64 0, .int .u64 0, .slice none 0 0, .int .i64 0, .int .i64 0, .int .i64 0, .int .i64 0, .int .i64 0, .int .i64 0, .int .i64 0, .int .i64 0, .slice none 0 0, .slice none 0 0, .slice none 0 0] [((0, 14), (.t 15)), ((15, 1), (.t 19))]),
   I 21 (.box (.t 20)),
   I 3 (.mov (.t 21))] [1, 3]) (
 .seq (
 .seq (
 .reg [
   I 22 (.fieldAddr 12 (.t 1)),
   I 23 (.load none (.t 22)),
   I 24 (.mov (.c (.int .i64 0)))] [1, 3, 23, 24]) (
 .block 0 (
  .loop (
   .seq (
   .reg [
     I 25 (.bin .lss (.t 24) (.t 23))] [1, 3, 23, 24, 25]) (
   .seq (
   .cond (.t 25) (
    .skip) (
    .exit 0)) (
   .seq (
   .block 1 (
    .seq (
    .reg [
      I 26 (.mov (.t 24)),
      I 4 (.mov (.t 26))] [1, 3, 4, 23, 24]) (
    .regd [0, 1, 2, 3, 6, 4, 5, 7, 8, 9, 10, 11, 12, 13] [
      I 27 (.mov (.t 3)),
      I 28 (.mov (.t 3)),
      I 29 (.nilChk (.t 28)),
      I 30 (.fieldAddr 14 (.t 29)),
      I 33 (.mov (.t 4)),
      I 31 (.load none (.t 30)),
      I 32 (.load (some 14) (.t 1)),
      I 34 (.callQ 38 [(.t 32), (.t 33)]),
      I 35 (.callE 1 12 [(.t 34)]),
      I 36 (.buildSlice 1 #[.int .u32 0] 1 [(0, (.t 35))]),
      I 37 (.append 1 4 (.t 31) (.t 36)),
      I 38 (.nilChk (.t 27)),
      I 39 (.fieldAddr 14 (.t 38)),
      I0 (.store 1 (.t 39) (.t 37))] [1, 3, 23, 24]))) (
   .reg [
     I 40 (.bin .add (.t 24) (.c (.int .i64 1))),
     I 24 (.mov (.t 40))] [1, 3, 23, 24]))))))) (
 .seq (
 .reg [
   I 41 (.mov (.t 3)),
   I 2 (.mov (.t 41))] [2]) (
 .ret))))))⟩

/- sakia/event.NewLog -/
def c10 : AFn := ⟨0, [.tmp 0], (
 .seq (
 .reg [
   I 0 (.mov (.c (.pointer none)))] []) (
 .seq (
 .reg [
   I 1 (.build #[.slice none 0 0] []),
   I 2 (.box (.t 1)),
   I 0 (.mov (.t 2))] [0]) (
 .ret)))⟩

/- sakia/wide.Of[uint32] -/
def c12 : AFn := ⟨1, [.tmp 2], (
 .seq (
 .reg [
   I 2 (.mov (.c (.int .u32 0)))] [0]) (
 .seq (
 .reg [
   I 3 (.mov (.t 0)),
   I 4 (.conv .u32 (.t 3)),
   I 2 (.mov (.t 4))] [2]) (
 .ret)))⟩

/- (*sakia/board.Board[uint32]).Store -/
def c14 : AFn := ⟨4, [], (
 .seq (
 .reg [
   I 8 (.mov (.t 0)),
   I 9 (.mov (.t 2)),
   I 10 (.callQ 43 [(.t 8), (.t 9), (.c (.int .i64 1))])] [0, 1, 2, 3, 10]) (
 .cond (.t 10) (
  .reg [
    I 11 (.mov (.t 0)),
    I 12 (.mov (.t 1)),
    I 13 (.mov (.t 2)),
    I 14 (.mov (.t 3)),
    I 15 (.call 44 [(.t 11), (.t 12), (.c (.int .i64 2)), (.t 13), (.t 14)])] []) (
  .skip)))⟩

/- sakia/wide.Add[uint32] -/
def c15 : AFn := ⟨2, [.tmp 4], (
 .seq (
 .reg [
   I 4 (.mov (.c (.int .u32 0)))] [0, 1]) (
 .seq (
 .reg [
   I 5 (.mov (.t 0)),
   I 6 (.mov (.t 1)),
   I 7 (.conv .u32 (.t 6)),
   I 8 (.bin .add (.t 5) (.t 7)),
   I 4 (.mov (.t 8))] [4]) (
 .ret)))⟩

/- sakia/wide.Diff[uint32] -/
def c16 : AFn := ⟨2, [.tmp 4], (
 .seq (
 .reg [
   I 4 (.mov (.c (.int .i64 0)))] [0, 1]) (
 .seq (
 .reg [
   I 5 (.mov (.t 0)),
   I 6 (.mov (.t 1)),
   I 7 (.bin .sub (.t 5) (.t 6)),
   I 8 (.callE 1 45 [(.t 7)]),
   I 4 (.mov (.t 8))] [4]) (
 .ret)))⟩

/- sakia/wide.Less[uint32] -/
def c18 : AFn := ⟨2, [.tmp 4], (
 .seq (
 .reg [
   I 4 (.mov (.c (.bool false)))] [0, 1]) (
 .seq (
 .reg [
   I 5 (.mov (.t 0)),
   I 6 (.mov (.t 1)),
   I 7 (.callE 1 16 [(.t 5), (.t 6)]),
   I 8 (.bin .lss (.t 7) (.c (.int .i64 0))),
   I 4 (.mov (.t 8))] [4]) (
 .ret)))⟩

/- sakia/gate.Fits[uint32] -/
def c20 : AFn := ⟨4, [.tmp 8], (
 .seq (
 .reg [
   I 8 (.mov (.c (.bool false)))] [0, 1, 2, 3]) (
 .seq (
 .reg [
   I 9 (.mov (.t 1)),
   I 10 (.mov (.t 2)),
   I 11 (.callE 1 15 [(.t 9), (.t 10)]),
   I 12 (.mov (.t 3)),
   I 13 (.callE 1 16 [(.t 11), (.t 12)]),
   I 14 (.mov (.t 0)),
   I 15 (.bin .leq (.t 13) (.t 14)),
   I 8 (.mov (.t 15))] [8]) (
 .ret)))⟩

/- sakia/gate.Ends -/
def c22 : AFn := ⟨1, [.tmp 2], (
 .seq (
 .reg [
   I 1 (.box (.t 0)),
   I 2 (.mov (.c (.slice none 0 0)))] [1]) (
 .seq (
 .seq (
 .reg [
   I 3 (.fieldAddr 13 (.t 1)),
   I 4 (.load none (.t 3)),
   I 5 (.bin .eql (.t 4) (.c (.int .i64 0)))] [1, 5]) (
 .cond (.t 5) (
  .seq (
  .reg [
    I 2 (.mov (.c (.slice none 0 0)))] [2]) (
  .ret)) (
  .skip))) (
 .seq (
 .regd [1, 2, 0, 3, 4, 5, 6] [
   I 7 (.fieldAddr 0 (.t 1)),
   I 8 (.fieldAddr 5 (.t 7)),
   I 6 (.load (some 14) (.t 1)),
   I 9 (.load none (.t 8)),
   I 10 (.hold [((some 14), (.t 1))] (.call 55 [(.t 9)])),
   I 11 (.call 54 [(.t 6), (.t 10)]),
   I 2 (.mov (.t 11))] [2]) (
 .ret))))⟩

/- (*sakia/event.Log).Len -/
def c25 : AFn := ⟨1, [.tmp 2], (
 .seq (
 .reg [
   I 2 (.mov (.c (.int .i64 0)))] [0]) (
 .seq (
 .seq (
 .reg [
   I 3 (.mov (.t 0)),
   I 4 (.isNil .ptr false (.t 3))] [0, 4]) (
 .cond (.t 4) (
  .seq (
  .reg [
    I 2 (.mov (.c (.int .i64 0)))] [2]) (
  .ret)) (
  .skip))) (
 .seq (
 .reg [
   I 5 (.mov (.t 0)),
   I 6 (.nilChk (.t 5)),
   I 7 (.fieldAddr 0 (.t 6)),
   I 8 (.load none (.t 7)),
   I 9 (.len false (.t 8)),
   I 2 (.mov (.t 9))] [2]) (
 .ret))))⟩

/- sakia/sakialaw23.conf -/
def c27 : AFn := ⟨1, [.cell 2 (some 6)], (
 .seq (
 .reg [
   I 1 (.box (.t 0)),
   I 2 (.alloc [.int .i64 0, .int .i64 0, .int .i64 0, .int .i64 0, .int .u64 0, .slice none 0 0])] [1, 2]) (
 .seq (
 .reg [
   I 5 (.fieldAddr 1 (.t 1)),
   I 6 (.load none (.t 5)),
   I 7 (.bin .rem (.t 6) (.c (.int .u8 4))),
   I 8 (.bin .shl (.c (.int .i64 2)) (.t 7)),
   I 9 (.fieldAddr 2 (.t 1)),
   I 10 (.load none (.t 9)),
   I 11 (.bin .rem (.t 10) (.c (.int .u8 4))),
   I 12 (.conv .i64 (.t 11)),
   I 13 (.bin .add (.c (.int .i64 1)) (.t 12)),
   I 14 (.fieldAddr 4 (.t 1)),
   I 15 (.load none (.t 14)),
   I 16 (.build #[.int .i64 0, .int .i64 0, .int .i64 0, .int .i64 0, .int .u64 0, .slice none 0 0] [((0, 1), (.c (.int .i64 5))), ((1, 1), (.c (.int .i64 32))), ((2, 1), (.t 8)), ((3, 1), (.t 13)), ((4, 1), (.t 15))]),
   I 3 (.alloc [.int .i64 0, .int .i64 0, .int .i64 0, .int .i64 0, .int .u64 0, .slice none 0 0]),
   I0 (.store 6 (.t 3) (.t 16))] [1, 2, 3]) (
 .seq (
 .seq (
 .reg [
   I 17 (.fieldAddr 0 (.t 1)),
   I 18 (.load none (.t 17))] [1, 2, 3, 18]) (
 .cond (.t 18) (
  .reg [
    I 19 (.fieldAddr 1 (.t 3)),
    I0 (.store 1 (.t 19) (.c (.int .i64 64)))] [1, 2, 3]) (
  .skip))) (
 .seq (
 .seq (
 .reg [
   I 4 (.mov (.c (.int .i64 0)))] [1, 2, 3, 4]) (
 .block 0 (
  .loop (
   .seq (
   .seq (
   .reg [
     I 20 (.mov (.t 4)),
     I 21 (.fieldAddr 3 (.t 1)),
     I 22 (.load none (.t 21)),
     I 23 (.bin .rem (.t 22) (.c (.int .u8 3))),
     I 24 (.conv .i64 (.t 23)),
     I 25 (.bin .leq (.t 20) (.t 24))] [1, 2, 3, 4, 25]) (
   .cond (.t 25) (
    .skip) (
    .exit 0))) (
   .seq (
   .block 1 (
    .reg [
      I 28 (.fieldAddr 5 (.t 3)),
      I 29 (.load none (.t 28)),
      I 30 (.buildSlice 1 #[.slice none 0 0] 1 [(0, (.c (.slice none 0 0)))]),
      I 31 (.append 1 24 (.t 29) (.t 30)),
      I 32 (.fieldAddr 5 (.t 3)),
      I0 (.store 1 (.t 32) (.t 31))] [1, 2, 3, 4])) (
   .reg [
     I 26 (.mov (.t 4)),
     I 27 (.bin .add (.t 26) (.c (.int .i64 1))),
     I 4 (.mov (.t 27))] [1, 2, 3, 4])))))) (
 .seq (
 .reg [
   I 33 (.load (some 6) (.t 3)),
   I0 (.store 6 (.t 2) (.t 33))] [2]) (
 .ret))))))⟩

/- sakia/seqlock.New[uint32] -/
def c28 : AFn := ⟨2, [.tmp 4], (
 .seq (
 .reg [
   I 4 (.mov (.c (.pointer none)))] [0, 1]) (
 .seq (
 .reg [
   I 7 (.mov (.t 0)),
   I 8 (.call 39 [(.t 7)]),
   I 5 (.alloc [.int .i64 0, .int .i64 0, .int .i64 0, .int .i64 0, .int .u64 0, .slice none 0 0, .int .i64 0, .int .i64 0, .int .i64 0, .int .i64 0, .int .i64 0, .int .i64 0, .int .i64 0, .int .i64 0]),
   I0 (.store 14 (.t 5) (.t 8))] [0, 1, 5]) (
 .seq (
 .seq (
 .reg [
   I 9 (.fieldAddr 0 (.t 5)),
   I 10 (.fieldAddr 0 (.t 9)),
   I 11 (.load none (.t 10)),
   I 12 (.bin .neq (.t 11) (.c (.int .i64 5)))] [0, 1, 5, 12]) (
 .cond (.t 12) (
  .seq (
  .reg [
    I 4 (.mov (.c (.pointer none)))] [4]) (
  .ret)) (
  .skip))) (
 .seq (
 .regd [0, 1, 2, 6, 3, 4, 7, 5, 8, 9, 10] [
   I 13 (.mov (.t 0)),
   I 14 (.mov (.t 1)),
   I 15 (.fieldAddr 0 (.t 5)),
   I 19 (.fieldAddr 10 (.t 5)),
   I 16 (.load (some 6) (.t 15)),
   I 17 (.load (some 14) (.t 5)),
   I 20 (.load none (.t 19)),
   I 18 (.hold [((some 6), (.t 15)), (none, (.t 19))] (.call 22 [(.t 17)])),
   I 21 (.build #[.pointer none, .pointer none, .int .i64 0, .int .i64 0, .int .i64 0, .int .i64 0, .int .u64 0, .slice none 0 0, .slice none 0 0, .int .i64 0, .slice none 0 0] [((0, 1), (.t 13)), ((1, 1), (.t 14)), ((2, 6), (.t 16)), ((8, 1), (.t 18)), ((9, 1), (.t 20))]),
   I 22 (.box (.t 21)),
   I 6 (.mov (.t 22))] [5, 6]) (
 .seq (
 .seq (
 .reg [
   I 23 (.fieldAddr 0 (.t 5)),
   I 24 (.fieldAddr 3 (.t 23)),
   I 25 (.load none (.t 24)),
   I 26 (.mov (.c (.int .i64 0)))] [5, 6, 25, 26]) (
 .block 0 (
  .loop (
   .seq (
   .reg [
     I 27 (.bin .lss (.t 26) (.t 25))] [5, 6, 25, 26, 27]) (
   .seq (
   .cond (.t 27) (
    .skip) (
    .exit 0)) (
   .seq (
   .block 1 (
    .regd [0, 1, 2, 3, 5, 4, 6, 7, 8, 9, 10, 11, 12, 13] [
      I 28 (.mov (.t 6)),
      I 29 (.mov (.t 6)),
      I 30 (.nilChk (.t 29)),
      I 31 (.fieldAddr 10 (.t 30)),
      I 33 (.fieldAddr 0 (.t 5)),
      I 32 (.load none (.t 31)),
      I 34 (.load (some 6) (.t 33)),
      I 35 (.callQ 40 [(.t 34)]),
      I 36 (.callE 1 12 [(.t 35)]),
      I 37 (.buildSlice 1 #[.int .u32 0] 1 [(0, (.t 36))]),
      I 38 (.append 1 4 (.t 32) (.t 37)),
      I 39 (.nilChk (.t 28)),
      I 40 (.fieldAddr 10 (.t 39)),
      I0 (.store 1 (.t 40) (.t 38))] [5, 6, 25, 26])) (
   .reg [
     I 41 (.bin .add (.t 26) (.c (.int .i64 1))),
     I 26 (.mov (.t 41))] [5, 6, 25, 26]))))))) (
 .seq (
 .reg [
   I 42 (.mov (.t 6)),
   I 4 (.mov (.t 42))] [4]) (
 .ret)))))))⟩

/- (*sakia/seqlock.Seq[uint32]).Claim -/
def c29 : AFn := ⟨3, [.tmp 6], (
 .seq (
 .reg [
   I 6 (.mov (.c (.bool false)))] [0, 1, 2]) (
 .scope (
 .seq (
 .seq (
 .reg [
   I 7 (.mov (.t 0)),
   I 8 (.mov (.t 1)),
   I 9 (.mov (.t 2)),
   I 10 (.callQ 58 [(.t 7), (.t 8), (.t 9)]),
   I 11 (.un .not (.t 10))] [0, 1, 2, 11]) (
 .cond (.t 11) (
  .seq (
  .reg [
    I 6 (.mov (.c (.bool true)))] [6]) (
  .ret)) (
  .skip))) (
 .seq (
 .seq (
 .reg [
   I 12 (.mov (.t 2)),
   I 13 (.nilChk (.t 12)),
   I 14 (.fieldAddr 3 (.t 13)),
   I 15 (.load none (.t 14))] [0, 1, 2, 15]) (
 .block 0 (
  .seq (
  .reg [
    I 17 (.bin .eql (.t 15) (.c (.int .i64 2))),
    I 16 (.mov (.t 17))] [0, 1, 2, 15, 16]) (
  .cond (.t 16) (
   .goto 0) (
   .seq (
   .reg [
     I 19 (.bin .eql (.t 15) (.c (.int .i64 3))),
     I 18 (.mov (.t 19))] [0, 1, 2, 15, 18]) (
   .cond (.t 18) (
    .goto 1) (
    .seq (
    .reg [
      I 21 (.bin .eql (.t 15) (.c (.int .i64 4))),
      I 20 (.mov (.t 21))] [0, 1, 2, 15, 20]) (
    .cond (.t 20) (
     .goto 2) (
     .seq (
     .seq (
     .reg [
       I 23 (.bin .eql (.t 15) (.c (.int .i64 5))),
       I 22 (.mov (.t 23))] [0, 1, 2, 15, 22]) (
     .cond (.t 22) (
      .skip) (
      .reg [
        I 24 (.bin .eql (.t 15) (.c (.int .i64 6))),
        I 22 (.mov (.t 24))] [0, 1, 2, 22]))) (
     .cond (.t 22) (
      .goto 3) (
      .skip))))))))))) (
 .seq (
 .reg [
   I 25 (.mov (.t 0)),
   I 26 (.nilChk (.t 25)),
   I 27 (.fieldAddr 0 (.t 26)),
   I 28 (.load none (.t 27)),
   I 29 (.mov (.t 1)),
   I 30 (.mov (.t 2)),
   I 31 (.call 59 [(.t 28), (.t 29), (.t 30)])] []) (
 .seq (
 .seq (
 .reg [
   I 6 (.mov (.c (.bool false)))] [6]) (
 .ret)) (
 .seq (
 .label 0) (
 .seq (
 .regd [0, 1, 2, 3, 4, 6, 7, 8, 9, 5, 10, 11, 12, 13, 14, 15, 16, 17] [
   I 32 (.mov (.t 2)),
   I 33 (.mov (.t 2)),
   I 34 (.mov (.t 0)),
   I 35 (.nilChk (.t 34)),
   I 36 (.fieldAddr 0 (.t 35)),
   I 38 (.mov (.t 1)),
   I 39 (.mov (.t 0)),
   I 40 (.nilChk (.t 39)),
   I 41 (.fieldAddr 9 (.t 40)),
   I 37 (.load none (.t 36)),
   I 42 (.load none (.t 41)),
   I 43 (.call 60 [(.t 37), (.t 38), (.t 42)]),
   I 44 (.nilChk (.t 32)),
   I 45 (.fieldAddr 6 (.t 44)),
   I0 (.store 1 (.t 45) (.t 43)),
   I 46 (.nilChk (.t 33)),
   I 47 (.fieldAddr 4 (.t 46)),
   I0 (.store 1 (.t 47) (.c (.int .i64 0)))] [0, 1, 2]) (
 .seq (
 .reg [
   I 48 (.mov (.t 2)),
   I 49 (.mov (.t 0)),
   I 50 (.mov (.t 1)),
   I 51 (.mov (.t 2)),
   I 52 (.callQ 61 [(.t 49), (.t 50), (.t 51), (.c (.int .i64 3))]),
   I 53 (.nilChk (.t 48)),
   I 54 (.fieldAddr 3 (.t 53)),
   I0 (.store 1 (.t 54) (.t 52))] []) (
 .seq (
 .seq (
 .reg [
   I 6 (.mov (.c (.bool false)))] [6]) (
 .ret)) (
 .seq (
 .label 1) (
 .seq (
 .seq (
 .regd [0, 1, 2, 4, 5, 6, 7, 9, 3, 8, 10] [
   I 55 (.mov (.t 0)),
   I 56 (.nilChk (.t 55)),
   I 57 (.fieldAddr 0 (.t 56)),
   I 59 (.mov (.t 1)),
   I 60 (.mov (.t 0)),
   I 61 (.nilChk (.t 60)),
   I 62 (.fieldAddr 8 (.t 61)),
   I 64 (.mov (.t 2)),
   I 58 (.load none (.t 57)),
   I 63 (.load none (.t 62)),
   I 65 (.call 50 [(.t 58), (.t 59), (.t 63), (.t 64)])] [0, 1, 2, 65]) (
 .cond (.t 65) (
  .seq (
  .regd [0, 1, 2, 4, 5, 6, 7, 3, 8, 9, 10] [
    I 66 (.mov (.t 0)),
    I 67 (.nilChk (.t 66)),
    I 68 (.fieldAddr 10 (.t 67)),
    I 70 (.mov (.t 1)),
    I 71 (.mov (.t 2)),
    I 72 (.nilChk (.t 71)),
    I 73 (.fieldAddr 7 (.t 72)),
    I 69 (.load none (.t 68)),
    I 74 (.load none (.t 73)),
    I 75 (.indexAddr none 1 (.t 69) (.t 70)),
    I0 (.store 1 (.t 75) (.t 74))] [0, 1, 2]) (
  .reg [
    I 76 (.mov (.t 2)),
    I 77 (.mov (.t 0)),
    I 78 (.mov (.t 1)),
    I 79 (.mov (.t 2)),
    I 80 (.callQ 61 [(.t 77), (.t 78), (.t 79), (.c (.int .i64 5))]),
    I 81 (.nilChk (.t 76)),
    I 82 (.fieldAddr 3 (.t 81)),
    I0 (.store 1 (.t 82) (.t 80))] [])) (
  .skip))) (
 .seq (
 .seq (
 .reg [
   I 6 (.mov (.c (.bool false)))] [6]) (
 .ret)) (
 .seq (
 .label 2) (
 .seq (
 .regd [0, 1, 2, 4, 5, 6, 7, 9, 10, 11, 13, 14, 15, 3, 8, 12, 16, 17, 18] [
   I 83 (.mov (.t 0)),
   I 84 (.nilChk (.t 83)),
   I 85 (.fieldAddr 0 (.t 84)),
   I 87 (.mov (.t 1)),
   I 88 (.mov (.t 0)),
   I 89 (.nilChk (.t 88)),
   I 90 (.fieldAddr 9 (.t 89)),
   I 92 (.mov (.t 2)),
   I 93 (.nilChk (.t 92)),
   I 94 (.fieldAddr 6 (.t 93)),
   I 96 (.mov (.t 2)),
   I 97 (.nilChk (.t 96)),
   I 98 (.fieldAddr 1 (.t 97)),
   I 86 (.load none (.t 85)),
   I 91 (.load none (.t 90)),
   I 95 (.load none (.t 94)),
   I 99 (.load none (.t 98)),
   I 100 (.callE 1 15 [(.t 95), (.t 99)]),
   I 101 (.call 62 [(.t 86), (.t 87), (.t 91), (.t 100)])] [0, 1, 2]) (
 .seq (
 .regd [0, 1, 2, 4, 5, 6, 7, 9, 10, 11, 3, 8, 12, 13, 14, 15] [
   I 102 (.mov (.t 0)),
   I 103 (.nilChk (.t 102)),
   I 104 (.fieldAddr 1 (.t 103)),
   I 106 (.mov (.t 1)),
   I 107 (.mov (.t 2)),
   I 108 (.nilChk (.t 107)),
   I 109 (.fieldAddr 1 (.t 108)),
   I 111 (.mov (.t 2)),
   I 112 (.nilChk (.t 111)),
   I 113 (.fieldAddr 6 (.t 112)),
   I 105 (.load none (.t 104)),
   I 110 (.load none (.t 109)),
   I 114 (.load none (.t 113)),
   I 115 (.callE 1 42 [(.t 114)]),
   I 116 (.build #[.int .i64 0, .int .i64 0, .int .i64 0, .int .i64 0, .int .u64 0, .int .i64 0, .slice none 0 0] [((0, 1), (.c (.int .i64 3))), ((1, 1), (.t 106)), ((3, 1), (.t 110)), ((4, 1), (.t 115))]),
   I 117 (.call 52 [(.t 105), (.t 116)])] [0, 1, 2]) (
 .seq (
 .reg [
   I 118 (.mov (.t 0)),
   I 119 (.nilChk (.t 118)),
   I 120 (.fieldAddr 1 (.t 119)),
   I 121 (.load none (.t 120)),
   I 122 (.mov (.t 1)),
   I 123 (.build #[.int .i64 0, .int .i64 0, .int .i64 0, .int .i64 0, .int .u64 0, .int .i64 0, .slice none 0 0] [((0, 1), (.c (.int .i64 4))), ((1, 1), (.t 122))]),
   I 124 (.call 52 [(.t 121), (.t 123)])] [2]) (
 .seq (
 .reg [
   I 125 (.mov (.t 2)),
   I 126 (.nilChk (.t 125)),
   I 127 (.fieldAddr 3 (.t 126)),
   I0 (.store 1 (.t 127) (.c (.int .i64 6)))] []) (
 .seq (
 .seq (
 .reg [
   I 6 (.mov (.c (.bool false)))] [6]) (
 .ret)) (
 .seq (
 .label 3) (
 .seq (
 .reg [
   I 128 (.mov (.t 0)),
   I 129 (.mov (.t 1)),
   I 130 (.mov (.t 2)),
   I 131 (.call 63 [(.t 128), (.t 129), (.t 130)]),
   I 6 (.mov (.t 131))] [6]) (
 .ret))))))))))))))))))))))⟩

/- (*sakia/seqlock.Seq[uint32]).Publish -/
def c30 : AFn := ⟨3, [.tmp 6], (
 .seq (
 .reg [
   I 6 (.mov (.c (.bool false)))] [0, 1, 2]) (
 .seq (
 .seq (
 .reg [
   I 8 (.mov (.t 0)),
   I 9 (.mov (.t 1)),
   I 10 (.mov (.t 2)),
   I 11 (.callQ 58 [(.t 8), (.t 9), (.t 10)]),
   I 12 (.un .not (.t 11))] [0, 1, 2, 12]) (
 .cond (.t 12) (
  .seq (
  .reg [
    I 6 (.mov (.c (.bool true)))] [6]) (
  .ret)) (
  .skip))) (
 .seq (
 .seq (
 .reg [
   I 13 (.mov (.t 2)),
   I 14 (.nilChk (.t 13)),
   I 15 (.fieldAddr 3 (.t 14)),
   I 16 (.load none (.t 15))] [0, 1, 2, 16]) (
 .block 0 (
  .seq (
  .reg [
    I 18 (.bin .eql (.t 16) (.c (.int .i64 6))),
    I 17 (.mov (.t 18))] [0, 1, 2, 16, 17]) (
  .cond (.t 17) (
   .seq (
   .reg [
     I 19 (.mov (.t 0)),
     I 20 (.mov (.t 1)),
     I 21 (.mov (.t 2)),
     I 22 (.call 63 [(.t 19), (.t 20), (.t 21)]),
     I 6 (.mov (.t 22))] [6]) (
   .ret)) (
   .seq (
   .reg [
     I 24 (.bin .eql (.t 16) (.c (.int .i64 2))),
     I 23 (.mov (.t 24))] [0, 1, 2, 23]) (
   .cond (.t 23) (
    .seq (
    .regd [0, 1, 2, 4, 5, 6, 3, 7, 8, 9] [
      I 25 (.mov (.t 2)),
      I 26 (.nilChk (.t 25)),
      I 27 (.fieldAddr 6 (.t 26)),
      I 29 (.mov (.t 2)),
      I 30 (.nilChk (.t 29)),
      I 31 (.fieldAddr 4 (.t 30)),
      I 28 (.load none (.t 27)),
      I 32 (.load none (.t 31)),
      I 33 (.callE 1 15 [(.t 28), (.t 32)]),
      I 7 (.mov (.t 33))] [0, 1, 2, 7]) (
    .seq (
    .seq (
    .reg [
      I 34 (.mov (.t 0)),
      I 35 (.nilChk (.t 34)),
      I 36 (.fieldAddr 0 (.t 35)),
      I 37 (.load none (.t 36)),
      I 38 (.mov (.t 1)),
      I 39 (.mov (.t 2)),
      I 40 (.call 56 [(.t 37), (.t 38), (.t 39)])] [0, 1, 2, 7, 40]) (
    .cond (.t 40) (
     .reg [
       I 41 (.mov (.t 2)),
       I 42 (.nilChk (.t 41)),
       I 43 (.fieldAddr 3 (.t 42)),
       I0 (.store 1 (.t 43) (.c (.int .i64 6)))] [0, 1, 7]) (
     .skip))) (
    .seq (
    .regd [0, 1, 2, 4, 5, 6, 7, 3, 8] [
      I 44 (.mov (.t 0)),
      I 45 (.nilChk (.t 44)),
      I 46 (.fieldAddr 1 (.t 45)),
      I 48 (.mov (.t 1)),
      I 49 (.mov (.t 7)),
      I 50 (.callE 1 42 [(.t 49)]),
      I 51 (.build #[.int .i64 0, .int .i64 0, .int .i64 0, .int .i64 0, .int .u64 0, .int .i64 0, .slice none 0 0] [((0, 1), (.c (.int .i64 5))), ((1, 1), (.t 48)), ((3, 1), (.c (.int .i64 1))), ((4, 1), (.t 50))]),
      I 47 (.load none (.t 46)),
      I 52 (.call 52 [(.t 47), (.t 51)])] []) (
    .seq (
    .reg [
      I 6 (.mov (.c (.bool false)))] [6]) (
    .ret))))) (
    .skip))))))) (
 .seq (
 .reg [
   I 53 (.mov (.t 0)),
   I 54 (.nilChk (.t 53)),
   I 55 (.fieldAddr 0 (.t 54)),
   I 56 (.load none (.t 55)),
   I 57 (.mov (.t 1)),
   I 58 (.mov (.t 2)),
   I 59 (.call 59 [(.t 56), (.t 57), (.t 58)])] []) (
 .seq (
 .reg [
   I 6 (.mov (.c (.bool false)))] [6]) (
 .ret))))))⟩

/- (*sakia/seqlock.Seq[uint32]).Tip -/
def c31 : AFn := ⟨3, [.tmp 6], (
 .seq (
 .reg [
   I 6 (.mov (.c (.bool false)))] [0, 1, 2]) (
 .seq (
 .seq (
 .reg [
   I 7 (.mov (.t 0)),
   I 8 (.isNil .ptr false (.t 7)),
   I 9 (.mov (.t 8)),
   IG (some 10) (9, false) (.mov (.t 2)),
   IG (some 11) (9, false) (.isNil .ptr false (.t 10)),
   I 12 (.pick (.t 9) (.c (.bool true)) (.t 11))] [0, 1, 2, 12]) (
 .cond (.t 12) (
  .seq (
  .reg [
    I 6 (.mov (.c (.bool true)))] [6]) (
  .ret)) (
  .skip))) (
 .seq (
 .seq (
 .reg [
   I 13 (.mov (.t 2)),
   I 14 (.nilChk (.t 13)),
   I 15 (.fieldAddr 3 (.t 14)),
   I 16 (.load none (.t 15))] [0, 1, 2, 16]) (
 .block 0 (
  .seq (
  .reg [
    I 18 (.bin .eql (.t 16) (.c (.int .i64 6))),
    I 17 (.mov (.t 18))] [0, 1, 2, 16, 17]) (
  .cond (.t 17) (
   .seq (
   .reg [
     I 19 (.mov (.t 0)),
     I 20 (.mov (.t 1)),
     I 21 (.mov (.t 2)),
     I 22 (.call 63 [(.t 19), (.t 20), (.t 21)]),
     I 6 (.mov (.t 22))] [6]) (
   .ret)) (
   .seq (
   .reg [
     I 24 (.bin .eql (.t 16) (.c (.int .i64 2))),
     I 23 (.mov (.t 24))] [0, 1, 2, 23]) (
   .cond (.t 23) (
    .seq (
    .seq (
    .reg [
      I 25 (.mov (.t 0)),
      I 26 (.nilChk (.t 25)),
      I 27 (.fieldAddr 0 (.t 26)),
      I 28 (.load none (.t 27)),
      I 29 (.mov (.t 1)),
      I 30 (.mov (.t 2)),
      I 31 (.call 46 [(.t 28), (.t 29), (.t 30)])] [2, 31]) (
    .cond (.t 31) (
     .reg [
       I 32 (.mov (.t 2)),
       I 33 (.nilChk (.t 32)),
       I 34 (.fieldAddr 3 (.t 33)),
       I0 (.store 1 (.t 34) (.c (.int .i64 6)))] []) (
     .skip))) (
    .seq (
    .reg [
      I 6 (.mov (.c (.bool false)))] [6]) (
    .ret))) (
    .skip))))))) (
 .seq (
 .reg [
   I 35 (.mov (.t 0)),
   I 36 (.nilChk (.t 35)),
   I 37 (.fieldAddr 0 (.t 36)),
   I 38 (.load none (.t 37)),
   I 39 (.mov (.t 1)),
   I 40 (.mov (.t 2)),
   I 41 (.call 59 [(.t 38), (.t 39), (.t 40)])] []) (
 .seq (
 .reg [
   I 6 (.mov (.c (.bool false)))] [6]) (
 .ret))))))⟩

/- (*sakia/board.Board[uint32]).Len -/
def c32 : AFn := ⟨1, [.tmp 2], (
 .seq (
 .reg [
   I 2 (.mov (.c (.int .i64 0)))] [0]) (
 .seq (
 .seq (
 .reg [
   I 3 (.mov (.t 0)),
   I 4 (.isNil .ptr false (.t 3))] [0, 4]) (
 .cond (.t 4) (
  .seq (
  .reg [
    I 2 (.mov (.c (.int .i64 0)))] [2]) (
  .ret)) (
  .skip))) (
 .seq (
 .reg [
   I 5 (.mov (.t 0)),
   I 6 (.nilChk (.t 5)),
   I 7 (.fieldAddr 16 (.t 6)),
   I 8 (.load none (.t 7)),
   I 9 (.len false (.t 8)),
   I 2 (.mov (.t 9))] [2]) (
 .ret))))⟩

/- sakia/sakialaw23.live -/
def c33 : AFn := ⟨0, [.tmp 0], (
 .seq (
 .reg [
   I 0 (.mov (.c (.bool false)))] []) (
 .seq (
 .reg [
   I 14 (.build #[.bool false, .int .u8 0, .int .u8 0, .int .u8 0, .int .u64 0] []),
   I 15 (.call 27 [(.t 14)]),
   I 16 (.call 8 [(.t 15)]),
   I 13 (.mov (.t 16)),
   I 17 (.extract (.t 13) 0),
   I 18 (.extract (.t 13) 1),
   I 1 (.alloc [.int .i64 0, .int .i64 0, .int .i64 0, .int .i64 0, .int .u64 0, .slice none 0 0, .int .i64 0, .int .i64 0, .int .i64 0, .int .i64 0, .int .i64 0, .int .i64 0, .int .i64 0, .int .i64 0]),
   I0 (.store 14 (.t 1) (.t 17)),
   I 2 (.mov (.t 18))] [1]) (
 .seq (
 .reg [
   I 19 (.load (some 14) (.t 1)),
   I 20 (.call 9 [(.t 19)]),
   I 21 (.call 10 []),
   I 3 (.mov (.t 20)),
   I 4 (.mov (.t 21))] [3, 4]) (
 .seq (
 .reg [
   I 22 (.mov (.t 3)),
   I 23 (.mov (.t 4)),
   I 24 (.call 28 [(.t 22), (.t 23)]),
   I 5 (.mov (.t 24))] [4, 5]) (
 .seq (
 .reg [
   I 25 (.build #[.int .i64 0, .int .i64 0, .int .i64 0, .int .i64 0, .int .i64 0, .int .i64 0, .int .u32 0, .int .u32 0, .int .u32 0, .int .u32 0, .slice none 0 0] [((1, 1), (.c (.int .i64 2)))]),
   I 26 (.box (.t 25)),
   I 6 (.mov (.t 26))] [4, 5, 6]) (
 .seq (
 .reg [
   I 7 (.mov (.c (.bool false)))] [4, 5, 6, 7]) (
 .seq (
 .seq (
 .reg [
   I 8 (.mov (.c (.int .i64 0)))] [4, 5, 6, 7, 8]) (
 .block 0 (
  .loop (
   .seq (
   .seq (
   .reg [
     I 27 (.mov (.t 8)),
     I 28 (.bin .lss (.t 27) (.c (.int .i64 20))),
     I 29 (.mov (.t 28)),
     IG (some 30) (29, true) (.mov (.t 7)),
     IG (some 31) (29, true) (.un .not (.t 30)),
     I 32 (.pick (.t 29) (.t 31) (.c (.bool false)))] [4, 5, 6, 7, 8, 32]) (
   .cond (.t 32) (
    .skip) (
    .exit 0))) (
   .seq (
   .block 1 (
    .reg [
      I 35 (.mov (.t 5)),
      I 36 (.mov (.t 6)),
      I 37 (.call 29 [(.t 35), (.c (.int .i64 0)), (.t 36)]),
      I 7 (.mov (.t 37))] [4, 5, 6, 7, 8])) (
   .reg [
     I 33 (.mov (.t 8)),
     I 34 (.bin .add (.t 33) (.c (.int .i64 1))),
     I 8 (.mov (.t 34))] [4, 5, 6, 7, 8])))))) (
 .seq (
 .reg [
   I 38 (.mov (.t 6)),
   I 39 (.nilChk (.t 38)),
   I 40 (.fieldAddr 6 (.t 39)),
   I 41 (.load none (.t 40)),
   I 42 (.build #[.int .i64 0, .int .i64 0, .int .i64 0, .int .i64 0, .int .i64 0, .int .i64 0, .int .u32 0, .int .u32 0, .int .u32 0, .int .u32 0, .slice none 0 0] [((1, 1), (.c (.int .i64 2))), ((6, 1), (.t 41))]),
   I 43 (.box (.t 42)),
   I 9 (.mov (.t 43))] [4, 5, 6, 7, 9]) (
 .seq (
 .seq (
 .reg [
   I 10 (.mov (.c (.int .i64 0)))] [4, 5, 6, 7, 9, 10]) (
 .block 2 (
  .loop (
   .seq (
   .seq (
   .reg [
     I 44 (.mov (.t 10)),
     I 45 (.bin .lss (.t 44) (.c (.int .i64 20))),
     I 46 (.mov (.t 45)),
     IG (some 47) (46, true) (.mov (.t 7)),
     I 48 (.pick (.t 46) (.t 47) (.c (.bool false))),
     I 49 (.mov (.t 48)),
     IG (some 50) (49, true) (.mov (.t 5)),
     IG (some 51) (49, true) (.mov (.t 9)),
     IG (some 52) (49, true) (.call 30 [(.t 50), (.c (.int .i64 0)), (.t 51)]),
     IG (some 53) (49, true) (.un .not (.t 52)),
     I 54 (.pick (.t 49) (.t 53) (.c (.bool false)))] [4, 5, 6, 7, 9, 10, 54]) (
   .cond (.t 54) (
    .skip) (
    .exit 2))) (
   .seq (
   .block 3 (
    .reg [
      I 57 (.mov (.t 10)),
      I 58 (.bin .lss (.t 57) (.c (.int .i64 19))),
      I 7 (.mov (.t 58))] [4, 5, 6, 7, 9, 10])) (
   .reg [
     I 55 (.mov (.t 10)),
     I 56 (.bin .add (.t 55) (.c (.int .i64 1))),
     I 10 (.mov (.t 56))] [4, 5, 6, 7, 9, 10])))))) (
 .seq (
 .reg [
   I 59 (.build #[.int .i64 0, .int .i64 0, .int .i64 0, .int .i64 0, .int .i64 0, .int .i64 0, .int .u32 0, .int .u32 0, .int .u32 0, .int .u32 0, .slice none 0 0] []),
   I 60 (.box (.t 59)),
   I 11 (.mov (.t 60))] [4, 5, 6, 7, 11]) (
 .seq (
 .seq (
 .reg [
   I 12 (.mov (.c (.int .i64 0)))] [4, 5, 6, 7, 11, 12]) (
 .block 4 (
  .loop (
   .seq (
   .seq (
   .reg [
     I 61 (.mov (.t 12)),
     I 62 (.bin .lss (.t 61) (.c (.int .i64 20))),
     I 63 (.mov (.t 62)),
     IG (some 64) (63, true) (.mov (.t 7)),
     I 65 (.pick (.t 63) (.t 64) (.c (.bool false))),
     I 66 (.mov (.t 65)),
     IG (some 67) (66, true) (.mov (.t 5)),
     IG (some 68) (66, true) (.mov (.t 11)),
     IG (some 69) (66, true) (.call 31 [(.t 67), (.c (.int .i64 1)), (.t 68)]),
     IG (some 70) (66, true) (.un .not (.t 69)),
     I 71 (.pick (.t 66) (.t 70) (.c (.bool false)))] [4, 5, 6, 7, 11, 12, 71]) (
   .cond (.t 71) (
    .skip) (
    .exit 4))) (
   .seq (
   .block 5 (
    .reg [
      I 74 (.mov (.t 12)),
      I 75 (.bin .lss (.t 74) (.c (.int .i64 19))),
      I 7 (.mov (.t 75))] [4, 5, 6, 7, 11, 12])) (
   .reg [
     I 72 (.mov (.t 12)),
     I 73 (.bin .add (.t 72) (.c (.int .i64 1))),
     I 12 (.mov (.t 73))] [4, 5, 6, 7, 11, 12])))))) (
 .seq (
 .reg [
   I 76 (.mov (.t 7)),
   I 77 (.mov (.t 76)),
   IG (some 78) (77, true) (.mov (.t 6)),
   IG (some 79) (77, true) (.nilChk (.t 78)),
   IG (some 80) (77, true) (.fieldAddr 6 (.t 79)),
   IG (some 81) (77, true) (.load none (.t 80)),
   IG (some 82) (77, true) (.bin .eql (.t 81) (.c (.int .u32 0))),
   I 83 (.pick (.t 77) (.t 82) (.c (.bool false))),
   I 84 (.mov (.t 83)),
   IG (some 85) (84, true) (.mov (.t 11)),
   IG (some 86) (84, true) (.nilChk (.t 85)),
   IG (some 87) (84, true) (.fieldAddr 8 (.t 86)),
   IG (some 88) (84, true) (.load none (.t 87)),
   IG (some 89) (84, true) (.bin .eql (.t 88) (.c (.int .u32 2))),
   I 90 (.pick (.t 84) (.t 89) (.c (.bool false))),
   I 91 (.mov (.t 90)),
   IG (some 92) (91, true) (.mov (.t 4)),
   IG (some 93) (91, true) (.callQ 25 [(.t 92)]),
   IG (some 94) (91, true) (.bin .geq (.t 93) (.c (.int .i64 3))),
   I 95 (.pick (.t 91) (.t 94) (.c (.bool false))),
   I 0 (.mov (.t 95))] [0]) (
 .ret)))))))))))))⟩

/- sakia/conf.Check -/
def c35 : AFn := ⟨1, [.tmp 2], (
 .seq (
 .reg [
   I 1 (.box (.t 0)),
   I 2 (.mov (.c (.int .i64 0)))] [1]) (
 .seq (
 .block 0 (
  .seq (
  .reg [
    I 5 (.fieldAddr 0 (.t 1)),
    I 6 (.load none (.t 5)),
    I 7 (.bin .lss (.t 6) (.c (.int .i64 1))),
    I 8 (.mov (.t 7)),
    IG (some 9) (8, false) (.fieldAddr 0 (.t 1)),
    IG (some 10) (8, false) (.load none (.t 9)),
    IG (some 11) (8, false) (.bin .gtr (.t 10) (.c (.int .i64 5))),
    I 12 (.pick (.t 8) (.c (.bool true)) (.t 11)),
    I 4 (.mov (.t 12))] [1, 4]) (
  .cond (.t 4) (
   .seq (
   .reg [
     I 2 (.mov (.c (.int .i64 2)))] [2]) (
   .ret)) (
   .seq (
   .reg [
     I 14 (.fieldAddr 1 (.t 1)),
     I 15 (.load none (.t 14)),
     I 16 (.callE 1 64 [(.t 15)]),
     I 17 (.un .not (.t 16)),
     I 13 (.mov (.t 17))] [1, 13]) (
   .cond (.t 13) (
    .seq (
    .reg [
      I 2 (.mov (.c (.int .i64 3)))] [2]) (
    .ret)) (
    .seq (
    .reg [
      I 19 (.fieldAddr 2 (.t 1)),
      I 20 (.load none (.t 19)),
      I 21 (.callE 1 65 [(.t 20)]),
      I 22 (.un .not (.t 21)),
      I 18 (.mov (.t 22))] [1, 18]) (
    .cond (.t 18) (
     .seq (
     .reg [
       I 2 (.mov (.c (.int .i64 4)))] [2]) (
     .ret)) (
     .seq (
     .seq (
     .reg [
       I 24 (.fieldAddr 3 (.t 1)),
       I 25 (.load none (.t 24)),
       I 26 (.bin .lss (.t 25) (.c (.int .i64 1))),
       I 27 (.mov (.t 26)),
       IG (some 28) (27, false) (.fieldAddr 3 (.t 1)),
       IG (some 29) (27, false) (.load none (.t 28)),
       IG (some 30) (27, false) (.bin .gtr (.t 29) (.c (.int .i64 4))),
       I 31 (.pick (.t 27) (.c (.bool true)) (.t 30)),
       I 23 (.mov (.t 31))] [1, 23]) (
     .cond (.t 23) (
      .skip) (
      .reg [
        I 32 (.fieldAddr 0 (.t 1)),
        I 33 (.load none (.t 32)),
        I 34 (.bin .eql (.t 33) (.c (.int .i64 1))),
        I 35 (.mov (.t 34)),
        IG (some 36) (35, true) (.fieldAddr 3 (.t 1)),
        IG (some 37) (35, true) (.load none (.t 36)),
        IG (some 38) (35, true) (.bin .gtr (.t 37) (.c (.int .i64 1))),
        I 39 (.pick (.t 35) (.t 38) (.c (.bool false))),
        I 23 (.mov (.t 39))] [1, 23]))) (
     .cond (.t 23) (
      .seq (
      .reg [
        I 2 (.mov (.c (.int .i64 5)))] [2]) (
      .ret)) (
      .skip)))))))))) (
 .seq (
 .seq (
 .reg [
   I 40 (.fieldAddr 5 (.t 1)),
   I 41 (.load none (.t 40)),
   I 42 (.callQ 66 [(.t 41)]),
   I 3 (.mov (.t 42))] [1, 3]) (
 .seq (
 .reg [
   I 43 (.mov (.t 3)),
   I 44 (.bin .neq (.t 43) (.c (.int .i64 0)))] [1, 3, 44]) (
 .cond (.t 44) (
  .seq (
  .reg [
    I 45 (.mov (.t 3)),
    I 2 (.mov (.t 45))] [2]) (
  .ret)) (
  .skip)))) (
 .seq (
 .block 1 (
  .seq (
  .reg [
    I 47 (.load (some 6) (.t 1)),
    I 48 (.callQ 67 [(.t 47)]),
    I 46 (.mov (.t 48))] [1, 46]) (
  .cond (.t 46) (
   .seq (
   .reg [
     I 2 (.mov (.c (.int .i64 9)))] [2]) (
   .ret)) (
   .seq (
   .reg [
     I 50 (.fieldAddr 2 (.t 1)),
     I 51 (.load none (.t 50)),
     I 52 (.bin .gtr (.t 51) (.c (.int .i64 64))),
     I 49 (.mov (.t 52))] [49]) (
   .cond (.t 49) (
    .seq (
    .reg [
      I 2 (.mov (.c (.int .i64 10)))] [2]) (
    .ret)) (
    .skip)))))) (
 .seq (
 .reg [
   I 2 (.mov (.c (.int .i64 0)))] [2]) (
 .ret))))))⟩

/- sakia/graph.Copy -/
def c36 : AFn := ⟨1, [.tmp 2], (
 .seq (
 .reg [
   I 2 (.mov (.c (.slice none 0 0)))] [0]) (
 .seq (
 .reg [
   I 3 (.mov (.c (.slice none 0 0)))] [0, 3]) (
 .seq (
 .seq (
 .reg [
   I 6 (.mov (.t 0)),
   I 7 (.len false (.t 6)),
   I 8 (.mov (.c (.int .i64 0)))] [3, 6, 7, 8]) (
 .block 0 (
  .loop (
   .seq (
   .reg [
     I 9 (.bin .lss (.t 8) (.t 7))] [3, 6, 7, 8, 9]) (
   .seq (
   .cond (.t 9) (
    .skip) (
    .exit 0)) (
   .seq (
   .block 1 (
    .seq (
    .reg [
      I 10 (.indexAddr none 1 (.t 6) (.t 8)),
      I 11 (.load none (.t 10)),
      I 5 (.mov (.t 11))] [3, 5, 6, 7, 8]) (
    .reg [
      I 12 (.mov (.t 3)),
      I 13 (.buildSlice 1 #[.int .i64 0] 0 []),
      I 14 (.mov (.t 5)),
      I 15 (.append 1 8 (.t 13) (.t 14)),
      I 16 (.buildSlice 1 #[.slice none 0 0] 1 [(0, (.t 15))]),
      I 17 (.append 1 24 (.t 12) (.t 16)),
      I 3 (.mov (.t 17))] [3, 6, 7, 8]))) (
   .reg [
     I 18 (.bin .add (.t 8) (.c (.int .i64 1))),
     I 8 (.mov (.t 18))] [3, 6, 7, 8]))))))) (
 .seq (
 .reg [
   I 19 (.mov (.t 3)),
   I 2 (.mov (.t 19))] [2]) (
 .ret)))))⟩

/- sakia/wide.Bits[uint32] -/
def c37 : AFn := ⟨0, [.tmp 0], (
 .seq (
 .reg [
   I 0 (.mov (.c (.int .i64 0)))] []) (
 .seq (
 .seq (
 .reg [
   I 1 (.conv .u32 (.c (.int .i64 1))),
   I 2 (.bin .shl (.t 1) (.c (.int .u64 31))),
   I 3 (.bin .shl (.t 2) (.c (.int .u64 1))),
   I 4 (.bin .eql (.t 3) (.c (.int .u32 0)))] [4]) (
 .cond (.t 4) (
  .seq (
  .reg [
    I 0 (.mov (.c (.int .i64 32)))] [0]) (
  .ret)) (
  .skip))) (
 .seq (
 .reg [
   I 0 (.mov (.c (.int .i64 64)))] [0]) (
 .ret))))⟩

/- (sakia/layout.Layout).First -/
def c38 : AFn := ⟨2, [.tmp 4], (
 .seq (
 .reg [
   I 2 (.box (.t 0)),
   I 4 (.mov (.c (.int .u64 0)))] [1, 2]) (
 .seq (
 .seq (
 .reg [
   I 8 (.load (some 14) (.t 2)),
   I 9 (.mov (.t 1)),
   I 10 (.callQ 68 [(.t 8), (.t 9)]),
   I 11 (.un .not (.t 10)),
   I 12 (.mov (.t 11)),
   IG (some 13) (12, false) (.mov (.t 1)),
   IG (some 14) (12, false) (.fieldAddr 12 (.t 2)),
   IG (some 15) (12, false) (.load none (.t 14)),
   IG (some 16) (12, false) (.bin .geq (.t 13) (.t 15)),
   I 17 (.pick (.t 12) (.c (.bool true)) (.t 16)),
   I 18 (.mov (.t 17)),
   IG (some 19) (18, false) (.mov (.t 1)),
   IG (some 20) (18, false) (.fieldAddr 8 (.t 2)),
   IG (some 21) (18, false) (.load none (.t 20)),
   IG (some 22) (18, false) (.bin .eql (.t 19) (.t 21)),
   I 23 (.pick (.t 18) (.c (.bool true)) (.t 22)),
   I 24 (.mov (.t 23)),
   IG (some 25) (24, false) (.mov (.t 1)),
   IG (some 26) (24, false) (.fieldAddr 9 (.t 2)),
   IG (some 27) (24, false) (.load none (.t 26)),
   IG (some 28) (24, false) (.bin .eql (.t 25) (.t 27)),
   I 29 (.pick (.t 24) (.c (.bool true)) (.t 28))] [1, 2, 29]) (
 .cond (.t 29) (
  .seq (
  .reg [
    I 4 (.mov (.c (.int .u64 0)))] [4]) (
  .ret)) (
  .skip))) (
 .seq (
 .reg [
   I 30 (.fieldAddr 0 (.t 2)),
   I 31 (.load (some 6) (.t 30)),
   I 32 (.callQ 40 [(.t 31)]),
   I 5 (.mov (.t 32))] [1, 2, 5]) (
 .seq (
 .reg [
   I 34 (.load (some 14) (.t 2)),
   I 35 (.mov (.t 1)),
   I 36 (.callQ 69 [(.t 34), (.t 35)]),
   I 33 (.mov (.t 36)),
   I 37 (.extract (.t 33) 0),
   I 38 (.extract (.t 33) 1),
   I 6 (.mov (.t 37)),
   I 7 (.mov (.t 38))] [2, 5, 6, 7]) (
 .seq (
 .block 0 (
  .seq (
  .reg [
    I 40 (.mov (.t 7)),
    I 41 (.un .not (.t 40)),
    I 39 (.mov (.t 41))] [2, 5, 6, 39]) (
  .cond (.t 39) (
   .seq (
   .reg [
     I 42 (.mov (.t 5)),
     I 4 (.mov (.t 42))] [4]) (
   .ret)) (
   .seq (
   .reg [
     I 44 (.fieldAddr 0 (.t 2)),
     I 45 (.fieldAddr 1 (.t 44)),
     I 46 (.load none (.t 45)),
     I 47 (.bin .eql (.t 46) (.c (.int .i64 32))),
     I 48 (.mov (.t 47)),
     IG (some 49) (48, true) (.fieldAddr 0 (.t 2)),
     IG (some 50) (48, true) (.fieldAddr 0 (.t 49)),
     IG (some 51) (48, true) (.load none (.t 50)),
     IG (some 52) (48, true) (.bin .eql (.t 51) (.c (.int .i64 4))),
     I 53 (.pick (.t 48) (.t 52) (.c (.bool false))),
     I 43 (.mov (.t 53))] [2, 5, 6, 43]) (
   .cond (.t 43) (
    .seq (
    .reg [
      I 54 (.fieldAddr 0 (.t 2)),
      I 55 (.fieldAddr 2 (.t 54)),
      I 56 (.load none (.t 55)),
      I 57 (.mov (.t 6)),
      I 58 (.mov (.t 5)),
      I 59 (.conv .u32 (.t 58)),
      I 60 (.callE 1 70 [(.t 56), (.t 57), (.t 59)]),
      I 61 (.conv .u64 (.t 60)),
      I 4 (.mov (.t 61))] [4]) (
    .ret)) (
    .seq (
    .reg [
      I 63 (.fieldAddr 0 (.t 2)),
      I 64 (.fieldAddr 1 (.t 63)),
      I 65 (.load none (.t 64)),
      I 66 (.bin .eql (.t 65) (.c (.int .i64 32))),
      I 62 (.mov (.t 66))] [2, 5, 6, 62]) (
    .cond (.t 62) (
     .seq (
     .reg [
       I 67 (.fieldAddr 0 (.t 2)),
       I 68 (.fieldAddr 2 (.t 67)),
       I 69 (.load none (.t 68)),
       I 70 (.mov (.t 6)),
       I 71 (.mov (.t 5)),
       I 72 (.conv .u32 (.t 71)),
       I 73 (.callE 1 71 [(.t 69), (.t 70), (.t 72)]),
       I 74 (.conv .u64 (.t 73)),
       I 4 (.mov (.t 74))] [4]) (
     .ret)) (
     .seq (
     .reg [
       I 76 (.fieldAddr 0 (.t 2)),
       I 77 (.fieldAddr 0 (.t 76)),
       I 78 (.load none (.t 77)),
       I 79 (.bin .eql (.t 78) (.c (.int .i64 4))),
       I 75 (.mov (.t 79))] [2, 5, 6, 75]) (
     .cond (.t 75) (
      .seq (
      .reg [
        I 80 (.fieldAddr 0 (.t 2)),
        I 81 (.fieldAddr 2 (.t 80)),
        I 82 (.load none (.t 81)),
        I 83 (.mov (.t 6)),
        I 84 (.mov (.t 5)),
        I 85 (.callE 1 72 [(.t 82), (.t 83), (.t 84)]),
        I 4 (.mov (.t 85))] [4]) (
      .ret)) (
      .skip)))))))))) (
 .seq (
 .reg [
   I 86 (.fieldAddr 0 (.t 2)),
   I 87 (.fieldAddr 2 (.t 86)),
   I 88 (.load none (.t 87)),
   I 89 (.mov (.t 6)),
   I 90 (.mov (.t 5)),
   I 91 (.callE 1 73 [(.t 88), (.t 89), (.t 90)]),
   I 4 (.mov (.t 91))] [4]) (
 .ret)))))))⟩

/- (*sakia/board.Board[uint32]).Layout -/
def c39 : AFn := ⟨1, [.cell 2 (some 14)], (
 .seq (
 .reg [
   I 2 (.alloc [.int .i64 0, .int .i64 0, .int .i64 0, .int .i64 0, .int .u64 0, .slice none 0 0, .int .i64 0, .int .i64 0, .int .i64 0, .int .i64 0, .int .i64 0, .int .i64 0, .int .i64 0, .int .i64 0])] [0, 2]) (
 .seq (
 .seq (
 .reg [
   I 3 (.mov (.t 0)),
   I 4 (.isNil .ptr false (.t 3))] [0, 2, 4]) (
 .cond (.t 4) (
  .seq (
  .reg [
    I 5 (.build #[.int .i64 0, .int .i64 0, .int .i64 0, .int .i64 0, .int .u64 0, .slice none 0 0, .int .i64 0, .int .i64 0, .int .i64 0, .int .i64 0, .int .i64 0, .int .i64 0, .int .i64 0, .int .i64 0] []),
    I0 (.store 14 (.t 2) (.t 5))] [2]) (
  .ret)) (
  .skip))) (
 .seq (
 .reg [
   I 6 (.mov (.t 0)),
   I 7 (.nilChk (.t 6)),
   I 8 (.fieldAddr 0 (.t 7)),
   I 9 (.load (some 14) (.t 8)),
   I0 (.store 14 (.t 2) (.t 9))] [2]) (
 .ret))))⟩

/- sakia/conf.Start -/
def c40 : AFn := ⟨1, [.tmp 2], (
 .seq (
 .reg [
   I 1 (.box (.t 0)),
   I 2 (.mov (.c (.int .u64 0)))] [1]) (
 .seq (
 .seq (
 .reg [
   I 3 (.load (some 6) (.t 1)),
   I 4 (.callQ 35 [(.t 3)]),
   I 5 (.bin .neq (.t 4) (.c (.int .i64 0)))] [1, 5]) (
 .cond (.t 5) (
  .seq (
  .reg [
    I 2 (.mov (.c (.int .u64 0)))] [2]) (
  .ret)) (
  .skip))) (
 .seq (
 .reg [
   I 6 (.fieldAddr 1 (.t 1)),
   I 7 (.load none (.t 6)),
   I 8 (.fieldAddr 4 (.t 1)),
   I 9 (.load none (.t 8)),
   I 10 (.callE 1 74 [(.t 7), (.t 9)]),
   I 2 (.mov (.t 10))] [2]) (
 .ret))))⟩

/- (sakia/layout.Layout).Kind -/
def c41 : AFn := ⟨2, [.tmp 4], (
 .seq (
 .reg [
   I 2 (.box (.t 0)),
   I 4 (.mov (.c (.int .i64 0)))] [1, 2]) (
 .seq (
 .block 0 (
  .seq (
  .reg [
    I 6 (.load (some 14) (.t 2)),
    I 7 (.mov (.t 1)),
    I 8 (.callQ 68 [(.t 6), (.t 7)]),
    I 9 (.un .not (.t 8)),
    I 5 (.mov (.t 9))] [1, 2, 5]) (
  .cond (.t 5) (
   .seq (
   .reg [
     I 4 (.mov (.c (.int .i64 0)))] [4]) (
   .ret)) (
   .seq (
   .reg [
     I 11 (.mov (.t 1)),
     I 12 (.fieldAddr 12 (.t 2)),
     I 13 (.load none (.t 12)),
     I 14 (.bin .geq (.t 11) (.t 13)),
     I 10 (.mov (.t 14))] [1, 2, 10]) (
   .cond (.t 10) (
    .seq (
    .reg [
      I 4 (.mov (.c (.int .i64 3)))] [4]) (
    .ret)) (
    .seq (
    .reg [
      I 16 (.fieldAddr 10 (.t 2)),
      I 17 (.load none (.t 16)),
      I 18 (.bin .geq (.t 17) (.c (.int .i64 0))),
      I 19 (.mov (.t 18)),
      IG (some 20) (19, true) (.mov (.t 1)),
      IG (some 21) (19, true) (.fieldAddr 10 (.t 2)),
      IG (some 22) (19, true) (.load none (.t 21)),
      IG (some 23) (19, true) (.bin .geq (.t 20) (.t 22)),
      I 24 (.pick (.t 19) (.t 23) (.c (.bool false))),
      I 15 (.mov (.t 24))] [15]) (
    .cond (.t 15) (
     .seq (
     .reg [
       I 4 (.mov (.c (.int .i64 2)))] [4]) (
     .ret)) (
     .skip)))))))) (
 .seq (
 .reg [
   I 4 (.mov (.c (.int .i64 1)))] [4]) (
 .ret))))⟩

/- sakia/wide.Up[uint32] -/
def c42 : AFn := ⟨1, [.tmp 2], (
 .seq (
 .reg [
   I 2 (.mov (.c (.int .u64 0)))] [0]) (
 .seq (
 .reg [
   I 3 (.mov (.t 0)),
   I 4 (.conv .u64 (.t 3)),
   I 2 (.mov (.t 4))] [2]) (
 .ret)))⟩

/- (*sakia/board.Board[uint32]).is -/
def c43 : AFn := ⟨3, [.tmp 6], (
 .seq (
 .reg [
   I 6 (.mov (.c (.bool false)))] [0, 1, 2]) (
 .seq (
 .reg [
   I 7 (.mov (.t 0)),
   I 8 (.isNil .ptr true (.t 7)),
   I 9 (.mov (.t 8)),
   IG (some 10) (9, true) (.mov (.t 0)),
   IG (some 11) (9, true) (.nilChk (.t 10)),
   IG (some 12) (9, true) (.fieldAddr 0 (.t 11)),
   IG (some 13) (9, true) (.load (some 14) (.t 12)),
   IG (some 14) (9, true) (.mov (.t 1)),
   IG (some 15) (9, true) (.callQ 41 [(.t 13), (.t 14)]),
   IG (some 16) (9, true) (.mov (.t 2)),
   IG (some 17) (9, true) (.bin .eql (.t 15) (.t 16)),
   I 18 (.pick (.t 9) (.t 17) (.c (.bool false))),
   I 6 (.mov (.t 18))] [6]) (
 .ret)))⟩

/- (*sakia/board.Board[uint32]).lay -/
def c44 : AFn := ⟨5, [.tmp 10], (
 .seq (
 .reg [
   I 10 (.mov (.c (.int .u32 0)))] [0, 1, 2, 3, 4]) (
 .seq (
 .reg [
   I 12 (.mov (.t 0)),
   I 13 (.nilChk (.t 12)),
   I 14 (.fieldAddr 14 (.t 13)),
   I 15 (.load none (.t 14)),
   I 16 (.mov (.t 3)),
   I 17 (.indexAddr none 1 (.t 15) (.t 16)),
   I 18 (.load none (.t 17)),
   I 11 (.mov (.t 18))] [0, 1, 2, 3, 4, 11]) (
 .seq (
 .reg [
   I 19 (.mov (.t 0)),
   I 20 (.mov (.t 1)),
   I 21 (.mov (.t 2)),
   I 22 (.mov (.t 3)),
   I 23 (.mov (.t 11)),
   I 24 (.callE 1 42 [(.t 23)]),
   I 25 (.mov (.t 4)),
   I 26 (.callE 1 42 [(.t 25)]),
   I 27 (.call 75 [(.t 19), (.t 20), (.t 21), (.t 22), (.t 24), (.t 26)])] [0, 3, 4, 11]) (
 .seq (
 .reg [
   I 28 (.mov (.t 0)),
   I 29 (.nilChk (.t 28)),
   I 30 (.fieldAddr 14 (.t 29)),
   I 31 (.load none (.t 30)),
   I 32 (.mov (.t 3)),
   I 33 (.mov (.t 4)),
   I 34 (.indexAddr none 1 (.t 31) (.t 32)),
   I0 (.store 1 (.t 34) (.t 33))] [11]) (
 .seq (
 .reg [
   I 35 (.mov (.t 11)),
   I 10 (.mov (.t 35))] [10]) (
 .ret))))))⟩

/- sakia/wide.signed[uint32] -/
def c45 : AFn := ⟨1, [.tmp 2], (
 .seq (
 .reg [
   I 2 (.mov (.c (.int .i64 0)))] [0]) (
 .seq (
 .seq (
 .reg [
   I 3 (.callE 1 37 []),
   I 4 (.bin .eql (.t 3) (.c (.int .i64 32)))] [0, 4]) (
 .cond (.t 4) (
  .seq (
  .reg [
    I 5 (.mov (.t 0)),
    I 6 (.conv .i32 (.t 5)),
    I 7 (.conv .i64 (.t 6)),
    I 2 (.mov (.t 7))] [2]) (
  .ret)) (
  .skip))) (
 .seq (
 .reg [
   I 8 (.mov (.t 0)),
   I 9 (.conv .i64 (.t 8)),
   I 2 (.mov (.t 9))] [2]) (
 .ret))))⟩

/- sakia/mark.Seek[uint32] -/
def c46 : AFn := ⟨3, [.tmp 6], (
 .seq (
 .reg [
   I 6 (.mov (.c (.bool false)))] [0, 1, 2]) (
 .seq (
 .seq (
 .reg [
   I 7 (.mov (.t 0)),
   I 8 (.callQ 76 [(.t 7)]),
   I 9 (.un .not (.t 8)),
   I 10 (.mov (.t 9)),
   IG (some 11) (10, false) (.mov (.t 2)),
   IG (some 12) (10, false) (.isNil .ptr false (.t 11)),
   I 13 (.pick (.t 10) (.c (.bool true)) (.t 12)),
   I 14 (.mov (.t 13)),
   IG (some 15) (14, false) (.mov (.t 0)),
   IG (some 16) (14, false) (.mov (.t 1)),
   IG (some 17) (14, false) (.mov (.t 2)),
   IG (some 18) (14, false) (.nilChk (.t 17)),
   IG (some 19) (14, false) (.fieldAddr 8 (.t 18)),
   IG (some 20) (14, false) (.load none (.t 19)),
   IG (some 21) (14, false) (.call 77 [(.t 15), (.t 16), (.t 20)]),
   IG (some 22) (14, false) (.un .not (.t 21)),
   I 23 (.pick (.t 14) (.c (.bool true)) (.t 22))] [2, 23]) (
 .cond (.t 23) (
  .seq (
  .reg [
    I 6 (.mov (.c (.bool true)))] [6]) (
  .ret)) (
  .skip))) (
 .seq (
 .reg [
   I 24 (.mov (.t 2)),
   I 25 (.mov (.t 2)),
   I 26 (.nilChk (.t 25)),
   I 27 (.fieldAddr 8 (.t 26)),
   I 28 (.load none (.t 27)),
   I 29 (.callE 1 15 [(.t 28), (.c (.int .i64 1))]),
   I 30 (.nilChk (.t 24)),
   I 31 (.fieldAddr 8 (.t 30)),
   I0 (.store 1 (.t 31) (.t 29))] []) (
 .seq (
 .reg [
   I 6 (.mov (.c (.bool false)))] [6]) (
 .ret)))))⟩

/- (*sakia/board.Board[uint32]).Load -/
def c48 : AFn := ⟨3, [.tmp 6], (
 .seq (
 .reg [
   I 6 (.mov (.c (.int .u32 0)))] [0, 1, 2]) (
 .seq (
 .seq (
 .reg [
   I 7 (.mov (.t 0)),
   I 8 (.mov (.t 2)),
   I 9 (.callQ 43 [(.t 7), (.t 8), (.c (.int .i64 1))]),
   I 10 (.un .not (.t 9))] [0, 1, 2, 10]) (
 .cond (.t 10) (
  .seq (
  .reg [
    I 6 (.mov (.c (.int .u32 0)))] [6]) (
  .ret)) (
  .skip))) (
 .seq (
 .reg [
   I 11 (.mov (.t 0)),
   I 12 (.mov (.t 1)),
   I 13 (.mov (.t 2)),
   I 14 (.call 78 [(.t 11), (.t 12), (.c (.int .i64 1)), (.t 13)]),
   I 6 (.mov (.t 14))] [6]) (
 .ret))))⟩

/- sakia/gate.Scan[uint32] -/
def c50 : AFn := ⟨4, [.tmp 8], (
 .seq (
 .reg [
   I 8 (.mov (.c (.bool false)))] [0, 1, 2, 3]) (
 .seq (
 .seq (
 .reg [
   I 10 (.mov (.t 0)),
   I 11 (.isNil .ptr false (.t 10)),
   I 12 (.mov (.t 11)),
   IG (some 13) (12, false) (.mov (.t 3)),
   IG (some 14) (12, false) (.isNil .ptr false (.t 13)),
   I 15 (.pick (.t 12) (.c (.bool true)) (.t 14))] [0, 1, 2, 3, 15]) (
 .cond (.t 15) (
  .seq (
  .reg [
    I 8 (.mov (.c (.bool true)))] [8]) (
  .ret)) (
  .skip))) (
 .seq (
 .seq (
 .reg [
   I 16 (.mov (.t 3)),
   I 17 (.nilChk (.t 16)),
   I 18 (.fieldAddr 4 (.t 17)),
   I 19 (.load none (.t 18)),
   I 20 (.bin .lss (.t 19) (.c (.int .i64 0))),
   I 21 (.mov (.t 20)),
   IG (some 22) (21, false) (.mov (.t 3)),
   IG (some 23) (21, false) (.nilChk (.t 22)),
   IG (some 24) (21, false) (.fieldAddr 4 (.t 23)),
   IG (some 25) (21, false) (.load none (.t 24)),
   IG (some 26) (21, false) (.mov (.t 2)),
   IG (some 27) (21, false) (.len false (.t 26)),
   IG (some 28) (21, false) (.bin .geq (.t 25) (.t 27)),
   I 29 (.pick (.t 21) (.c (.bool true)) (.t 28))] [0, 1, 2, 3, 29]) (
 .cond (.t 29) (
  .seq (
  .reg [
    I 30 (.mov (.t 3)),
    I 31 (.nilChk (.t 30)),
    I 32 (.fieldAddr 4 (.t 31)),
    I0 (.store 1 (.t 32) (.c (.int .i64 0)))] []) (
  .seq (
  .reg [
    I 8 (.mov (.c (.bool true)))] [8]) (
  .ret))) (
  .skip))) (
 .seq (
 .reg [
   I 33 (.mov (.t 0)),
   I 34 (.mov (.t 1)),
   I 35 (.mov (.t 2)),
   I 36 (.mov (.t 3)),
   I 37 (.nilChk (.t 36)),
   I 38 (.fieldAddr 4 (.t 37)),
   I 39 (.load none (.t 38)),
   I 40 (.indexAddr none 1 (.t 35) (.t 39)),
   I 41 (.load none (.t 40)),
   I 42 (.call 48 [(.t 33), (.t 34), (.t 41)]),
   I 9 (.mov (.t 42))] [2, 3, 9]) (
 .seq (
 .seq (
 .reg [
   I 43 (.mov (.t 3)),
   I 44 (.nilChk (.t 43)),
   I 45 (.fieldAddr 4 (.t 44)),
   I 46 (.load none (.t 45)),
   I 47 (.bin .eql (.t 46) (.c (.int .i64 0))),
   I 48 (.mov (.t 47)),
   IG (some 49) (48, false) (.mov (.t 9)),
   IG (some 50) (48, false) (.mov (.t 3)),
   IG (some 51) (48, false) (.nilChk (.t 50)),
   IG (some 52) (48, false) (.fieldAddr 7 (.t 51)),
   IG (some 53) (48, false) (.load none (.t 52)),
   IG (some 54) (48, false) (.callE 1 18 [(.t 49), (.t 53)]),
   I 55 (.pick (.t 48) (.c (.bool true)) (.t 54))] [2, 3, 9, 55]) (
 .cond (.t 55) (
  .reg [
    I 56 (.mov (.t 3)),
    I 57 (.mov (.t 9)),
    I 58 (.nilChk (.t 56)),
    I 59 (.fieldAddr 7 (.t 58)),
    I0 (.store 1 (.t 59) (.t 57))] [2, 3]) (
  .skip))) (
 .seq (
 .reg [
   I 60 (.mov (.t 3)),
   I 61 (.nilChk (.t 60)),
   I 62 (.fieldAddr 4 (.t 61)),
   I 63 (.load none (.t 62)),
   I 64 (.bin .add (.t 63) (.c (.int .i64 1))),
   I 65 (.nilChk (.t 60)),
   I 66 (.fieldAddr 4 (.t 65)),
   I0 (.store 1 (.t 66) (.t 64))] [2, 3]) (
 .seq (
 .seq (
 .reg [
   I 67 (.mov (.t 3)),
   I 68 (.nilChk (.t 67)),
   I 69 (.fieldAddr 4 (.t 68)),
   I 70 (.load none (.t 69)),
   I 71 (.mov (.t 2)),
   I 72 (.len false (.t 71)),
   I 73 (.bin .lss (.t 70) (.t 72))] [3, 73]) (
 .cond (.t 73) (
  .seq (
  .reg [
    I 8 (.mov (.c (.bool false)))] [8]) (
  .ret)) (
  .skip))) (
 .seq (
 .reg [
   I 74 (.mov (.t 3)),
   I 75 (.nilChk (.t 74)),
   I 76 (.fieldAddr 4 (.t 75)),
   I0 (.store 1 (.t 76) (.c (.int .i64 0)))] []) (
 .seq (
 .reg [
   I 8 (.mov (.c (.bool true)))] [8]) (
 .ret))))))))))⟩

/- (*sakia/event.Log).Note -/
def c52 : AFn := ⟨2, [], (
 .seq (
 .reg [
   I 3 (.box (.t 1))] [0, 3]) (
 .seq (
 .reg [
   I 4 (.mov (.t 0)),
   I 5 (.isNil .ptr true (.t 4))] [0, 3, 5]) (
 .cond (.t 5) (
  .regd [0, 1, 2, 3, 4, 5, 6, 7, 8, 9, 10, 11] [
    I 6 (.mov (.t 0)),
    I 7 (.mov (.t 0)),
    I 8 (.nilChk (.t 7)),
    I 9 (.fieldAddr 0 (.t 8)),
    I 10 (.load none (.t 9)),
    I 11 (.load (some 7) (.t 3)),
    I 12 (.hold [(none, (.t 9))] (.call 79 [(.t 11)])),
    I 13 (.buildSlice 7 #[.int .i64 0, .int .i64 0, .int .i64 0, .int .i64 0, .int .u64 0, .int .i64 0, .slice none 0 0] 1 [(0, (.t 12))]),
    I 14 (.append 7 72 (.t 10) (.t 13)),
    I 15 (.nilChk (.t 6)),
    I 16 (.fieldAddr 0 (.t 15)),
    I0 (.store 1 (.t 16) (.t 14))] []) (
  .skip))))⟩

/- sakia/gate.gates -/
def c54 : AFn := ⟨2, [.tmp 4], (
 .seq (
 .reg [
   I 2 (.box (.t 0)),
   I 4 (.mov (.c (.slice none 0 0)))] [1, 2]) (
 .seq (
 .reg [
   I 5 (.mov (.c (.slice none 0 0)))] [1, 2, 5]) (
 .seq (
 .seq (
 .reg [
   I 8 (.mov (.t 1)),
   I 9 (.len false (.t 8)),
   I 10 (.mov (.c (.int .i64 0)))] [2, 5, 8, 9, 10]) (
 .block 0 (
  .loop (
   .seq (
   .reg [
     I 11 (.bin .lss (.t 10) (.t 9))] [2, 5, 8, 9, 10, 11]) (
   .seq (
   .cond (.t 11) (
    .skip) (
    .exit 0)) (
   .seq (
   .block 1 (
    .seq (
    .reg [
      I 12 (.indexAddr none 1 (.t 8) (.t 10)),
      I 13 (.load none (.t 12)),
      I 7 (.mov (.t 13))] [2, 5, 7, 8, 9, 10]) (
    .reg [
      I 14 (.mov (.t 5)),
      I 15 (.load (some 14) (.t 2)),
      I 16 (.mov (.t 7)),
      I 17 (.callQ 80 [(.t 15), (.t 16)]),
      I 18 (.buildSlice 1 #[.int .i64 0] 1 [(0, (.t 17))]),
      I 19 (.append 1 8 (.t 14) (.t 18)),
      I 5 (.mov (.t 19))] [2, 5, 8, 9, 10]))) (
   .reg [
     I 20 (.bin .add (.t 10) (.c (.int .i64 1))),
     I 10 (.mov (.t 20))] [2, 5, 8, 9, 10]))))))) (
 .seq (
 .reg [
   I 21 (.mov (.t 5)),
   I 4 (.mov (.t 21))] [4]) (
 .ret)))))⟩

/- sakia/graph.Ends -/
def c55 : AFn := ⟨1, [.tmp 2], (
 .seq (
 .reg [
   I 2 (.mov (.c (.slice none 0 0)))] [0]) (
 .seq (
 .seq (
 .reg [
   I 8 (.mov (.t 0)),
   I 9 (.callQ 66 [(.t 8)]),
   I 10 (.bin .neq (.t 9) (.c (.int .i64 0)))] [0, 10]) (
 .cond (.t 10) (
  .seq (
  .reg [
    I 2 (.mov (.c (.slice none 0 0)))] [2]) (
  .ret)) (
  .skip))) (
 .seq (
 .reg [
   I 11 (.mov (.t 0)),
   I 12 (.len false (.t 11)),
   I 13 (.callE 1 81 [(.t 12)]),
   I 3 (.mov (.t 13))] [0, 3]) (
 .seq (
 .seq (
 .reg [
   I 14 (.mov (.t 0)),
   I 15 (.len false (.t 14)),
   I 16 (.mov (.c (.int .i64 0)))] [3, 14, 15, 16]) (
 .block 0 (
  .loop (
   .seq (
   .reg [
     I 17 (.bin .lss (.t 16) (.t 15))] [3, 14, 15, 16, 17]) (
   .seq (
   .cond (.t 17) (
    .skip) (
    .exit 0)) (
   .seq (
   .block 1 (
    .seq (
    .reg [
      I 18 (.indexAddr none 1 (.t 14) (.t 16)),
      I 19 (.load none (.t 18)),
      I 5 (.mov (.t 19))] [3, 5, 14, 15, 16]) (
    .seq (
    .reg [
      I 20 (.mov (.t 5)),
      I 21 (.len false (.t 20)),
      I 22 (.mov (.c (.int .i64 0)))] [3, 14, 15, 16, 20, 21, 22]) (
    .block 2 (
     .loop (
      .seq (
      .reg [
        I 23 (.bin .lss (.t 22) (.t 21))] [3, 14, 15, 16, 20, 21, 22, 23]) (
      .seq (
      .cond (.t 23) (
       .skip) (
       .exit 2)) (
      .seq (
      .block 3 (
       .seq (
       .reg [
         I 24 (.indexAddr none 1 (.t 20) (.t 22)),
         I 25 (.load none (.t 24)),
         I 7 (.mov (.t 25))] [3, 7, 14, 15, 16, 20, 21, 22]) (
       .reg [
         I 26 (.mov (.t 3)),
         I 27 (.mov (.t 7)),
         I 28 (.callE 1 82 [(.t 26), (.t 27)]),
         I 3 (.mov (.t 28))] [3, 14, 15, 16, 20, 21, 22]))) (
      .reg [
        I 29 (.bin .add (.t 22) (.c (.int .i64 1))),
        I 22 (.mov (.t 29))] [3, 14, 15, 16, 20, 21, 22]))))))))) (
   .reg [
     I 30 (.bin .add (.t 16) (.c (.int .i64 1))),
     I 16 (.mov (.t 30))] [3, 14, 15, 16]))))))) (
 .seq (
 .reg [
   I 31 (.mov (.t 3)),
   I 32 (.call 83 [(.t 31)]),
   I 2 (.mov (.t 32))] [2]) (
 .ret))))))⟩

/- sakia/mark.Publish[uint32] -/
def c56 : AFn := ⟨3, [.tmp 6], (
 .seq (
 .reg [
   I 6 (.mov (.c (.bool false)))] [0, 1, 2]) (
 .seq (
 .seq (
 .reg [
   I 7 (.mov (.t 0)),
   I 8 (.callQ 76 [(.t 7)]),
   I 9 (.un .not (.t 8)),
   I 10 (.mov (.t 9)),
   IG (some 11) (10, false) (.mov (.t 2)),
   IG (some 12) (10, false) (.isNil .ptr false (.t 11)),
   I 13 (.pick (.t 10) (.c (.bool true)) (.t 12))] [0, 1, 2, 13]) (
 .cond (.t 13) (
  .seq (
  .reg [
    I 6 (.mov (.c (.bool true)))] [6]) (
  .ret)) (
  .skip))) (
 .seq (
 .seq (
 .reg [
   I 14 (.mov (.t 2)),
   I 15 (.callQ 84 [(.t 14)])] [0, 1, 2, 15]) (
 .cond (.t 15) (
  .seq (
  .regd [0, 1, 2, 3, 4, 6, 7, 8, 5, 9, 10, 11] [
    I 16 (.mov (.t 0)),
    I 17 (.mov (.t 1)),
    I 18 (.mov (.t 2)),
    I 19 (.nilChk (.t 18)),
    I 20 (.fieldAddr 6 (.t 19)),
    I 22 (.mov (.t 2)),
    I 23 (.nilChk (.t 22)),
    I 24 (.fieldAddr 4 (.t 23)),
    I 21 (.load none (.t 20)),
    I 25 (.load none (.t 24)),
    I 26 (.callE 1 15 [(.t 21), (.t 25)]),
    I 27 (.call 85 [(.t 16), (.t 17), (.t 26)])] [2]) (
  .reg [
    I 28 (.mov (.t 2)),
    I 29 (.nilChk (.t 28)),
    I 30 (.fieldAddr 4 (.t 29)),
    I 31 (.load none (.t 30)),
    I 32 (.bin .add (.t 31) (.c (.int .i64 1))),
    I 33 (.nilChk (.t 28)),
    I 34 (.fieldAddr 4 (.t 33)),
    I0 (.store 1 (.t 34) (.t 32))] [2])) (
  .skip))) (
 .seq (
 .seq (
 .reg [
   I 35 (.mov (.t 2)),
   I 36 (.callQ 84 [(.t 35)])] [2, 36]) (
 .cond (.t 36) (
  .seq (
  .reg [
    I 6 (.mov (.c (.bool false)))] [6]) (
  .ret)) (
  .skip))) (
 .seq (
 .reg [
   I 37 (.mov (.t 2)),
   I 38 (.nilChk (.t 37)),
   I 39 (.fieldAddr 4 (.t 38)),
   I0 (.store 1 (.t 39) (.c (.int .i64 0)))] []) (
 .seq (
 .reg [
   I 6 (.mov (.c (.bool true)))] [6]) (
 .ret)))))))⟩

/- (*sakia/seqlock.Seq[uint32]).may -/
def c58 : AFn := ⟨3, [.tmp 6], (
 .seq (
 .reg [
   I 6 (.mov (.c (.bool false)))] [0, 1, 2]) (
 .seq (
 .regd [0, 1, 2, 3, 4, 5, 6, 7, 8, 9, 10, 11, 12, 13, 14, 15, 16, 17, 18, 19, 20, 21, 22, 23, 24, 25, 26, 27, 28, 29, 31, 32, 33, 34, 30, 35, 36, 37, 38] [
   I 7 (.mov (.t 0)),
   I 8 (.isNil .ptr true (.t 7)),
   I 9 (.mov (.t 8)),
   IG (some 10) (9, true) (.mov (.t 2)),
   IG (some 11) (9, true) (.isNil .ptr true (.t 10)),
   I 12 (.pick (.t 9) (.t 11) (.c (.bool false))),
   I 13 (.mov (.t 12)),
   IG (some 14) (13, true) (.mov (.t 1)),
   IG (some 15) (13, true) (.bin .geq (.t 14) (.c (.int .i64 0))),
   I 16 (.pick (.t 13) (.t 15) (.c (.bool false))),
   I 17 (.mov (.t 16)),
   IG (some 18) (17, true) (.mov (.t 1)),
   IG (some 19) (17, true) (.mov (.t 0)),
   IG (some 20) (17, true) (.nilChk (.t 19)),
   IG (some 21) (17, true) (.fieldAddr 2 (.t 20)),
   IG (some 22) (17, true) (.fieldAddr 3 (.t 21)),
   IG (some 23) (17, true) (.load none (.t 22)),
   IG (some 24) (17, true) (.bin .lss (.t 18) (.t 23)),
   I 25 (.pick (.t 17) (.t 24) (.c (.bool false))),
   I 26 (.mov (.t 25)),
   IG (some 27) (26, true) (.mov (.t 2)),
   IG (some 28) (26, true) (.nilChk (.t 27)),
   IG (some 29) (26, true) (.fieldAddr 1 (.t 28)),
   IG (some 30) (26, true) (.load none (.t 29)),
   IG (some 31) (26, true) (.bin .geq (.t 30) (.c (.int .i64 1))),
   I 32 (.pick (.t 26) (.t 31) (.c (.bool false))),
   I 33 (.mov (.t 32)),
   IG (some 34) (33, true) (.mov (.t 2)),
   IG (some 35) (33, true) (.nilChk (.t 34)),
   IG (some 36) (33, true) (.fieldAddr 1 (.t 35)),
   IG (some 38) (33, true) (.mov (.t 0)),
   IG (some 39) (33, true) (.nilChk (.t 38)),
   IG (some 40) (33, true) (.fieldAddr 2 (.t 39)),
   IG (some 41) (33, true) (.fieldAddr 2 (.t 40)),
   IG (some 37) (33, true) (.load none (.t 36)),
   IG (some 42) (33, true) (.load none (.t 41)),
   IG (some 43) (33, true) (.bin .leq (.t 37) (.t 42)),
   I 44 (.pick (.t 33) (.t 43) (.c (.bool false))),
   I 6 (.mov (.t 44))] [6]) (
 .ret)))⟩

/- sakia/turn.Enter[uint32] -/
def c59 : AFn := ⟨3, [.tmp 6], (
 .seq (
 .reg [
   I 6 (.mov (.c (.bool false)))] [0, 1, 2]) (
 .seq (
 .seq (
 .reg [
   I 8 (.mov (.t 0)),
   I 9 (.callQ 86 [(.t 8)]),
   I 10 (.un .not (.t 9)),
   I 11 (.mov (.t 10)),
   IG (some 12) (11, false) (.mov (.t 2)),
   IG (some 13) (11, false) (.isNil .ptr false (.t 12)),
   I 14 (.pick (.t 11) (.c (.bool true)) (.t 13))] [0, 1, 2, 14]) (
 .cond (.t 14) (
  .seq (
  .reg [
    I 6 (.mov (.c (.bool true)))] [6]) (
  .ret)) (
  .skip))) (
 .seq (
 .reg [
   I 15 (.mov (.t 0)),
   I 16 (.call 39 [(.t 15)]),
   I 7 (.alloc [.int .i64 0, .int .i64 0, .int .i64 0, .int .i64 0, .int .u64 0, .slice none 0 0, .int .i64 0, .int .i64 0, .int .i64 0, .int .i64 0, .int .i64 0, .int .i64 0, .int .i64 0, .int .i64 0]),
   I0 (.store 14 (.t 7) (.t 16))] [0, 1, 2, 7]) (
 .seq (
 .seq (
 .reg [
   I 17 (.mov (.t 2)),
   I 18 (.nilChk (.t 17)),
   I 19 (.fieldAddr 3 (.t 18)),
   I 20 (.load none (.t 19)),
   I 21 (.bin .eql (.t 20) (.c (.int .i64 0)))] [0, 1, 2, 7, 21]) (
 .cond (.t 21) (
  .seq (
  .reg [
    I 22 (.mov (.t 2)),
    I 23 (.mov (.t 0)),
    I 24 (.mov (.t 1)),
    I 25 (.fieldAddr 8 (.t 7)),
    I 26 (.load none (.t 25)),
    I 27 (.call 87 [(.t 23), (.t 24), (.t 26), (.c (.int .i64 1))]),
    I 28 (.nilChk (.t 22)),
    I 29 (.fieldAddr 9 (.t 28)),
    I0 (.store 1 (.t 29) (.t 27))] [2]) (
  .seq (
  .reg [
    I 30 (.mov (.t 2)),
    I 31 (.nilChk (.t 30)),
    I 32 (.fieldAddr 3 (.t 31)),
    I0 (.store 1 (.t 32) (.c (.int .i64 1)))] []) (
  .seq (
  .reg [
    I 6 (.mov (.c (.bool false)))] [6]) (
  .ret)))) (
  .skip))) (
 .seq (
 .seq (
 .regd [0, 1, 2, 5, 6, 7, 3, 8, 4, 9] [
   I 33 (.mov (.t 0)),
   I 34 (.mov (.t 1)),
   I 35 (.fieldAddr 9 (.t 7)),
   I 38 (.mov (.t 2)),
   I 39 (.nilChk (.t 38)),
   I 40 (.fieldAddr 9 (.t 39)),
   I 36 (.load none (.t 35)),
   I 41 (.load none (.t 40)),
   I 37 (.hold [(none, (.t 40))] (.call 48 [(.t 33), (.t 34), (.t 36)])),
   I 42 (.bin .neq (.t 37) (.t 41))] [2, 42]) (
 .cond (.t 42) (
  .seq (
  .reg [
    I 6 (.mov (.c (.bool false)))] [6]) (
  .ret)) (
  .skip))) (
 .seq (
 .reg [
   I 43 (.mov (.t 2)),
   I 44 (.nilChk (.t 43)),
   I 45 (.fieldAddr 3 (.t 44)),
   I0 (.store 1 (.t 45) (.c (.int .i64 2)))] []) (
 .seq (
 .reg [
   I 6 (.mov (.c (.bool true)))] [6]) (
 .ret))))))))⟩

/- (*sakia/board.Board[uint32]).Read -/
def c60 : AFn := ⟨3, [.tmp 6], (
 .seq (
 .reg [
   I 6 (.mov (.c (.int .u32 0)))] [0, 1, 2]) (
 .seq (
 .seq (
 .reg [
   I 7 (.mov (.t 0)),
   I 8 (.mov (.t 2)),
   I 9 (.callQ 43 [(.t 7), (.t 8), (.c (.int .i64 2))]),
   I 10 (.un .not (.t 9))] [0, 1, 2, 10]) (
 .cond (.t 10) (
  .seq (
  .reg [
    I 6 (.mov (.c (.int .u32 0)))] [6]) (
  .ret)) (
  .skip))) (
 .seq (
 .reg [
   I 11 (.mov (.t 0)),
   I 12 (.mov (.t 1)),
   I 13 (.mov (.t 2)),
   I 14 (.call 78 [(.t 11), (.t 12), (.c (.int .i64 6)), (.t 13)]),
   I 6 (.mov (.t 14))] [6]) (
 .ret))))⟩

/- (*sakia/seqlock.Seq[uint32]).room -/
def c61 : AFn := ⟨4, [.tmp 8], (
 .seq (
 .reg [
   I 8 (.mov (.c (.int .i64 0)))] [0, 1, 2, 3]) (
 .seq (
 .seq (
 .regd [0, 1, 2, 3, 5, 6, 7, 9, 10, 11, 13, 14, 15, 17, 4, 8, 12, 16, 18, 19, 20] [
   I 9 (.mov (.t 0)),
   I 10 (.nilChk (.t 9)),
   I 11 (.fieldAddr 2 (.t 10)),
   I 12 (.fieldAddr 2 (.t 11)),
   I 14 (.mov (.t 2)),
   I 15 (.nilChk (.t 14)),
   I 16 (.fieldAddr 6 (.t 15)),
   I 18 (.mov (.t 2)),
   I 19 (.nilChk (.t 18)),
   I 20 (.fieldAddr 1 (.t 19)),
   I 22 (.mov (.t 0)),
   I 23 (.nilChk (.t 22)),
   I 24 (.fieldAddr 10 (.t 23)),
   I 26 (.mov (.t 1)),
   I 13 (.load none (.t 12)),
   I 17 (.load none (.t 16)),
   I 21 (.load none (.t 20)),
   I 25 (.load none (.t 24)),
   I 27 (.indexAddr none 1 (.t 25) (.t 26)),
   I 28 (.load none (.t 27)),
   I 29 (.callE 1 20 [(.t 13), (.t 17), (.t 21), (.t 28)])] [3, 29]) (
 .cond (.t 29) (
  .seq (
  .reg [
    I 8 (.mov (.c (.int .i64 4)))] [8]) (
  .ret)) (
  .skip))) (
 .seq (
 .reg [
   I 30 (.mov (.t 3)),
   I 8 (.mov (.t 30))] [8]) (
 .ret))))⟩

/- (*sakia/board.Board[uint32]).Write -/
def c62 : AFn := ⟨4, [], (
 .seq (
 .reg [
   I 8 (.mov (.t 0)),
   I 9 (.mov (.t 2)),
   I 10 (.callQ 43 [(.t 8), (.t 9), (.c (.int .i64 2))])] [0, 1, 2, 3, 10]) (
 .cond (.t 10) (
  .reg [
    I 11 (.mov (.t 0)),
    I 12 (.mov (.t 1)),
    I 13 (.mov (.t 2)),
    I 14 (.mov (.t 3)),
    I 15 (.call 44 [(.t 11), (.t 12), (.c (.int .i64 7)), (.t 13), (.t 14)])] []) (
  .skip)))⟩

/- (*sakia/seqlock.Seq[uint32]).leave -/
def c63 : AFn := ⟨3, [.tmp 6], (
 .seq (
 .reg [
   I 6 (.mov (.c (.bool false)))] [0, 1, 2]) (
 .seq (
 .reg [
   I 8 (.mov (.t 2)),
   I 9 (.nilChk (.t 8)),
   I 10 (.fieldAddr 3 (.t 9)),
   I 11 (.load none (.t 10)),
   I 12 (.bin .eql (.t 11) (.c (.int .i64 6))),
   I 7 (.mov (.t 12))] [0, 1, 2, 7]) (
 .seq (
 .reg [
   I 13 (.mov (.t 0)),
   I 14 (.nilChk (.t 13)),
   I 15 (.fieldAddr 0 (.t 14)),
   I 16 (.load none (.t 15)),
   I 17 (.mov (.t 1)),
   I 18 (.call 88 [(.t 16), (.t 17)])] [2, 7]) (
 .seq (
 .reg [
   I 19 (.mov (.t 2)),
   I 20 (.nilChk (.t 19)),
   I 21 (.fieldAddr 3 (.t 20)),
   I0 (.store 1 (.t 21) (.c (.int .i64 0)))] [7]) (
 .seq (
 .reg [
   I 22 (.mov (.t 7)),
   I 6 (.mov (.t 22))] [6]) (
 .ret))))))⟩

/- sakia/wide.Right -/
def c64 : AFn := ⟨1, [.tmp 2], (
 .seq (
 .reg [
   I 2 (.mov (.c (.bool false)))] [0]) (
 .seq (
 .reg [
   I 3 (.mov (.t 0)),
   I 4 (.bin .eql (.t 3) (.c (.int .i64 32))),
   I 5 (.mov (.t 4)),
   IG (some 6) (5, false) (.mov (.t 0)),
   IG (some 7) (5, false) (.bin .eql (.t 6) (.c (.int .i64 64))),
   I 8 (.pick (.t 5) (.c (.bool true)) (.t 7)),
   I 2 (.mov (.t 8))] [2]) (
 .ret)))⟩

/- sakia/lap.Right -/
def c65 : AFn := ⟨1, [.tmp 2], (
 .seq (
 .reg [
   I 2 (.mov (.c (.bool false)))] [0]) (
 .seq (
 .reg [
   I 3 (.mov (.t 0)),
   I 4 (.bin .geq (.t 3) (.c (.int .i64 2))),
   I 5 (.mov (.t 4)),
   IG (some 6) (5, true) (.mov (.t 0)),
   IG (some 7) (5, true) (.bin .leq (.t 6) (.c (.int .i64 1073741824))),
   I 8 (.pick (.t 5) (.t 7) (.c (.bool false))),
   I 9 (.mov (.t 8)),
   IG (some 10) (9, true) (.mov (.t 0)),
   IG (some 11) (9, true) (.mov (.t 0)),
   IG (some 12) (9, true) (.bin .sub (.t 11) (.c (.int .i64 1))),
   IG (some 13) (9, true) (.bin .and (.t 10) (.t 12)),
   IG (some 14) (9, true) (.bin .eql (.t 13) (.c (.int .i64 0))),
   I 15 (.pick (.t 9) (.t 14) (.c (.bool false))),
   I 2 (.mov (.t 15))] [2]) (
 .ret)))⟩

/- sakia/graph.Check -/
def c66 : AFn := ⟨1, [.tmp 2], (
 .seq (
 .reg [
   I 2 (.mov (.c (.int .i64 0)))] [0]) (
 .seq (
 .seq (
 .reg [
   I 6 (.mov (.t 0)),
   I 7 (.len false (.t 6)),
   I 8 (.bin .lss (.t 7) (.c (.int .i64 1))),
   I 9 (.mov (.t 8)),
   IG (some 10) (9, false) (.mov (.t 0)),
   IG (some 11) (9, false) (.len false (.t 10)),
   IG (some 12) (9, false) (.bin .gtr (.t 11) (.c (.int .i64 6))),
   I 13 (.pick (.t 9) (.c (.bool true)) (.t 12))] [0, 13]) (
 .cond (.t 13) (
  .seq (
  .reg [
    I 2 (.mov (.c (.int .i64 6)))] [2]) (
  .ret)) (
  .skip))) (
 .seq (
 .seq (
 .reg [
   I 14 (.mov (.t 0)),
   I 15 (.len false (.t 14)),
   I 16 (.mov (.c (.int .i64 0)))] [0, 14, 15, 16]) (
 .block 0 (
  .loop (
   .seq (
   .reg [
     I 17 (.bin .lss (.t 16) (.t 15))] [0, 14, 15, 16, 17]) (
   .seq (
   .cond (.t 17) (
    .skip) (
    .exit 0)) (
   .seq (
   .block 1 (
    .seq (
    .reg [
      I 18 (.indexAddr none 1 (.t 14) (.t 16)),
      I 19 (.load none (.t 18)),
      I 4 (.mov (.t 19))] [0, 4, 14, 15, 16]) (
    .seq (
    .reg [
      I 20 (.mov (.t 4)),
      I 21 (.mov (.t 0)),
      I 22 (.len false (.t 21)),
      I 23 (.callQ 89 [(.t 20), (.t 22)]),
      I 24 (.un .not (.t 23))] [0, 14, 15, 16, 24]) (
    .cond (.t 24) (
     .seq (
     .reg [
       I 2 (.mov (.c (.int .i64 7)))] [2]) (
     .ret)) (
     .skip))))) (
   .reg [
     I 25 (.bin .add (.t 16) (.c (.int .i64 1))),
     I 16 (.mov (.t 25))] [0, 14, 15, 16]))))))) (
 .seq (
 .seq (
 .reg [
   I 26 (.mov (.t 0)),
   I 27 (.len false (.t 26)),
   I 28 (.mov (.c (.int .i64 0)))] [0, 27, 28]) (
 .block 2 (
  .loop (
   .seq (
   .reg [
     I 29 (.bin .lss (.t 28) (.t 27))] [0, 27, 28, 29]) (
   .seq (
   .cond (.t 29) (
    .skip) (
    .exit 2)) (
   .seq (
   .block 3 (
    .seq (
    .reg [
      I 30 (.mov (.t 28)),
      I 5 (.mov (.t 30))] [0, 5, 27, 28]) (
    .seq (
    .reg [
      I 31 (.mov (.t 0)),
      I 32 (.mov (.t 5)),
      I 33 (.callQ 90 [(.t 31), (.t 32)]),
      I 34 (.mov (.t 5)),
      I 35 (.callE 1 91 [(.t 33), (.t 34)])] [0, 27, 28, 35]) (
    .cond (.t 35) (
     .seq (
     .reg [
       I 2 (.mov (.c (.int .i64 8)))] [2]) (
     .ret)) (
     .skip))))) (
   .reg [
     I 36 (.bin .add (.t 28) (.c (.int .i64 1))),
     I 28 (.mov (.t 36))] [0, 27, 28]))))))) (
 .seq (
 .reg [
   I 2 (.mov (.c (.int .i64 0)))] [2]) (
 .ret))))))⟩

/- sakia/conf.bound -/
def c67 : AFn := ⟨1, [.tmp 2], (
 .seq (
 .reg [
   I 1 (.box (.t 0)),
   I 2 (.mov (.c (.bool false)))] [1]) (
 .seq (
 .reg [
   I 4 (.fieldAddr 1 (.t 1)),
   I 5 (.load none (.t 4)),
   I 6 (.bin .sub (.t 5) (.c (.int .i64 1))),
   I 7 (.bin .shl (.c (.int .u64 1)) (.t 6)),
   I 3 (.mov (.t 7))] [1, 3]) (
 .seq (
 .reg [
   I 8 (.fieldAddr 3 (.t 1)),
   I 9 (.load none (.t 8)),
   I 10 (.bin .add (.t 9) (.c (.int .i64 2))),
   I 11 (.conv .u64 (.t 10)),
   I 12 (.fieldAddr 2 (.t 1)),
   I 13 (.load none (.t 12)),
   I 14 (.conv .u64 (.t 13)),
   I 15 (.bin .mul (.t 11) (.t 14)),
   I 16 (.mov (.t 3)),
   I 17 (.bin .geq (.t 15) (.t 16)),
   I 2 (.mov (.t 17))] [2]) (
 .ret))))⟩

/- (sakia/layout.Layout).there -/
def c68 : AFn := ⟨2, [.tmp 4], (
 .seq (
 .reg [
   I 2 (.box (.t 0)),
   I 4 (.mov (.c (.bool false)))] [1, 2]) (
 .seq (
 .reg [
   I 5 (.load (some 14) (.t 2)),
   I 6 (.callQ 92 [(.t 5)]),
   I 7 (.mov (.t 6)),
   IG (some 8) (7, true) (.mov (.t 1)),
   IG (some 9) (7, true) (.bin .geq (.t 8) (.c (.int .i64 0))),
   I 10 (.pick (.t 7) (.t 9) (.c (.bool false))),
   I 11 (.mov (.t 10)),
   IG (some 12) (11, true) (.mov (.t 1)),
   IG (some 13) (11, true) (.fieldAddr 13 (.t 2)),
   IG (some 14) (11, true) (.load none (.t 13)),
   IG (some 15) (11, true) (.bin .lss (.t 12) (.t 14)),
   I 16 (.pick (.t 11) (.t 15) (.c (.bool false))),
   I 4 (.mov (.t 16))] [4]) (
 .ret)))⟩

/- (sakia/layout.Layout).marked -/
def c69 : AFn := ⟨2, [.tmp 4, .tmp 5], (
 .seq (
 .reg [
   I 2 (.box (.t 0)),
   I 4 (.mov (.c (.int .i64 0))),
   I 5 (.mov (.c (.bool false)))] [1, 2]) (
 .seq (
 .regd [0, 1, 4, 2, 3, 5, 6, 7, 8, 9, 10, 11, 12, 13, 14, 15, 19, 16, 17, 18, 20] [
   I 6 (.mov (.t 1)),
   I 7 (.fieldAddr 11 (.t 2)),
   I 10 (.fieldAddr 11 (.t 2)),
   I 8 (.load none (.t 7)),
   I 9 (.bin .sub (.t 6) (.t 8)),
   I 11 (.load none (.t 10)),
   I 12 (.bin .geq (.t 11) (.c (.int .i64 0))),
   I 13 (.mov (.t 12)),
   IG (some 14) (13, true) (.mov (.t 1)),
   IG (some 15) (13, true) (.fieldAddr 11 (.t 2)),
   IG (some 16) (13, true) (.load none (.t 15)),
   IG (some 17) (13, true) (.bin .geq (.t 14) (.t 16)),
   I 18 (.pick (.t 13) (.t 17) (.c (.bool false))),
   I 19 (.mov (.t 18)),
   IG (some 20) (19, true) (.mov (.t 1)),
   IG (some 21) (19, true) (.fieldAddr 12 (.t 2)),
   I 4 (.mov (.t 9)),
   IG (some 22) (19, true) (.load none (.t 21)),
   IG (some 23) (19, true) (.bin .lss (.t 20) (.t 22)),
   I 24 (.pick (.t 19) (.t 23) (.c (.bool false))),
   I 5 (.mov (.t 24))] [4, 5]) (
 .ret)))⟩

/- sakia/lap.First[uint32] -/
def c70 : AFn := ⟨3, [.tmp 6], (
 .seq (
 .reg [
   I 6 (.mov (.c (.int .u32 0)))] [0, 1, 2]) (
 .seq (
 .seq (
 .reg [
   I 7 (.mov (.t 0)),
   I 8 (.mov (.t 1)),
   I 9 (.callE 1 93 [(.t 7), (.t 8)]),
   I 10 (.un .not (.t 9))] [0, 1, 2, 10]) (
 .cond (.t 10) (
  .seq (
  .reg [
    I 6 (.mov (.c (.int .u32 0)))] [6]) (
  .ret)) (
  .skip))) (
 .seq (
 .reg [
   I 11 (.mov (.t 2)),
   I 12 (.mov (.t 1)),
   I 13 (.conv .u32 (.t 12)),
   I 14 (.mov (.t 2)),
   I 15 (.bin .sub (.t 13) (.t 14)),
   I 16 (.mov (.t 0)),
   I 17 (.bin .sub (.t 16) (.c (.int .i64 1))),
   I 18 (.conv .u32 (.t 17)),
   I 19 (.bin .and (.t 15) (.t 18)),
   I 20 (.bin .add (.t 11) (.t 19)),
   I 6 (.mov (.t 20))] [6]) (
 .ret))))⟩

/- sakia/lap.Ahead[uint32] -/
def c71 : AFn := ⟨3, [.tmp 6], (
 .seq (
 .reg [
   I 6 (.mov (.c (.int .u32 0)))] [0, 1, 2]) (
 .seq (
 .seq (
 .reg [
   I 7 (.mov (.t 0)),
   I 8 (.mov (.t 1)),
   I 9 (.callE 1 93 [(.t 7), (.t 8)]),
   I 10 (.un .not (.t 9))] [0, 1, 2, 10]) (
 .cond (.t 10) (
  .seq (
  .reg [
    I 6 (.mov (.c (.int .u32 0)))] [6]) (
  .ret)) (
  .skip))) (
 .seq (
 .reg [
   I 11 (.mov (.t 0)),
   I 12 (.mov (.t 0)),
   I 13 (.mov (.t 1)),
   I 14 (.mov (.t 2)),
   I 15 (.callE 1 70 [(.t 12), (.t 13), (.t 14)]),
   I 16 (.mov (.t 0)),
   I 17 (.conv .u32 (.t 16)),
   I 18 (.bin .sub (.t 15) (.t 17)),
   I 19 (.callE 1 94 [(.t 11), (.t 18)]),
   I 6 (.mov (.t 19))] [6]) (
 .ret))))⟩

/- sakia/lap.First[uint64] -/
def c72 : AFn := ⟨3, [.tmp 6], (
 .seq (
 .reg [
   I 6 (.mov (.c (.int .u64 0)))] [0, 1, 2]) (
 .seq (
 .seq (
 .reg [
   I 7 (.mov (.t 0)),
   I 8 (.mov (.t 1)),
   I 9 (.callE 1 93 [(.t 7), (.t 8)]),
   I 10 (.un .not (.t 9))] [0, 1, 2, 10]) (
 .cond (.t 10) (
  .seq (
  .reg [
    I 6 (.mov (.c (.int .u64 0)))] [6]) (
  .ret)) (
  .skip))) (
 .seq (
 .reg [
   I 11 (.mov (.t 2)),
   I 12 (.mov (.t 1)),
   I 13 (.conv .u64 (.t 12)),
   I 14 (.mov (.t 2)),
   I 15 (.bin .sub (.t 13) (.t 14)),
   I 16 (.mov (.t 0)),
   I 17 (.bin .sub (.t 16) (.c (.int .i64 1))),
   I 18 (.conv .u64 (.t 17)),
   I 19 (.bin .and (.t 15) (.t 18)),
   I 20 (.bin .add (.t 11) (.t 19)),
   I 6 (.mov (.t 20))] [6]) (
 .ret))))⟩

/- sakia/lap.Ahead[uint64] -/
def c73 : AFn := ⟨3, [.tmp 6], (
 .seq (
 .reg [
   I 6 (.mov (.c (.int .u64 0)))] [0, 1, 2]) (
 .seq (
 .seq (
 .reg [
   I 7 (.mov (.t 0)),
   I 8 (.mov (.t 1)),
   I 9 (.callE 1 93 [(.t 7), (.t 8)]),
   I 10 (.un .not (.t 9))] [0, 1, 2, 10]) (
 .cond (.t 10) (
  .seq (
  .reg [
    I 6 (.mov (.c (.int .u64 0)))] [6]) (
  .ret)) (
  .skip))) (
 .seq (
 .reg [
   I 11 (.mov (.t 0)),
   I 12 (.mov (.t 0)),
   I 13 (.mov (.t 1)),
   I 14 (.mov (.t 2)),
   I 15 (.callE 1 72 [(.t 12), (.t 13), (.t 14)]),
   I 16 (.mov (.t 0)),
   I 17 (.conv .u64 (.t 16)),
   I 18 (.bin .sub (.t 15) (.t 17)),
   I 19 (.callE 1 95 [(.t 11), (.t 18)]),
   I 6 (.mov (.t 19))] [6]) (
 .ret))))⟩

/- sakia/wide.Cut -/
def c74 : AFn := ⟨2, [.tmp 4], (
 .seq (
 .reg [
   I 4 (.mov (.c (.int .u64 0)))] [0, 1]) (
 .seq (
 .seq (
 .reg [
   I 5 (.mov (.t 0))] [1, 5]) (
 .block 0 (
  .seq (
  .reg [
    I 7 (.bin .eql (.t 5) (.c (.int .i64 32))),
    I 6 (.mov (.t 7))] [1, 5, 6]) (
  .cond (.t 6) (
   .seq (
   .reg [
     I 8 (.mov (.t 1)),
     I 9 (.callE 1 12 [(.t 8)]),
     I 10 (.callE 1 42 [(.t 9)]),
     I 4 (.mov (.t 10))] [4]) (
   .ret)) (
   .seq (
   .reg [
     I 12 (.bin .eql (.t 5) (.c (.int .i64 64))),
     I 11 (.mov (.t 12))] [1, 11]) (
   .cond (.t 11) (
    .seq (
    .reg [
      I 13 (.mov (.t 1)),
      I 4 (.mov (.t 13))] [4]) (
    .ret)) (
    .skip))))))) (
 .seq (
 .reg [
   I 4 (.mov (.c (.int .u64 0)))] [4]) (
 .ret))))⟩

/- (*sakia/board.Board[uint32]).note -/
def c75 : AFn := ⟨6, [], (
 .reg [
   I 12 (.mov (.t 0)),
   I 13 (.mov (.t 0)),
   I 14 (.nilChk (.t 13)),
   I 15 (.fieldAddr 16 (.t 14)),
   I 16 (.load none (.t 15)),
   I 17 (.mov (.t 1)),
   I 18 (.mov (.t 2)),
   I 19 (.mov (.t 3)),
   I 20 (.mov (.t 4)),
   I 21 (.mov (.t 5)),
   I 22 (.build #[.int .i64 0, .int .i64 0, .int .i64 0, .int .u64 0, .int .u64 0] [((0, 1), (.t 17)), ((1, 1), (.t 18)), ((2, 1), (.t 19)), ((3, 1), (.t 20)), ((4, 1), (.t 21))]),
   I 23 (.buildSlice 5 #[.int .i64 0, .int .i64 0, .int .i64 0, .int .u64 0, .int .u64 0] 1 [(0, (.t 22))]),
   I 24 (.append 5 40 (.t 16) (.t 23)),
   I 25 (.nilChk (.t 12)),
   I 26 (.fieldAddr 16 (.t 25)),
   I0 (.store 1 (.t 26) (.t 24))] [])⟩

/- sakia/mark.Has[uint32] -/
def c76 : AFn := ⟨1, [.tmp 2], (
 .seq (
 .reg [
   I 2 (.mov (.c (.bool false)))] [0]) (
 .seq (
 .reg [
   I 3 (.mov (.t 0)),
   I 4 (.isNil .ptr true (.t 3)),
   I 5 (.mov (.t 4)),
   IG (some 6) (5, true) (.mov (.t 0)),
   IG (some 7) (5, true) (.callQ 96 [(.t 6)]),
   IG (some 8) (5, true) (.bin .neq (.t 7) (.c (.int .i64 0))),
   I 9 (.pick (.t 5) (.t 8) (.c (.bool false))),
   I 2 (.mov (.t 9))] [2]) (
 .ret)))⟩

/- sakia/mark.look[uint32] -/
def c77 : AFn := ⟨3, [.tmp 6], (
 .seq (
 .reg [
   I 6 (.mov (.c (.bool false)))] [0, 1, 2]) (
 .seq (
 .reg [
   I 10 (.mov (.t 0)),
   I 11 (.mov (.t 2)),
   I 12 (.callQ 97 [(.t 10), (.t 11)]),
   I 9 (.mov (.t 12)),
   I 13 (.extract (.t 9) 0),
   I 14 (.extract (.t 9) 1),
   I 7 (.mov (.t 13)),
   I 8 (.mov (.t 14))] [0, 1, 7, 8]) (
 .seq (
 .seq (
 .reg [
   I 15 (.mov (.t 0)),
   I 16 (.callQ 96 [(.t 15)]),
   I 17 (.bin .eql (.t 16) (.c (.int .i64 2)))] [0, 1, 7, 8, 17]) (
 .cond (.t 17) (
  .seq (
  .reg [
    I 18 (.mov (.t 0)),
    I 19 (.mov (.t 1)),
    I 20 (.mov (.t 7)),
    I 21 (.call 60 [(.t 18), (.t 19), (.t 20)]),
    I 22 (.mov (.t 8)),
    I 23 (.bin .eql (.t 21) (.t 22)),
    I 6 (.mov (.t 23))] [6]) (
  .ret)) (
  .skip))) (
 .seq (
 .reg [
   I 24 (.mov (.t 0)),
   I 25 (.mov (.t 1)),
   I 26 (.mov (.t 7)),
   I 27 (.call 48 [(.t 24), (.t 25), (.t 26)]),
   I 28 (.mov (.t 8)),
   I 29 (.bin .eql (.t 27) (.t 28)),
   I 6 (.mov (.t 29))] [6]) (
 .ret)))))⟩

/- (*sakia/board.Board[uint32]).look -/
def c78 : AFn := ⟨4, [.tmp 8], (
 .seq (
 .reg [
   I 8 (.mov (.c (.int .u32 0)))] [0, 1, 2, 3]) (
 .seq (
 .reg [
   I 10 (.mov (.t 0)),
   I 11 (.nilChk (.t 10)),
   I 12 (.fieldAddr 14 (.t 11)),
   I 13 (.load none (.t 12)),
   I 14 (.mov (.t 3)),
   I 15 (.indexAddr none 1 (.t 13) (.t 14)),
   I 16 (.load none (.t 15)),
   I 9 (.mov (.t 16))] [0, 1, 2, 3, 9]) (
 .seq (
 .reg [
   I 17 (.mov (.t 0)),
   I 18 (.mov (.t 1)),
   I 19 (.mov (.t 2)),
   I 20 (.mov (.t 3)),
   I 21 (.mov (.t 9)),
   I 22 (.callE 1 42 [(.t 21)]),
   I 23 (.mov (.t 9)),
   I 24 (.callE 1 42 [(.t 23)]),
   I 25 (.call 75 [(.t 17), (.t 18), (.t 19), (.t 20), (.t 22), (.t 24)])] [9]) (
 .seq (
 .reg [
   I 26 (.mov (.t 9)),
   I 8 (.mov (.t 26))] [8]) (
 .ret)))))⟩

/- sakia/event.copied -/
def c79 : AFn := ⟨1, [.cell 2 (some 7)], (
 .seq (
 .reg [
   I 1 (.box (.t 0)),
   I 2 (.alloc [.int .i64 0, .int .i64 0, .int .i64 0, .int .i64 0, .int .u64 0, .int .i64 0, .slice none 0 0])] [1, 2]) (
 .seq (
 .reg [
   I 3 (.buildSlice 1 #[.int .i64 0] 0 []),
   I 4 (.fieldAddr 6 (.t 1)),
   I 5 (.load none (.t 4)),
   I 6 (.append 1 8 (.t 3) (.t 5)),
   I 7 (.fieldAddr 6 (.t 1)),
   I0 (.store 1 (.t 7) (.t 6))] [1, 2]) (
 .seq (
 .reg [
   I 8 (.load (some 7) (.t 1)),
   I0 (.store 7 (.t 2) (.t 8))] [2]) (
 .ret))))⟩

/- (sakia/layout.Layout).Gate -/
def c80 : AFn := ⟨2, [.tmp 4], (
 .seq (
 .reg [
   I 2 (.box (.t 0)),
   I 4 (.mov (.c (.int .i64 0)))] [1, 2]) (
 .seq (
 .seq (
 .reg [
   I 5 (.load (some 14) (.t 2)),
   I 6 (.callQ 92 [(.t 5)]),
   I 7 (.un .not (.t 6)),
   I 8 (.mov (.t 7)),
   IG (some 9) (8, false) (.mov (.t 1)),
   IG (some 10) (8, false) (.bin .lss (.t 9) (.c (.int .i64 0))),
   I 11 (.pick (.t 8) (.c (.bool true)) (.t 10)),
   I 12 (.mov (.t 11)),
   IG (some 13) (12, false) (.mov (.t 1)),
   IG (some 14) (12, false) (.fieldAddr 0 (.t 2)),
   IG (some 15) (12, false) (.fieldAddr 5 (.t 14)),
   IG (some 16) (12, false) (.load none (.t 15)),
   IG (some 17) (12, false) (.len false (.t 16)),
   IG (some 18) (12, false) (.bin .geq (.t 13) (.t 17)),
   I 19 (.pick (.t 12) (.c (.bool true)) (.t 18))] [1, 19]) (
 .cond (.t 19) (
  .seq (
  .reg [
    I 4 (.mov (.c (.int .i64 (-1))))] [4]) (
  .ret)) (
  .skip))) (
 .seq (
 .reg [
   I 20 (.mov (.t 1)),
   I 4 (.mov (.t 20))] [4]) (
 .ret))))⟩

/- sakia/group.Full -/
def c81 : AFn := ⟨1, [.tmp 2], (
 .seq (
 .reg [
   I 2 (.mov (.c (.int .u64 0)))] [0]) (
 .seq (
 .block 0 (
  .seq (
  .reg [
    I 4 (.mov (.t 0)),
    I 5 (.bin .leq (.t 4) (.c (.int .i64 0))),
    I 3 (.mov (.t 5))] [0, 3]) (
  .cond (.t 3) (
   .seq (
   .reg [
     I 2 (.mov (.c (.int .u64 0)))] [2]) (
   .ret)) (
   .seq (
   .reg [
     I 7 (.mov (.t 0)),
     I 8 (.bin .geq (.t 7) (.c (.int .i64 64))),
     I 6 (.mov (.t 8))] [0, 6]) (
   .cond (.t 6) (
    .seq (
    .reg [
      I 2 (.mov (.c (.int .u64 18446744073709551615)))] [2]) (
    .ret)) (
    .skip)))))) (
 .seq (
 .reg [
   I 9 (.mov (.t 0)),
   I 10 (.bin .shl (.c (.int .u64 1)) (.t 9)),
   I 11 (.bin .sub (.t 10) (.c (.int .u64 1))),
   I 2 (.mov (.t 11))] [2]) (
 .ret))))⟩

/- (sakia/group.Group).Without -/
def c82 : AFn := ⟨2, [.tmp 4], (
 .seq (
 .reg [
   I 4 (.mov (.c (.int .u64 0)))] [0, 1]) (
 .seq (
 .seq (
 .reg [
   I 5 (.mov (.t 1)),
   I 6 (.callE 1 98 [(.t 5)]),
   I 7 (.un .not (.t 6))] [0, 1, 7]) (
 .cond (.t 7) (
  .seq (
  .reg [
    I 8 (.mov (.t 0)),
    I 4 (.mov (.t 8))] [4]) (
  .ret)) (
  .skip))) (
 .seq (
 .reg [
   I 9 (.mov (.t 0)),
   I 10 (.mov (.t 1)),
   I 11 (.bin .shl (.c (.int .u64 1)) (.t 10)),
   I 12 (.bin .andNot (.t 9) (.t 11)),
   I 4 (.mov (.t 12))] [4]) (
 .ret))))⟩

end Go.Ab
