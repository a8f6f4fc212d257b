/- Abstract code of functions of the program, printed by a program. -/
import Derived.Test.YtebmnnbjfjadaaaGreatDoorFo
namespace Go.Ab
set_option maxRecDepth 100000
/- sakia/lap.Right -/
def c114 : AFn := ⟨1, [.tmp 2], (
 .seq (
 .reg [
   I 2 (.mov (.c (.bool false)))] [0]) (
 .seq (
 .reg [
   I 3 (.mov (.t 0)),
   I 4 (.bin .geq (.t 3) (.c (.int .i64 2))),
   I 5 (.mov (.t 4)),
   IG (some 6) (5, true) (.mov (.t 0)),
   IG (some 7) (5, true) (.bin .leq (.t 6) (.c (.int .i64 1073741824))),
   I 8 (.pick (.t 5) (.t 7) (.c (.bool false))),
   I 9 (.mov (.t 8)),
   IG (some 10) (9, true) (.mov (.t 0)),
   IG (some 11) (9, true) (.mov (.t 0)),
   IG (some 12) (9, true) (.bin .sub (.t 11) (.c (.int .i64 1))),
   IG (some 13) (9, true) (.bin .and (.t 10) (.t 12)),
   IG (some 14) (9, true) (.bin .eql (.t 13) (.c (.int .i64 0))),
   I 15 (.pick (.t 9) (.t 14) (.c (.bool false))),
   I 2 (.mov (.t 15))] [2]) (
 .ret)))⟩

/- (*sakia/guard.Handle[uint32]).free -/
def c115 : AFn := ⟨2, [.tmp 4], (
 .seq (
 .reg [
   I 4 (.mov (.c (.int .i64 0)))] [0, 1]) (
 .seq (
 .seq (
 .reg [
   I 6 (.mov (.t 0)),
   I 7 (.mov (.t 1)),
   I 8 (.callQ 117 [(.t 6), (.t 7)]),
   I 5 (.mov (.t 8))] [0, 5]) (
 .seq (
 .reg [
   I 9 (.mov (.t 5)),
   I 10 (.bin .neq (.t 9) (.c (.int .i64 0)))] [0, 5, 10]) (
 .cond (.t 10) (
  .seq (
  .reg [
    I 11 (.mov (.t 5)),
    I 4 (.mov (.t 11))] [4]) (
  .ret)) (
  .skip)))) (
 .seq (
 .seq (
 .reg [
   I 12 (.mov (.t 0)),
   I 13 (.nilChk (.t 12)),
   I 14 (.fieldAddr 2 (.t 13)),
   I 15 (.load none (.t 14))] [15]) (
 .cond (.t 15) (
  .seq (
  .reg [
    I 4 (.mov (.c (.int .i64 14)))] [4]) (
  .ret)) (
  .skip))) (
 .seq (
 .reg [
   I 4 (.mov (.c (.int .i64 0)))] [4]) (
 .ret)))))⟩

/- (*sakia/guard.Handle[uint32]).Ready -/
def c116 : AFn := ⟨1, [.tmp 2], (
 .seq (
 .reg [
   I 2 (.mov (.c (.int .i64 0)))] [0]) (
 .seq (
 .seq (
 .reg [
   I 3 (.mov (.t 0)),
   I 4 (.isNil .ptr false (.t 3))] [0, 4]) (
 .cond (.t 4) (
  .seq (
  .reg [
    I 2 (.mov (.c (.int .i64 0)))] [2]) (
  .ret)) (
  .skip))) (
 .seq (
 .regd [0, 1, 2, 4, 5, 6, 3, 7, 8, 9] [
   I 5 (.mov (.t 0)),
   I 6 (.nilChk (.t 5)),
   I 7 (.fieldAddr 6 (.t 6)),
   I 9 (.mov (.t 0)),
   I 10 (.nilChk (.t 9)),
   I 11 (.fieldAddr 5 (.t 10)),
   I 8 (.load none (.t 7)),
   I 12 (.load none (.t 11)),
   I 13 (.callE 1 152 [(.t 8), (.t 12)]),
   I 2 (.mov (.t 13))] [2]) (
 .ret))))⟩

/- (*sakia/guard.Handle[uint32]).size -/
def c117 : AFn := ⟨2, [.tmp 4], (
 .seq (
 .reg [
   I 4 (.mov (.c (.int .i64 0)))] [0, 1]) (
 .seq (
 .seq (
 .reg [
   I 5 (.mov (.t 1)),
   I 6 (.bin .lss (.t 5) (.c (.int .i64 1))),
   I 7 (.mov (.t 6)),
   IG (some 8) (7, false) (.mov (.t 1)),
   IG (some 9) (7, false) (.mov (.t 0)),
   IG (some 10) (7, false) (.nilChk (.t 9)),
   IG (some 11) (7, false) (.fieldAddr 0 (.t 10)),
   IG (some 12) (7, false) (.load none (.t 11)),
   IG (some 13) (7, false) (.bin .gtr (.t 8) (.t 12)),
   I 14 (.pick (.t 7) (.c (.bool true)) (.t 13))] [14]) (
 .cond (.t 14) (
  .seq (
  .reg [
    I 4 (.mov (.c (.int .i64 13)))] [4]) (
  .ret)) (
  .skip))) (
 .seq (
 .reg [
   I 4 (.mov (.c (.int .i64 0)))] [4]) (
 .ret))))⟩

/- (*sakia/guard.Handle[uint32]).Span -/
def c118 : AFn := ⟨1, [.cell 2 (some 2), .tmp 3], (
 .seq (
 .reg [
   I 2 (.alloc [.int .u32 0, .int .i64 0]),
   I 3 (.mov (.c (.bool false)))] [0, 2]) (
 .seq (
 .seq (
 .reg [
   I 4 (.mov (.t 0)),
   I 5 (.isNil .ptr false (.t 4))] [0, 2, 5]) (
 .cond (.t 5) (
  .seq (
  .reg [
    I 6 (.build #[.int .u32 0, .int .i64 0] []),
    I0 (.store 2 (.t 2) (.t 6)),
    I 3 (.mov (.c (.bool false)))] [2, 3]) (
  .ret)) (
  .skip))) (
 .seq (
 .regd [0, 1, 2, 4, 5, 6, 3, 7, 8, 9] [
   I 7 (.mov (.t 0)),
   I 8 (.nilChk (.t 7)),
   I 9 (.fieldAddr 3 (.t 8)),
   I 11 (.mov (.t 0)),
   I 12 (.nilChk (.t 11)),
   I 13 (.fieldAddr 2 (.t 12)),
   I 10 (.load (some 2) (.t 9)),
   I 14 (.load none (.t 13)),
   I0 (.hold [(none, (.t 13))] (.store 2 (.t 2) (.t 10))),
   I 3 (.mov (.t 14))] [2, 3]) (
 .ret))))⟩

/- (*sakia/guard.Handle[uint32]).Upto -/
def c119 : AFn := ⟨1, [.tmp 2], (
 .seq (
 .reg [
   I 2 (.mov (.c (.int .u32 0)))] [0]) (
 .seq (
 .seq (
 .reg [
   I 3 (.mov (.t 0)),
   I 4 (.isNil .ptr false (.t 3))] [0, 4]) (
 .cond (.t 4) (
  .seq (
  .reg [
    I 2 (.mov (.c (.int .u32 0)))] [2]) (
  .ret)) (
  .skip))) (
 .seq (
 .reg [
   I 5 (.mov (.t 0)),
   I 6 (.nilChk (.t 5)),
   I 7 (.fieldAddr 6 (.t 6)),
   I 8 (.load none (.t 7)),
   I 2 (.mov (.t 8))] [2]) (
 .ret))))⟩

/- (*sakia/guard.Handle[uint32]).Gate -/
def c120 : AFn := ⟨1, [.tmp 2], (
 .seq (
 .reg [
   I 2 (.mov (.c (.int .u32 0)))] [0]) (
 .seq (
 .seq (
 .reg [
   I 3 (.mov (.t 0)),
   I 4 (.isNil .ptr false (.t 3))] [0, 4]) (
 .cond (.t 4) (
  .seq (
  .reg [
    I 2 (.mov (.c (.int .u32 0)))] [2]) (
  .ret)) (
  .skip))) (
 .seq (
 .reg [
   I 5 (.mov (.t 0)),
   I 6 (.nilChk (.t 5)),
   I 7 (.fieldAddr 5 (.t 6)),
   I 8 (.load none (.t 7)),
   I 2 (.mov (.t 8))] [2]) (
 .ret))))⟩

/- (*sakia/guard.Handle[uint32]).Claimed -/
def c121 : AFn := ⟨2, [.tmp 4], (
 .seq (
 .reg [
   I 3 (.box (.t 1)),
   I 4 (.mov (.c (.bool false)))] [0, 3]) (
 .seq (
 .seq (
 .reg [
   I 5 (.mov (.t 0)),
   I 6 (.isNil .ptr false (.t 5)),
   I 7 (.mov (.t 6)),
   IG (some 8) (7, false) (.mov (.t 0)),
   IG (some 9) (7, false) (.nilChk (.t 8)),
   IG (some 10) (7, false) (.fieldAddr 1 (.t 9)),
   IG (some 11) (7, false) (.load none (.t 10)),
   IG (some 12) (7, false) (.un .not (.t 11)),
   I 13 (.pick (.t 7) (.c (.bool true)) (.t 12)),
   I 14 (.mov (.t 13)),
   IG (some 15) (14, false) (.mov (.t 0)),
   IG (some 16) (14, false) (.nilChk (.t 15)),
   IG (some 17) (14, false) (.fieldAddr 2 (.t 16)),
   IG (some 18) (14, false) (.load none (.t 17)),
   I 19 (.pick (.t 14) (.c (.bool true)) (.t 18)),
   I 20 (.mov (.t 19)),
   IG (some 21) (20, false) (.mov (.t 0)),
   IG (some 22) (20, false) (.fieldAddr 1 (.t 3)),
   IG (some 23) (20, false) (.load none (.t 22)),
   IG (some 24) (20, false) (.callQ 117 [(.t 21), (.t 23)]),
   IG (some 25) (20, false) (.bin .neq (.t 24) (.c (.int .i64 0))),
   I 26 (.pick (.t 20) (.c (.bool true)) (.t 25))] [0, 3, 26]) (
 .cond (.t 26) (
  .seq (
  .reg [
    I 4 (.mov (.c (.bool false)))] [4]) (
  .ret)) (
  .skip))) (
 .seq (
 .regd [0, 1, 3, 4, 2, 5, 6, 7, 8] [
   I 27 (.mov (.t 0)),
   I 28 (.mov (.t 0)),
   I 30 (.nilChk (.t 27)),
   I 31 (.fieldAddr 2 (.t 30)),
   I 29 (.load (some 2) (.t 3)),
   I0 (.hold [((some 2), (.t 3))] (.store 1 (.t 31) (.c (.bool true)))),
   I 32 (.nilChk (.t 28)),
   I 33 (.fieldAddr 3 (.t 32)),
   I0 (.store 2 (.t 33) (.t 29))] []) (
 .seq (
 .reg [
   I 4 (.mov (.c (.bool true)))] [4]) (
 .ret)))))⟩

/- (*sakia/engine.Engine[uint32]).ends -/
def c122 : AFn := ⟨3, [.tmp 6], (
 .seq (
 .reg [
   I 5 (.box (.t 2)),
   I 6 (.mov (.c (.bool false)))] [0, 1, 5]) (
 .seq (
 .reg [
   I 8 (.mov (.t 0)),
   I 9 (.nilChk (.t 8)),
   I 10 (.fieldAddr 10 (.t 9)),
   I 11 (.load none (.t 10)),
   I 12 (.mov (.t 1)),
   I 13 (.indexAddr none 1 (.t 11) (.t 12)),
   I 14 (.load none (.t 13)),
   I 7 (.mov (.t 14))] [0, 1, 5, 7]) (
 .seq (
 .regd [0, 1, 2, 3, 4, 6, 5, 7, 8, 9, 10, 11] [
   I 15 (.mov (.t 1)),
   I 16 (.mov (.t 7)),
   I 17 (.nilChk (.t 16)),
   I 18 (.fieldAddr 2 (.t 17)),
   I 19 (.fieldAddr 0 (.t 18)),
   I 21 (.fieldAddr 0 (.t 5)),
   I 20 (.load none (.t 19)),
   I0 (.hold [(none, (.t 19))] (.store 1 (.t 21) (.c (.int .i64 2)))),
   I 22 (.fieldAddr 1 (.t 5)),
   I0 (.hold [(none, (.t 19))] (.store 1 (.t 22) (.t 15))),
   I 23 (.fieldAddr 2 (.t 5)),
   I0 (.store 1 (.t 23) (.t 20))] [0, 5, 7]) (
 .seq (
 .regd [0, 1, 2, 3, 4, 5] [
   I 24 (.mov (.t 0)),
   I 25 (.nilChk (.t 24)),
   I 26 (.fieldAddr 7 (.t 25)),
   I 27 (.load none (.t 26)),
   I 28 (.load (some 7) (.t 5)),
   I 29 (.call 32 [(.t 27), (.t 28)])] [7]) (
 .seq (
 .reg [
   I 30 (.mov (.t 7)),
   I 31 (.mov (.t 7)),
   I 32 (.mov (.t 7)),
   I 33 (.build #[.int .i64 0, .int .i64 0, .slice none 0 0] []),
   I 34 (.build #[.int .i64 0, .int .i64 0, .int .i64 0, .int .i64 0, .int .i64 0, .int .i64 0, .int .u32 0, .int .u32 0, .int .u32 0, .int .u32 0, .slice none 0 0] []),
   I 35 (.nilChk (.t 30)),
   I 36 (.fieldAddr 1 (.t 35)),
   I0 (.store 1 (.t 36) (.c (.bool false))),
   I 37 (.nilChk (.t 31)),
   I 38 (.fieldAddr 2 (.t 37)),
   I0 (.store 3 (.t 38) (.t 33)),
   I 39 (.nilChk (.t 32)),
   I 40 (.fieldAddr 5 (.t 39)),
   I0 (.store 11 (.t 40) (.t 34))] []) (
 .seq (
 .reg [
   I 6 (.mov (.c (.bool true)))] [6]) (
 .ret)))))))⟩

/- sakia/wide.Up[uint32] -/
def c123 : AFn := ⟨1, [.tmp 2], (
 .seq (
 .reg [
   I 2 (.mov (.c (.int .u64 0)))] [0]) (
 .seq (
 .reg [
   I 3 (.mov (.t 0)),
   I 4 (.conv .u64 (.t 3)),
   I 2 (.mov (.t 4))] [2]) (
 .ret)))⟩

/- (*sakia/board.Board[uint32]).Set -/
def c124 : AFn := ⟨4, [], (
 .seq (
 .seq (
 .reg [
   I 8 (.mov (.t 0)),
   I 9 (.mov (.t 2)),
   I 10 (.callQ 153 [(.t 8), (.t 9)]),
   I 11 (.un .not (.t 10))] [0, 1, 2, 3, 11]) (
 .cond (.t 11) (
  .ret) (
  .skip))) (
 .seq (
 .regd [0, 1, 2, 3, 4, 6, 8, 9, 10, 12, 16, 17, 5, 7, 11, 13, 14, 15, 18] [
   I 12 (.mov (.t 0)),
   I 13 (.mov (.t 1)),
   I 14 (.mov (.t 0)),
   I 15 (.nilChk (.t 14)),
   I 16 (.fieldAddr 0 (.t 15)),
   I 18 (.mov (.t 2)),
   I 20 (.mov (.t 0)),
   I 21 (.nilChk (.t 20)),
   I 22 (.fieldAddr 15 (.t 21)),
   I 24 (.mov (.t 2)),
   I 28 (.mov (.t 3)),
   I 29 (.conv .u64 (.t 28)),
   I 17 (.load (some 14) (.t 16)),
   I 19 (.callQ 91 [(.t 17), (.t 18)]),
   I 23 (.load none (.t 22)),
   I 25 (.indexAddr none 1 (.t 23) (.t 24)),
   I 26 (.load none (.t 25)),
   I 27 (.conv .u64 (.t 26)),
   I 30 (.call 154 [(.t 12), (.t 13), (.c (.int .i64 7)), (.t 19), (.t 27), (.t 29)])] [0, 2, 3]) (
 .reg [
   I 31 (.mov (.t 0)),
   I 32 (.nilChk (.t 31)),
   I 33 (.fieldAddr 15 (.t 32)),
   I 34 (.load none (.t 33)),
   I 35 (.mov (.t 2)),
   I 36 (.mov (.t 3)),
   I 37 (.indexAddr none 1 (.t 34) (.t 35)),
   I0 (.store 1 (.t 37) (.t 36))] [])))⟩

/- (*sakia/engine.Engine[uint32]).slot -/
def c125 : AFn := ⟨2, [.tmp 4], (
 .seq (
 .reg [
   I 4 (.mov (.c (.int .i64 0)))] [0, 1]) (
 .seq (
 .regd [0, 1, 2, 3, 5, 6, 7, 9, 10, 11, 4, 8, 12, 13, 14, 15] [
   I 5 (.mov (.t 0)),
   I 6 (.nilChk (.t 5)),
   I 7 (.fieldAddr 0 (.t 6)),
   I 8 (.fieldAddr 2 (.t 7)),
   I 10 (.mov (.t 1)),
   I 11 (.nilChk (.t 10)),
   I 12 (.fieldAddr 6 (.t 11)),
   I 14 (.mov (.t 1)),
   I 15 (.nilChk (.t 14)),
   I 16 (.fieldAddr 4 (.t 15)),
   I 9 (.load none (.t 8)),
   I 13 (.load none (.t 12)),
   I 17 (.load none (.t 16)),
   I 18 (.callE 1 156 [(.t 13), (.t 17)]),
   I 19 (.callE 1 155 [(.t 9), (.t 18)]),
   I 4 (.mov (.t 19))] [4]) (
 .ret)))⟩

/- (*sakia/engine.Engine[uint32]).publish -/
def c126 : AFn := ⟨3, [.tmp 6], (
 .seq (
 .reg [
   I 6 (.mov (.c (.bool false)))] [0, 1, 2]) (
 .seq (
 .reg [
   I 13 (.mov (.t 0)),
   I 14 (.nilChk (.t 13)),
   I 15 (.fieldAddr 7 (.t 14)),
   I 16 (.load none (.t 15)),
   I 17 (.callQ 37 [(.t 16)]),
   I 7 (.mov (.t 17))] [0, 1, 2, 7]) (
 .seq (
 .reg [
   I 18 (.mov (.t 0)),
   I 19 (.nilChk (.t 18)),
   I 20 (.fieldAddr 8 (.t 19)),
   I 21 (.load none (.t 20)),
   I 22 (.mov (.t 1)),
   I 23 (.mov (.t 2)),
   I 24 (.invoke "Publish" (.t 21) [(.t 22), (.t 23)]),
   I 8 (.mov (.t 24))] [0, 7, 8]) (
 .seq (
 .seq (
 .reg [
   I 25 (.mov (.t 0)),
   I 26 (.nilChk (.t 25)),
   I 27 (.fieldAddr 7 (.t 26)),
   I 28 (.load none (.t 27)),
   I 29 (.mov (.t 7)),
   I 30 (.call 38 [(.t 28), (.t 29)]),
   I 31 (.len false (.t 30)),
   I 32 (.mov (.c (.int .i64 0)))] [0, 7, 8, 30, 31, 32]) (
 .block 0 (
  .loop (
   .seq (
   .reg [
     I 33 (.bin .lss (.t 32) (.t 31))] [0, 7, 8, 30, 31, 32, 33]) (
   .seq (
   .cond (.t 33) (
    .skip) (
    .exit 0)) (
   .seq (
   .block 1 (
    .seq (
    .reg [
      I 34 (.mov (.t 32)),
      I 35 (.indexAddr none 7 (.t 30) (.t 32)),
      I 36 (.load (some 7) (.t 35)),
      I 10 (.alloc [.int .i64 0, .int .i64 0, .int .i64 0, .int .i64 0, .int .u64 0, .int .i64 0, .slice none 0 0]),
      I 9 (.mov (.t 34)),
      I0 (.store 7 (.t 10) (.t 36))] [0, 7, 8, 9, 10, 30, 31, 32]) (
    .seq (
    .reg [
      I 11 (.mov (.c (.slice none 0 0)))] [0, 7, 8, 9, 10, 11, 30, 31, 32]) (
    .seq (
    .seq (
    .reg [
      I 37 (.fieldAddr 3 (.t 10)),
      I 38 (.load none (.t 37)),
      I 39 (.mov (.c (.int .i64 0)))] [0, 7, 8, 9, 10, 11, 30, 31, 32, 38, 39]) (
    .block 2 (
     .loop (
      .seq (
      .reg [
        I 40 (.bin .lss (.t 39) (.t 38))] [0, 7, 8, 9, 10, 11, 30, 31, 32, 38, 39, 40]) (
      .seq (
      .cond (.t 40) (
       .skip) (
       .exit 2)) (
      .seq (
      .block 3 (
       .seq (
       .reg [
         I 41 (.mov (.t 39)),
         I 12 (.mov (.t 41))] [0, 7, 8, 9, 10, 11, 12, 30, 31, 32, 38, 39]) (
       .regd [0, 1, 2, 3, 5, 6, 7, 8, 10, 13, 4, 9, 11, 12, 14, 15, 16, 17, 18, 19] [
         I 42 (.mov (.t 11)),
         I 43 (.mov (.t 0)),
         I 44 (.nilChk (.t 43)),
         I 45 (.fieldAddr 6 (.t 44)),
         I 47 (.mov (.t 0)),
         I 48 (.nilChk (.t 47)),
         I 49 (.fieldAddr 0 (.t 48)),
         I 50 (.fieldAddr 2 (.t 49)),
         I 52 (.fieldAddr 4 (.t 10)),
         I 55 (.mov (.t 12)),
         I 46 (.load none (.t 45)),
         I 51 (.load none (.t 50)),
         I 53 (.load none (.t 52)),
         I 54 (.callE 1 78 [(.t 53)]),
         I 56 (.callE 1 156 [(.t 54), (.t 55)]),
         I 57 (.callE 1 155 [(.t 51), (.t 56)]),
         I 58 (.callQ 157 [(.t 46), (.t 57)]),
         I 59 (.buildSlice 1 #[.int .i64 0] 1 [(0, (.t 58))]),
         I 60 (.append 1 8 (.t 42) (.t 59)),
         I 11 (.mov (.t 60))] [0, 7, 8, 9, 10, 11, 30, 31, 32, 38, 39]))) (
      .reg [
        I 61 (.bin .add (.t 39) (.c (.int .i64 1))),
        I 39 (.mov (.t 61))] [0, 7, 8, 9, 10, 11, 30, 31, 32, 38, 39]))))))) (
    .reg [
      I 62 (.mov (.t 0)),
      I 63 (.nilChk (.t 62)),
      I 64 (.fieldAddr 7 (.t 63)),
      I 65 (.load none (.t 64)),
      I 66 (.mov (.t 7)),
      I 67 (.mov (.t 9)),
      I 68 (.bin .add (.t 66) (.t 67)),
      I 69 (.mov (.t 11)),
      I 70 (.call 96 [(.t 65), (.t 68), (.t 69)])] [0, 7, 8, 30, 31, 32]))))) (
   .reg [
     I 71 (.bin .add (.t 32) (.c (.int .i64 1))),
     I 32 (.mov (.t 71))] [0, 7, 8, 30, 31, 32]))))))) (
 .seq (
 .reg [
   I 72 (.mov (.t 8)),
   I 6 (.mov (.t 72))] [6]) (
 .ret))))))⟩

/- (*sakia/guard.Handle[uint32]).Published -/
def c127 : AFn := ⟨1, [.tmp 2], (
 .seq (
 .reg [
   I 2 (.mov (.c (.bool false)))] [0]) (
 .seq (
 .seq (
 .reg [
   I 3 (.mov (.t 0)),
   I 4 (.isNil .ptr false (.t 3)),
   I 5 (.mov (.t 4)),
   IG (some 6) (5, false) (.mov (.t 0)),
   IG (some 7) (5, false) (.nilChk (.t 6)),
   IG (some 8) (5, false) (.fieldAddr 2 (.t 7)),
   IG (some 9) (5, false) (.load none (.t 8)),
   IG (some 10) (5, false) (.un .not (.t 9)),
   I 11 (.pick (.t 5) (.c (.bool true)) (.t 10))] [0, 11]) (
 .cond (.t 11) (
  .seq (
  .reg [
    I 2 (.mov (.c (.bool false)))] [2]) (
  .ret)) (
  .skip))) (
 .seq (
 .reg [
   I 12 (.mov (.t 0)),
   I 13 (.mov (.t 0)),
   I 14 (.build #[.int .u32 0, .int .i64 0] []),
   I 15 (.nilChk (.t 12)),
   I 16 (.fieldAddr 2 (.t 15)),
   I0 (.store 1 (.t 16) (.c (.bool false))),
   I 17 (.nilChk (.t 13)),
   I 18 (.fieldAddr 3 (.t 17)),
   I0 (.store 2 (.t 18) (.t 14))] []) (
 .seq (
 .reg [
   I 2 (.mov (.c (.bool true)))] [2]) (
 .ret)))))⟩

/- (*sakia/barrier.Barrier[uint32]).Avail -/
def c128 : AFn := ⟨3, [.tmp 6], (
 .seq (
 .reg [
   I 6 (.mov (.c (.bool false)))] [0, 1, 2]) (
 .seq (
 .seq (
 .reg [
   I 7 (.mov (.t 0)),
   I 8 (.mov (.t 1)),
   I 9 (.callQ 158 [(.t 7), (.t 8)]),
   I 10 (.un .not (.t 9)),
   I 11 (.mov (.t 10)),
   IG (some 12) (11, false) (.mov (.t 2)),
   IG (some 13) (11, false) (.isNil .ptr false (.t 12)),
   I 14 (.pick (.t 11) (.c (.bool true)) (.t 13))] [0, 1, 2, 14]) (
 .cond (.t 14) (
  .seq (
  .reg [
    I 6 (.mov (.c (.bool true)))] [6]) (
  .ret)) (
  .skip))) (
 .seq (
 .seq (
 .reg [
   I 15 (.mov (.t 0)),
   I 16 (.mov (.t 1)),
   I 17 (.mov (.t 2)),
   I 18 (.call 159 [(.t 15), (.t 16), (.t 17)]),
   I 19 (.un .not (.t 18))] [0, 1, 2, 19]) (
 .cond (.t 19) (
  .seq (
  .reg [
    I 6 (.mov (.c (.bool false)))] [6]) (
  .ret)) (
  .skip))) (
 .seq (
 .regd [0, 1, 2, 4, 5, 7, 8, 9, 3, 6, 10, 11, 12, 13] [
   I 20 (.mov (.t 0)),
   I 21 (.nilChk (.t 20)),
   I 22 (.fieldAddr 1 (.t 21)),
   I 24 (.mov (.t 0)),
   I 25 (.mov (.t 1)),
   I 27 (.mov (.t 2)),
   I 28 (.nilChk (.t 27)),
   I 29 (.fieldAddr 8 (.t 28)),
   I 23 (.load none (.t 22)),
   I 26 (.callQ 160 [(.t 24), (.t 25)]),
   I 30 (.load none (.t 29)),
   I 31 (.callE 1 123 [(.t 30)]),
   I 32 (.build #[.int .i64 0, .int .i64 0, .int .i64 0, .int .i64 0, .int .u64 0, .int .i64 0, .slice none 0 0] [((0, 1), (.c (.int .i64 6))), ((1, 1), (.t 26)), ((4, 1), (.t 31))]),
   I 33 (.call 32 [(.t 23), (.t 32)])] []) (
 .seq (
 .reg [
   I 6 (.mov (.c (.bool true)))] [6]) (
 .ret))))))⟩

/- (*sakia/guard.Handle[uint32]).Saw -/
def c129 : AFn := ⟨2, [.tmp 4], (
 .seq (
 .reg [
   I 4 (.mov (.c (.bool false)))] [0, 1]) (
 .seq (
 .seq (
 .reg [
   I 6 (.mov (.t 0)),
   I 7 (.isNil .ptr false (.t 6)),
   I 8 (.mov (.t 7)),
   IG (some 9) (8, false) (.mov (.t 0)),
   IG (some 10) (8, false) (.nilChk (.t 9)),
   IG (some 11) (8, false) (.fieldAddr 1 (.t 10)),
   IG (some 12) (8, false) (.load none (.t 11)),
   I 13 (.pick (.t 8) (.c (.bool true)) (.t 12))] [0, 1, 13]) (
 .cond (.t 13) (
  .seq (
  .reg [
    I 4 (.mov (.c (.bool false)))] [4]) (
  .ret)) (
  .skip))) (
 .seq (
 .reg [
   I 14 (.mov (.t 1)),
   I 15 (.mov (.t 0)),
   I 16 (.nilChk (.t 15)),
   I 17 (.fieldAddr 5 (.t 16)),
   I 18 (.load none (.t 17)),
   I 19 (.callE 1 152 [(.t 14), (.t 18)]),
   I 5 (.mov (.t 19))] [0, 1, 5]) (
 .seq (
 .seq (
 .reg [
   I 20 (.mov (.t 5)),
   I 21 (.mov (.t 0)),
   I 22 (.callQ 116 [(.t 21)]),
   I 23 (.bin .lss (.t 20) (.t 22)),
   I 24 (.mov (.t 23)),
   IG (some 25) (24, false) (.mov (.t 5)),
   IG (some 26) (24, false) (.mov (.t 0)),
   IG (some 27) (24, false) (.nilChk (.t 26)),
   IG (some 28) (24, false) (.fieldAddr 0 (.t 27)),
   IG (some 29) (24, false) (.load none (.t 28)),
   IG (some 30) (24, false) (.bin .gtr (.t 25) (.t 29)),
   I 31 (.pick (.t 24) (.c (.bool true)) (.t 30))] [0, 1, 31]) (
 .cond (.t 31) (
  .seq (
  .reg [
    I 4 (.mov (.c (.bool false)))] [4]) (
  .ret)) (
  .skip))) (
 .seq (
 .reg [
   I 32 (.mov (.t 0)),
   I 33 (.mov (.t 1)),
   I 34 (.nilChk (.t 32)),
   I 35 (.fieldAddr 6 (.t 34)),
   I0 (.store 1 (.t 35) (.t 33))] []) (
 .seq (
 .reg [
   I 4 (.mov (.c (.bool true)))] [4]) (
 .ret)))))))⟩

/- (*sakia/board.Board[uint32]).Get -/
def c130 : AFn := ⟨3, [.tmp 6], (
 .seq (
 .reg [
   I 6 (.mov (.c (.int .i64 0)))] [0, 1, 2]) (
 .seq (
 .seq (
 .reg [
   I 8 (.mov (.t 0)),
   I 9 (.mov (.t 2)),
   I 10 (.callQ 153 [(.t 8), (.t 9)]),
   I 11 (.un .not (.t 10))] [0, 1, 2, 11]) (
 .cond (.t 11) (
  .seq (
  .reg [
    I 6 (.mov (.c (.int .i64 0)))] [6]) (
  .ret)) (
  .skip))) (
 .seq (
 .reg [
   I 12 (.mov (.t 0)),
   I 13 (.nilChk (.t 12)),
   I 14 (.fieldAddr 15 (.t 13)),
   I 15 (.load none (.t 14)),
   I 16 (.mov (.t 2)),
   I 17 (.indexAddr none 1 (.t 15) (.t 16)),
   I 18 (.load none (.t 17)),
   I 7 (.mov (.t 18))] [0, 1, 2, 7]) (
 .seq (
 .reg [
   I 19 (.mov (.t 0)),
   I 20 (.mov (.t 1)),
   I 21 (.mov (.t 0)),
   I 22 (.nilChk (.t 21)),
   I 23 (.fieldAddr 0 (.t 22)),
   I 24 (.load (some 14) (.t 23)),
   I 25 (.mov (.t 2)),
   I 26 (.callQ 91 [(.t 24), (.t 25)]),
   I 27 (.mov (.t 7)),
   I 28 (.conv .u64 (.t 27)),
   I 29 (.mov (.t 7)),
   I 30 (.conv .u64 (.t 29)),
   I 31 (.call 154 [(.t 19), (.t 20), (.c (.int .i64 6)), (.t 26), (.t 28), (.t 30)])] [7]) (
 .seq (
 .reg [
   I 32 (.mov (.t 7)),
   I 6 (.mov (.t 32))] [6]) (
 .ret))))))⟩

/- (*sakia/barrier.Barrier[uint32]).Release -/
def c131 : AFn := ⟨3, [.tmp 6], (
 .seq (
 .reg [
   I 6 (.mov (.c (.bool false)))] [0, 1, 2]) (
 .seq (
 .seq (
 .reg [
   I 9 (.mov (.t 0)),
   I 10 (.mov (.t 1)),
   I 11 (.callQ 158 [(.t 9), (.t 10)]),
   I 12 (.un .not (.t 11)),
   I 13 (.mov (.t 12)),
   IG (some 14) (13, false) (.mov (.t 2)),
   IG (some 15) (13, false) (.isNil .ptr false (.t 14)),
   I 16 (.pick (.t 13) (.c (.bool true)) (.t 15))] [0, 1, 2, 16]) (
 .cond (.t 16) (
  .seq (
  .reg [
    I 6 (.mov (.c (.bool true)))] [6]) (
  .ret)) (
  .skip))) (
 .seq (
 .regd [0, 1, 3, 4, 5, 7, 8, 9, 2, 6, 10, 11, 12, 13] [
   I 17 (.mov (.t 0)),
   I 18 (.mov (.t 1)),
   I 20 (.mov (.t 2)),
   I 21 (.nilChk (.t 20)),
   I 22 (.fieldAddr 6 (.t 21)),
   I 24 (.mov (.t 2)),
   I 25 (.nilChk (.t 24)),
   I 26 (.fieldAddr 1 (.t 25)),
   I 19 (.callQ 160 [(.t 17), (.t 18)]),
   I 23 (.load none (.t 22)),
   I 27 (.load none (.t 26)),
   I 28 (.callE 1 156 [(.t 23), (.t 27)]),
   I 7 (.mov (.t 19)),
   I 8 (.mov (.t 28))] [0, 1, 7, 8]) (
 .seq (
 .regd [0, 1, 2, 4, 5, 6, 7, 9, 11, 3, 8, 10, 12] [
   I 29 (.mov (.t 0)),
   I 30 (.nilChk (.t 29)),
   I 31 (.fieldAddr 0 (.t 30)),
   I 33 (.mov (.t 7)),
   I 34 (.mov (.t 0)),
   I 35 (.nilChk (.t 34)),
   I 36 (.fieldAddr 3 (.t 35)),
   I 38 (.mov (.t 1)),
   I 40 (.mov (.t 8)),
   I 32 (.load none (.t 31)),
   I 37 (.load (some 14) (.t 36)),
   I 39 (.callQ 101 [(.t 37), (.t 38)]),
   I 41 (.call 161 [(.t 32), (.t 33), (.t 39), (.t 40)])] [0, 7, 8]) (
 .seq (
 .regd [0, 1, 2, 4, 5, 6, 7, 3, 8] [
   I 42 (.mov (.t 0)),
   I 43 (.nilChk (.t 42)),
   I 44 (.fieldAddr 1 (.t 43)),
   I 46 (.mov (.t 7)),
   I 47 (.mov (.t 8)),
   I 48 (.callE 1 123 [(.t 47)]),
   I 49 (.build #[.int .i64 0, .int .i64 0, .int .i64 0, .int .i64 0, .int .u64 0, .int .i64 0, .slice none 0 0] [((0, 1), (.c (.int .i64 7))), ((1, 1), (.t 46)), ((4, 1), (.t 48))]),
   I 45 (.load none (.t 44)),
   I 50 (.call 32 [(.t 45), (.t 49)])] []) (
 .seq (
 .reg [
   I 6 (.mov (.c (.bool true)))] [6]) (
 .ret)))))))⟩

/- (*sakia/guard.Handle[uint32]).Released -/
def c132 : AFn := ⟨2, [.tmp 4], (
 .seq (
 .reg [
   I 4 (.mov (.c (.bool false)))] [0, 1]) (
 .seq (
 .seq (
 .reg [
   I 5 (.mov (.t 0)),
   I 6 (.isNil .ptr false (.t 5)),
   I 7 (.mov (.t 6)),
   IG (some 8) (7, false) (.mov (.t 1)),
   IG (some 9) (7, false) (.bin .lss (.t 8) (.c (.int .i64 1))),
   I 10 (.pick (.t 7) (.c (.bool true)) (.t 9)),
   I 11 (.mov (.t 10)),
   IG (some 12) (11, false) (.mov (.t 1)),
   IG (some 13) (11, false) (.mov (.t 0)),
   IG (some 14) (11, false) (.callQ 116 [(.t 13)]),
   IG (some 15) (11, false) (.bin .gtr (.t 12) (.t 14)),
   I 16 (.pick (.t 11) (.c (.bool true)) (.t 15))] [0, 1, 16]) (
 .cond (.t 16) (
  .seq (
  .reg [
    I 4 (.mov (.c (.bool false)))] [4]) (
  .ret)) (
  .skip))) (
 .seq (
 .reg [
   I 17 (.mov (.t 0)),
   I 18 (.mov (.t 0)),
   I 19 (.nilChk (.t 18)),
   I 20 (.fieldAddr 5 (.t 19)),
   I 21 (.load none (.t 20)),
   I 22 (.mov (.t 1)),
   I 23 (.callE 1 156 [(.t 21), (.t 22)]),
   I 24 (.nilChk (.t 17)),
   I 25 (.fieldAddr 5 (.t 24)),
   I0 (.store 1 (.t 25) (.t 23))] []) (
 .seq (
 .reg [
   I 4 (.mov (.c (.bool true)))] [4]) (
 .ret)))))⟩

/- sakia/engine.New[uint64] -/
def c133 : AFn := ⟨1, [.tmp 2, .tmp 3], (
 .seq (
 .reg [
   I 1 (.box (.t 0)),
   I 2 (.mov (.c (.pointer none))),
   I 3 (.mov (.c (.int .i64 0)))] [1]) (
 .seq (
 .reg [
   I 11 (.load (some 6) (.t 1)),
   I 12 (.call 72 [(.t 11)]),
   I 10 (.mov (.t 12)),
   I 13 (.extract (.t 10) 0),
   I 14 (.extract (.t 10) 1),
   I 4 (.alloc [.int .i64 0, .int .i64 0, .int .i64 0, .int .i64 0, .int .u64 0, .slice none 0 0, .int .i64 0, .int .i64 0, .int .i64 0, .int .i64 0, .int .i64 0, .int .i64 0, .int .i64 0, .int .i64 0]),
   I0 (.store 14 (.t 4) (.t 13)),
   I 5 (.mov (.t 14))] [1, 4, 5]) (
 .seq (
 .seq (
 .reg [
   I 15 (.mov (.t 5)),
   I 16 (.bin .neq (.t 15) (.c (.int .i64 0)))] [1, 4, 5, 16]) (
 .cond (.t 16) (
  .seq (
  .reg [
    I 17 (.mov (.t 5)),
    I 2 (.mov (.c (.pointer none))),
    I 3 (.mov (.t 17))] [2, 3]) (
  .ret)) (
  .skip))) (
 .seq (
 .seq (
 .regd [0, 2, 1, 3] [
   I 18 (.fieldAddr 1 (.t 1)),
   I 20 (.callE 1 141 []),
   I 19 (.load none (.t 18)),
   I 21 (.bin .neq (.t 19) (.t 20))] [1, 4, 21]) (
 .cond (.t 21) (
  .seq (
  .reg [
    I 2 (.mov (.c (.pointer none))),
    I 3 (.mov (.c (.int .i64 3)))] [2, 3]) (
  .ret)) (
  .skip))) (
 .seq (
 .regd [0, 1, 2, 3, 4, 5, 6, 7] [
   I 22 (.fieldAddr 0 (.t 4)),
   I 23 (.load (some 6) (.t 22)),
   I 24 (.load (some 14) (.t 4)),
   I 25 (.hold [((some 6), (.t 22))] (.call 162 [(.t 24)])),
   I 26 (.hold [((some 6), (.t 22))] (.call 75 [])),
   I 27 (.build #[.int .i64 0, .int .i64 0, .int .i64 0, .int .i64 0, .int .u64 0, .slice none 0 0, .pointer none, .pointer none, .nilIface, .pointer none, .slice none 0 0] [((0, 6), (.t 23)), ((6, 1), (.t 25)), ((7, 1), (.t 26))]),
   I 28 (.box (.t 27)),
   I 6 (.mov (.t 28))] [1, 6]) (
 .seq (
 .regd [0, 1, 2, 3, 5, 6, 7, 4, 8, 9, 10, 11, 12] [
   I 29 (.mov (.t 6)),
   I 30 (.mov (.t 6)),
   I 31 (.nilChk (.t 30)),
   I 32 (.fieldAddr 6 (.t 31)),
   I 34 (.mov (.t 6)),
   I 35 (.nilChk (.t 34)),
   I 36 (.fieldAddr 7 (.t 35)),
   I 33 (.load none (.t 32)),
   I 37 (.load none (.t 36)),
   I 38 (.call 163 [(.t 33), (.t 37)]),
   I 39 (.nilChk (.t 29)),
   I 40 (.fieldAddr 8 (.t 39)),
   I0 (.store 1 (.t 40) (.t 38))] [1, 6]) (
 .seq (
 .regd [0, 1, 2, 3, 5, 6, 7, 9, 10, 11, 4, 8, 12, 13, 14, 15, 16] [
   I 41 (.mov (.t 6)),
   I 42 (.mov (.t 6)),
   I 43 (.nilChk (.t 42)),
   I 44 (.fieldAddr 6 (.t 43)),
   I 46 (.mov (.t 6)),
   I 47 (.nilChk (.t 46)),
   I 48 (.fieldAddr 7 (.t 47)),
   I 50 (.mov (.t 6)),
   I 51 (.nilChk (.t 50)),
   I 52 (.fieldAddr 8 (.t 51)),
   I 45 (.load none (.t 44)),
   I 49 (.load none (.t 48)),
   I 53 (.load none (.t 52)),
   I 54 (.call 164 [(.t 45), (.t 49), (.t 53)]),
   I 55 (.nilChk (.t 41)),
   I 56 (.fieldAddr 9 (.t 55)),
   I0 (.store 1 (.t 56) (.t 54))] [1, 6]) (
 .seq (
 .reg [
   I 57 (.load (some 6) (.t 1)),
   I 58 (.callQ 79 [(.t 57)]),
   I 59 (.callE 1 95 [(.t 58)]),
   I 7 (.mov (.t 59))] [1, 6, 7]) (
 .seq (
 .seq (
 .reg [
   I 60 (.load (some 6) (.t 1)),
   I 61 (.callQ 80 [(.t 60)]),
   I 62 (.mov (.c (.int .i64 0)))] [1, 6, 7, 61, 62]) (
 .block 0 (
  .loop (
   .seq (
   .reg [
     I 63 (.bin .lss (.t 62) (.t 61))] [1, 6, 7, 61, 62, 63]) (
   .seq (
   .cond (.t 63) (
    .skip) (
    .exit 0)) (
   .seq (
   .block 1 (
    .seq (
    .reg [
      I 64 (.mov (.t 62)),
      I 8 (.mov (.t 64))] [1, 6, 7, 8, 61, 62]) (
    .seq (
    .reg [
      I 65 (.fieldAddr 2 (.t 1)),
      I 66 (.load none (.t 65)),
      I 67 (.call 165 [(.t 66)]),
      I 9 (.mov (.t 67))] [1, 6, 7, 8, 9, 61, 62]) (
    .seq (
    .seq (
    .reg [
      I 68 (.mov (.t 8)),
      I 69 (.fieldAddr 3 (.t 1)),
      I 70 (.load none (.t 69)),
      I 71 (.bin .geq (.t 68) (.t 70))] [1, 6, 7, 9, 61, 62, 71]) (
    .cond (.t 71) (
     .reg [
       I 72 (.fieldAddr 2 (.t 1)),
       I 73 (.load none (.t 72)),
       I 74 (.mov (.t 7)),
       I 75 (.call 166 [(.t 73), (.t 74)]),
       I 9 (.mov (.t 75))] [1, 6, 7, 9, 61, 62]) (
     .skip))) (
    .reg [
      I 76 (.mov (.t 6)),
      I 77 (.mov (.t 6)),
      I 78 (.nilChk (.t 77)),
      I 79 (.fieldAddr 10 (.t 78)),
      I 80 (.load none (.t 79)),
      I 81 (.mov (.t 9)),
      I 82 (.build #[.pointer none, .bool false, .int .i64 0, .int .i64 0, .slice none 0 0, .int .i64 0, .int .i64 0, .int .i64 0, .int .i64 0, .int .i64 0, .int .i64 0, .int .u64 0, .int .u64 0, .int .u64 0, .int .u64 0, .slice none 0 0] [((0, 1), (.t 81))]),
      I 83 (.box (.t 82)),
      I 84 (.buildSlice 1 #[.pointer none] 1 [(0, (.t 83))]),
      I 85 (.append 1 8 (.t 80) (.t 84)),
      I 86 (.nilChk (.t 76)),
      I 87 (.fieldAddr 10 (.t 86)),
      I0 (.store 1 (.t 87) (.t 85))] [1, 6, 7, 61, 62]))))) (
   .reg [
     I 88 (.bin .add (.t 62) (.c (.int .i64 1))),
     I 62 (.mov (.t 88))] [1, 6, 7, 61, 62]))))))) (
 .seq (
 .reg [
   I 89 (.mov (.t 6)),
   I 2 (.mov (.t 89)),
   I 3 (.mov (.c (.int .i64 0)))] [2, 3]) (
 .ret)))))))))))⟩

/- (sakia/layout.Layout).slot -/
def c134 : AFn := ⟨3, [.tmp 6], (
 .seq (
 .reg [
   I 3 (.box (.t 0)),
   I 6 (.mov (.c (.int .i64 0)))] [1, 2, 3]) (
 .seq (
 .seq (
 .reg [
   I 7 (.load (some 14) (.t 3)),
   I 8 (.callQ 140 [(.t 7)]),
   I 9 (.un .not (.t 8)),
   I 10 (.mov (.t 9)),
   IG (some 11) (10, false) (.mov (.t 1)),
   IG (some 12) (10, false) (.bin .lss (.t 11) (.c (.int .i64 0))),
   I 13 (.pick (.t 10) (.c (.bool true)) (.t 12)),
   I 14 (.mov (.t 13)),
   IG (some 15) (14, false) (.mov (.t 2)),
   IG (some 16) (14, false) (.bin .lss (.t 15) (.c (.int .i64 0))),
   I 17 (.pick (.t 14) (.c (.bool true)) (.t 16)),
   I 18 (.mov (.t 17)),
   IG (some 19) (18, false) (.mov (.t 2)),
   IG (some 20) (18, false) (.fieldAddr 0 (.t 3)),
   IG (some 21) (18, false) (.fieldAddr 2 (.t 20)),
   IG (some 22) (18, false) (.load none (.t 21)),
   IG (some 23) (18, false) (.bin .geq (.t 19) (.t 22)),
   I 24 (.pick (.t 18) (.c (.bool true)) (.t 23))] [1, 2, 24]) (
 .cond (.t 24) (
  .seq (
  .reg [
    I 6 (.mov (.c (.int .i64 (-1))))] [6]) (
  .ret)) (
  .skip))) (
 .seq (
 .reg [
   I 25 (.mov (.t 1)),
   I 26 (.mov (.t 2)),
   I 27 (.bin .add (.t 25) (.t 26)),
   I 6 (.mov (.t 27))] [6]) (
 .ret))))⟩

/- (*sakia/barrier.Barrier[uint64]).Root -/
def c135 : AFn := ⟨2, [.tmp 4], (
 .seq (
 .reg [
   I 4 (.mov (.c (.bool false)))] [0, 1]) (
 .seq (
 .reg [
   I 5 (.mov (.t 0)),
   I 6 (.mov (.t 1)),
   I 7 (.callQ 97 [(.t 5), (.t 6)]),
   I 8 (.mov (.t 7)),
   IG (some 9) (8, true) (.mov (.t 0)),
   IG (some 10) (8, true) (.nilChk (.t 9)),
   IG (some 11) (8, true) (.fieldAddr 17 (.t 10)),
   IG (some 12) (8, true) (.load none (.t 11)),
   IG (some 13) (8, true) (.mov (.t 1)),
   IG (some 14) (8, true) (.indexAddr none 1 (.t 12) (.t 13)),
   IG (some 15) (8, true) (.load none (.t 14)),
   IG (some 16) (8, true) (.len false (.t 15)),
   IG (some 17) (8, true) (.bin .eql (.t 16) (.c (.int .i64 0))),
   I 18 (.pick (.t 8) (.t 17) (.c (.bool false))),
   I 4 (.mov (.t 18))] [4]) (
 .ret)))⟩

/- sakia/gate.Scan[uint64] -/
def c136 : AFn := ⟨4, [.tmp 8], (
 .seq (
 .reg [
   I 8 (.mov (.c (.bool false)))] [0, 1, 2, 3]) (
 .seq (
 .seq (
 .reg [
   I 10 (.mov (.t 0)),
   I 11 (.isNil .ptr false (.t 10)),
   I 12 (.mov (.t 11)),
   IG (some 13) (12, false) (.mov (.t 3)),
   IG (some 14) (12, false) (.isNil .ptr false (.t 13)),
   I 15 (.pick (.t 12) (.c (.bool true)) (.t 14))] [0, 1, 2, 3, 15]) (
 .cond (.t 15) (
  .seq (
  .reg [
    I 8 (.mov (.c (.bool true)))] [8]) (
  .ret)) (
  .skip))) (
 .seq (
 .seq (
 .reg [
   I 16 (.mov (.t 3)),
   I 17 (.nilChk (.t 16)),
   I 18 (.fieldAddr 4 (.t 17)),
   I 19 (.load none (.t 18)),
   I 20 (.bin .lss (.t 19) (.c (.int .i64 0))),
   I 21 (.mov (.t 20)),
   IG (some 22) (21, false) (.mov (.t 3)),
   IG (some 23) (21, false) (.nilChk (.t 22)),
   IG (some 24) (21, false) (.fieldAddr 4 (.t 23)),
   IG (some 25) (21, false) (.load none (.t 24)),
   IG (some 26) (21, false) (.mov (.t 2)),
   IG (some 27) (21, false) (.len false (.t 26)),
   IG (some 28) (21, false) (.bin .geq (.t 25) (.t 27)),
   I 29 (.pick (.t 21) (.c (.bool true)) (.t 28))] [0, 1, 2, 3, 29]) (
 .cond (.t 29) (
  .seq (
  .reg [
    I 30 (.mov (.t 3)),
    I 31 (.nilChk (.t 30)),
    I 32 (.fieldAddr 4 (.t 31)),
    I0 (.store 1 (.t 32) (.c (.int .i64 0)))] []) (
  .seq (
  .reg [
    I 8 (.mov (.c (.bool true)))] [8]) (
  .ret))) (
  .skip))) (
 .seq (
 .reg [
   I 33 (.mov (.t 0)),
   I 34 (.mov (.t 1)),
   I 35 (.mov (.t 2)),
   I 36 (.mov (.t 3)),
   I 37 (.nilChk (.t 36)),
   I 38 (.fieldAddr 4 (.t 37)),
   I 39 (.load none (.t 38)),
   I 40 (.indexAddr none 1 (.t 35) (.t 39)),
   I 41 (.load none (.t 40)),
   I 42 (.call 167 [(.t 33), (.t 34), (.t 41)]),
   I 9 (.mov (.t 42))] [2, 3, 9]) (
 .seq (
 .seq (
 .reg [
   I 43 (.mov (.t 3)),
   I 44 (.nilChk (.t 43)),
   I 45 (.fieldAddr 4 (.t 44)),
   I 46 (.load none (.t 45)),
   I 47 (.bin .eql (.t 46) (.c (.int .i64 0))),
   I 48 (.mov (.t 47)),
   IG (some 49) (48, false) (.mov (.t 9)),
   IG (some 50) (48, false) (.mov (.t 3)),
   IG (some 51) (48, false) (.nilChk (.t 50)),
   IG (some 52) (48, false) (.fieldAddr 7 (.t 51)),
   IG (some 53) (48, false) (.load none (.t 52)),
   IG (some 54) (48, false) (.callE 1 137 [(.t 49), (.t 53)]),
   I 55 (.pick (.t 48) (.c (.bool true)) (.t 54))] [2, 3, 9, 55]) (
 .cond (.t 55) (
  .reg [
    I 56 (.mov (.t 3)),
    I 57 (.mov (.t 9)),
    I 58 (.nilChk (.t 56)),
    I 59 (.fieldAddr 7 (.t 58)),
    I0 (.store 1 (.t 59) (.t 57))] [2, 3]) (
  .skip))) (
 .seq (
 .reg [
   I 60 (.mov (.t 3)),
   I 61 (.nilChk (.t 60)),
   I 62 (.fieldAddr 4 (.t 61)),
   I 63 (.load none (.t 62)),
   I 64 (.bin .add (.t 63) (.c (.int .i64 1))),
   I 65 (.nilChk (.t 60)),
   I 66 (.fieldAddr 4 (.t 65)),
   I0 (.store 1 (.t 66) (.t 64))] [2, 3]) (
 .seq (
 .seq (
 .reg [
   I 67 (.mov (.t 3)),
   I 68 (.nilChk (.t 67)),
   I 69 (.fieldAddr 4 (.t 68)),
   I 70 (.load none (.t 69)),
   I 71 (.mov (.t 2)),
   I 72 (.len false (.t 71)),
   I 73 (.bin .lss (.t 70) (.t 72))] [3, 73]) (
 .cond (.t 73) (
  .seq (
  .reg [
    I 8 (.mov (.c (.bool false)))] [8]) (
  .ret)) (
  .skip))) (
 .seq (
 .reg [
   I 74 (.mov (.t 3)),
   I 75 (.nilChk (.t 74)),
   I 76 (.fieldAddr 4 (.t 75)),
   I0 (.store 1 (.t 76) (.c (.int .i64 0)))] []) (
 .seq (
 .reg [
   I 8 (.mov (.c (.bool true)))] [8]) (
 .ret))))))))))⟩

/- sakia/wide.Less[uint64] -/
def c137 : AFn := ⟨2, [.tmp 4], (
 .seq (
 .reg [
   I 4 (.mov (.c (.bool false)))] [0, 1]) (
 .seq (
 .reg [
   I 5 (.mov (.t 0)),
   I 6 (.mov (.t 1)),
   I 7 (.callE 1 70 [(.t 5), (.t 6)]),
   I 8 (.bin .lss (.t 7) (.c (.int .i64 0))),
   I 4 (.mov (.t 8))] [4]) (
 .ret)))⟩

/- (*sakia/board.Board[uint64]).is -/
def c138 : AFn := ⟨3, [.tmp 6], (
 .seq (
 .reg [
   I 6 (.mov (.c (.bool false)))] [0, 1, 2]) (
 .seq (
 .reg [
   I 7 (.mov (.t 0)),
   I 8 (.isNil .ptr true (.t 7)),
   I 9 (.mov (.t 8)),
   IG (some 10) (9, true) (.mov (.t 0)),
   IG (some 11) (9, true) (.nilChk (.t 10)),
   IG (some 12) (9, true) (.fieldAddr 0 (.t 11)),
   IG (some 13) (9, true) (.load (some 14) (.t 12)),
   IG (some 14) (9, true) (.mov (.t 1)),
   IG (some 15) (9, true) (.callQ 71 [(.t 13), (.t 14)]),
   IG (some 16) (9, true) (.mov (.t 2)),
   IG (some 17) (9, true) (.bin .eql (.t 15) (.t 16)),
   I 18 (.pick (.t 9) (.t 17) (.c (.bool false))),
   I 6 (.mov (.t 18))] [6]) (
 .ret)))⟩

/- (*sakia/board.Board[uint64]).lay -/
def c139 : AFn := ⟨5, [.tmp 10], (
 .seq (
 .reg [
   I 10 (.mov (.c (.int .u64 0)))] [0, 1, 2, 3, 4]) (
 .seq (
 .reg [
   I 12 (.mov (.t 0)),
   I 13 (.nilChk (.t 12)),
   I 14 (.fieldAddr 14 (.t 13)),
   I 15 (.load none (.t 14)),
   I 16 (.mov (.t 3)),
   I 17 (.indexAddr none 1 (.t 15) (.t 16)),
   I 18 (.load none (.t 17)),
   I 11 (.mov (.t 18))] [0, 1, 2, 3, 4, 11]) (
 .seq (
 .reg [
   I 19 (.mov (.t 0)),
   I 20 (.mov (.t 1)),
   I 21 (.mov (.t 2)),
   I 22 (.mov (.t 3)),
   I 23 (.mov (.t 11)),
   I 24 (.callE 1 59 [(.t 23)]),
   I 25 (.mov (.t 4)),
   I 26 (.callE 1 59 [(.t 25)]),
   I 27 (.call 90 [(.t 19), (.t 20), (.t 21), (.t 22), (.t 24), (.t 26)])] [0, 3, 4, 11]) (
 .seq (
 .reg [
   I 28 (.mov (.t 0)),
   I 29 (.nilChk (.t 28)),
   I 30 (.fieldAddr 14 (.t 29)),
   I 31 (.load none (.t 30)),
   I 32 (.mov (.t 3)),
   I 33 (.mov (.t 4)),
   I 34 (.indexAddr none 1 (.t 31) (.t 32)),
   I0 (.store 1 (.t 34) (.t 33))] [11]) (
 .seq (
 .reg [
   I 35 (.mov (.t 11)),
   I 10 (.mov (.t 35))] [10]) (
 .ret))))))⟩

/- (sakia/layout.Layout).made -/
def c140 : AFn := ⟨1, [.tmp 2], (
 .seq (
 .reg [
   I 1 (.box (.t 0)),
   I 2 (.mov (.c (.bool false)))] [1]) (
 .seq (
 .reg [
   I 3 (.fieldAddr 13 (.t 1)),
   I 4 (.load none (.t 3)),
   I 5 (.bin .gtr (.t 4) (.c (.int .i64 0))),
   I 2 (.mov (.t 5))] [2]) (
 .ret)))⟩

/- sakia/wide.Bits[uint64] -/
def c141 : AFn := ⟨0, [.tmp 0], (
 .seq (
 .reg [
   I 0 (.mov (.c (.int .i64 0)))] []) (
 .seq (
 .seq (
 .reg [
   I 1 (.conv .u64 (.c (.int .i64 1))),
   I 2 (.bin .shl (.t 1) (.c (.int .u64 31))),
   I 3 (.bin .shl (.t 2) (.c (.int .u64 1))),
   I 4 (.bin .eql (.t 3) (.c (.int .u64 0)))] [4]) (
 .cond (.t 4) (
  .seq (
  .reg [
    I 0 (.mov (.c (.int .i64 32)))] [0]) (
  .ret)) (
  .skip))) (
 .seq (
 .reg [
   I 0 (.mov (.c (.int .i64 64)))] [0]) (
 .ret))))⟩

/- sakia/wide.Right -/
def c142 : AFn := ⟨1, [.tmp 2], (
 .seq (
 .reg [
   I 2 (.mov (.c (.bool false)))] [0]) (
 .seq (
 .reg [
   I 3 (.mov (.t 0)),
   I 4 (.bin .eql (.t 3) (.c (.int .i64 32))),
   I 5 (.mov (.t 4)),
   IG (some 6) (5, false) (.mov (.t 0)),
   IG (some 7) (5, false) (.bin .eql (.t 6) (.c (.int .i64 64))),
   I 8 (.pick (.t 5) (.c (.bool true)) (.t 7)),
   I 2 (.mov (.t 8))] [2]) (
 .ret)))⟩

/- sakia/graph.Check -/
def c143 : AFn := ⟨1, [.tmp 2], (
 .seq (
 .reg [
   I 2 (.mov (.c (.int .i64 0)))] [0]) (
 .seq (
 .seq (
 .reg [
   I 6 (.mov (.t 0)),
   I 7 (.len false (.t 6)),
   I 8 (.bin .lss (.t 7) (.c (.int .i64 1))),
   I 9 (.mov (.t 8)),
   IG (some 10) (9, false) (.mov (.t 0)),
   IG (some 11) (9, false) (.len false (.t 10)),
   IG (some 12) (9, false) (.bin .gtr (.t 11) (.c (.int .i64 6))),
   I 13 (.pick (.t 9) (.c (.bool true)) (.t 12))] [0, 13]) (
 .cond (.t 13) (
  .seq (
  .reg [
    I 2 (.mov (.c (.int .i64 6)))] [2]) (
  .ret)) (
  .skip))) (
 .seq (
 .seq (
 .reg [
   I 14 (.mov (.t 0)),
   I 15 (.len false (.t 14)),
   I 16 (.mov (.c (.int .i64 0)))] [0, 14, 15, 16]) (
 .block 0 (
  .loop (
   .seq (
   .reg [
     I 17 (.bin .lss (.t 16) (.t 15))] [0, 14, 15, 16, 17]) (
   .seq (
   .cond (.t 17) (
    .skip) (
    .exit 0)) (
   .seq (
   .block 1 (
    .seq (
    .reg [
      I 18 (.indexAddr none 1 (.t 14) (.t 16)),
      I 19 (.load none (.t 18)),
      I 4 (.mov (.t 19))] [0, 4, 14, 15, 16]) (
    .seq (
    .reg [
      I 20 (.mov (.t 4)),
      I 21 (.mov (.t 0)),
      I 22 (.len false (.t 21)),
      I 23 (.callQ 168 [(.t 20), (.t 22)]),
      I 24 (.un .not (.t 23))] [0, 14, 15, 16, 24]) (
    .cond (.t 24) (
     .seq (
     .reg [
       I 2 (.mov (.c (.int .i64 7)))] [2]) (
     .ret)) (
     .skip))))) (
   .reg [
     I 25 (.bin .add (.t 16) (.c (.int .i64 1))),
     I 16 (.mov (.t 25))] [0, 14, 15, 16]))))))) (
 .seq (
 .seq (
 .reg [
   I 26 (.mov (.t 0)),
   I 27 (.len false (.t 26)),
   I 28 (.mov (.c (.int .i64 0)))] [0, 27, 28]) (
 .block 2 (
  .loop (
   .seq (
   .reg [
     I 29 (.bin .lss (.t 28) (.t 27))] [0, 27, 28, 29]) (
   .seq (
   .cond (.t 29) (
    .skip) (
    .exit 2)) (
   .seq (
   .block 3 (
    .seq (
    .reg [
      I 30 (.mov (.t 28)),
      I 5 (.mov (.t 30))] [0, 5, 27, 28]) (
    .seq (
    .reg [
      I 31 (.mov (.t 0)),
      I 32 (.mov (.t 5)),
      I 33 (.callQ 169 [(.t 31), (.t 32)]),
      I 34 (.mov (.t 5)),
      I 35 (.callE 1 170 [(.t 33), (.t 34)])] [0, 27, 28, 35]) (
    .cond (.t 35) (
     .seq (
     .reg [
       I 2 (.mov (.c (.int .i64 8)))] [2]) (
     .ret)) (
     .skip))))) (
   .reg [
     I 36 (.bin .add (.t 28) (.c (.int .i64 1))),
     I 28 (.mov (.t 36))] [0, 27, 28]))))))) (
 .seq (
 .reg [
   I 2 (.mov (.c (.int .i64 0)))] [2]) (
 .ret))))))⟩

/- sakia/conf.bound -/
def c144 : AFn := ⟨1, [.tmp 2], (
 .seq (
 .reg [
   I 1 (.box (.t 0)),
   I 2 (.mov (.c (.bool false)))] [1]) (
 .seq (
 .reg [
   I 4 (.fieldAddr 1 (.t 1)),
   I 5 (.load none (.t 4)),
   I 6 (.bin .sub (.t 5) (.c (.int .i64 1))),
   I 7 (.bin .shl (.c (.int .u64 1)) (.t 6)),
   I 3 (.mov (.t 7))] [1, 3]) (
 .seq (
 .reg [
   I 8 (.fieldAddr 3 (.t 1)),
   I 9 (.load none (.t 8)),
   I 10 (.bin .add (.t 9) (.c (.int .i64 2))),
   I 11 (.conv .u64 (.t 10)),
   I 12 (.fieldAddr 2 (.t 1)),
   I 13 (.load none (.t 12)),
   I 14 (.conv .u64 (.t 13)),
   I 15 (.bin .mul (.t 11) (.t 14)),
   I 16 (.mov (.t 3)),
   I 17 (.bin .geq (.t 15) (.t 16)),
   I 2 (.mov (.t 17))] [2]) (
 .ret))))⟩

/- (sakia/layout.Layout).marked -/
def c145 : AFn := ⟨2, [.tmp 4, .tmp 5], (
 .seq (
 .reg [
   I 2 (.box (.t 0)),
   I 4 (.mov (.c (.int .i64 0))),
   I 5 (.mov (.c (.bool false)))] [1, 2]) (
 .seq (
 .regd [0, 1, 4, 2, 3, 5, 6, 7, 8, 9, 10, 11, 12, 13, 14, 15, 19, 16, 17, 18, 20] [
   I 6 (.mov (.t 1)),
   I 7 (.fieldAddr 11 (.t 2)),
   I 10 (.fieldAddr 11 (.t 2)),
   I 8 (.load none (.t 7)),
   I 9 (.bin .sub (.t 6) (.t 8)),
   I 11 (.load none (.t 10)),
   I 12 (.bin .geq (.t 11) (.c (.int .i64 0))),
   I 13 (.mov (.t 12)),
   IG (some 14) (13, true) (.mov (.t 1)),
   IG (some 15) (13, true) (.fieldAddr 11 (.t 2)),
   IG (some 16) (13, true) (.load none (.t 15)),
   IG (some 17) (13, true) (.bin .geq (.t 14) (.t 16)),
   I 18 (.pick (.t 13) (.t 17) (.c (.bool false))),
   I 19 (.mov (.t 18)),
   IG (some 20) (19, true) (.mov (.t 1)),
   IG (some 21) (19, true) (.fieldAddr 12 (.t 2)),
   I 4 (.mov (.t 9)),
   IG (some 22) (19, true) (.load none (.t 21)),
   IG (some 23) (19, true) (.bin .lss (.t 20) (.t 22)),
   I 24 (.pick (.t 19) (.t 23) (.c (.bool false))),
   I 5 (.mov (.t 24))] [4, 5]) (
 .ret)))⟩

/- sakia/lap.First[uint32] -/
def c146 : AFn := ⟨3, [.tmp 6], (
 .seq (
 .reg [
   I 6 (.mov (.c (.int .u32 0)))] [0, 1, 2]) (
 .seq (
 .seq (
 .reg [
   I 7 (.mov (.t 0)),
   I 8 (.mov (.t 1)),
   I 9 (.callE 1 171 [(.t 7), (.t 8)]),
   I 10 (.un .not (.t 9))] [0, 1, 2, 10]) (
 .cond (.t 10) (
  .seq (
  .reg [
    I 6 (.mov (.c (.int .u32 0)))] [6]) (
  .ret)) (
  .skip))) (
 .seq (
 .reg [
   I 11 (.mov (.t 2)),
   I 12 (.mov (.t 1)),
   I 13 (.conv .u32 (.t 12)),
   I 14 (.mov (.t 2)),
   I 15 (.bin .sub (.t 13) (.t 14)),
   I 16 (.mov (.t 0)),
   I 17 (.bin .sub (.t 16) (.c (.int .i64 1))),
   I 18 (.conv .u32 (.t 17)),
   I 19 (.bin .and (.t 15) (.t 18)),
   I 20 (.bin .add (.t 11) (.t 19)),
   I 6 (.mov (.t 20))] [6]) (
 .ret))))⟩

/- sakia/lap.Ahead[uint32] -/
def c147 : AFn := ⟨3, [.tmp 6], (
 .seq (
 .reg [
   I 6 (.mov (.c (.int .u32 0)))] [0, 1, 2]) (
 .seq (
 .seq (
 .reg [
   I 7 (.mov (.t 0)),
   I 8 (.mov (.t 1)),
   I 9 (.callE 1 171 [(.t 7), (.t 8)]),
   I 10 (.un .not (.t 9))] [0, 1, 2, 10]) (
 .cond (.t 10) (
  .seq (
  .reg [
    I 6 (.mov (.c (.int .u32 0)))] [6]) (
  .ret)) (
  .skip))) (
 .seq (
 .reg [
   I 11 (.mov (.t 0)),
   I 12 (.mov (.t 0)),
   I 13 (.mov (.t 1)),
   I 14 (.mov (.t 2)),
   I 15 (.callE 1 146 [(.t 12), (.t 13), (.t 14)]),
   I 16 (.mov (.t 0)),
   I 17 (.conv .u32 (.t 16)),
   I 18 (.bin .sub (.t 15) (.t 17)),
   I 19 (.callE 1 172 [(.t 11), (.t 18)]),
   I 6 (.mov (.t 19))] [6]) (
 .ret))))⟩

/- sakia/lap.First[uint64] -/
def c148 : AFn := ⟨3, [.tmp 6], (
 .seq (
 .reg [
   I 6 (.mov (.c (.int .u64 0)))] [0, 1, 2]) (
 .seq (
 .seq (
 .reg [
   I 7 (.mov (.t 0)),
   I 8 (.mov (.t 1)),
   I 9 (.callE 1 171 [(.t 7), (.t 8)]),
   I 10 (.un .not (.t 9))] [0, 1, 2, 10]) (
 .cond (.t 10) (
  .seq (
  .reg [
    I 6 (.mov (.c (.int .u64 0)))] [6]) (
  .ret)) (
  .skip))) (
 .seq (
 .reg [
   I 11 (.mov (.t 2)),
   I 12 (.mov (.t 1)),
   I 13 (.conv .u64 (.t 12)),
   I 14 (.mov (.t 2)),
   I 15 (.bin .sub (.t 13) (.t 14)),
   I 16 (.mov (.t 0)),
   I 17 (.bin .sub (.t 16) (.c (.int .i64 1))),
   I 18 (.conv .u64 (.t 17)),
   I 19 (.bin .and (.t 15) (.t 18)),
   I 20 (.bin .add (.t 11) (.t 19)),
   I 6 (.mov (.t 20))] [6]) (
 .ret))))⟩

/- sakia/lap.Ahead[uint64] -/
def c149 : AFn := ⟨3, [.tmp 6], (
 .seq (
 .reg [
   I 6 (.mov (.c (.int .u64 0)))] [0, 1, 2]) (
 .seq (
 .seq (
 .reg [
   I 7 (.mov (.t 0)),
   I 8 (.mov (.t 1)),
   I 9 (.callE 1 171 [(.t 7), (.t 8)]),
   I 10 (.un .not (.t 9))] [0, 1, 2, 10]) (
 .cond (.t 10) (
  .seq (
  .reg [
    I 6 (.mov (.c (.int .u64 0)))] [6]) (
  .ret)) (
  .skip))) (
 .seq (
 .reg [
   I 11 (.mov (.t 0)),
   I 12 (.mov (.t 0)),
   I 13 (.mov (.t 1)),
   I 14 (.mov (.t 2)),
   I 15 (.callE 1 148 [(.t 12), (.t 13), (.t 14)]),
   I 16 (.mov (.t 0)),
   I 17 (.conv .u64 (.t 16)),
   I 18 (.bin .sub (.t 15) (.t 17)),
   I 19 (.callE 1 173 [(.t 11), (.t 18)]),
   I 6 (.mov (.t 19))] [6]) (
 .ret))))⟩

/- sakia/gate.Ends -/
def c150 : AFn := ⟨1, [.tmp 2], (
 .seq (
 .reg [
   I 1 (.box (.t 0)),
   I 2 (.mov (.c (.slice none 0 0)))] [1]) (
 .seq (
 .seq (
 .reg [
   I 3 (.fieldAddr 13 (.t 1)),
   I 4 (.load none (.t 3)),
   I 5 (.bin .eql (.t 4) (.c (.int .i64 0)))] [1, 5]) (
 .cond (.t 5) (
  .seq (
  .reg [
    I 2 (.mov (.c (.slice none 0 0)))] [2]) (
  .ret)) (
  .skip))) (
 .seq (
 .regd [1, 2, 0, 3, 4, 5, 6] [
   I 7 (.fieldAddr 0 (.t 1)),
   I 8 (.fieldAddr 5 (.t 7)),
   I 6 (.load (some 14) (.t 1)),
   I 9 (.load none (.t 8)),
   I 10 (.hold [((some 14), (.t 1))] (.call 174 [(.t 9)])),
   I 11 (.call 151 [(.t 6), (.t 10)]),
   I 2 (.mov (.t 11))] [2]) (
 .ret))))⟩

/- sakia/gate.gates -/
def c151 : AFn := ⟨2, [.tmp 4], (
 .seq (
 .reg [
   I 2 (.box (.t 0)),
   I 4 (.mov (.c (.slice none 0 0)))] [1, 2]) (
 .seq (
 .reg [
   I 5 (.mov (.c (.slice none 0 0)))] [1, 2, 5]) (
 .seq (
 .seq (
 .reg [
   I 8 (.mov (.t 1)),
   I 9 (.len false (.t 8)),
   I 10 (.mov (.c (.int .i64 0)))] [2, 5, 8, 9, 10]) (
 .block 0 (
  .loop (
   .seq (
   .reg [
     I 11 (.bin .lss (.t 10) (.t 9))] [2, 5, 8, 9, 10, 11]) (
   .seq (
   .cond (.t 11) (
    .skip) (
    .exit 0)) (
   .seq (
   .block 1 (
    .seq (
    .reg [
      I 12 (.indexAddr none 1 (.t 8) (.t 10)),
      I 13 (.load none (.t 12)),
      I 7 (.mov (.t 13))] [2, 5, 7, 8, 9, 10]) (
    .reg [
      I 14 (.mov (.t 5)),
      I 15 (.load (some 14) (.t 2)),
      I 16 (.mov (.t 7)),
      I 17 (.callQ 101 [(.t 15), (.t 16)]),
      I 18 (.buildSlice 1 #[.int .i64 0] 1 [(0, (.t 17))]),
      I 19 (.append 1 8 (.t 14) (.t 18)),
      I 5 (.mov (.t 19))] [2, 5, 8, 9, 10]))) (
   .reg [
     I 20 (.bin .add (.t 10) (.c (.int .i64 1))),
     I 10 (.mov (.t 20))] [2, 5, 8, 9, 10]))))))) (
 .seq (
 .reg [
   I 21 (.mov (.t 5)),
   I 4 (.mov (.t 21))] [4]) (
 .ret)))))⟩

/- sakia/wide.Diff[uint32] -/
def c152 : AFn := ⟨2, [.tmp 4], (
 .seq (
 .reg [
   I 4 (.mov (.c (.int .i64 0)))] [0, 1]) (
 .seq (
 .reg [
   I 5 (.mov (.t 0)),
   I 6 (.mov (.t 1)),
   I 7 (.bin .sub (.t 5) (.t 6)),
   I 8 (.callE 1 175 [(.t 7)]),
   I 4 (.mov (.t 8))] [4]) (
 .ret)))⟩

/- (*sakia/board.Board[uint32]).slot -/
def c153 : AFn := ⟨2, [.tmp 4], (
 .seq (
 .reg [
   I 4 (.mov (.c (.bool false)))] [0, 1]) (
 .seq (
 .reg [
   I 5 (.mov (.t 0)),
   I 6 (.isNil .ptr true (.t 5)),
   I 7 (.mov (.t 6)),
   IG (some 8) (7, true) (.mov (.t 1)),
   IG (some 9) (7, true) (.bin .geq (.t 8) (.c (.int .i64 0))),
   I 10 (.pick (.t 7) (.t 9) (.c (.bool false))),
   I 11 (.mov (.t 10)),
   IG (some 12) (11, true) (.mov (.t 1)),
   IG (some 13) (11, true) (.mov (.t 0)),
   IG (some 14) (11, true) (.nilChk (.t 13)),
   IG (some 15) (11, true) (.fieldAddr 15 (.t 14)),
   IG (some 16) (11, true) (.load none (.t 15)),
   IG (some 17) (11, true) (.len false (.t 16)),
   IG (some 18) (11, true) (.bin .lss (.t 12) (.t 17)),
   I 19 (.pick (.t 11) (.t 18) (.c (.bool false))),
   I 4 (.mov (.t 19))] [4]) (
 .ret)))⟩

/- (*sakia/board.Board[uint32]).note -/
def c154 : AFn := ⟨6, [], (
 .reg [
   I 12 (.mov (.t 0)),
   I 13 (.mov (.t 0)),
   I 14 (.nilChk (.t 13)),
   I 15 (.fieldAddr 16 (.t 14)),
   I 16 (.load none (.t 15)),
   I 17 (.mov (.t 1)),
   I 18 (.mov (.t 2)),
   I 19 (.mov (.t 3)),
   I 20 (.mov (.t 4)),
   I 21 (.mov (.t 5)),
   I 22 (.build #[.int .i64 0, .int .i64 0, .int .i64 0, .int .u64 0, .int .u64 0] [((0, 1), (.t 17)), ((1, 1), (.t 18)), ((2, 1), (.t 19)), ((3, 1), (.t 20)), ((4, 1), (.t 21))]),
   I 23 (.buildSlice 5 #[.int .i64 0, .int .i64 0, .int .i64 0, .int .u64 0, .int .u64 0] 1 [(0, (.t 22))]),
   I 24 (.append 5 40 (.t 16) (.t 23)),
   I 25 (.nilChk (.t 12)),
   I 26 (.fieldAddr 16 (.t 25)),
   I0 (.store 1 (.t 26) (.t 24))] [])⟩

/- sakia/lap.Slot[uint32] -/
def c155 : AFn := ⟨2, [.tmp 4], (
 .seq (
 .reg [
   I 4 (.mov (.c (.int .i64 0)))] [0, 1]) (
 .seq (
 .seq (
 .reg [
   I 5 (.mov (.t 0)),
   I 6 (.callE 1 114 [(.t 5)]),
   I 7 (.un .not (.t 6))] [0, 1, 7]) (
 .cond (.t 7) (
  .seq (
  .reg [
    I 4 (.mov (.c (.int .i64 0)))] [4]) (
  .ret)) (
  .skip))) (
 .seq (
 .reg [
   I 8 (.mov (.t 1)),
   I 9 (.mov (.t 0)),
   I 10 (.bin .sub (.t 9) (.c (.int .i64 1))),
   I 11 (.conv .u32 (.t 10)),
   I 12 (.bin .and (.t 8) (.t 11)),
   I 13 (.conv .i64 (.t 12)),
   I 4 (.mov (.t 13))] [4]) (
 .ret))))⟩

/- sakia/wide.Add[uint32] -/
def c156 : AFn := ⟨2, [.tmp 4], (
 .seq (
 .reg [
   I 4 (.mov (.c (.int .u32 0)))] [0, 1]) (
 .seq (
 .reg [
   I 5 (.mov (.t 0)),
   I 6 (.mov (.t 1)),
   I 7 (.conv .u32 (.t 6)),
   I 8 (.bin .add (.t 5) (.t 7)),
   I 4 (.mov (.t 8))] [4]) (
 .ret)))⟩

/- (*sakia/board.Board[uint32]).Data -/
def c157 : AFn := ⟨2, [.tmp 4], (
 .seq (
 .reg [
   I 4 (.mov (.c (.int .i64 0)))] [0, 1]) (
 .seq (
 .seq (
 .reg [
   I 5 (.mov (.t 0)),
   I 6 (.mov (.t 1)),
   I 7 (.callQ 153 [(.t 5), (.t 6)]),
   I 8 (.un .not (.t 7))] [0, 1, 8]) (
 .cond (.t 8) (
  .seq (
  .reg [
    I 4 (.mov (.c (.int .i64 0)))] [4]) (
  .ret)) (
  .skip))) (
 .seq (
 .reg [
   I 9 (.mov (.t 0)),
   I 10 (.nilChk (.t 9)),
   I 11 (.fieldAddr 15 (.t 10)),
   I 12 (.load none (.t 11)),
   I 13 (.mov (.t 1)),
   I 14 (.indexAddr none 1 (.t 12) (.t 13)),
   I 15 (.load none (.t 14)),
   I 4 (.mov (.t 15))] [4]) (
 .ret))))⟩

/- (*sakia/barrier.Barrier[uint32]).there -/
def c158 : AFn := ⟨2, [.tmp 4], (
 .seq (
 .reg [
   I 4 (.mov (.c (.bool false)))] [0, 1]) (
 .seq (
 .reg [
   I 5 (.mov (.t 0)),
   I 6 (.isNil .ptr true (.t 5)),
   I 7 (.mov (.t 6)),
   IG (some 8) (7, true) (.mov (.t 1)),
   IG (some 9) (7, true) (.bin .geq (.t 8) (.c (.int .i64 0))),
   I 10 (.pick (.t 7) (.t 9) (.c (.bool false))),
   I 11 (.mov (.t 10)),
   IG (some 12) (11, true) (.mov (.t 1)),
   IG (some 13) (11, true) (.mov (.t 0)),
   IG (some 14) (11, true) (.nilChk (.t 13)),
   IG (some 15) (11, true) (.fieldAddr 17 (.t 14)),
   IG (some 16) (11, true) (.load none (.t 15)),
   IG (some 17) (11, true) (.len false (.t 16)),
   IG (some 18) (11, true) (.bin .lss (.t 12) (.t 17)),
   I 19 (.pick (.t 11) (.t 18) (.c (.bool false))),
   I 4 (.mov (.t 19))] [4]) (
 .ret)))⟩

/- (*sakia/barrier.Barrier[uint32]).look -/
def c159 : AFn := ⟨3, [.tmp 6], (
 .seq (
 .reg [
   I 6 (.mov (.c (.bool false)))] [0, 1, 2]) (
 .seq (
 .seq (
 .reg [
   I 7 (.mov (.t 0)),
   I 8 (.mov (.t 1)),
   I 9 (.callQ 176 [(.t 7), (.t 8)])] [0, 1, 2, 9]) (
 .cond (.t 9) (
  .seq (
  .regd [0, 1, 2, 4, 5, 7, 3, 8, 9, 6, 10, 11] [
    I 10 (.mov (.t 0)),
    I 11 (.nilChk (.t 10)),
    I 12 (.fieldAddr 2 (.t 11)),
    I 14 (.mov (.t 0)),
    I 15 (.mov (.t 1)),
    I 17 (.mov (.t 2)),
    I 13 (.load none (.t 12)),
    I 18 (.nilChk (.t 13)),
    I 19 (.mov (.t 13)),
    I 16 (.callQ 160 [(.t 14), (.t 15)]),
    I 20 (.invoke "Tip" (.t 19) [(.t 16), (.t 17)]),
    I 6 (.mov (.t 20))] [6]) (
  .ret)) (
  .skip))) (
 .seq (
 .seq (
 .regd [0, 1, 2, 4, 5, 7, 8, 9, 11, 14, 3, 6, 10, 12, 13, 15, 16] [
   I 21 (.mov (.t 0)),
   I 22 (.nilChk (.t 21)),
   I 23 (.fieldAddr 0 (.t 22)),
   I 25 (.mov (.t 0)),
   I 26 (.mov (.t 1)),
   I 28 (.mov (.t 0)),
   I 29 (.nilChk (.t 28)),
   I 30 (.fieldAddr 17 (.t 29)),
   I 32 (.mov (.t 1)),
   I 35 (.mov (.t 2)),
   I 24 (.load none (.t 23)),
   I 27 (.callQ 160 [(.t 25), (.t 26)]),
   I 31 (.load none (.t 30)),
   I 33 (.indexAddr none 1 (.t 31) (.t 32)),
   I 34 (.load none (.t 33)),
   I 36 (.call 177 [(.t 24), (.t 27), (.t 34), (.t 35)]),
   I 37 (.un .not (.t 36))] [2, 37]) (
 .cond (.t 37) (
  .seq (
  .reg [
    I 6 (.mov (.c (.bool false)))] [6]) (
  .ret)) (
  .skip))) (
 .seq (
 .seq (
 .regd [0, 1, 2, 4, 5, 6, 3, 7, 8] [
   I 38 (.mov (.t 2)),
   I 39 (.nilChk (.t 38)),
   I 40 (.fieldAddr 8 (.t 39)),
   I 42 (.mov (.t 2)),
   I 43 (.nilChk (.t 42)),
   I 44 (.fieldAddr 7 (.t 43)),
   I 41 (.load none (.t 40)),
   I 45 (.load none (.t 44)),
   I 46 (.callE 1 178 [(.t 41), (.t 45)])] [2, 46]) (
 .cond (.t 46) (
  .reg [
    I 47 (.mov (.t 2)),
    I 48 (.mov (.t 2)),
    I 49 (.nilChk (.t 48)),
    I 50 (.fieldAddr 7 (.t 49)),
    I 51 (.load none (.t 50)),
    I 52 (.nilChk (.t 47)),
    I 53 (.fieldAddr 8 (.t 52)),
    I0 (.store 1 (.t 53) (.t 51))] []) (
  .skip))) (
 .seq (
 .reg [
   I 6 (.mov (.c (.bool true)))] [6]) (
 .ret))))))⟩

/- (*sakia/barrier.Barrier[uint32]).thread -/
def c160 : AFn := ⟨2, [.tmp 4], (
 .seq (
 .reg [
   I 4 (.mov (.c (.int .i64 0)))] [0, 1]) (
 .seq (
 .reg [
   I 5 (.mov (.t 0)),
   I 6 (.nilChk (.t 5)),
   I 7 (.fieldAddr 3 (.t 6)),
   I 8 (.fieldAddr 0 (.t 7)),
   I 9 (.fieldAddr 3 (.t 8)),
   I 10 (.load none (.t 9)),
   I 11 (.mov (.t 1)),
   I 12 (.bin .add (.t 10) (.t 11)),
   I 4 (.mov (.t 12))] [4]) (
 .ret)))⟩

/- (*sakia/board.Board[uint32]).Store -/
def c161 : AFn := ⟨4, [], (
 .seq (
 .reg [
   I 8 (.mov (.t 0)),
   I 9 (.mov (.t 2)),
   I 10 (.callQ 179 [(.t 8), (.t 9), (.c (.int .i64 1))])] [0, 1, 2, 3, 10]) (
 .cond (.t 10) (
  .reg [
    I 11 (.mov (.t 0)),
    I 12 (.mov (.t 1)),
    I 13 (.mov (.t 2)),
    I 14 (.mov (.t 3)),
    I 15 (.call 180 [(.t 11), (.t 12), (.c (.int .i64 2)), (.t 13), (.t 14)])] []) (
  .skip)))⟩

/- sakia/board.New[uint64] -/
def c162 : AFn := ⟨1, [.tmp 2], (
 .seq (
 .reg [
   I 1 (.box (.t 0)),
   I 2 (.mov (.c (.pointer none)))] [1]) (
 .seq (
 .seq (
 .regd [0, 1, 2, 3, 4, 5, 7, 6, 8, 9] [
   I 5 (.fieldAddr 13 (.t 1)),
   I 6 (.load none (.t 5)),
   I 7 (.bin .eql (.t 6) (.c (.int .i64 0))),
   I 8 (.mov (.t 7)),
   IG (some 9) (8, false) (.fieldAddr 0 (.t 1)),
   IG (some 10) (8, false) (.fieldAddr 1 (.t 9)),
   IG (some 12) (8, false) (.callE 1 141 []),
   IG (some 11) (8, false) (.load none (.t 10)),
   IG (some 13) (8, false) (.bin .neq (.t 11) (.t 12)),
   I 14 (.pick (.t 8) (.c (.bool true)) (.t 13))] [1, 14]) (
 .cond (.t 14) (
  .seq (
  .reg [
    I 2 (.mov (.c (.pointer none)))] [2]) (
  .ret)) (
  .skip))) (
 .seq (
 .regd [1, 2, 0, 3, 4, 5, 6, 7] [
   I 16 (.fieldAddr 0 (.t 1)),
   I 17 (.fieldAddr 2 (.t 16)),
   I 15 (.load (some 14) (.t 1)),
   I 18 (.load none (.t 17)),
   I 19 (.mkSlice 1 8 #[.int .i64 0] (.t 18)),
   I 20 (.build #[.int .i64 0, .int .i64 0, .int .i64 0, .int .i64 0, .int .u64 0, .slice none 0 0, .int .i64 0, .int .i64 0, .int .i64 0, .int .i64 0, .int .i64 0, .int .i64 0, .int .i64 0, .int .i64 0, .slice none 0 0, .slice none 0 0, .slice none 0 0] [((0, 14), (.t 15)), ((15, 1), (.t 19))]),
   I 21 (.box (.t 20)),
   I 3 (.mov (.t 21))] [1, 3]) (
 .seq (
 .seq (
 .reg [
   I 22 (.fieldAddr 12 (.t 1)),
   I 23 (.load none (.t 22)),
   I 24 (.mov (.c (.int .i64 0)))] [1, 3, 23, 24]) (
 .block 0 (
  .loop (
   .seq (
   .reg [
     I 25 (.bin .lss (.t 24) (.t 23))] [1, 3, 23, 24, 25]) (
   .seq (
   .cond (.t 25) (
    .skip) (
    .exit 0)) (
   .seq (
   .block 1 (
    .seq (
    .reg [
      I 26 (.mov (.t 24)),
      I 4 (.mov (.t 26))] [1, 3, 4, 23, 24]) (
    .regd [0, 1, 2, 3, 6, 4, 5, 7, 8, 9, 10, 11, 12, 13] [
      I 27 (.mov (.t 3)),
      I 28 (.mov (.t 3)),
      I 29 (.nilChk (.t 28)),
      I 30 (.fieldAddr 14 (.t 29)),
      I 33 (.mov (.t 4)),
      I 31 (.load none (.t 30)),
      I 32 (.load (some 14) (.t 1)),
      I 34 (.callQ 105 [(.t 32), (.t 33)]),
      I 35 (.callE 1 95 [(.t 34)]),
      I 36 (.buildSlice 1 #[.int .u64 0] 1 [(0, (.t 35))]),
      I 37 (.append 1 8 (.t 31) (.t 36)),
      I 38 (.nilChk (.t 27)),
      I 39 (.fieldAddr 14 (.t 38)),
      I0 (.store 1 (.t 39) (.t 37))] [1, 3, 23, 24]))) (
   .reg [
     I 40 (.bin .add (.t 24) (.c (.int .i64 1))),
     I 24 (.mov (.t 40))] [1, 3, 23, 24]))))))) (
 .seq (
 .reg [
   I 41 (.mov (.t 3)),
   I 2 (.mov (.t 41))] [2]) (
 .ret))))))⟩

/- sakia/seqs.New[uint64] -/
def c163 : AFn := ⟨2, [.tmp 4], (
 .seq (
 .reg [
   I 4 (.mov (.c (.nilIface)))] [0, 1]) (
 .seq (
 .seq (
 .reg [
   I 5 (.mov (.t 0)),
   I 6 (.call 181 [(.t 5)]),
   I 7 (.field 0 (some 6) (.t 6)),
   I 8 (.field 0 none (.t 7))] [0, 1, 8]) (
 .block 0 (
  .seq (
  .reg [
    I 10 (.bin .eql (.t 8) (.c (.int .i64 1))),
    I 9 (.mov (.t 10))] [0, 1, 8, 9]) (
  .cond (.t 9) (
   .seq (
   .reg [
     I 11 (.mov (.t 0)),
     I 12 (.mov (.t 1)),
     I 13 (.call 182 [(.t 11), (.t 12)]),
     I 14 (.mkIface 230 (.t 13)),
     I 4 (.mov (.t 14))] [4]) (
   .ret)) (
   .seq (
   .reg [
     I 16 (.bin .eql (.t 8) (.c (.int .i64 2))),
     I 15 (.mov (.t 16))] [0, 1, 8, 15]) (
   .cond (.t 15) (
    .seq (
    .reg [
      I 17 (.mov (.t 0)),
      I 18 (.mov (.t 1)),
      I 19 (.call 183 [(.t 17), (.t 18)]),
      I 20 (.mkIface 232 (.t 19)),
      I 4 (.mov (.t 20))] [4]) (
    .ret)) (
    .seq (
    .reg [
      I 22 (.bin .eql (.t 8) (.c (.int .i64 3))),
      I 21 (.mov (.t 22))] [0, 1, 8, 21]) (
    .cond (.t 21) (
     .seq (
     .reg [
       I 23 (.mov (.t 0)),
       I 24 (.mov (.t 1)),
       I 25 (.call 184 [(.t 23), (.t 24)]),
       I 26 (.mkIface 234 (.t 25)),
       I 4 (.mov (.t 26))] [4]) (
     .ret)) (
     .seq (
     .reg [
       I 28 (.bin .eql (.t 8) (.c (.int .i64 4))),
       I 27 (.mov (.t 28))] [0, 1, 8, 27]) (
     .cond (.t 27) (
      .seq (
      .reg [
        I 29 (.mov (.t 0)),
        I 30 (.mov (.t 1)),
        I 31 (.call 185 [(.t 29), (.t 30)]),
        I 32 (.mkIface 236 (.t 31)),
        I 4 (.mov (.t 32))] [4]) (
      .ret)) (
      .seq (
      .reg [
        I 34 (.bin .eql (.t 8) (.c (.int .i64 5))),
        I 33 (.mov (.t 34))] [0, 1, 33]) (
      .cond (.t 33) (
       .seq (
       .reg [
         I 35 (.mov (.t 0)),
         I 36 (.mov (.t 1)),
         I 37 (.call 186 [(.t 35), (.t 36)]),
         I 38 (.mkIface 238 (.t 37)),
         I 4 (.mov (.t 38))] [4]) (
       .ret)) (
       .skip))))))))))))) (
 .seq (
 .reg [
   I 4 (.mov (.c (.nilIface)))] [4]) (
 .ret))))⟩

/- sakia/barrier.New[uint64] -/
def c164 : AFn := ⟨3, [.tmp 6], (
 .seq (
 .reg [
   I 6 (.mov (.c (.pointer none)))] [0, 1, 2]) (
 .seq (
 .seq (
 .reg [
   I 9 (.mov (.t 0)),
   I 10 (.isNil .ptr false (.t 9)),
   I 11 (.mov (.t 10)),
   IG (some 12) (11, false) (.mov (.t 2)),
   IG (some 13) (11, false) (.isNil .iface false (.t 12)),
   I 14 (.pick (.t 11) (.c (.bool true)) (.t 13))] [0, 1, 2, 14]) (
 .cond (.t 14) (
  .seq (
  .reg [
    I 6 (.mov (.c (.pointer none)))] [6]) (
  .ret)) (
  .skip))) (
 .seq (
 .reg [
   I 15 (.mov (.t 0)),
   I 16 (.mov (.t 1)),
   I 17 (.mov (.t 2)),
   I 18 (.mov (.t 0)),
   I 19 (.call 181 [(.t 18)]),
   I 20 (.build #[.pointer none, .pointer none, .nilIface, .int .i64 0, .int .i64 0, .int .i64 0, .int .i64 0, .int .u64 0, .slice none 0 0, .int .i64 0, .int .i64 0, .int .i64 0, .int .i64 0, .int .i64 0, .int .i64 0, .int .i64 0, .int .i64 0, .slice none 0 0] [((0, 1), (.t 15)), ((1, 1), (.t 16)), ((2, 1), (.t 17)), ((3, 14), (.t 19))]),
   I 21 (.box (.t 20)),
   I 7 (.mov (.t 21))] [7]) (
 .seq (
 .seq (
 .reg [
   I 22 (.mov (.t 7)),
   I 23 (.nilChk (.t 22)),
   I 24 (.fieldAddr 3 (.t 23)),
   I 25 (.fieldAddr 0 (.t 24)),
   I 26 (.fieldAddr 5 (.t 25)),
   I 27 (.load none (.t 26)),
   I 28 (.len false (.t 27)),
   I 29 (.mov (.c (.int .i64 0)))] [7, 28, 29]) (
 .block 0 (
  .loop (
   .seq (
   .reg [
     I 30 (.bin .lss (.t 29) (.t 28))] [7, 28, 29, 30]) (
   .seq (
   .cond (.t 30) (
    .skip) (
    .exit 0)) (
   .seq (
   .block 1 (
    .seq (
    .reg [
      I 31 (.mov (.t 29)),
      I 8 (.mov (.t 31))] [7, 8, 28, 29]) (
    .regd [0, 1, 2, 3, 5, 6, 7, 9, 4, 8, 10, 11, 12, 13, 14, 15] [
      I 32 (.mov (.t 7)),
      I 33 (.mov (.t 7)),
      I 34 (.nilChk (.t 33)),
      I 35 (.fieldAddr 17 (.t 34)),
      I 37 (.mov (.t 7)),
      I 38 (.nilChk (.t 37)),
      I 39 (.fieldAddr 3 (.t 38)),
      I 41 (.mov (.t 8)),
      I 36 (.load none (.t 35)),
      I 40 (.load (some 14) (.t 39)),
      I 42 (.hold [(none, (.t 35))] (.call 112 [(.t 40), (.t 41)])),
      I 43 (.buildSlice 1 #[.slice none 0 0] 1 [(0, (.t 42))]),
      I 44 (.append 1 24 (.t 36) (.t 43)),
      I 45 (.nilChk (.t 32)),
      I 46 (.fieldAddr 17 (.t 45)),
      I0 (.store 1 (.t 46) (.t 44))] [7, 28, 29]))) (
   .reg [
     I 47 (.bin .add (.t 29) (.c (.int .i64 1))),
     I 29 (.mov (.t 47))] [7, 28, 29]))))))) (
 .seq (
 .reg [
   I 48 (.mov (.t 7)),
   I 6 (.mov (.t 48))] [6]) (
 .ret))))))⟩

/- sakia/guard.Producer[uint64] -/
def c165 : AFn := ⟨1, [.tmp 2], (
 .seq (
 .reg [
   I 2 (.mov (.c (.pointer none)))] [0]) (
 .seq (
 .seq (
 .reg [
   I 3 (.mov (.t 0)),
   I 4 (.callE 1 114 [(.t 3)]),
   I 5 (.un .not (.t 4))] [0, 5]) (
 .cond (.t 5) (
  .seq (
  .reg [
    I 2 (.mov (.c (.pointer none)))] [2]) (
  .ret)) (
  .skip))) (
 .seq (
 .reg [
   I 6 (.mov (.t 0)),
   I 7 (.build #[.int .i64 0, .bool false, .bool false, .int .u64 0, .int .i64 0, .int .u64 0, .int .u64 0] [((0, 1), (.t 6)), ((1, 1), (.c (.bool true)))]),
   I 8 (.box (.t 7)),
   I 2 (.mov (.t 8))] [2]) (
 .ret))))⟩

/- sakia/guard.Consumer[uint64] -/
def c166 : AFn := ⟨2, [.tmp 4], (
 .seq (
 .reg [
   I 4 (.mov (.c (.pointer none)))] [0, 1]) (
 .seq (
 .seq (
 .reg [
   I 5 (.mov (.t 0)),
   I 6 (.callE 1 114 [(.t 5)]),
   I 7 (.un .not (.t 6))] [0, 1, 7]) (
 .cond (.t 7) (
  .seq (
  .reg [
    I 4 (.mov (.c (.pointer none)))] [4]) (
  .ret)) (
  .skip))) (
 .seq (
 .reg [
   I 8 (.mov (.t 0)),
   I 9 (.mov (.t 1)),
   I 10 (.mov (.t 1)),
   I 11 (.build #[.int .i64 0, .bool false, .bool false, .int .u64 0, .int .i64 0, .int .u64 0, .int .u64 0] [((0, 1), (.t 8)), ((5, 1), (.t 9)), ((6, 1), (.t 10))]),
   I 12 (.box (.t 11)),
   I 4 (.mov (.t 12))] [4]) (
 .ret))))⟩

/- (*sakia/board.Board[uint64]).Load -/
def c167 : AFn := ⟨3, [.tmp 6], (
 .seq (
 .reg [
   I 6 (.mov (.c (.int .u64 0)))] [0, 1, 2]) (
 .seq (
 .seq (
 .reg [
   I 7 (.mov (.t 0)),
   I 8 (.mov (.t 2)),
   I 9 (.callQ 138 [(.t 7), (.t 8), (.c (.int .i64 1))]),
   I 10 (.un .not (.t 9))] [0, 1, 2, 10]) (
 .cond (.t 10) (
  .seq (
  .reg [
    I 6 (.mov (.c (.int .u64 0)))] [6]) (
  .ret)) (
  .skip))) (
 .seq (
 .reg [
   I 11 (.mov (.t 0)),
   I 12 (.mov (.t 1)),
   I 13 (.mov (.t 2)),
   I 14 (.call 187 [(.t 11), (.t 12), (.c (.int .i64 1)), (.t 13)]),
   I 6 (.mov (.t 14))] [6]) (
 .ret))))⟩

/- sakia/graph.names -/
def c168 : AFn := ⟨2, [.tmp 4], (
 .seq (
 .reg [
   I 4 (.mov (.c (.bool false)))] [0, 1]) (
 .seq (
 .reg [
   I 5 (.mov (.c (.int .u64 0)))] [0, 1, 5]) (
 .seq (
 .seq (
 .reg [
   I 8 (.mov (.t 0)),
   I 9 (.len false (.t 8)),
   I 10 (.mov (.c (.int .i64 0)))] [1, 5, 8, 9, 10]) (
 .block 0 (
  .loop (
   .seq (
   .reg [
     I 11 (.bin .lss (.t 10) (.t 9))] [1, 5, 8, 9, 10, 11]) (
   .seq (
   .cond (.t 11) (
    .skip) (
    .exit 0)) (
   .seq (
   .block 1 (
    .seq (
    .reg [
      I 12 (.indexAddr none 1 (.t 8) (.t 10)),
      I 13 (.load none (.t 12)),
      I 7 (.mov (.t 13))] [1, 5, 7, 8, 9, 10]) (
    .seq (
    .seq (
    .reg [
      I 14 (.mov (.t 7)),
      I 15 (.bin .lss (.t 14) (.c (.int .i64 0))),
      I 16 (.mov (.t 15)),
      IG (some 17) (16, false) (.mov (.t 7)),
      IG (some 18) (16, false) (.mov (.t 1)),
      IG (some 19) (16, false) (.bin .geq (.t 17) (.t 18)),
      I 20 (.pick (.t 16) (.c (.bool true)) (.t 19)),
      I 21 (.mov (.t 20)),
      IG (some 22) (21, false) (.mov (.t 5)),
      IG (some 23) (21, false) (.mov (.t 7)),
      IG (some 24) (21, false) (.callE 1 170 [(.t 22), (.t 23)]),
      I 25 (.pick (.t 21) (.c (.bool true)) (.t 24))] [1, 5, 7, 8, 9, 10, 25]) (
    .cond (.t 25) (
     .seq (
     .reg [
       I 4 (.mov (.c (.bool false)))] [4]) (
     .ret)) (
     .skip))) (
    .reg [
      I 26 (.mov (.t 5)),
      I 27 (.mov (.t 7)),
      I 28 (.callE 1 188 [(.t 26), (.t 27)]),
      I 5 (.mov (.t 28))] [1, 5, 8, 9, 10])))) (
   .reg [
     I 29 (.bin .add (.t 10) (.c (.int .i64 1))),
     I 10 (.mov (.t 29))] [1, 5, 8, 9, 10]))))))) (
 .seq (
 .reg [
   I 4 (.mov (.c (.bool true)))] [4]) (
 .ret)))))⟩

/- sakia/graph.above -/
def c169 : AFn := ⟨2, [.tmp 4], (
 .seq (
 .reg [
   I 2 (.box (.t 0)),
   I 4 (.mov (.c (.int .u64 0)))] [1, 2]) (
 .seq (
 .reg [
   I 5 (.alloc [.int .u64 0])] [1, 2, 5]) (
 .seq (
 .reg [
   I 6 (.alloc [.nilFunc])] [1, 2, 5, 6]) (
 .seq (
 .reg [
   I 7 (.mkFunc (.func 189) [] [(.t 2), (.t 5), (.t 6)]),
   I0 (.store 1 (.t 6) (.t 7))] [1, 5, 6]) (
 .seq (
 .reg [
   I 8 (.load none (.t 6)),
   I 9 (.mov (.t 1)),
   I 10 (.callV (.t 8) [(.t 9)])] [5]) (
 .seq (
 .reg [
   I 11 (.load none (.t 5)),
   I 4 (.mov (.t 11))] [4]) (
 .ret)))))))⟩

/- (sakia/group.Group).Has -/
def c170 : AFn := ⟨2, [.tmp 4], (
 .seq (
 .reg [
   I 4 (.mov (.c (.bool false)))] [0, 1]) (
 .seq (
 .reg [
   I 5 (.mov (.t 1)),
   I 6 (.callE 1 190 [(.t 5)]),
   I 7 (.mov (.t 6)),
   IG (some 8) (7, true) (.mov (.t 0)),
   IG (some 9) (7, true) (.mov (.t 1)),
   IG (some 10) (7, true) (.bin .shr (.t 8) (.t 9)),
   IG (some 11) (7, true) (.bin .and (.t 10) (.c (.int .u64 1))),
   IG (some 12) (7, true) (.bin .eql (.t 11) (.c (.int .u64 1))),
   I 13 (.pick (.t 7) (.t 12) (.c (.bool false))),
   I 4 (.mov (.t 13))] [4]) (
 .ret)))⟩

/- sakia/lap.there -/
def c171 : AFn := ⟨2, [.tmp 4], (
 .seq (
 .reg [
   I 4 (.mov (.c (.bool false)))] [0, 1]) (
 .seq (
 .reg [
   I 5 (.mov (.t 0)),
   I 6 (.callE 1 114 [(.t 5)]),
   I 7 (.mov (.t 6)),
   IG (some 8) (7, true) (.mov (.t 1)),
   IG (some 9) (7, true) (.bin .geq (.t 8) (.c (.int .i64 0))),
   I 10 (.pick (.t 7) (.t 9) (.c (.bool false))),
   I 11 (.mov (.t 10)),
   IG (some 12) (11, true) (.mov (.t 1)),
   IG (some 13) (11, true) (.mov (.t 0)),
   IG (some 14) (11, true) (.bin .lss (.t 12) (.t 13)),
   I 15 (.pick (.t 11) (.t 14) (.c (.bool false))),
   I 4 (.mov (.t 15))] [4]) (
 .ret)))⟩

/- sakia/lap.Round[uint32] -/
def c172 : AFn := ⟨2, [.tmp 4], (
 .seq (
 .reg [
   I 4 (.mov (.c (.int .u32 0)))] [0, 1]) (
 .seq (
 .regd [0, 1, 2, 3, 4, 5, 6, 7, 8] [
   I 5 (.mov (.t 1)),
   I 6 (.mov (.t 0)),
   I 7 (.callE 1 191 [(.t 6)]),
   I 8 (.bin .shr (.t 5) (.t 7)),
   I 9 (.mov (.t 0)),
   I 10 (.callE 1 192 [(.t 9)]),
   I 11 (.conv .u32 (.t 10)),
   I 12 (.bin .mul (.t 8) (.t 11)),
   I 4 (.mov (.t 12))] [4]) (
 .ret)))⟩

/- sakia/lap.Round[uint64] -/
def c173 : AFn := ⟨2, [.tmp 4], (
 .seq (
 .reg [
   I 4 (.mov (.c (.int .u64 0)))] [0, 1]) (
 .seq (
 .regd [0, 1, 2, 3, 4, 5, 6, 7, 8] [
   I 5 (.mov (.t 1)),
   I 6 (.mov (.t 0)),
   I 7 (.callE 1 191 [(.t 6)]),
   I 8 (.bin .shr (.t 5) (.t 7)),
   I 9 (.mov (.t 0)),
   I 10 (.callE 1 192 [(.t 9)]),
   I 11 (.conv .u64 (.t 10)),
   I 12 (.bin .mul (.t 8) (.t 11)),
   I 4 (.mov (.t 12))] [4]) (
 .ret)))⟩

/- sakia/graph.Ends -/
def c174 : AFn := ⟨1, [.tmp 2], (
 .seq (
 .reg [
   I 2 (.mov (.c (.slice none 0 0)))] [0]) (
 .seq (
 .seq (
 .reg [
   I 8 (.mov (.t 0)),
   I 9 (.callQ 143 [(.t 8)]),
   I 10 (.bin .neq (.t 9) (.c (.int .i64 0)))] [0, 10]) (
 .cond (.t 10) (
  .seq (
  .reg [
    I 2 (.mov (.c (.slice none 0 0)))] [2]) (
  .ret)) (
  .skip))) (
 .seq (
 .reg [
   I 11 (.mov (.t 0)),
   I 12 (.len false (.t 11)),
   I 13 (.callE 1 193 [(.t 12)]),
   I 3 (.mov (.t 13))] [0, 3]) (
 .seq (
 .seq (
 .reg [
   I 14 (.mov (.t 0)),
   I 15 (.len false (.t 14)),
   I 16 (.mov (.c (.int .i64 0)))] [3, 14, 15, 16]) (
 .block 0 (
  .loop (
   .seq (
   .reg [
     I 17 (.bin .lss (.t 16) (.t 15))] [3, 14, 15, 16, 17]) (
   .seq (
   .cond (.t 17) (
    .skip) (
    .exit 0)) (
   .seq (
   .block 1 (
    .seq (
    .reg [
      I 18 (.indexAddr none 1 (.t 14) (.t 16)),
      I 19 (.load none (.t 18)),
      I 5 (.mov (.t 19))] [3, 5, 14, 15, 16]) (
    .seq (
    .reg [
      I 20 (.mov (.t 5)),
      I 21 (.len false (.t 20)),
      I 22 (.mov (.c (.int .i64 0)))] [3, 14, 15, 16, 20, 21, 22]) (
    .block 2 (
     .loop (
      .seq (
      .reg [
        I 23 (.bin .lss (.t 22) (.t 21))] [3, 14, 15, 16, 20, 21, 22, 23]) (
      .seq (
      .cond (.t 23) (
       .skip) (
       .exit 2)) (
      .seq (
      .block 3 (
       .seq (
       .reg [
         I 24 (.indexAddr none 1 (.t 20) (.t 22)),
         I 25 (.load none (.t 24)),
         I 7 (.mov (.t 25))] [3, 7, 14, 15, 16, 20, 21, 22]) (
       .reg [
         I 26 (.mov (.t 3)),
         I 27 (.mov (.t 7)),
         I 28 (.callE 1 194 [(.t 26), (.t 27)]),
         I 3 (.mov (.t 28))] [3, 14, 15, 16, 20, 21, 22]))) (
      .reg [
        I 29 (.bin .add (.t 22) (.c (.int .i64 1))),
        I 22 (.mov (.t 29))] [3, 14, 15, 16, 20, 21, 22]))))))))) (
   .reg [
     I 30 (.bin .add (.t 16) (.c (.int .i64 1))),
     I 16 (.mov (.t 30))] [3, 14, 15, 16]))))))) (
 .seq (
 .reg [
   I 31 (.mov (.t 3)),
   I 32 (.call 195 [(.t 31)]),
   I 2 (.mov (.t 32))] [2]) (
 .ret))))))⟩

/- sakia/wide.signed[uint32] -/
def c175 : AFn := ⟨1, [.tmp 2], (
 .seq (
 .reg [
   I 2 (.mov (.c (.int .i64 0)))] [0]) (
 .seq (
 .seq (
 .reg [
   I 3 (.callE 1 73 []),
   I 4 (.bin .eql (.t 3) (.c (.int .i64 32)))] [0, 4]) (
 .cond (.t 4) (
  .seq (
  .reg [
    I 5 (.mov (.t 0)),
    I 6 (.conv .i32 (.t 5)),
    I 7 (.conv .i64 (.t 6)),
    I 2 (.mov (.t 7))] [2]) (
  .ret)) (
  .skip))) (
 .seq (
 .reg [
   I 8 (.mov (.t 0)),
   I 9 (.conv .i64 (.t 8)),
   I 2 (.mov (.t 9))] [2]) (
 .ret))))⟩

/- (*sakia/barrier.Barrier[uint32]).Root -/
def c176 : AFn := ⟨2, [.tmp 4], (
 .seq (
 .reg [
   I 4 (.mov (.c (.bool false)))] [0, 1]) (
 .seq (
 .reg [
   I 5 (.mov (.t 0)),
   I 6 (.mov (.t 1)),
   I 7 (.callQ 158 [(.t 5), (.t 6)]),
   I 8 (.mov (.t 7)),
   IG (some 9) (8, true) (.mov (.t 0)),
   IG (some 10) (8, true) (.nilChk (.t 9)),
   IG (some 11) (8, true) (.fieldAddr 17 (.t 10)),
   IG (some 12) (8, true) (.load none (.t 11)),
   IG (some 13) (8, true) (.mov (.t 1)),
   IG (some 14) (8, true) (.indexAddr none 1 (.t 12) (.t 13)),
   IG (some 15) (8, true) (.load none (.t 14)),
   IG (some 16) (8, true) (.len false (.t 15)),
   IG (some 17) (8, true) (.bin .eql (.t 16) (.c (.int .i64 0))),
   I 18 (.pick (.t 8) (.t 17) (.c (.bool false))),
   I 4 (.mov (.t 18))] [4]) (
 .ret)))⟩

/- sakia/gate.Scan[uint32] -/
def c177 : AFn := ⟨4, [.tmp 8], (
 .seq (
 .reg [
   I 8 (.mov (.c (.bool false)))] [0, 1, 2, 3]) (
 .seq (
 .seq (
 .reg [
   I 10 (.mov (.t 0)),
   I 11 (.isNil .ptr false (.t 10)),
   I 12 (.mov (.t 11)),
   IG (some 13) (12, false) (.mov (.t 3)),
   IG (some 14) (12, false) (.isNil .ptr false (.t 13)),
   I 15 (.pick (.t 12) (.c (.bool true)) (.t 14))] [0, 1, 2, 3, 15]) (
 .cond (.t 15) (
  .seq (
  .reg [
    I 8 (.mov (.c (.bool true)))] [8]) (
  .ret)) (
  .skip))) (
 .seq (
 .seq (
 .reg [
   I 16 (.mov (.t 3)),
   I 17 (.nilChk (.t 16)),
   I 18 (.fieldAddr 4 (.t 17)),
   I 19 (.load none (.t 18)),
   I 20 (.bin .lss (.t 19) (.c (.int .i64 0))),
   I 21 (.mov (.t 20)),
   IG (some 22) (21, false) (.mov (.t 3)),
   IG (some 23) (21, false) (.nilChk (.t 22)),
   IG (some 24) (21, false) (.fieldAddr 4 (.t 23)),
   IG (some 25) (21, false) (.load none (.t 24)),
   IG (some 26) (21, false) (.mov (.t 2)),
   IG (some 27) (21, false) (.len false (.t 26)),
   IG (some 28) (21, false) (.bin .geq (.t 25) (.t 27)),
   I 29 (.pick (.t 21) (.c (.bool true)) (.t 28))] [0, 1, 2, 3, 29]) (
 .cond (.t 29) (
  .seq (
  .reg [
    I 30 (.mov (.t 3)),
    I 31 (.nilChk (.t 30)),
    I 32 (.fieldAddr 4 (.t 31)),
    I0 (.store 1 (.t 32) (.c (.int .i64 0)))] []) (
  .seq (
  .reg [
    I 8 (.mov (.c (.bool true)))] [8]) (
  .ret))) (
  .skip))) (
 .seq (
 .reg [
   I 33 (.mov (.t 0)),
   I 34 (.mov (.t 1)),
   I 35 (.mov (.t 2)),
   I 36 (.mov (.t 3)),
   I 37 (.nilChk (.t 36)),
   I 38 (.fieldAddr 4 (.t 37)),
   I 39 (.load none (.t 38)),
   I 40 (.indexAddr none 1 (.t 35) (.t 39)),
   I 41 (.load none (.t 40)),
   I 42 (.call 196 [(.t 33), (.t 34), (.t 41)]),
   I 9 (.mov (.t 42))] [2, 3, 9]) (
 .seq (
 .seq (
 .reg [
   I 43 (.mov (.t 3)),
   I 44 (.nilChk (.t 43)),
   I 45 (.fieldAddr 4 (.t 44)),
   I 46 (.load none (.t 45)),
   I 47 (.bin .eql (.t 46) (.c (.int .i64 0))),
   I 48 (.mov (.t 47)),
   IG (some 49) (48, false) (.mov (.t 9)),
   IG (some 50) (48, false) (.mov (.t 3)),
   IG (some 51) (48, false) (.nilChk (.t 50)),
   IG (some 52) (48, false) (.fieldAddr 7 (.t 51)),
   IG (some 53) (48, false) (.load none (.t 52)),
   IG (some 54) (48, false) (.callE 1 178 [(.t 49), (.t 53)]),
   I 55 (.pick (.t 48) (.c (.bool true)) (.t 54))] [2, 3, 9, 55]) (
 .cond (.t 55) (
  .reg [
    I 56 (.mov (.t 3)),
    I 57 (.mov (.t 9)),
    I 58 (.nilChk (.t 56)),
    I 59 (.fieldAddr 7 (.t 58)),
    I0 (.store 1 (.t 59) (.t 57))] [2, 3]) (
  .skip))) (
 .seq (
 .reg [
   I 60 (.mov (.t 3)),
   I 61 (.nilChk (.t 60)),
   I 62 (.fieldAddr 4 (.t 61)),
   I 63 (.load none (.t 62)),
   I 64 (.bin .add (.t 63) (.c (.int .i64 1))),
   I 65 (.nilChk (.t 60)),
   I 66 (.fieldAddr 4 (.t 65)),
   I0 (.store 1 (.t 66) (.t 64))] [2, 3]) (
 .seq (
 .seq (
 .reg [
   I 67 (.mov (.t 3)),
   I 68 (.nilChk (.t 67)),
   I 69 (.fieldAddr 4 (.t 68)),
   I 70 (.load none (.t 69)),
   I 71 (.mov (.t 2)),
   I 72 (.len false (.t 71)),
   I 73 (.bin .lss (.t 70) (.t 72))] [3, 73]) (
 .cond (.t 73) (
  .seq (
  .reg [
    I 8 (.mov (.c (.bool false)))] [8]) (
  .ret)) (
  .skip))) (
 .seq (
 .reg [
   I 74 (.mov (.t 3)),
   I 75 (.nilChk (.t 74)),
   I 76 (.fieldAddr 4 (.t 75)),
   I0 (.store 1 (.t 76) (.c (.int .i64 0)))] []) (
 .seq (
 .reg [
   I 8 (.mov (.c (.bool true)))] [8]) (
 .ret))))))))))⟩

/- sakia/wide.Less[uint32] -/
def c178 : AFn := ⟨2, [.tmp 4], (
 .seq (
 .reg [
   I 4 (.mov (.c (.bool false)))] [0, 1]) (
 .seq (
 .reg [
   I 5 (.mov (.t 0)),
   I 6 (.mov (.t 1)),
   I 7 (.callE 1 152 [(.t 5), (.t 6)]),
   I 8 (.bin .lss (.t 7) (.c (.int .i64 0))),
   I 4 (.mov (.t 8))] [4]) (
 .ret)))⟩

/- (*sakia/board.Board[uint32]).is -/
def c179 : AFn := ⟨3, [.tmp 6], (
 .seq (
 .reg [
   I 6 (.mov (.c (.bool false)))] [0, 1, 2]) (
 .seq (
 .reg [
   I 7 (.mov (.t 0)),
   I 8 (.isNil .ptr true (.t 7)),
   I 9 (.mov (.t 8)),
   IG (some 10) (9, true) (.mov (.t 0)),
   IG (some 11) (9, true) (.nilChk (.t 10)),
   IG (some 12) (9, true) (.fieldAddr 0 (.t 11)),
   IG (some 13) (9, true) (.load (some 14) (.t 12)),
   IG (some 14) (9, true) (.mov (.t 1)),
   IG (some 15) (9, true) (.callQ 71 [(.t 13), (.t 14)]),
   IG (some 16) (9, true) (.mov (.t 2)),
   IG (some 17) (9, true) (.bin .eql (.t 15) (.t 16)),
   I 18 (.pick (.t 9) (.t 17) (.c (.bool false))),
   I 6 (.mov (.t 18))] [6]) (
 .ret)))⟩

/- (*sakia/board.Board[uint32]).lay -/
def c180 : AFn := ⟨5, [.tmp 10], (
 .seq (
 .reg [
   I 10 (.mov (.c (.int .u32 0)))] [0, 1, 2, 3, 4]) (
 .seq (
 .reg [
   I 12 (.mov (.t 0)),
   I 13 (.nilChk (.t 12)),
   I 14 (.fieldAddr 14 (.t 13)),
   I 15 (.load none (.t 14)),
   I 16 (.mov (.t 3)),
   I 17 (.indexAddr none 1 (.t 15) (.t 16)),
   I 18 (.load none (.t 17)),
   I 11 (.mov (.t 18))] [0, 1, 2, 3, 4, 11]) (
 .seq (
 .reg [
   I 19 (.mov (.t 0)),
   I 20 (.mov (.t 1)),
   I 21 (.mov (.t 2)),
   I 22 (.mov (.t 3)),
   I 23 (.mov (.t 11)),
   I 24 (.callE 1 123 [(.t 23)]),
   I 25 (.mov (.t 4)),
   I 26 (.callE 1 123 [(.t 25)]),
   I 27 (.call 154 [(.t 19), (.t 20), (.t 21), (.t 22), (.t 24), (.t 26)])] [0, 3, 4, 11]) (
 .seq (
 .reg [
   I 28 (.mov (.t 0)),
   I 29 (.nilChk (.t 28)),
   I 30 (.fieldAddr 14 (.t 29)),
   I 31 (.load none (.t 30)),
   I 32 (.mov (.t 3)),
   I 33 (.mov (.t 4)),
   I 34 (.indexAddr none 1 (.t 31) (.t 32)),
   I0 (.store 1 (.t 34) (.t 33))] [11]) (
 .seq (
 .reg [
   I 35 (.mov (.t 11)),
   I 10 (.mov (.t 35))] [10]) (
 .ret))))))⟩

/- (*sakia/board.Board[uint64]).Layout -/
def c181 : AFn := ⟨1, [.cell 2 (some 14)], (
 .seq (
 .reg [
   I 2 (.alloc [.int .i64 0, .int .i64 0, .int .i64 0, .int .i64 0, .int .u64 0, .slice none 0 0, .int .i64 0, .int .i64 0, .int .i64 0, .int .i64 0, .int .i64 0, .int .i64 0, .int .i64 0, .int .i64 0])] [0, 2]) (
 .seq (
 .seq (
 .reg [
   I 3 (.mov (.t 0)),
   I 4 (.isNil .ptr false (.t 3))] [0, 2, 4]) (
 .cond (.t 4) (
  .seq (
  .reg [
    I 5 (.build #[.int .i64 0, .int .i64 0, .int .i64 0, .int .i64 0, .int .u64 0, .slice none 0 0, .int .i64 0, .int .i64 0, .int .i64 0, .int .i64 0, .int .i64 0, .int .i64 0, .int .i64 0, .int .i64 0] []),
    I0 (.store 14 (.t 2) (.t 5))] [2]) (
  .ret)) (
  .skip))) (
 .seq (
 .reg [
   I 6 (.mov (.t 0)),
   I 7 (.nilChk (.t 6)),
   I 8 (.fieldAddr 0 (.t 7)),
   I 9 (.load (some 14) (.t 8)),
   I0 (.store 14 (.t 2) (.t 9))] [2]) (
 .ret))))⟩

/- sakia/seqone.New[uint64] -/
def c182 : AFn := ⟨2, [.tmp 4], (
 .seq (
 .reg [
   I 4 (.mov (.c (.pointer none)))] [0, 1]) (
 .seq (
 .reg [
   I 7 (.mov (.t 0)),
   I 8 (.call 181 [(.t 7)]),
   I 5 (.alloc [.int .i64 0, .int .i64 0, .int .i64 0, .int .i64 0, .int .u64 0, .slice none 0 0, .int .i64 0, .int .i64 0, .int .i64 0, .int .i64 0, .int .i64 0, .int .i64 0, .int .i64 0, .int .i64 0]),
   I0 (.store 14 (.t 5) (.t 8))] [0, 1, 5]) (
 .seq (
 .seq (
 .reg [
   I 9 (.fieldAddr 0 (.t 5)),
   I 10 (.fieldAddr 0 (.t 9)),
   I 11 (.load none (.t 10)),
   I 12 (.bin .neq (.t 11) (.c (.int .i64 1)))] [0, 1, 5, 12]) (
 .cond (.t 12) (
  .seq (
  .reg [
    I 4 (.mov (.c (.pointer none)))] [4]) (
  .ret)) (
  .skip))) (
 .seq (
 .reg [
   I 13 (.fieldAddr 0 (.t 5)),
   I 14 (.load (some 6) (.t 13)),
   I 15 (.callQ 79 [(.t 14)]),
   I 16 (.callE 1 95 [(.t 15)]),
   I 6 (.mov (.t 16))] [0, 1, 5, 6]) (
 .seq (
 .regd [0, 1, 2, 6, 8, 9, 3, 4, 7, 5, 10, 11, 12] [
   I 17 (.mov (.t 0)),
   I 18 (.mov (.t 1)),
   I 19 (.fieldAddr 0 (.t 5)),
   I 23 (.fieldAddr 6 (.t 5)),
   I 25 (.mov (.t 6)),
   I 26 (.mov (.t 6)),
   I 20 (.load (some 6) (.t 19)),
   I 21 (.load (some 14) (.t 5)),
   I 24 (.load none (.t 23)),
   I 22 (.hold [((some 6), (.t 19)), (none, (.t 23))] (.call 150 [(.t 21)])),
   I 27 (.build #[.pointer none, .pointer none, .int .i64 0, .int .i64 0, .int .i64 0, .int .i64 0, .int .u64 0, .slice none 0 0, .slice none 0 0, .int .i64 0, .int .u64 0, .int .u64 0] [((0, 1), (.t 17)), ((1, 1), (.t 18)), ((2, 6), (.t 20)), ((8, 1), (.t 22)), ((9, 1), (.t 24)), ((10, 1), (.t 25)), ((11, 1), (.t 26))]),
   I 28 (.box (.t 27)),
   I 4 (.mov (.t 28))] [4]) (
 .ret))))))⟩

/- sakia/seqcas.New[uint64] -/
def c183 : AFn := ⟨2, [.tmp 4], (
 .seq (
 .reg [
   I 4 (.mov (.c (.pointer none)))] [0, 1]) (
 .seq (
 .reg [
   I 7 (.mov (.t 0)),
   I 8 (.call 181 [(.t 7)]),
   I 5 (.alloc [.int .i64 0, .int .i64 0, .int .i64 0, .int .i64 0, .int .u64 0, .slice none 0 0, .int .i64 0, .int .i64 0, .int .i64 0, .int .i64 0, .int .i64 0, .int .i64 0, .int .i64 0, .int .i64 0]),
   I0 (.store 14 (.t 5) (.t 8))] [0, 1, 5]) (
 .seq (
 .seq (
 .reg [
   I 9 (.fieldAddr 0 (.t 5)),
   I 10 (.fieldAddr 0 (.t 9)),
   I 11 (.load none (.t 10)),
   I 12 (.bin .neq (.t 11) (.c (.int .i64 2)))] [0, 1, 5, 12]) (
 .cond (.t 12) (
  .seq (
  .reg [
    I 4 (.mov (.c (.pointer none)))] [4]) (
  .ret)) (
  .skip))) (
 .seq (
 .regd [0, 1, 2, 6, 3, 4, 7, 5, 8, 9, 10] [
   I 13 (.mov (.t 0)),
   I 14 (.mov (.t 1)),
   I 15 (.fieldAddr 0 (.t 5)),
   I 19 (.fieldAddr 7 (.t 5)),
   I 16 (.load (some 6) (.t 15)),
   I 17 (.load (some 14) (.t 5)),
   I 20 (.load none (.t 19)),
   I 18 (.hold [((some 6), (.t 15)), (none, (.t 19))] (.call 150 [(.t 17)])),
   I 21 (.build #[.pointer none, .pointer none, .int .i64 0, .int .i64 0, .int .i64 0, .int .i64 0, .int .u64 0, .slice none 0 0, .slice none 0 0, .int .i64 0, .slice none 0 0] [((0, 1), (.t 13)), ((1, 1), (.t 14)), ((2, 6), (.t 16)), ((8, 1), (.t 18)), ((9, 1), (.t 20))]),
   I 22 (.box (.t 21)),
   I 6 (.mov (.t 22))] [5, 6]) (
 .seq (
 .seq (
 .reg [
   I 23 (.fieldAddr 0 (.t 5)),
   I 24 (.fieldAddr 3 (.t 23)),
   I 25 (.load none (.t 24)),
   I 26 (.mov (.c (.int .i64 0)))] [5, 6, 25, 26]) (
 .block 0 (
  .loop (
   .seq (
   .reg [
     I 27 (.bin .lss (.t 26) (.t 25))] [5, 6, 25, 26, 27]) (
   .seq (
   .cond (.t 27) (
    .skip) (
    .exit 0)) (
   .seq (
   .block 1 (
    .regd [0, 1, 2, 3, 5, 4, 6, 7, 8, 9, 10, 11, 12, 13] [
      I 28 (.mov (.t 6)),
      I 29 (.mov (.t 6)),
      I 30 (.nilChk (.t 29)),
      I 31 (.fieldAddr 10 (.t 30)),
      I 33 (.fieldAddr 0 (.t 5)),
      I 32 (.load none (.t 31)),
      I 34 (.load (some 6) (.t 33)),
      I 35 (.callQ 79 [(.t 34)]),
      I 36 (.callE 1 95 [(.t 35)]),
      I 37 (.buildSlice 1 #[.int .u64 0] 1 [(0, (.t 36))]),
      I 38 (.append 1 8 (.t 32) (.t 37)),
      I 39 (.nilChk (.t 28)),
      I 40 (.fieldAddr 10 (.t 39)),
      I0 (.store 1 (.t 40) (.t 38))] [5, 6, 25, 26])) (
   .reg [
     I 41 (.bin .add (.t 26) (.c (.int .i64 1))),
     I 26 (.mov (.t 41))] [5, 6, 25, 26]))))))) (
 .seq (
 .reg [
   I 42 (.mov (.t 6)),
   I 4 (.mov (.t 42))] [4]) (
 .ret)))))))⟩

/- sakia/seqfaa.New[uint64] -/
def c184 : AFn := ⟨2, [.tmp 4], (
 .seq (
 .reg [
   I 4 (.mov (.c (.pointer none)))] [0, 1]) (
 .seq (
 .reg [
   I 7 (.mov (.t 0)),
   I 8 (.call 181 [(.t 7)]),
   I 5 (.alloc [.int .i64 0, .int .i64 0, .int .i64 0, .int .i64 0, .int .u64 0, .slice none 0 0, .int .i64 0, .int .i64 0, .int .i64 0, .int .i64 0, .int .i64 0, .int .i64 0, .int .i64 0, .int .i64 0]),
   I0 (.store 14 (.t 5) (.t 8))] [0, 1, 5]) (
 .seq (
 .seq (
 .reg [
   I 9 (.fieldAddr 0 (.t 5)),
   I 10 (.fieldAddr 0 (.t 9)),
   I 11 (.load none (.t 10)),
   I 12 (.bin .neq (.t 11) (.c (.int .i64 3)))] [0, 1, 5, 12]) (
 .cond (.t 12) (
  .seq (
  .reg [
    I 4 (.mov (.c (.pointer none)))] [4]) (
  .ret)) (
  .skip))) (
 .seq (
 .regd [0, 1, 2, 6, 3, 4, 7, 5, 8, 9, 10] [
   I 13 (.mov (.t 0)),
   I 14 (.mov (.t 1)),
   I 15 (.fieldAddr 0 (.t 5)),
   I 19 (.fieldAddr 7 (.t 5)),
   I 16 (.load (some 6) (.t 15)),
   I 17 (.load (some 14) (.t 5)),
   I 20 (.load none (.t 19)),
   I 18 (.hold [((some 6), (.t 15)), (none, (.t 19))] (.call 150 [(.t 17)])),
   I 21 (.build #[.pointer none, .pointer none, .int .i64 0, .int .i64 0, .int .i64 0, .int .i64 0, .int .u64 0, .slice none 0 0, .slice none 0 0, .int .i64 0, .slice none 0 0] [((0, 1), (.t 13)), ((1, 1), (.t 14)), ((2, 6), (.t 16)), ((8, 1), (.t 18)), ((9, 1), (.t 20))]),
   I 22 (.box (.t 21)),
   I 6 (.mov (.t 22))] [5, 6]) (
 .seq (
 .seq (
 .reg [
   I 23 (.fieldAddr 0 (.t 5)),
   I 24 (.fieldAddr 3 (.t 23)),
   I 25 (.load none (.t 24)),
   I 26 (.mov (.c (.int .i64 0)))] [5, 6, 25, 26]) (
 .block 0 (
  .loop (
   .seq (
   .reg [
     I 27 (.bin .lss (.t 26) (.t 25))] [5, 6, 25, 26, 27]) (
   .seq (
   .cond (.t 27) (
    .skip) (
    .exit 0)) (
   .seq (
   .block 1 (
    .regd [0, 1, 2, 3, 5, 4, 6, 7, 8, 9, 10, 11, 12, 13] [
      I 28 (.mov (.t 6)),
      I 29 (.mov (.t 6)),
      I 30 (.nilChk (.t 29)),
      I 31 (.fieldAddr 10 (.t 30)),
      I 33 (.fieldAddr 0 (.t 5)),
      I 32 (.load none (.t 31)),
      I 34 (.load (some 6) (.t 33)),
      I 35 (.callQ 79 [(.t 34)]),
      I 36 (.callE 1 95 [(.t 35)]),
      I 37 (.buildSlice 1 #[.int .u64 0] 1 [(0, (.t 36))]),
      I 38 (.append 1 8 (.t 32) (.t 37)),
      I 39 (.nilChk (.t 28)),
      I 40 (.fieldAddr 10 (.t 39)),
      I0 (.store 1 (.t 40) (.t 38))] [5, 6, 25, 26])) (
   .reg [
     I 41 (.bin .add (.t 26) (.c (.int .i64 1))),
     I 26 (.mov (.t 41))] [5, 6, 25, 26]))))))) (
 .seq (
 .reg [
   I 42 (.mov (.t 6)),
   I 4 (.mov (.t 42))] [4]) (
 .ret)))))))⟩

/- sakia/seqstamp.New[uint64] -/
def c185 : AFn := ⟨2, [.tmp 4], (
 .seq (
 .reg [
   I 4 (.mov (.c (.pointer none)))] [0, 1]) (
 .seq (
 .reg [
   I 7 (.mov (.t 0)),
   I 8 (.call 181 [(.t 7)]),
   I 5 (.alloc [.int .i64 0, .int .i64 0, .int .i64 0, .int .i64 0, .int .u64 0, .slice none 0 0, .int .i64 0, .int .i64 0, .int .i64 0, .int .i64 0, .int .i64 0, .int .i64 0, .int .i64 0, .int .i64 0]),
   I0 (.store 14 (.t 5) (.t 8))] [0, 1, 5]) (
 .seq (
 .seq (
 .reg [
   I 9 (.fieldAddr 0 (.t 5)),
   I 10 (.fieldAddr 0 (.t 9)),
   I 11 (.load none (.t 10)),
   I 12 (.bin .neq (.t 11) (.c (.int .i64 4)))] [0, 1, 5, 12]) (
 .cond (.t 12) (
  .seq (
  .reg [
    I 4 (.mov (.c (.pointer none)))] [4]) (
  .ret)) (
  .skip))) (
 .seq (
 .regd [0, 1, 2, 3, 4, 5, 6, 7] [
   I 13 (.mov (.t 0)),
   I 14 (.mov (.t 1)),
   I 15 (.load (some 14) (.t 5)),
   I 16 (.load (some 14) (.t 5)),
   I 17 (.hold [((some 14), (.t 5))] (.call 150 [(.t 16)])),
   I 18 (.build #[.pointer none, .pointer none, .int .i64 0, .int .i64 0, .int .i64 0, .int .i64 0, .int .u64 0, .slice none 0 0, .int .i64 0, .int .i64 0, .int .i64 0, .int .i64 0, .int .i64 0, .int .i64 0, .int .i64 0, .int .i64 0, .slice none 0 0, .slice none 0 0] [((0, 1), (.t 13)), ((1, 1), (.t 14)), ((2, 14), (.t 15)), ((16, 1), (.t 17))]),
   I 19 (.box (.t 18)),
   I 6 (.mov (.t 19))] [5, 6]) (
 .seq (
 .seq (
 .reg [
   I 20 (.fieldAddr 0 (.t 5)),
   I 21 (.fieldAddr 3 (.t 20)),
   I 22 (.load none (.t 21)),
   I 23 (.mov (.c (.int .i64 0)))] [5, 6, 22, 23]) (
 .block 0 (
  .loop (
   .seq (
   .reg [
     I 24 (.bin .lss (.t 23) (.t 22))] [5, 6, 22, 23, 24]) (
   .seq (
   .cond (.t 24) (
    .skip) (
    .exit 0)) (
   .seq (
   .block 1 (
    .regd [0, 1, 2, 3, 5, 4, 6, 7, 8, 9, 10, 11, 12, 13] [
      I 25 (.mov (.t 6)),
      I 26 (.mov (.t 6)),
      I 27 (.nilChk (.t 26)),
      I 28 (.fieldAddr 17 (.t 27)),
      I 30 (.fieldAddr 0 (.t 5)),
      I 29 (.load none (.t 28)),
      I 31 (.load (some 6) (.t 30)),
      I 32 (.callQ 79 [(.t 31)]),
      I 33 (.callE 1 95 [(.t 32)]),
      I 34 (.buildSlice 1 #[.int .u64 0] 1 [(0, (.t 33))]),
      I 35 (.append 1 8 (.t 29) (.t 34)),
      I 36 (.nilChk (.t 25)),
      I 37 (.fieldAddr 17 (.t 36)),
      I0 (.store 1 (.t 37) (.t 35))] [5, 6, 22, 23])) (
   .reg [
     I 38 (.bin .add (.t 23) (.c (.int .i64 1))),
     I 23 (.mov (.t 38))] [5, 6, 22, 23]))))))) (
 .seq (
 .reg [
   I 39 (.mov (.t 6)),
   I 4 (.mov (.t 39))] [4]) (
 .ret)))))))⟩

/- sakia/seqlock.New[uint64] -/
def c186 : AFn := ⟨2, [.tmp 4], (
 .seq (
 .reg [
   I 4 (.mov (.c (.pointer none)))] [0, 1]) (
 .seq (
 .reg [
   I 7 (.mov (.t 0)),
   I 8 (.call 181 [(.t 7)]),
   I 5 (.alloc [.int .i64 0, .int .i64 0, .int .i64 0, .int .i64 0, .int .u64 0, .slice none 0 0, .int .i64 0, .int .i64 0, .int .i64 0, .int .i64 0, .int .i64 0, .int .i64 0, .int .i64 0, .int .i64 0]),
   I0 (.store 14 (.t 5) (.t 8))] [0, 1, 5]) (
 .seq (
 .seq (
 .reg [
   I 9 (.fieldAddr 0 (.t 5)),
   I 10 (.fieldAddr 0 (.t 9)),
   I 11 (.load none (.t 10)),
   I 12 (.bin .neq (.t 11) (.c (.int .i64 5)))] [0, 1, 5, 12]) (
 .cond (.t 12) (
  .seq (
  .reg [
    I 4 (.mov (.c (.pointer none)))] [4]) (
  .ret)) (
  .skip))) (
 .seq (
 .regd [0, 1, 2, 6, 3, 4, 7, 5, 8, 9, 10] [
   I 13 (.mov (.t 0)),
   I 14 (.mov (.t 1)),
   I 15 (.fieldAddr 0 (.t 5)),
   I 19 (.fieldAddr 10 (.t 5)),
   I 16 (.load (some 6) (.t 15)),
   I 17 (.load (some 14) (.t 5)),
   I 20 (.load none (.t 19)),
   I 18 (.hold [((some 6), (.t 15)), (none, (.t 19))] (.call 150 [(.t 17)])),
   I 21 (.build #[.pointer none, .pointer none, .int .i64 0, .int .i64 0, .int .i64 0, .int .i64 0, .int .u64 0, .slice none 0 0, .slice none 0 0, .int .i64 0, .slice none 0 0] [((0, 1), (.t 13)), ((1, 1), (.t 14)), ((2, 6), (.t 16)), ((8, 1), (.t 18)), ((9, 1), (.t 20))]),
   I 22 (.box (.t 21)),
   I 6 (.mov (.t 22))] [5, 6]) (
 .seq (
 .seq (
 .reg [
   I 23 (.fieldAddr 0 (.t 5)),
   I 24 (.fieldAddr 3 (.t 23)),
   I 25 (.load none (.t 24)),
   I 26 (.mov (.c (.int .i64 0)))] [5, 6, 25, 26]) (
 .block 0 (
  .loop (
   .seq (
   .reg [
     I 27 (.bin .lss (.t 26) (.t 25))] [5, 6, 25, 26, 27]) (
   .seq (
   .cond (.t 27) (
    .skip) (
    .exit 0)) (
   .seq (
   .block 1 (
    .regd [0, 1, 2, 3, 5, 4, 6, 7, 8, 9, 10, 11, 12, 13] [
      I 28 (.mov (.t 6)),
      I 29 (.mov (.t 6)),
      I 30 (.nilChk (.t 29)),
      I 31 (.fieldAddr 10 (.t 30)),
      I 33 (.fieldAddr 0 (.t 5)),
      I 32 (.load none (.t 31)),
      I 34 (.load (some 6) (.t 33)),
      I 35 (.callQ 79 [(.t 34)]),
      I 36 (.callE 1 95 [(.t 35)]),
      I 37 (.buildSlice 1 #[.int .u64 0] 1 [(0, (.t 36))]),
      I 38 (.append 1 8 (.t 32) (.t 37)),
      I 39 (.nilChk (.t 28)),
      I 40 (.fieldAddr 10 (.t 39)),
      I0 (.store 1 (.t 40) (.t 38))] [5, 6, 25, 26])) (
   .reg [
     I 41 (.bin .add (.t 26) (.c (.int .i64 1))),
     I 26 (.mov (.t 41))] [5, 6, 25, 26]))))))) (
 .seq (
 .reg [
   I 42 (.mov (.t 6)),
   I 4 (.mov (.t 42))] [4]) (
 .ret)))))))⟩

/- (*sakia/board.Board[uint64]).look -/
def c187 : AFn := ⟨4, [.tmp 8], (
 .seq (
 .reg [
   I 8 (.mov (.c (.int .u64 0)))] [0, 1, 2, 3]) (
 .seq (
 .reg [
   I 10 (.mov (.t 0)),
   I 11 (.nilChk (.t 10)),
   I 12 (.fieldAddr 14 (.t 11)),
   I 13 (.load none (.t 12)),
   I 14 (.mov (.t 3)),
   I 15 (.indexAddr none 1 (.t 13) (.t 14)),
   I 16 (.load none (.t 15)),
   I 9 (.mov (.t 16))] [0, 1, 2, 3, 9]) (
 .seq (
 .reg [
   I 17 (.mov (.t 0)),
   I 18 (.mov (.t 1)),
   I 19 (.mov (.t 2)),
   I 20 (.mov (.t 3)),
   I 21 (.mov (.t 9)),
   I 22 (.callE 1 59 [(.t 21)]),
   I 23 (.mov (.t 9)),
   I 24 (.callE 1 59 [(.t 23)]),
   I 25 (.call 90 [(.t 17), (.t 18), (.t 19), (.t 20), (.t 22), (.t 24)])] [9]) (
 .seq (
 .reg [
   I 26 (.mov (.t 9)),
   I 8 (.mov (.t 26))] [8]) (
 .ret)))))⟩

/- (sakia/group.Group).With -/
def c188 : AFn := ⟨2, [.tmp 4], (
 .seq (
 .reg [
   I 4 (.mov (.c (.int .u64 0)))] [0, 1]) (
 .seq (
 .seq (
 .reg [
   I 5 (.mov (.t 1)),
   I 6 (.callE 1 190 [(.t 5)]),
   I 7 (.un .not (.t 6))] [0, 1, 7]) (
 .cond (.t 7) (
  .seq (
  .reg [
    I 8 (.mov (.t 0)),
    I 4 (.mov (.t 8))] [4]) (
  .ret)) (
  .skip))) (
 .seq (
 .reg [
   I 9 (.mov (.t 0)),
   I 10 (.mov (.t 1)),
   I 11 (.bin .shl (.c (.int .u64 1)) (.t 10)),
   I 12 (.bin .or (.t 9) (.t 11)),
   I 4 (.mov (.t 12))] [4]) (
 .ret))))⟩

/- sakia/graph.above$1 -/
def c189 : AFn := ⟨4, [], (
 .seq (
 .reg [
   I 7 (.load none (.t 1)),
   I 8 (.mov (.t 0)),
   I 9 (.indexAddr none 1 (.t 7) (.t 8)),
   I 10 (.load none (.t 9)),
   I 11 (.len false (.t 10)),
   I 12 (.mov (.c (.int .i64 0)))] [2, 3, 10, 11, 12]) (
 .block 0 (
  .loop (
   .seq (
   .reg [
     I 13 (.bin .lss (.t 12) (.t 11))] [2, 3, 10, 11, 12, 13]) (
   .seq (
   .cond (.t 13) (
    .skip) (
    .exit 0)) (
   .seq (
   .block 1 (
    .seq (
    .reg [
      I 14 (.indexAddr none 1 (.t 10) (.t 12)),
      I 15 (.load none (.t 14)),
      I 6 (.mov (.t 15))] [2, 3, 6, 10, 11, 12]) (
    .seq (
    .reg [
      I 16 (.load none (.t 2)),
      I 17 (.mov (.t 6)),
      I 18 (.callE 1 170 [(.t 16), (.t 17)]),
      I 19 (.un .not (.t 18))] [2, 3, 6, 10, 11, 12, 19]) (
    .cond (.t 19) (
     .seq (
     .reg [
       I 20 (.load none (.t 2)),
       I 21 (.mov (.t 6)),
       I 22 (.callE 1 188 [(.t 20), (.t 21)]),
       I0 (.store 1 (.t 2) (.t 22))] [2, 3, 6, 10, 11, 12]) (
     .reg [
       I 23 (.load none (.t 3)),
       I 24 (.mov (.t 6)),
       I 25 (.callV (.t 23) [(.t 24)])] [2, 3, 10, 11, 12])) (
     .skip))))) (
   .reg [
     I 26 (.bin .add (.t 12) (.c (.int .i64 1))),
     I 12 (.mov (.t 26))] [2, 3, 10, 11, 12])))))))⟩

end Go.Ab
