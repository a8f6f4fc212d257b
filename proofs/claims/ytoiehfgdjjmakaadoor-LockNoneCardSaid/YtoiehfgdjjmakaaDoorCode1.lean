/- Abstract code of functions of the program, printed by a program. -/
import Derived.Test.YtoiehfgdjjmakaaDoorFA
namespace Go.Ab
set_option maxRecDepth 100000
/- sakia/mark.inside[uint32] -/
def c84 : AFn := ⟨1, [.tmp 2], (
 .seq (
 .reg [
   I 2 (.mov (.c (.bool false)))] [0]) (
 .seq (
 .regd [0, 1, 2, 3, 4, 5, 6, 7, 8, 10, 11, 12, 9, 13, 14, 15, 16] [
   I 3 (.mov (.t 0)),
   I 4 (.nilChk (.t 3)),
   I 5 (.fieldAddr 4 (.t 4)),
   I 6 (.load none (.t 5)),
   I 7 (.bin .geq (.t 6) (.c (.int .i64 0))),
   I 8 (.mov (.t 7)),
   IG (some 9) (8, true) (.mov (.t 0)),
   IG (some 10) (8, true) (.nilChk (.t 9)),
   IG (some 11) (8, true) (.fieldAddr 4 (.t 10)),
   IG (some 13) (8, true) (.mov (.t 0)),
   IG (some 14) (8, true) (.nilChk (.t 13)),
   IG (some 15) (8, true) (.fieldAddr 1 (.t 14)),
   IG (some 12) (8, true) (.load none (.t 11)),
   IG (some 16) (8, true) (.load none (.t 15)),
   IG (some 17) (8, true) (.bin .lss (.t 12) (.t 16)),
   I 18 (.pick (.t 8) (.t 17) (.c (.bool false))),
   I 2 (.mov (.t 18))] [2]) (
 .ret)))⟩

/- sakia/mark.lay[uint32] -/
def c85 : AFn := ⟨3, [], (
 .seq (
 .reg [
   I 9 (.mov (.t 0)),
   I 10 (.mov (.t 2)),
   I 11 (.callQ 97 [(.t 9), (.t 10)]),
   I 8 (.mov (.t 11)),
   I 12 (.extract (.t 8) 0),
   I 13 (.extract (.t 8) 1),
   I 6 (.mov (.t 12)),
   I 7 (.mov (.t 13))] [0, 1, 6, 7]) (
 .seq (
 .seq (
 .reg [
   I 14 (.mov (.t 0)),
   I 15 (.callQ 96 [(.t 14)]),
   I 16 (.bin .eql (.t 15) (.c (.int .i64 2)))] [0, 1, 6, 7, 16]) (
 .cond (.t 16) (
  .seq (
  .reg [
    I 17 (.mov (.t 0)),
    I 18 (.mov (.t 1)),
    I 19 (.mov (.t 6)),
    I 20 (.mov (.t 7)),
    I 21 (.call 62 [(.t 17), (.t 18), (.t 19), (.t 20)])] []) (
  .ret)) (
  .skip))) (
 .reg [
   I 22 (.mov (.t 0)),
   I 23 (.mov (.t 1)),
   I 24 (.mov (.t 6)),
   I 25 (.mov (.t 7)),
   I 26 (.call 14 [(.t 22), (.t 23), (.t 24), (.t 25)])] [])))⟩

/- sakia/turn.Has[uint32] -/
def c86 : AFn := ⟨1, [.tmp 2], (
 .seq (
 .reg [
   I 2 (.mov (.c (.bool false)))] [0]) (
 .seq (
 .reg [
   I 3 (.mov (.t 0)),
   I 4 (.isNil .ptr true (.t 3)),
   I 5 (.mov (.t 4)),
   IG (some 6) (5, true) (.mov (.t 0)),
   IG (some 7) (5, true) (.call 39 [(.t 6)]),
   IG (some 8) (5, true) (.field 0 (some 6) (.t 7)),
   IG (some 9) (5, true) (.field 0 none (.t 8)),
   IG (some 10) (5, true) (.bin .eql (.t 9) (.c (.int .i64 5))),
   I 11 (.pick (.t 5) (.t 10) (.c (.bool false))),
   I 2 (.mov (.t 11))] [2]) (
 .ret)))⟩

/- (*sakia/board.Board[uint32]).Add -/
def c87 : AFn := ⟨4, [.tmp 8], (
 .seq (
 .reg [
   I 8 (.mov (.c (.int .u32 0)))] [0, 1, 2, 3]) (
 .seq (
 .seq (
 .reg [
   I 9 (.mov (.t 0)),
   I 10 (.mov (.t 2)),
   I 11 (.callQ 43 [(.t 9), (.t 10), (.c (.int .i64 1))]),
   I 12 (.un .not (.t 11))] [0, 1, 2, 3, 12]) (
 .cond (.t 12) (
  .seq (
  .reg [
    I 8 (.mov (.c (.int .u32 0)))] [8]) (
  .ret)) (
  .skip))) (
 .seq (
 .reg [
   I 13 (.mov (.t 0)),
   I 14 (.mov (.t 1)),
   I 15 (.mov (.t 2)),
   I 16 (.mov (.t 0)),
   I 17 (.nilChk (.t 16)),
   I 18 (.fieldAddr 14 (.t 17)),
   I 19 (.load none (.t 18)),
   I 20 (.mov (.t 2)),
   I 21 (.indexAddr none 1 (.t 19) (.t 20)),
   I 22 (.load none (.t 21)),
   I 23 (.mov (.t 3)),
   I 24 (.callE 1 15 [(.t 22), (.t 23)]),
   I 25 (.call 44 [(.t 13), (.t 14), (.c (.int .i64 3)), (.t 15), (.t 24)]),
   I 8 (.mov (.t 25))] [8]) (
 .ret))))⟩

/- sakia/turn.Leave[uint32] -/
def c88 : AFn := ⟨2, [], (
 .seq (
 .reg [
   I 4 (.mov (.t 0)),
   I 5 (.callQ 86 [(.t 4)])] [0, 1, 5]) (
 .cond (.t 5) (
  .reg [
    I 6 (.mov (.t 0)),
    I 7 (.mov (.t 1)),
    I 8 (.mov (.t 0)),
    I 9 (.call 39 [(.t 8)]),
    I 10 (.field 9 none (.t 9)),
    I 11 (.call 87 [(.t 6), (.t 7), (.t 10), (.c (.int .i64 1))])] []) (
  .skip)))⟩

/- sakia/graph.names -/
def c89 : AFn := ⟨2, [.tmp 4], (
 .seq (
 .reg [
   I 4 (.mov (.c (.bool false)))] [0, 1]) (
 .seq (
 .reg [
   I 5 (.mov (.c (.int .u64 0)))] [0, 1, 5]) (
 .seq (
 .seq (
 .reg [
   I 8 (.mov (.t 0)),
   I 9 (.len false (.t 8)),
   I 10 (.mov (.c (.int .i64 0)))] [1, 5, 8, 9, 10]) (
 .block 0 (
  .loop (
   .seq (
   .reg [
     I 11 (.bin .lss (.t 10) (.t 9))] [1, 5, 8, 9, 10, 11]) (
   .seq (
   .cond (.t 11) (
    .skip) (
    .exit 0)) (
   .seq (
   .block 1 (
    .seq (
    .reg [
      I 12 (.indexAddr none 1 (.t 8) (.t 10)),
      I 13 (.load none (.t 12)),
      I 7 (.mov (.t 13))] [1, 5, 7, 8, 9, 10]) (
    .seq (
    .seq (
    .reg [
      I 14 (.mov (.t 7)),
      I 15 (.bin .lss (.t 14) (.c (.int .i64 0))),
      I 16 (.mov (.t 15)),
      IG (some 17) (16, false) (.mov (.t 7)),
      IG (some 18) (16, false) (.mov (.t 1)),
      IG (some 19) (16, false) (.bin .geq (.t 17) (.t 18)),
      I 20 (.pick (.t 16) (.c (.bool true)) (.t 19)),
      I 21 (.mov (.t 20)),
      IG (some 22) (21, false) (.mov (.t 5)),
      IG (some 23) (21, false) (.mov (.t 7)),
      IG (some 24) (21, false) (.callE 1 91 [(.t 22), (.t 23)]),
      I 25 (.pick (.t 21) (.c (.bool true)) (.t 24))] [1, 5, 7, 8, 9, 10, 25]) (
    .cond (.t 25) (
     .seq (
     .reg [
       I 4 (.mov (.c (.bool false)))] [4]) (
     .ret)) (
     .skip))) (
    .reg [
      I 26 (.mov (.t 5)),
      I 27 (.mov (.t 7)),
      I 28 (.callE 1 100 [(.t 26), (.t 27)]),
      I 5 (.mov (.t 28))] [1, 5, 8, 9, 10])))) (
   .reg [
     I 29 (.bin .add (.t 10) (.c (.int .i64 1))),
     I 10 (.mov (.t 29))] [1, 5, 8, 9, 10]))))))) (
 .seq (
 .reg [
   I 4 (.mov (.c (.bool true)))] [4]) (
 .ret)))))⟩

/- sakia/graph.above -/
def c90 : AFn := ⟨2, [.tmp 4], (
 .seq (
 .reg [
   I 2 (.box (.t 0)),
   I 4 (.mov (.c (.int .u64 0)))] [1, 2]) (
 .seq (
 .reg [
   I 5 (.alloc [.int .u64 0])] [1, 2, 5]) (
 .seq (
 .reg [
   I 6 (.alloc [.nilFunc])] [1, 2, 5, 6]) (
 .seq (
 .reg [
   I 7 (.mkFunc (.func 101) [] [(.t 2), (.t 5), (.t 6)]),
   I0 (.store 1 (.t 6) (.t 7))] [1, 5, 6]) (
 .seq (
 .reg [
   I 8 (.load none (.t 6)),
   I 9 (.mov (.t 1)),
   I 10 (.callV (.t 8) [(.t 9)])] [5]) (
 .seq (
 .reg [
   I 11 (.load none (.t 5)),
   I 4 (.mov (.t 11))] [4]) (
 .ret)))))))⟩

/- (sakia/group.Group).Has -/
def c91 : AFn := ⟨2, [.tmp 4], (
 .seq (
 .reg [
   I 4 (.mov (.c (.bool false)))] [0, 1]) (
 .seq (
 .reg [
   I 5 (.mov (.t 1)),
   I 6 (.callE 1 98 [(.t 5)]),
   I 7 (.mov (.t 6)),
   IG (some 8) (7, true) (.mov (.t 0)),
   IG (some 9) (7, true) (.mov (.t 1)),
   IG (some 10) (7, true) (.bin .shr (.t 8) (.t 9)),
   IG (some 11) (7, true) (.bin .and (.t 10) (.c (.int .u64 1))),
   IG (some 12) (7, true) (.bin .eql (.t 11) (.c (.int .u64 1))),
   I 13 (.pick (.t 7) (.t 12) (.c (.bool false))),
   I 4 (.mov (.t 13))] [4]) (
 .ret)))⟩

/- (sakia/layout.Layout).made -/
def c92 : AFn := ⟨1, [.tmp 2], (
 .seq (
 .reg [
   I 1 (.box (.t 0)),
   I 2 (.mov (.c (.bool false)))] [1]) (
 .seq (
 .reg [
   I 3 (.fieldAddr 13 (.t 1)),
   I 4 (.load none (.t 3)),
   I 5 (.bin .gtr (.t 4) (.c (.int .i64 0))),
   I 2 (.mov (.t 5))] [2]) (
 .ret)))⟩

/- sakia/lap.there -/
def c93 : AFn := ⟨2, [.tmp 4], (
 .seq (
 .reg [
   I 4 (.mov (.c (.bool false)))] [0, 1]) (
 .seq (
 .reg [
   I 5 (.mov (.t 0)),
   I 6 (.callE 1 65 [(.t 5)]),
   I 7 (.mov (.t 6)),
   IG (some 8) (7, true) (.mov (.t 1)),
   IG (some 9) (7, true) (.bin .geq (.t 8) (.c (.int .i64 0))),
   I 10 (.pick (.t 7) (.t 9) (.c (.bool false))),
   I 11 (.mov (.t 10)),
   IG (some 12) (11, true) (.mov (.t 1)),
   IG (some 13) (11, true) (.mov (.t 0)),
   IG (some 14) (11, true) (.bin .lss (.t 12) (.t 13)),
   I 15 (.pick (.t 11) (.t 14) (.c (.bool false))),
   I 4 (.mov (.t 15))] [4]) (
 .ret)))⟩

/- sakia/lap.Round[uint32] -/
def c94 : AFn := ⟨2, [.tmp 4], (
 .seq (
 .reg [
   I 4 (.mov (.c (.int .u32 0)))] [0, 1]) (
 .seq (
 .regd [0, 1, 2, 3, 4, 5, 6, 7, 8] [
   I 5 (.mov (.t 1)),
   I 6 (.mov (.t 0)),
   I 7 (.callE 1 102 [(.t 6)]),
   I 8 (.bin .shr (.t 5) (.t 7)),
   I 9 (.mov (.t 0)),
   I 10 (.callE 1 103 [(.t 9)]),
   I 11 (.conv .u32 (.t 10)),
   I 12 (.bin .mul (.t 8) (.t 11)),
   I 4 (.mov (.t 12))] [4]) (
 .ret)))⟩

/- sakia/lap.Round[uint64] -/
def c95 : AFn := ⟨2, [.tmp 4], (
 .seq (
 .reg [
   I 4 (.mov (.c (.int .u64 0)))] [0, 1]) (
 .seq (
 .regd [0, 1, 2, 3, 4, 5, 6, 7, 8] [
   I 5 (.mov (.t 1)),
   I 6 (.mov (.t 0)),
   I 7 (.callE 1 102 [(.t 6)]),
   I 8 (.bin .shr (.t 5) (.t 7)),
   I 9 (.mov (.t 0)),
   I 10 (.callE 1 103 [(.t 9)]),
   I 11 (.conv .u64 (.t 10)),
   I 12 (.bin .mul (.t 8) (.t 11)),
   I 4 (.mov (.t 12))] [4]) (
 .ret)))⟩

/- sakia/mark.kind[uint32] -/
def c96 : AFn := ⟨1, [.tmp 2], (
 .seq (
 .reg [
   I 2 (.mov (.c (.int .i64 0)))] [0]) (
 .seq (
 .seq (
 .reg [
   I 3 (.mov (.t 0)),
   I 4 (.call 39 [(.t 3)]),
   I 5 (.field 0 (some 6) (.t 4)),
   I 6 (.field 0 none (.t 5))] [6]) (
 .block 0 (
  .seq (
  .block 3 (
   .block 2 (
    .seq (
    .block 1 (
     .seq (
     .seq (
     .seq (
     .reg [
       I 8 (.bin .eql (.t 6) (.c (.int .i64 5))),
       I 7 (.mov (.t 8))] [6, 7]) (
     .cond (.t 7) (
      .exit 1) (
      .skip))) (
     .seq (
     .seq (
     .reg [
       I 10 (.bin .eql (.t 6) (.c (.int .i64 2))),
       I 9 (.mov (.t 10))] [6, 9]) (
     .cond (.t 9) (
      .exit 2) (
      .skip))) (
     .seq (
     .reg [
       I 12 (.bin .eql (.t 6) (.c (.int .i64 3))),
       I 11 (.mov (.t 12))] [11]) (
     .cond (.t 11) (
      .exit 3) (
      .skip))))) (
     .exit 0))) (
    .seq (
    .seq (
    .reg [
      I 2 (.mov (.c (.int .i64 2)))] [2]) (
    .ret)) (
    .exit 0))))) (
  .seq (
  .seq (
  .reg [
    I 2 (.mov (.c (.int .i64 1)))] [2]) (
  .ret)) (
  .exit 0))))) (
 .seq (
 .reg [
   I 2 (.mov (.c (.int .i64 0)))] [2]) (
 .ret))))⟩

/- sakia/mark.cell[uint32] -/
def c97 : AFn := ⟨2, [.tmp 4, .tmp 5], (
 .seq (
 .reg [
   I 4 (.mov (.c (.int .i64 0))),
   I 5 (.mov (.c (.int .u32 0)))] [0, 1]) (
 .seq (
 .reg [
   I 7 (.mov (.t 0)),
   I 8 (.call 39 [(.t 7)]),
   I 6 (.alloc [.int .i64 0, .int .i64 0, .int .i64 0, .int .i64 0, .int .u64 0, .slice none 0 0, .int .i64 0, .int .i64 0, .int .i64 0, .int .i64 0, .int .i64 0, .int .i64 0, .int .i64 0, .int .i64 0]),
   I0 (.store 14 (.t 6) (.t 8))] [1, 6]) (
 .seq (
 .regd [1, 2, 4, 7, 8, 10, 0, 3, 5, 6, 9, 11, 12, 13] [
   I 10 (.fieldAddr 0 (.t 6)),
   I 11 (.fieldAddr 2 (.t 10)),
   I 13 (.mov (.t 1)),
   I 16 (.fieldAddr 0 (.t 6)),
   I 17 (.fieldAddr 2 (.t 16)),
   I 19 (.mov (.t 1)),
   I 9 (.load (some 14) (.t 6)),
   I 12 (.load none (.t 11)),
   I 14 (.callE 1 105 [(.t 12), (.t 13)]),
   I 15 (.callQ 104 [(.t 9), (.t 14)]),
   I 18 (.load none (.t 17)),
   I 20 (.callE 1 94 [(.t 18), (.t 19)]),
   I 4 (.mov (.t 15)),
   I 5 (.mov (.t 20))] [4, 5]) (
 .ret))))⟩

/- sakia/group.in -/
def c98 : AFn := ⟨1, [.tmp 2], (
 .seq (
 .reg [
   I 2 (.mov (.c (.bool false)))] [0]) (
 .seq (
 .reg [
   I 3 (.mov (.t 0)),
   I 4 (.bin .geq (.t 3) (.c (.int .i64 0))),
   I 5 (.mov (.t 4)),
   IG (some 6) (5, true) (.mov (.t 0)),
   IG (some 7) (5, true) (.bin .lss (.t 6) (.c (.int .i64 64))),
   I 8 (.pick (.t 5) (.t 7) (.c (.bool false))),
   I 2 (.mov (.t 8))] [2]) (
 .ret)))⟩

/- (sakia/group.Group).With -/
def c100 : AFn := ⟨2, [.tmp 4], (
 .seq (
 .reg [
   I 4 (.mov (.c (.int .u64 0)))] [0, 1]) (
 .seq (
 .seq (
 .reg [
   I 5 (.mov (.t 1)),
   I 6 (.callE 1 98 [(.t 5)]),
   I 7 (.un .not (.t 6))] [0, 1, 7]) (
 .cond (.t 7) (
  .seq (
  .reg [
    I 8 (.mov (.t 0)),
    I 4 (.mov (.t 8))] [4]) (
  .ret)) (
  .skip))) (
 .seq (
 .reg [
   I 9 (.mov (.t 0)),
   I 10 (.mov (.t 1)),
   I 11 (.bin .shl (.c (.int .u64 1)) (.t 10)),
   I 12 (.bin .or (.t 9) (.t 11)),
   I 4 (.mov (.t 12))] [4]) (
 .ret))))⟩

/- sakia/graph.above$1 -/
def c101 : AFn := ⟨4, [], (
 .seq (
 .reg [
   I 7 (.load none (.t 1)),
   I 8 (.mov (.t 0)),
   I 9 (.indexAddr none 1 (.t 7) (.t 8)),
   I 10 (.load none (.t 9)),
   I 11 (.len false (.t 10)),
   I 12 (.mov (.c (.int .i64 0)))] [2, 3, 10, 11, 12]) (
 .block 0 (
  .loop (
   .seq (
   .reg [
     I 13 (.bin .lss (.t 12) (.t 11))] [2, 3, 10, 11, 12, 13]) (
   .seq (
   .cond (.t 13) (
    .skip) (
    .exit 0)) (
   .seq (
   .block 1 (
    .seq (
    .reg [
      I 14 (.indexAddr none 1 (.t 10) (.t 12)),
      I 15 (.load none (.t 14)),
      I 6 (.mov (.t 15))] [2, 3, 6, 10, 11, 12]) (
    .seq (
    .reg [
      I 16 (.load none (.t 2)),
      I 17 (.mov (.t 6)),
      I 18 (.callE 1 91 [(.t 16), (.t 17)]),
      I 19 (.un .not (.t 18))] [2, 3, 6, 10, 11, 12, 19]) (
    .cond (.t 19) (
     .seq (
     .reg [
       I 20 (.load none (.t 2)),
       I 21 (.mov (.t 6)),
       I 22 (.callE 1 100 [(.t 20), (.t 21)]),
       I0 (.store 1 (.t 2) (.t 22))] [2, 3, 6, 10, 11, 12]) (
     .reg [
       I 23 (.load none (.t 3)),
       I 24 (.mov (.t 6)),
       I 25 (.callV (.t 23) [(.t 24)])] [2, 3, 10, 11, 12])) (
     .skip))))) (
   .reg [
     I 26 (.bin .add (.t 12) (.c (.int .i64 1))),
     I 12 (.mov (.t 26))] [2, 3, 10, 11, 12])))))))⟩

/- sakia/lap.Log -/
def c102 : AFn := ⟨1, [.tmp 2], (
 .seq (
 .reg [
   I 2 (.mov (.c (.int .i64 0)))] [0]) (
 .seq (
 .seq (
 .reg [
   I 4 (.mov (.t 0)),
   I 5 (.callE 1 65 [(.t 4)]),
   I 6 (.un .not (.t 5))] [0, 6]) (
 .cond (.t 6) (
  .seq (
  .reg [
    I 2 (.mov (.c (.int .i64 0)))] [2]) (
  .ret)) (
  .skip))) (
 .seq (
 .seq (
 .reg [
   I 7 (.mov (.c (.int .i64 0)))] [0, 7]) (
 .block 0 (
  .loop (
   .seq (
   .reg [
     I 8 (.bin .lss (.t 7) (.c (.int .i64 31)))] [0, 7, 8]) (
   .seq (
   .cond (.t 8) (
    .skip) (
    .exit 0)) (
   .seq (
   .block 1 (
    .seq (
    .reg [
      I 9 (.mov (.t 7)),
      I 3 (.mov (.t 9))] [0, 3, 7]) (
    .seq (
    .reg [
      I 10 (.mov (.t 3)),
      I 11 (.bin .shl (.c (.int .i64 1)) (.t 10)),
      I 12 (.mov (.t 0)),
      I 13 (.bin .eql (.t 11) (.t 12))] [0, 3, 7, 13]) (
    .cond (.t 13) (
     .seq (
     .reg [
       I 14 (.mov (.t 3)),
       I 2 (.mov (.t 14))] [2]) (
     .ret)) (
     .skip))))) (
   .reg [
     I 15 (.bin .add (.t 7) (.c (.int .i64 1))),
     I 7 (.mov (.t 15))] [0, 7]))))))) (
 .seq (
 .reg [
   I 2 (.mov (.c (.int .i64 0)))] [2]) (
 .ret)))))⟩

/- sakia/lap.one -/
def c103 : AFn := ⟨1, [.tmp 2], (
 .seq (
 .reg [
   I 2 (.mov (.c (.int .i64 0)))] [0]) (
 .seq (
 .seq (
 .reg [
   I 3 (.mov (.t 0)),
   I 4 (.callE 1 65 [(.t 3)])] [4]) (
 .cond (.t 4) (
  .seq (
  .reg [
    I 2 (.mov (.c (.int .i64 1)))] [2]) (
  .ret)) (
  .skip))) (
 .seq (
 .reg [
   I 2 (.mov (.c (.int .i64 0)))] [2]) (
 .ret))))⟩

/- (sakia/layout.Layout).Mark -/
def c104 : AFn := ⟨2, [.tmp 4], (
 .seq (
 .reg [
   I 2 (.box (.t 0)),
   I 4 (.mov (.c (.int .i64 0)))] [1, 2]) (
 .seq (
 .reg [
   I 5 (.load (some 14) (.t 2)),
   I 6 (.fieldAddr 11 (.t 2)),
   I 7 (.load none (.t 6)),
   I 8 (.mov (.t 1)),
   I 9 (.callQ 109 [(.t 5), (.t 7), (.t 8)]),
   I 4 (.mov (.t 9))] [4]) (
 .ret)))⟩

/- sakia/lap.Slot[uint32] -/
def c105 : AFn := ⟨2, [.tmp 4], (
 .seq (
 .reg [
   I 4 (.mov (.c (.int .i64 0)))] [0, 1]) (
 .seq (
 .seq (
 .reg [
   I 5 (.mov (.t 0)),
   I 6 (.callE 1 65 [(.t 5)]),
   I 7 (.un .not (.t 6))] [0, 1, 7]) (
 .cond (.t 7) (
  .seq (
  .reg [
    I 4 (.mov (.c (.int .i64 0)))] [4]) (
  .ret)) (
  .skip))) (
 .seq (
 .reg [
   I 8 (.mov (.t 1)),
   I 9 (.mov (.t 0)),
   I 10 (.bin .sub (.t 9) (.c (.int .i64 1))),
   I 11 (.conv .u32 (.t 10)),
   I 12 (.bin .and (.t 8) (.t 11)),
   I 13 (.conv .i64 (.t 12)),
   I 4 (.mov (.t 13))] [4]) (
 .ret))))⟩

/- (sakia/group.Group).Least -/
def c107 : AFn := ⟨1, [.tmp 2, .tmp 3], (
 .seq (
 .reg [
   I 2 (.mov (.c (.int .i64 0))),
   I 3 (.mov (.c (.bool false)))] [0]) (
 .seq (
 .seq (
 .reg [
   I 4 (.mov (.t 0)),
   I 5 (.bin .eql (.t 4) (.c (.int .u64 0)))] [0, 5]) (
 .cond (.t 5) (
  .seq (
  .reg [
    I 2 (.mov (.c (.int .i64 0))),
    I 3 (.mov (.c (.bool false)))] [2, 3]) (
  .ret)) (
  .skip))) (
 .seq (
 .reg [
   I 6 (.mov (.t 0)),
   I 7 (.callQ 110 [(.t 6)]),
   I 2 (.mov (.t 7)),
   I 3 (.mov (.c (.bool true)))] [2, 3]) (
 .ret))))⟩

/- (sakia/group.Group).Next -/
def c108 : AFn := ⟨2, [.tmp 4, .tmp 5], (
 .seq (
 .reg [
   I 4 (.mov (.c (.int .i64 0))),
   I 5 (.mov (.c (.bool false)))] [0, 1]) (
 .seq (
 .seq (
 .reg [
   I 6 (.mov (.t 1)),
   I 7 (.bin .geq (.t 6) (.c (.int .i64 63)))] [0, 1, 7]) (
 .cond (.t 7) (
  .seq (
  .reg [
    I 4 (.mov (.c (.int .i64 0))),
    I 5 (.mov (.c (.bool false)))] [4, 5]) (
  .ret)) (
  .skip))) (
 .seq (
 .reg [
   I 8 (.mov (.t 0)),
   I 9 (.mov (.t 1)),
   I 10 (.minmax true (.t 9) (.c (.int .i64 (-1)))),
   I 11 (.bin .add (.t 10) (.c (.int .i64 1))),
   I 12 (.callE 1 81 [(.t 11)]),
   I 13 (.bin .andNot (.t 8) (.t 12)),
   I 14 (.callQ 107 [(.t 13)]),
   I 15 (.extract (.t 14) 0),
   I 16 (.extract (.t 14) 1),
   I 4 (.mov (.t 15)),
   I 5 (.mov (.t 16))] [4, 5]) (
 .ret))))⟩

/- (sakia/layout.Layout).slot -/
def c109 : AFn := ⟨3, [.tmp 6], (
 .seq (
 .reg [
   I 3 (.box (.t 0)),
   I 6 (.mov (.c (.int .i64 0)))] [1, 2, 3]) (
 .seq (
 .seq (
 .reg [
   I 7 (.load (some 14) (.t 3)),
   I 8 (.callQ 92 [(.t 7)]),
   I 9 (.un .not (.t 8)),
   I 10 (.mov (.t 9)),
   IG (some 11) (10, false) (.mov (.t 1)),
   IG (some 12) (10, false) (.bin .lss (.t 11) (.c (.int .i64 0))),
   I 13 (.pick (.t 10) (.c (.bool true)) (.t 12)),
   I 14 (.mov (.t 13)),
   IG (some 15) (14, false) (.mov (.t 2)),
   IG (some 16) (14, false) (.bin .lss (.t 15) (.c (.int .i64 0))),
   I 17 (.pick (.t 14) (.c (.bool true)) (.t 16)),
   I 18 (.mov (.t 17)),
   IG (some 19) (18, false) (.mov (.t 2)),
   IG (some 20) (18, false) (.fieldAddr 0 (.t 3)),
   IG (some 21) (18, false) (.fieldAddr 2 (.t 20)),
   IG (some 22) (18, false) (.load none (.t 21)),
   IG (some 23) (18, false) (.bin .geq (.t 19) (.t 22)),
   I 24 (.pick (.t 18) (.c (.bool true)) (.t 23))] [1, 2, 24]) (
 .cond (.t 24) (
  .seq (
  .reg [
    I 6 (.mov (.c (.int .i64 (-1))))] [6]) (
  .ret)) (
  .skip))) (
 .seq (
 .reg [
   I 25 (.mov (.t 1)),
   I 26 (.mov (.t 2)),
   I 27 (.bin .add (.t 25) (.t 26)),
   I 6 (.mov (.t 27))] [6]) (
 .ret))))⟩

/- math/bits.TrailingZeros64 -/
def c110 : AFn := ⟨1, [.tmp 2], (
 .seq (
 .reg [
   I 2 (.mov (.c (.int .i64 0)))] [0]) (
 .seq (
 .seq (
 .reg [
   I 3 (.mov (.t 0)),
   I 4 (.bin .eql (.t 3) (.c (.int .u64 0)))] [0, 4]) (
 .cond (.t 4) (
  .seq (
  .reg [
    I 2 (.mov (.c (.int .i64 64)))] [2]) (
  .ret)) (
  .skip))) (
 .seq (
 .reg [
   I 5 (.mov (.t 0)),
   I 6 (.mov (.t 0)),
   I 7 (.un .neg (.t 6)),
   I 8 (.bin .and (.t 5) (.t 7)),
   I 9 (.bin .mul (.t 8) (.c (.int .u64 285870213051353865))),
   I 10 (.bin .shr (.t 9) (.c (.int .u64 58))),
   I 11 (.indexAddr (some 64) 1 (.c (.pointer (some ⟨0, 0, none⟩))) (.t 10)),
   I 12 (.load none (.t 11)),
   I 13 (.conv .i64 (.t 12)),
   I 2 (.mov (.t 13))] [2]) (
 .ret))))⟩

end Go.Ab
