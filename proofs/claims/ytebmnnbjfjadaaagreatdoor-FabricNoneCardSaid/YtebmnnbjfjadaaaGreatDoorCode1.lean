/- Abstract code of functions of the program, printed by a program. -/
import Derived.Test.YtebmnnbjfjadaaaGreatDoorFo
namespace Go.Ab
set_option maxRecDepth 100000
/- (*sakia/board.Board[uint64]).Set -/
def c60 : AFn := ⟨4, [], (
 .seq (
 .seq (
 .reg [
   I 8 (.mov (.t 0)),
   I 9 (.mov (.t 2)),
   I 10 (.callQ 89 [(.t 8), (.t 9)]),
   I 11 (.un .not (.t 10))] [0, 1, 2, 3, 11]) (
 .cond (.t 11) (
  .ret) (
  .skip))) (
 .seq (
 .regd [0, 1, 2, 3, 4, 6, 8, 9, 10, 12, 16, 17, 5, 7, 11, 13, 14, 15, 18] [
   I 12 (.mov (.t 0)),
   I 13 (.mov (.t 1)),
   I 14 (.mov (.t 0)),
   I 15 (.nilChk (.t 14)),
   I 16 (.fieldAddr 0 (.t 15)),
   I 18 (.mov (.t 2)),
   I 20 (.mov (.t 0)),
   I 21 (.nilChk (.t 20)),
   I 22 (.fieldAddr 15 (.t 21)),
   I 24 (.mov (.t 2)),
   I 28 (.mov (.t 3)),
   I 29 (.conv .u64 (.t 28)),
   I 17 (.load (some 14) (.t 16)),
   I 19 (.callQ 91 [(.t 17), (.t 18)]),
   I 23 (.load none (.t 22)),
   I 25 (.indexAddr none 1 (.t 23) (.t 24)),
   I 26 (.load none (.t 25)),
   I 27 (.conv .u64 (.t 26)),
   I 30 (.call 90 [(.t 12), (.t 13), (.c (.int .i64 7)), (.t 19), (.t 27), (.t 29)])] [0, 2, 3]) (
 .reg [
   I 31 (.mov (.t 0)),
   I 32 (.nilChk (.t 31)),
   I 33 (.fieldAddr 15 (.t 32)),
   I 34 (.load none (.t 33)),
   I 35 (.mov (.t 2)),
   I 36 (.mov (.t 3)),
   I 37 (.indexAddr none 1 (.t 34) (.t 35)),
   I0 (.store 1 (.t 37) (.t 36))] [])))⟩

/- (*sakia/engine.Engine[uint64]).slot -/
def c61 : AFn := ⟨2, [.tmp 4], (
 .seq (
 .reg [
   I 4 (.mov (.c (.int .i64 0)))] [0, 1]) (
 .seq (
 .regd [0, 1, 2, 3, 5, 6, 7, 9, 10, 11, 4, 8, 12, 13, 14, 15] [
   I 5 (.mov (.t 0)),
   I 6 (.nilChk (.t 5)),
   I 7 (.fieldAddr 0 (.t 6)),
   I 8 (.fieldAddr 2 (.t 7)),
   I 10 (.mov (.t 1)),
   I 11 (.nilChk (.t 10)),
   I 12 (.fieldAddr 6 (.t 11)),
   I 14 (.mov (.t 1)),
   I 15 (.nilChk (.t 14)),
   I 16 (.fieldAddr 4 (.t 15)),
   I 9 (.load none (.t 8)),
   I 13 (.load none (.t 12)),
   I 17 (.load none (.t 16)),
   I 18 (.callE 1 93 [(.t 13), (.t 17)]),
   I 19 (.callE 1 92 [(.t 9), (.t 18)]),
   I 4 (.mov (.t 19))] [4]) (
 .ret)))⟩

/- (*sakia/engine.Engine[uint64]).publish -/
def c62 : AFn := ⟨3, [.tmp 6], (
 .seq (
 .reg [
   I 6 (.mov (.c (.bool false)))] [0, 1, 2]) (
 .seq (
 .reg [
   I 13 (.mov (.t 0)),
   I 14 (.nilChk (.t 13)),
   I 15 (.fieldAddr 7 (.t 14)),
   I 16 (.load none (.t 15)),
   I 17 (.callQ 37 [(.t 16)]),
   I 7 (.mov (.t 17))] [0, 1, 2, 7]) (
 .seq (
 .reg [
   I 18 (.mov (.t 0)),
   I 19 (.nilChk (.t 18)),
   I 20 (.fieldAddr 8 (.t 19)),
   I 21 (.load none (.t 20)),
   I 22 (.mov (.t 1)),
   I 23 (.mov (.t 2)),
   I 24 (.invoke "Publish" (.t 21) [(.t 22), (.t 23)]),
   I 8 (.mov (.t 24))] [0, 7, 8]) (
 .seq (
 .seq (
 .reg [
   I 25 (.mov (.t 0)),
   I 26 (.nilChk (.t 25)),
   I 27 (.fieldAddr 7 (.t 26)),
   I 28 (.load none (.t 27)),
   I 29 (.mov (.t 7)),
   I 30 (.call 38 [(.t 28), (.t 29)]),
   I 31 (.len false (.t 30)),
   I 32 (.mov (.c (.int .i64 0)))] [0, 7, 8, 30, 31, 32]) (
 .block 0 (
  .loop (
   .seq (
   .reg [
     I 33 (.bin .lss (.t 32) (.t 31))] [0, 7, 8, 30, 31, 32, 33]) (
   .seq (
   .cond (.t 33) (
    .skip) (
    .exit 0)) (
   .seq (
   .block 1 (
    .seq (
    .reg [
      I 34 (.mov (.t 32)),
      I 35 (.indexAddr none 7 (.t 30) (.t 32)),
      I 36 (.load (some 7) (.t 35)),
      I 10 (.alloc [.int .i64 0, .int .i64 0, .int .i64 0, .int .i64 0, .int .u64 0, .int .i64 0, .slice none 0 0]),
      I 9 (.mov (.t 34)),
      I0 (.store 7 (.t 10) (.t 36))] [0, 7, 8, 9, 10, 30, 31, 32]) (
    .seq (
    .reg [
      I 11 (.mov (.c (.slice none 0 0)))] [0, 7, 8, 9, 10, 11, 30, 31, 32]) (
    .seq (
    .seq (
    .reg [
      I 37 (.fieldAddr 3 (.t 10)),
      I 38 (.load none (.t 37)),
      I 39 (.mov (.c (.int .i64 0)))] [0, 7, 8, 9, 10, 11, 30, 31, 32, 38, 39]) (
    .block 2 (
     .loop (
      .seq (
      .reg [
        I 40 (.bin .lss (.t 39) (.t 38))] [0, 7, 8, 9, 10, 11, 30, 31, 32, 38, 39, 40]) (
      .seq (
      .cond (.t 40) (
       .skip) (
       .exit 2)) (
      .seq (
      .block 3 (
       .seq (
       .reg [
         I 41 (.mov (.t 39)),
         I 12 (.mov (.t 41))] [0, 7, 8, 9, 10, 11, 12, 30, 31, 32, 38, 39]) (
       .regd [0, 1, 2, 3, 5, 6, 7, 8, 10, 13, 4, 9, 11, 12, 14, 15, 16, 17, 18, 19] [
         I 42 (.mov (.t 11)),
         I 43 (.mov (.t 0)),
         I 44 (.nilChk (.t 43)),
         I 45 (.fieldAddr 6 (.t 44)),
         I 47 (.mov (.t 0)),
         I 48 (.nilChk (.t 47)),
         I 49 (.fieldAddr 0 (.t 48)),
         I 50 (.fieldAddr 2 (.t 49)),
         I 52 (.fieldAddr 4 (.t 10)),
         I 55 (.mov (.t 12)),
         I 46 (.load none (.t 45)),
         I 51 (.load none (.t 50)),
         I 53 (.load none (.t 52)),
         I 54 (.callE 1 95 [(.t 53)]),
         I 56 (.callE 1 93 [(.t 54), (.t 55)]),
         I 57 (.callE 1 92 [(.t 51), (.t 56)]),
         I 58 (.callQ 94 [(.t 46), (.t 57)]),
         I 59 (.buildSlice 1 #[.int .i64 0] 1 [(0, (.t 58))]),
         I 60 (.append 1 8 (.t 42) (.t 59)),
         I 11 (.mov (.t 60))] [0, 7, 8, 9, 10, 11, 30, 31, 32, 38, 39]))) (
      .reg [
        I 61 (.bin .add (.t 39) (.c (.int .i64 1))),
        I 39 (.mov (.t 61))] [0, 7, 8, 9, 10, 11, 30, 31, 32, 38, 39]))))))) (
    .reg [
      I 62 (.mov (.t 0)),
      I 63 (.nilChk (.t 62)),
      I 64 (.fieldAddr 7 (.t 63)),
      I 65 (.load none (.t 64)),
      I 66 (.mov (.t 7)),
      I 67 (.mov (.t 9)),
      I 68 (.bin .add (.t 66) (.t 67)),
      I 69 (.mov (.t 11)),
      I 70 (.call 96 [(.t 65), (.t 68), (.t 69)])] [0, 7, 8, 30, 31, 32]))))) (
   .reg [
     I 71 (.bin .add (.t 32) (.c (.int .i64 1))),
     I 32 (.mov (.t 71))] [0, 7, 8, 30, 31, 32]))))))) (
 .seq (
 .reg [
   I 72 (.mov (.t 8)),
   I 6 (.mov (.t 72))] [6]) (
 .ret))))))⟩

/- (*sakia/guard.Handle[uint64]).Published -/
def c63 : AFn := ⟨1, [.tmp 2], (
 .seq (
 .reg [
   I 2 (.mov (.c (.bool false)))] [0]) (
 .seq (
 .seq (
 .reg [
   I 3 (.mov (.t 0)),
   I 4 (.isNil .ptr false (.t 3)),
   I 5 (.mov (.t 4)),
   IG (some 6) (5, false) (.mov (.t 0)),
   IG (some 7) (5, false) (.nilChk (.t 6)),
   IG (some 8) (5, false) (.fieldAddr 2 (.t 7)),
   IG (some 9) (5, false) (.load none (.t 8)),
   IG (some 10) (5, false) (.un .not (.t 9)),
   I 11 (.pick (.t 5) (.c (.bool true)) (.t 10))] [0, 11]) (
 .cond (.t 11) (
  .seq (
  .reg [
    I 2 (.mov (.c (.bool false)))] [2]) (
  .ret)) (
  .skip))) (
 .seq (
 .reg [
   I 12 (.mov (.t 0)),
   I 13 (.mov (.t 0)),
   I 14 (.build #[.int .u64 0, .int .i64 0] []),
   I 15 (.nilChk (.t 12)),
   I 16 (.fieldAddr 2 (.t 15)),
   I0 (.store 1 (.t 16) (.c (.bool false))),
   I 17 (.nilChk (.t 13)),
   I 18 (.fieldAddr 3 (.t 17)),
   I0 (.store 2 (.t 18) (.t 14))] []) (
 .seq (
 .reg [
   I 2 (.mov (.c (.bool true)))] [2]) (
 .ret)))))⟩

/- (*sakia/barrier.Barrier[uint64]).Avail -/
def c64 : AFn := ⟨3, [.tmp 6], (
 .seq (
 .reg [
   I 6 (.mov (.c (.bool false)))] [0, 1, 2]) (
 .seq (
 .seq (
 .reg [
   I 7 (.mov (.t 0)),
   I 8 (.mov (.t 1)),
   I 9 (.callQ 97 [(.t 7), (.t 8)]),
   I 10 (.un .not (.t 9)),
   I 11 (.mov (.t 10)),
   IG (some 12) (11, false) (.mov (.t 2)),
   IG (some 13) (11, false) (.isNil .ptr false (.t 12)),
   I 14 (.pick (.t 11) (.c (.bool true)) (.t 13))] [0, 1, 2, 14]) (
 .cond (.t 14) (
  .seq (
  .reg [
    I 6 (.mov (.c (.bool true)))] [6]) (
  .ret)) (
  .skip))) (
 .seq (
 .seq (
 .reg [
   I 15 (.mov (.t 0)),
   I 16 (.mov (.t 1)),
   I 17 (.mov (.t 2)),
   I 18 (.call 98 [(.t 15), (.t 16), (.t 17)]),
   I 19 (.un .not (.t 18))] [0, 1, 2, 19]) (
 .cond (.t 19) (
  .seq (
  .reg [
    I 6 (.mov (.c (.bool false)))] [6]) (
  .ret)) (
  .skip))) (
 .seq (
 .regd [0, 1, 2, 4, 5, 7, 8, 9, 3, 6, 10, 11, 12, 13] [
   I 20 (.mov (.t 0)),
   I 21 (.nilChk (.t 20)),
   I 22 (.fieldAddr 1 (.t 21)),
   I 24 (.mov (.t 0)),
   I 25 (.mov (.t 1)),
   I 27 (.mov (.t 2)),
   I 28 (.nilChk (.t 27)),
   I 29 (.fieldAddr 8 (.t 28)),
   I 23 (.load none (.t 22)),
   I 26 (.callQ 99 [(.t 24), (.t 25)]),
   I 30 (.load none (.t 29)),
   I 31 (.callE 1 59 [(.t 30)]),
   I 32 (.build #[.int .i64 0, .int .i64 0, .int .i64 0, .int .i64 0, .int .u64 0, .int .i64 0, .slice none 0 0] [((0, 1), (.c (.int .i64 6))), ((1, 1), (.t 26)), ((4, 1), (.t 31))]),
   I 33 (.call 32 [(.t 23), (.t 32)])] []) (
 .seq (
 .reg [
   I 6 (.mov (.c (.bool true)))] [6]) (
 .ret))))))⟩

/- (*sakia/guard.Handle[uint64]).Saw -/
def c65 : AFn := ⟨2, [.tmp 4], (
 .seq (
 .reg [
   I 4 (.mov (.c (.bool false)))] [0, 1]) (
 .seq (
 .seq (
 .reg [
   I 6 (.mov (.t 0)),
   I 7 (.isNil .ptr false (.t 6)),
   I 8 (.mov (.t 7)),
   IG (some 9) (8, false) (.mov (.t 0)),
   IG (some 10) (8, false) (.nilChk (.t 9)),
   IG (some 11) (8, false) (.fieldAddr 1 (.t 10)),
   IG (some 12) (8, false) (.load none (.t 11)),
   I 13 (.pick (.t 8) (.c (.bool true)) (.t 12))] [0, 1, 13]) (
 .cond (.t 13) (
  .seq (
  .reg [
    I 4 (.mov (.c (.bool false)))] [4]) (
  .ret)) (
  .skip))) (
 .seq (
 .reg [
   I 14 (.mov (.t 1)),
   I 15 (.mov (.t 0)),
   I 16 (.nilChk (.t 15)),
   I 17 (.fieldAddr 5 (.t 16)),
   I 18 (.load none (.t 17)),
   I 19 (.callE 1 70 [(.t 14), (.t 18)]),
   I 5 (.mov (.t 19))] [0, 1, 5]) (
 .seq (
 .seq (
 .reg [
   I 20 (.mov (.t 5)),
   I 21 (.mov (.t 0)),
   I 22 (.callQ 40 [(.t 21)]),
   I 23 (.bin .lss (.t 20) (.t 22)),
   I 24 (.mov (.t 23)),
   IG (some 25) (24, false) (.mov (.t 5)),
   IG (some 26) (24, false) (.mov (.t 0)),
   IG (some 27) (24, false) (.nilChk (.t 26)),
   IG (some 28) (24, false) (.fieldAddr 0 (.t 27)),
   IG (some 29) (24, false) (.load none (.t 28)),
   IG (some 30) (24, false) (.bin .gtr (.t 25) (.t 29)),
   I 31 (.pick (.t 24) (.c (.bool true)) (.t 30))] [0, 1, 31]) (
 .cond (.t 31) (
  .seq (
  .reg [
    I 4 (.mov (.c (.bool false)))] [4]) (
  .ret)) (
  .skip))) (
 .seq (
 .reg [
   I 32 (.mov (.t 0)),
   I 33 (.mov (.t 1)),
   I 34 (.nilChk (.t 32)),
   I 35 (.fieldAddr 6 (.t 34)),
   I0 (.store 1 (.t 35) (.t 33))] []) (
 .seq (
 .reg [
   I 4 (.mov (.c (.bool true)))] [4]) (
 .ret)))))))⟩

/- (*sakia/board.Board[uint64]).Get -/
def c66 : AFn := ⟨3, [.tmp 6], (
 .seq (
 .reg [
   I 6 (.mov (.c (.int .i64 0)))] [0, 1, 2]) (
 .seq (
 .seq (
 .reg [
   I 8 (.mov (.t 0)),
   I 9 (.mov (.t 2)),
   I 10 (.callQ 89 [(.t 8), (.t 9)]),
   I 11 (.un .not (.t 10))] [0, 1, 2, 11]) (
 .cond (.t 11) (
  .seq (
  .reg [
    I 6 (.mov (.c (.int .i64 0)))] [6]) (
  .ret)) (
  .skip))) (
 .seq (
 .reg [
   I 12 (.mov (.t 0)),
   I 13 (.nilChk (.t 12)),
   I 14 (.fieldAddr 15 (.t 13)),
   I 15 (.load none (.t 14)),
   I 16 (.mov (.t 2)),
   I 17 (.indexAddr none 1 (.t 15) (.t 16)),
   I 18 (.load none (.t 17)),
   I 7 (.mov (.t 18))] [0, 1, 2, 7]) (
 .seq (
 .reg [
   I 19 (.mov (.t 0)),
   I 20 (.mov (.t 1)),
   I 21 (.mov (.t 0)),
   I 22 (.nilChk (.t 21)),
   I 23 (.fieldAddr 0 (.t 22)),
   I 24 (.load (some 14) (.t 23)),
   I 25 (.mov (.t 2)),
   I 26 (.callQ 91 [(.t 24), (.t 25)]),
   I 27 (.mov (.t 7)),
   I 28 (.conv .u64 (.t 27)),
   I 29 (.mov (.t 7)),
   I 30 (.conv .u64 (.t 29)),
   I 31 (.call 90 [(.t 19), (.t 20), (.c (.int .i64 6)), (.t 26), (.t 28), (.t 30)])] [7]) (
 .seq (
 .reg [
   I 32 (.mov (.t 7)),
   I 6 (.mov (.t 32))] [6]) (
 .ret))))))⟩

/- (*sakia/barrier.Barrier[uint64]).Release -/
def c67 : AFn := ⟨3, [.tmp 6], (
 .seq (
 .reg [
   I 6 (.mov (.c (.bool false)))] [0, 1, 2]) (
 .seq (
 .seq (
 .reg [
   I 9 (.mov (.t 0)),
   I 10 (.mov (.t 1)),
   I 11 (.callQ 97 [(.t 9), (.t 10)]),
   I 12 (.un .not (.t 11)),
   I 13 (.mov (.t 12)),
   IG (some 14) (13, false) (.mov (.t 2)),
   IG (some 15) (13, false) (.isNil .ptr false (.t 14)),
   I 16 (.pick (.t 13) (.c (.bool true)) (.t 15))] [0, 1, 2, 16]) (
 .cond (.t 16) (
  .seq (
  .reg [
    I 6 (.mov (.c (.bool true)))] [6]) (
  .ret)) (
  .skip))) (
 .seq (
 .regd [0, 1, 3, 4, 5, 7, 8, 9, 2, 6, 10, 11, 12, 13] [
   I 17 (.mov (.t 0)),
   I 18 (.mov (.t 1)),
   I 20 (.mov (.t 2)),
   I 21 (.nilChk (.t 20)),
   I 22 (.fieldAddr 6 (.t 21)),
   I 24 (.mov (.t 2)),
   I 25 (.nilChk (.t 24)),
   I 26 (.fieldAddr 1 (.t 25)),
   I 19 (.callQ 99 [(.t 17), (.t 18)]),
   I 23 (.load none (.t 22)),
   I 27 (.load none (.t 26)),
   I 28 (.callE 1 93 [(.t 23), (.t 27)]),
   I 7 (.mov (.t 19)),
   I 8 (.mov (.t 28))] [0, 1, 7, 8]) (
 .seq (
 .regd [0, 1, 2, 4, 5, 6, 7, 9, 11, 3, 8, 10, 12] [
   I 29 (.mov (.t 0)),
   I 30 (.nilChk (.t 29)),
   I 31 (.fieldAddr 0 (.t 30)),
   I 33 (.mov (.t 7)),
   I 34 (.mov (.t 0)),
   I 35 (.nilChk (.t 34)),
   I 36 (.fieldAddr 3 (.t 35)),
   I 38 (.mov (.t 1)),
   I 40 (.mov (.t 8)),
   I 32 (.load none (.t 31)),
   I 37 (.load (some 14) (.t 36)),
   I 39 (.callQ 101 [(.t 37), (.t 38)]),
   I 41 (.call 100 [(.t 32), (.t 33), (.t 39), (.t 40)])] [0, 7, 8]) (
 .seq (
 .regd [0, 1, 2, 4, 5, 6, 7, 3, 8] [
   I 42 (.mov (.t 0)),
   I 43 (.nilChk (.t 42)),
   I 44 (.fieldAddr 1 (.t 43)),
   I 46 (.mov (.t 7)),
   I 47 (.mov (.t 8)),
   I 48 (.callE 1 59 [(.t 47)]),
   I 49 (.build #[.int .i64 0, .int .i64 0, .int .i64 0, .int .i64 0, .int .u64 0, .int .i64 0, .slice none 0 0] [((0, 1), (.c (.int .i64 7))), ((1, 1), (.t 46)), ((4, 1), (.t 48))]),
   I 45 (.load none (.t 44)),
   I 50 (.call 32 [(.t 45), (.t 49)])] []) (
 .seq (
 .reg [
   I 6 (.mov (.c (.bool true)))] [6]) (
 .ret)))))))⟩

/- (*sakia/guard.Handle[uint64]).Released -/
def c68 : AFn := ⟨2, [.tmp 4], (
 .seq (
 .reg [
   I 4 (.mov (.c (.bool false)))] [0, 1]) (
 .seq (
 .seq (
 .reg [
   I 5 (.mov (.t 0)),
   I 6 (.isNil .ptr false (.t 5)),
   I 7 (.mov (.t 6)),
   IG (some 8) (7, false) (.mov (.t 1)),
   IG (some 9) (7, false) (.bin .lss (.t 8) (.c (.int .i64 1))),
   I 10 (.pick (.t 7) (.c (.bool true)) (.t 9)),
   I 11 (.mov (.t 10)),
   IG (some 12) (11, false) (.mov (.t 1)),
   IG (some 13) (11, false) (.mov (.t 0)),
   IG (some 14) (11, false) (.callQ 40 [(.t 13)]),
   IG (some 15) (11, false) (.bin .gtr (.t 12) (.t 14)),
   I 16 (.pick (.t 11) (.c (.bool true)) (.t 15))] [0, 1, 16]) (
 .cond (.t 16) (
  .seq (
  .reg [
    I 4 (.mov (.c (.bool false)))] [4]) (
  .ret)) (
  .skip))) (
 .seq (
 .reg [
   I 17 (.mov (.t 0)),
   I 18 (.mov (.t 0)),
   I 19 (.nilChk (.t 18)),
   I 20 (.fieldAddr 5 (.t 19)),
   I 21 (.load none (.t 20)),
   I 22 (.mov (.t 1)),
   I 23 (.callE 1 93 [(.t 21), (.t 22)]),
   I 24 (.nilChk (.t 17)),
   I 25 (.fieldAddr 5 (.t 24)),
   I0 (.store 1 (.t 25) (.t 23))] []) (
 .seq (
 .reg [
   I 4 (.mov (.c (.bool true)))] [4]) (
 .ret)))))⟩

/- sakia/event.Copy -/
def c69 : AFn := ⟨1, [.tmp 2], (
 .seq (
 .reg [
   I 2 (.mov (.c (.slice none 0 0)))] [0]) (
 .seq (
 .reg [
   I 3 (.mov (.c (.slice none 0 0)))] [0, 3]) (
 .seq (
 .seq (
 .reg [
   I 6 (.mov (.t 0)),
   I 7 (.len false (.t 6)),
   I 8 (.mov (.c (.int .i64 0)))] [3, 6, 7, 8]) (
 .block 0 (
  .loop (
   .seq (
   .reg [
     I 9 (.bin .lss (.t 8) (.t 7))] [3, 6, 7, 8, 9]) (
   .seq (
   .cond (.t 9) (
    .skip) (
    .exit 0)) (
   .seq (
   .block 1 (
    .seq (
    .reg [
      I 10 (.indexAddr none 7 (.t 6) (.t 8)),
      I 11 (.load (some 7) (.t 10)),
      I 5 (.alloc [.int .i64 0, .int .i64 0, .int .i64 0, .int .i64 0, .int .u64 0, .int .i64 0, .slice none 0 0]),
      I0 (.store 7 (.t 5) (.t 11))] [3, 5, 6, 7, 8]) (
    .reg [
      I 12 (.mov (.t 3)),
      I 13 (.load (some 7) (.t 5)),
      I 14 (.call 51 [(.t 13)]),
      I 15 (.buildSlice 7 #[.int .i64 0, .int .i64 0, .int .i64 0, .int .i64 0, .int .u64 0, .int .i64 0, .slice none 0 0] 1 [(0, (.t 14))]),
      I 16 (.append 7 72 (.t 12) (.t 15)),
      I 3 (.mov (.t 16))] [3, 6, 7, 8]))) (
   .reg [
     I 17 (.bin .add (.t 8) (.c (.int .i64 1))),
     I 8 (.mov (.t 17))] [3, 6, 7, 8]))))))) (
 .seq (
 .reg [
   I 18 (.mov (.t 3)),
   I 2 (.mov (.t 18))] [2]) (
 .ret)))))⟩

/- sakia/wide.Diff[uint64] -/
def c70 : AFn := ⟨2, [.tmp 4], (
 .seq (
 .reg [
   I 4 (.mov (.c (.int .i64 0)))] [0, 1]) (
 .seq (
 .reg [
   I 5 (.mov (.t 0)),
   I 6 (.mov (.t 1)),
   I 7 (.bin .sub (.t 5) (.t 6)),
   I 8 (.callE 1 102 [(.t 7)]),
   I 4 (.mov (.t 8))] [4]) (
 .ret)))⟩

/- (sakia/layout.Layout).Kind -/
def c71 : AFn := ⟨2, [.tmp 4], (
 .seq (
 .reg [
   I 2 (.box (.t 0)),
   I 4 (.mov (.c (.int .i64 0)))] [1, 2]) (
 .seq (
 .block 0 (
  .seq (
  .reg [
    I 6 (.load (some 14) (.t 2)),
    I 7 (.mov (.t 1)),
    I 8 (.callQ 103 [(.t 6), (.t 7)]),
    I 9 (.un .not (.t 8)),
    I 5 (.mov (.t 9))] [1, 2, 5]) (
  .cond (.t 5) (
   .seq (
   .reg [
     I 4 (.mov (.c (.int .i64 0)))] [4]) (
   .ret)) (
   .seq (
   .reg [
     I 11 (.mov (.t 1)),
     I 12 (.fieldAddr 12 (.t 2)),
     I 13 (.load none (.t 12)),
     I 14 (.bin .geq (.t 11) (.t 13)),
     I 10 (.mov (.t 14))] [1, 2, 10]) (
   .cond (.t 10) (
    .seq (
    .reg [
      I 4 (.mov (.c (.int .i64 3)))] [4]) (
    .ret)) (
    .seq (
    .reg [
      I 16 (.fieldAddr 10 (.t 2)),
      I 17 (.load none (.t 16)),
      I 18 (.bin .geq (.t 17) (.c (.int .i64 0))),
      I 19 (.mov (.t 18)),
      IG (some 20) (19, true) (.mov (.t 1)),
      IG (some 21) (19, true) (.fieldAddr 10 (.t 2)),
      IG (some 22) (19, true) (.load none (.t 21)),
      IG (some 23) (19, true) (.bin .geq (.t 20) (.t 22)),
      I 24 (.pick (.t 19) (.t 23) (.c (.bool false))),
      I 15 (.mov (.t 24))] [15]) (
    .cond (.t 15) (
     .seq (
     .reg [
       I 4 (.mov (.c (.int .i64 2)))] [4]) (
     .ret)) (
     .skip)))))))) (
 .seq (
 .reg [
   I 4 (.mov (.c (.int .i64 1)))] [4]) (
 .ret))))⟩

/- sakia/layout.Of -/
def c72 : AFn := ⟨1, [.cell 2 (some 14), .tmp 3], (
 .seq (
 .reg [
   I 1 (.box (.t 0)),
   I 2 (.alloc [.int .i64 0, .int .i64 0, .int .i64 0, .int .i64 0, .int .u64 0, .slice none 0 0, .int .i64 0, .int .i64 0, .int .i64 0, .int .i64 0, .int .i64 0, .int .i64 0, .int .i64 0, .int .i64 0]),
   I 3 (.mov (.c (.int .i64 0)))] [1, 2]) (
 .seq (
 .seq (
 .reg [
   I 7 (.load (some 6) (.t 1)),
   I 8 (.callQ 104 [(.t 7)]),
   I 4 (.mov (.t 8))] [1, 2, 4]) (
 .seq (
 .reg [
   I 9 (.mov (.t 4)),
   I 10 (.bin .neq (.t 9) (.c (.int .i64 0)))] [1, 2, 4, 10]) (
 .cond (.t 10) (
  .seq (
  .reg [
    I 11 (.build #[.int .i64 0, .int .i64 0, .int .i64 0, .int .i64 0, .int .u64 0, .slice none 0 0, .int .i64 0, .int .i64 0, .int .i64 0, .int .i64 0, .int .i64 0, .int .i64 0, .int .i64 0, .int .i64 0] []),
    I 12 (.mov (.t 4)),
    I0 (.store 14 (.t 2) (.t 11)),
    I 3 (.mov (.t 12))] [2, 3]) (
  .ret)) (
  .skip)))) (
 .seq (
 .reg [
   I 13 (.fieldAddr 5 (.t 1)),
   I 14 (.load none (.t 13)),
   I 15 (.call 50 [(.t 14)]),
   I 16 (.fieldAddr 5 (.t 1)),
   I0 (.store 1 (.t 16) (.t 15))] [1, 2]) (
 .seq (
 .reg [
   I 17 (.fieldAddr 5 (.t 1)),
   I 18 (.load none (.t 17)),
   I 19 (.len false (.t 18)),
   I 5 (.mov (.t 19))] [1, 2, 5]) (
 .seq (
 .reg [
   I 20 (.load (some 6) (.t 1)),
   I 21 (.build #[.int .i64 0, .int .i64 0, .int .i64 0, .int .i64 0, .int .u64 0, .slice none 0 0, .int .i64 0, .int .i64 0, .int .i64 0, .int .i64 0, .int .i64 0, .int .i64 0, .int .i64 0, .int .i64 0] [((0, 6), (.t 20)), ((6, 1), (.c (.int .i64 (-1)))), ((7, 1), (.c (.int .i64 (-1)))), ((8, 1), (.c (.int .i64 (-1)))), ((9, 1), (.c (.int .i64 (-1)))), ((10, 1), (.c (.int .i64 (-1)))), ((11, 1), (.c (.int .i64 (-1))))]),
   I 6 (.alloc [.int .i64 0, .int .i64 0, .int .i64 0, .int .i64 0, .int .u64 0, .slice none 0 0, .int .i64 0, .int .i64 0, .int .i64 0, .int .i64 0, .int .i64 0, .int .i64 0, .int .i64 0, .int .i64 0]),
   I0 (.store 14 (.t 6) (.t 21))] [1, 2, 5, 6]) (
 .seq (
 .seq (
 .reg [
   I 22 (.fieldAddr 0 (.t 1)),
   I 23 (.load none (.t 22))] [1, 2, 5, 6, 23]) (
 .block 0 (
  .seq (
  .reg [
    I 35 (.bin .eql (.t 23) (.c (.int .i64 1))),
    I 34 (.mov (.t 35))] [1, 2, 5, 6, 23, 34]) (
  .cond (.t 34) (
   .reg [
     I 36 (.mov (.t 5)),
     I 37 (.mov (.t 5)),
     I 38 (.bin .add (.t 37) (.c (.int .i64 1))),
     I 39 (.fieldAddr 6 (.t 6)),
     I0 (.store 1 (.t 39) (.t 36)),
     I 5 (.mov (.t 38))] [1, 2, 5, 6]) (
   .seq (
   .reg [
     I 41 (.bin .eql (.t 23) (.c (.int .i64 5))),
     I 40 (.mov (.t 41))] [1, 2, 5, 6, 40]) (
   .cond (.t 40) (
    .regd [0, 1, 2, 3, 4, 5, 6, 7, 8, 9, 12, 10, 11, 13, 14, 15, 16, 17, 18, 19, 20] [
      I 42 (.mov (.t 5)),
      I 43 (.mov (.t 5)),
      I 44 (.bin .add (.t 43) (.c (.int .i64 1))),
      I 45 (.mov (.t 5)),
      I 46 (.bin .add (.t 45) (.c (.int .i64 2))),
      I 47 (.mov (.t 5)),
      I 48 (.bin .add (.t 47) (.c (.int .i64 3))),
      I 49 (.mov (.t 5)),
      I 50 (.bin .add (.t 49) (.c (.int .i64 3))),
      I 51 (.fieldAddr 2 (.t 1)),
      I 54 (.fieldAddr 8 (.t 6)),
      I 52 (.load none (.t 51)),
      I 53 (.bin .add (.t 50) (.t 52)),
      I0 (.hold [(none, (.t 51))] (.store 1 (.t 54) (.t 42))),
      I 55 (.fieldAddr 9 (.t 6)),
      I0 (.hold [(none, (.t 51))] (.store 1 (.t 55) (.t 44))),
      I 56 (.fieldAddr 10 (.t 6)),
      I0 (.hold [(none, (.t 51))] (.store 1 (.t 56) (.t 46))),
      I 57 (.fieldAddr 11 (.t 6)),
      I0 (.hold [(none, (.t 51))] (.store 1 (.t 57) (.t 48))),
      I 5 (.mov (.t 53))] [1, 2, 5, 6]) (
    .regd [0, 1, 2, 3, 4, 5, 8, 6, 7, 9, 10, 11, 12] [
      I 24 (.mov (.t 5)),
      I 25 (.mov (.t 5)),
      I 26 (.bin .add (.t 25) (.c (.int .i64 1))),
      I 27 (.mov (.t 5)),
      I 28 (.bin .add (.t 27) (.c (.int .i64 1))),
      I 29 (.fieldAddr 2 (.t 1)),
      I 32 (.fieldAddr 7 (.t 6)),
      I 30 (.load none (.t 29)),
      I 31 (.bin .add (.t 28) (.t 30)),
      I0 (.hold [(none, (.t 29))] (.store 1 (.t 32) (.t 24))),
      I 33 (.fieldAddr 11 (.t 6)),
      I0 (.hold [(none, (.t 29))] (.store 1 (.t 33) (.t 26))),
      I 5 (.mov (.t 31))] [1, 2, 5, 6]))))))) (
 .seq (
 .regd [0, 1, 2, 5, 3, 4, 6, 7, 8] [
   I 58 (.mov (.t 5)),
   I 59 (.mov (.t 5)),
   I 60 (.fieldAddr 2 (.t 1)),
   I 63 (.fieldAddr 12 (.t 6)),
   I 61 (.load none (.t 60)),
   I 62 (.bin .add (.t 59) (.t 61)),
   I0 (.hold [(none, (.t 60))] (.store 1 (.t 63) (.t 58))),
   I 64 (.fieldAddr 13 (.t 6)),
   I0 (.store 1 (.t 64) (.t 62))] [2, 6]) (
 .seq (
 .reg [
   I 65 (.load (some 14) (.t 6)),
   I0 (.store 14 (.t 2) (.t 65)),
   I 3 (.mov (.c (.int .i64 0)))] [2, 3]) (
 .ret)))))))))⟩

/- sakia/wide.Bits[uint32] -/
def c73 : AFn := ⟨0, [.tmp 0], (
 .seq (
 .reg [
   I 0 (.mov (.c (.int .i64 0)))] []) (
 .seq (
 .seq (
 .reg [
   I 1 (.conv .u32 (.c (.int .i64 1))),
   I 2 (.bin .shl (.t 1) (.c (.int .u64 31))),
   I 3 (.bin .shl (.t 2) (.c (.int .u64 1))),
   I 4 (.bin .eql (.t 3) (.c (.int .u32 0)))] [4]) (
 .cond (.t 4) (
  .seq (
  .reg [
    I 0 (.mov (.c (.int .i64 32)))] [0]) (
  .ret)) (
  .skip))) (
 .seq (
 .reg [
   I 0 (.mov (.c (.int .i64 64)))] [0]) (
 .ret))))⟩

/- sakia/board.New[uint32] -/
def c74 : AFn := ⟨1, [.tmp 2], (
 .seq (
 .reg [
   I 1 (.box (.t 0)),
   I 2 (.mov (.c (.pointer none)))] [1]) (
 .seq (
 .seq (
 .regd [0, 1, 2, 3, 4, 5, 7, 6, 8, 9] [
   I 5 (.fieldAddr 13 (.t 1)),
   I 6 (.load none (.t 5)),
   I 7 (.bin .eql (.t 6) (.c (.int .i64 0))),
   I 8 (.mov (.t 7)),
   IG (some 9) (8, false) (.fieldAddr 0 (.t 1)),
   IG (some 10) (8, false) (.fieldAddr 1 (.t 9)),
   IG (some 12) (8, false) (.callE 1 73 []),
   IG (some 11) (8, false) (.load none (.t 10)),
   IG (some 13) (8, false) (.bin .neq (.t 11) (.t 12)),
   I 14 (.pick (.t 8) (.c (.bool true)) (.t 13))] [1, 14]) (
 .cond (.t 14) (
  .seq (
  .reg [
    I 2 (.mov (.c (.pointer none)))] [2]) (
  .ret)) (
  .skip))) (
 .seq (
 .regd [1, 2, 0, 3, 4, 5, 6, 7] [
   I 16 (.fieldAddr 0 (.t 1)),
   I 17 (.fieldAddr 2 (.t 16)),
   I 15 (.load (some 14) (.t 1)),
   I 18 (.load none (.t 17)),
   I 19 (.mkSlice 1 8 #[.int .i64 0] (.t 18)),
   I 20 (.build #[.int .i64 0, .int .i64 0, .int .i64 0, .int .i64 0, .int .u64 0, .slice none 0 0, .int .i64 0, .int .i64 0, .int .i64 0, .int .i64 0, .int .i64 0, .int .i64 0, .int .i64 0, .int .i64 0, .slice none 0 0, .slice none 0 0, .slice none 0 0] [((0, 14), (.t 15)), ((15, 1), (.t 19))]),
   I 21 (.box (.t 20)),
   I 3 (.mov (.t 21))] [1, 3]) (
 .seq (
 .seq (
 .reg [
   I 22 (.fieldAddr 12 (.t 1)),
   I 23 (.load none (.t 22)),
   I 24 (.mov (.c (.int .i64 0)))] [1, 3, 23, 24]) (
 .block 0 (
  .loop (
   .seq (
   .reg [
     I 25 (.bin .lss (.t 24) (.t 23))] [1, 3, 23, 24, 25]) (
   .seq (
   .cond (.t 25) (
    .skip) (
    .exit 0)) (
   .seq (
   .block 1 (
    .seq (
    .reg [
      I 26 (.mov (.t 24)),
      I 4 (.mov (.t 26))] [1, 3, 4, 23, 24]) (
    .regd [0, 1, 2, 3, 6, 4, 5, 7, 8, 9, 10, 11, 12, 13] [
      I 27 (.mov (.t 3)),
      I 28 (.mov (.t 3)),
      I 29 (.nilChk (.t 28)),
      I 30 (.fieldAddr 14 (.t 29)),
      I 33 (.mov (.t 4)),
      I 31 (.load none (.t 30)),
      I 32 (.load (some 14) (.t 1)),
      I 34 (.callQ 105 [(.t 32), (.t 33)]),
      I 35 (.callE 1 78 [(.t 34)]),
      I 36 (.buildSlice 1 #[.int .u32 0] 1 [(0, (.t 35))]),
      I 37 (.append 1 4 (.t 31) (.t 36)),
      I 38 (.nilChk (.t 27)),
      I 39 (.fieldAddr 14 (.t 38)),
      I0 (.store 1 (.t 39) (.t 37))] [1, 3, 23, 24]))) (
   .reg [
     I 40 (.bin .add (.t 24) (.c (.int .i64 1))),
     I 24 (.mov (.t 40))] [1, 3, 23, 24]))))))) (
 .seq (
 .reg [
   I 41 (.mov (.t 3)),
   I 2 (.mov (.t 41))] [2]) (
 .ret))))))⟩

/- sakia/event.NewLog -/
def c75 : AFn := ⟨0, [.tmp 0], (
 .seq (
 .reg [
   I 0 (.mov (.c (.pointer none)))] []) (
 .seq (
 .reg [
   I 1 (.build #[.slice none 0 0] []),
   I 2 (.box (.t 1)),
   I 0 (.mov (.t 2))] [0]) (
 .ret)))⟩

/- sakia/seqs.New[uint32] -/
def c76 : AFn := ⟨2, [.tmp 4], (
 .seq (
 .reg [
   I 4 (.mov (.c (.nilIface)))] [0, 1]) (
 .seq (
 .seq (
 .reg [
   I 5 (.mov (.t 0)),
   I 6 (.call 106 [(.t 5)]),
   I 7 (.field 0 (some 6) (.t 6)),
   I 8 (.field 0 none (.t 7))] [0, 1, 8]) (
 .block 0 (
  .seq (
  .reg [
    I 10 (.bin .eql (.t 8) (.c (.int .i64 1))),
    I 9 (.mov (.t 10))] [0, 1, 8, 9]) (
  .cond (.t 9) (
   .seq (
   .reg [
     I 11 (.mov (.t 0)),
     I 12 (.mov (.t 1)),
     I 13 (.call 107 [(.t 11), (.t 12)]),
     I 14 (.mkIface 159 (.t 13)),
     I 4 (.mov (.t 14))] [4]) (
   .ret)) (
   .seq (
   .reg [
     I 16 (.bin .eql (.t 8) (.c (.int .i64 2))),
     I 15 (.mov (.t 16))] [0, 1, 8, 15]) (
   .cond (.t 15) (
    .seq (
    .reg [
      I 17 (.mov (.t 0)),
      I 18 (.mov (.t 1)),
      I 19 (.call 108 [(.t 17), (.t 18)]),
      I 20 (.mkIface 161 (.t 19)),
      I 4 (.mov (.t 20))] [4]) (
    .ret)) (
    .seq (
    .reg [
      I 22 (.bin .eql (.t 8) (.c (.int .i64 3))),
      I 21 (.mov (.t 22))] [0, 1, 8, 21]) (
    .cond (.t 21) (
     .seq (
     .reg [
       I 23 (.mov (.t 0)),
       I 24 (.mov (.t 1)),
       I 25 (.call 109 [(.t 23), (.t 24)]),
       I 26 (.mkIface 163 (.t 25)),
       I 4 (.mov (.t 26))] [4]) (
     .ret)) (
     .seq (
     .reg [
       I 28 (.bin .eql (.t 8) (.c (.int .i64 4))),
       I 27 (.mov (.t 28))] [0, 1, 8, 27]) (
     .cond (.t 27) (
      .seq (
      .reg [
        I 29 (.mov (.t 0)),
        I 30 (.mov (.t 1)),
        I 31 (.call 110 [(.t 29), (.t 30)]),
        I 32 (.mkIface 165 (.t 31)),
        I 4 (.mov (.t 32))] [4]) (
      .ret)) (
      .seq (
      .reg [
        I 34 (.bin .eql (.t 8) (.c (.int .i64 5))),
        I 33 (.mov (.t 34))] [0, 1, 33]) (
      .cond (.t 33) (
       .seq (
       .reg [
         I 35 (.mov (.t 0)),
         I 36 (.mov (.t 1)),
         I 37 (.call 111 [(.t 35), (.t 36)]),
         I 38 (.mkIface 167 (.t 37)),
         I 4 (.mov (.t 38))] [4]) (
       .ret)) (
       .skip))))))))))))) (
 .seq (
 .reg [
   I 4 (.mov (.c (.nilIface)))] [4]) (
 .ret))))⟩

/- sakia/barrier.New[uint32] -/
def c77 : AFn := ⟨3, [.tmp 6], (
 .seq (
 .reg [
   I 6 (.mov (.c (.pointer none)))] [0, 1, 2]) (
 .seq (
 .seq (
 .reg [
   I 9 (.mov (.t 0)),
   I 10 (.isNil .ptr false (.t 9)),
   I 11 (.mov (.t 10)),
   IG (some 12) (11, false) (.mov (.t 2)),
   IG (some 13) (11, false) (.isNil .iface false (.t 12)),
   I 14 (.pick (.t 11) (.c (.bool true)) (.t 13))] [0, 1, 2, 14]) (
 .cond (.t 14) (
  .seq (
  .reg [
    I 6 (.mov (.c (.pointer none)))] [6]) (
  .ret)) (
  .skip))) (
 .seq (
 .reg [
   I 15 (.mov (.t 0)),
   I 16 (.mov (.t 1)),
   I 17 (.mov (.t 2)),
   I 18 (.mov (.t 0)),
   I 19 (.call 106 [(.t 18)]),
   I 20 (.build #[.pointer none, .pointer none, .nilIface, .int .i64 0, .int .i64 0, .int .i64 0, .int .i64 0, .int .u64 0, .slice none 0 0, .int .i64 0, .int .i64 0, .int .i64 0, .int .i64 0, .int .i64 0, .int .i64 0, .int .i64 0, .int .i64 0, .slice none 0 0] [((0, 1), (.t 15)), ((1, 1), (.t 16)), ((2, 1), (.t 17)), ((3, 14), (.t 19))]),
   I 21 (.box (.t 20)),
   I 7 (.mov (.t 21))] [7]) (
 .seq (
 .seq (
 .reg [
   I 22 (.mov (.t 7)),
   I 23 (.nilChk (.t 22)),
   I 24 (.fieldAddr 3 (.t 23)),
   I 25 (.fieldAddr 0 (.t 24)),
   I 26 (.fieldAddr 5 (.t 25)),
   I 27 (.load none (.t 26)),
   I 28 (.len false (.t 27)),
   I 29 (.mov (.c (.int .i64 0)))] [7, 28, 29]) (
 .block 0 (
  .loop (
   .seq (
   .reg [
     I 30 (.bin .lss (.t 29) (.t 28))] [7, 28, 29, 30]) (
   .seq (
   .cond (.t 30) (
    .skip) (
    .exit 0)) (
   .seq (
   .block 1 (
    .seq (
    .reg [
      I 31 (.mov (.t 29)),
      I 8 (.mov (.t 31))] [7, 8, 28, 29]) (
    .regd [0, 1, 2, 3, 5, 6, 7, 9, 4, 8, 10, 11, 12, 13, 14, 15] [
      I 32 (.mov (.t 7)),
      I 33 (.mov (.t 7)),
      I 34 (.nilChk (.t 33)),
      I 35 (.fieldAddr 17 (.t 34)),
      I 37 (.mov (.t 7)),
      I 38 (.nilChk (.t 37)),
      I 39 (.fieldAddr 3 (.t 38)),
      I 41 (.mov (.t 8)),
      I 36 (.load none (.t 35)),
      I 40 (.load (some 14) (.t 39)),
      I 42 (.hold [(none, (.t 35))] (.call 112 [(.t 40), (.t 41)])),
      I 43 (.buildSlice 1 #[.slice none 0 0] 1 [(0, (.t 42))]),
      I 44 (.append 1 24 (.t 36) (.t 43)),
      I 45 (.nilChk (.t 32)),
      I 46 (.fieldAddr 17 (.t 45)),
      I0 (.store 1 (.t 46) (.t 44))] [7, 28, 29]))) (
   .reg [
     I 47 (.bin .add (.t 29) (.c (.int .i64 1))),
     I 29 (.mov (.t 47))] [7, 28, 29]))))))) (
 .seq (
 .reg [
   I 48 (.mov (.t 7)),
   I 6 (.mov (.t 48))] [6]) (
 .ret))))))⟩

/- sakia/wide.Of[uint32] -/
def c78 : AFn := ⟨1, [.tmp 2], (
 .seq (
 .reg [
   I 2 (.mov (.c (.int .u32 0)))] [0]) (
 .seq (
 .reg [
   I 3 (.mov (.t 0)),
   I 4 (.conv .u32 (.t 3)),
   I 2 (.mov (.t 4))] [2]) (
 .ret)))⟩

/- sakia/conf.Start -/
def c79 : AFn := ⟨1, [.tmp 2], (
 .seq (
 .reg [
   I 1 (.box (.t 0)),
   I 2 (.mov (.c (.int .u64 0)))] [1]) (
 .seq (
 .seq (
 .reg [
   I 3 (.load (some 6) (.t 1)),
   I 4 (.callQ 104 [(.t 3)]),
   I 5 (.bin .neq (.t 4) (.c (.int .i64 0)))] [1, 5]) (
 .cond (.t 5) (
  .seq (
  .reg [
    I 2 (.mov (.c (.int .u64 0)))] [2]) (
  .ret)) (
  .skip))) (
 .seq (
 .reg [
   I 6 (.fieldAddr 1 (.t 1)),
   I 7 (.load none (.t 6)),
   I 8 (.fieldAddr 4 (.t 1)),
   I 9 (.load none (.t 8)),
   I 10 (.callE 1 113 [(.t 7), (.t 9)]),
   I 2 (.mov (.t 10))] [2]) (
 .ret))))⟩

/- sakia/conf.Threads -/
def c80 : AFn := ⟨1, [.tmp 2], (
 .seq (
 .reg [
   I 1 (.box (.t 0)),
   I 2 (.mov (.c (.int .i64 0)))] [1]) (
 .seq (
 .seq (
 .reg [
   I 3 (.load (some 6) (.t 1)),
   I 4 (.callQ 104 [(.t 3)]),
   I 5 (.bin .neq (.t 4) (.c (.int .i64 0)))] [1, 5]) (
 .cond (.t 5) (
  .seq (
  .reg [
    I 2 (.mov (.c (.int .i64 0)))] [2]) (
  .ret)) (
  .skip))) (
 .seq (
 .reg [
   I 6 (.fieldAddr 3 (.t 1)),
   I 7 (.load none (.t 6)),
   I 8 (.fieldAddr 5 (.t 1)),
   I 9 (.load none (.t 8)),
   I 10 (.len false (.t 9)),
   I 11 (.bin .add (.t 7) (.t 10)),
   I 2 (.mov (.t 11))] [2]) (
 .ret))))⟩

/- sakia/guard.Producer[uint32] -/
def c81 : AFn := ⟨1, [.tmp 2], (
 .seq (
 .reg [
   I 2 (.mov (.c (.pointer none)))] [0]) (
 .seq (
 .seq (
 .reg [
   I 3 (.mov (.t 0)),
   I 4 (.callE 1 114 [(.t 3)]),
   I 5 (.un .not (.t 4))] [0, 5]) (
 .cond (.t 5) (
  .seq (
  .reg [
    I 2 (.mov (.c (.pointer none)))] [2]) (
  .ret)) (
  .skip))) (
 .seq (
 .reg [
   I 6 (.mov (.t 0)),
   I 7 (.build #[.int .i64 0, .bool false, .bool false, .int .u32 0, .int .i64 0, .int .u32 0, .int .u32 0] [((0, 1), (.t 6)), ((1, 1), (.c (.bool true)))]),
   I 8 (.box (.t 7)),
   I 2 (.mov (.t 8))] [2]) (
 .ret))))⟩

/- sakia/guard.Consumer[uint32] -/
def c82 : AFn := ⟨2, [.tmp 4], (
 .seq (
 .reg [
   I 4 (.mov (.c (.pointer none)))] [0, 1]) (
 .seq (
 .seq (
 .reg [
   I 5 (.mov (.t 0)),
   I 6 (.callE 1 114 [(.t 5)]),
   I 7 (.un .not (.t 6))] [0, 1, 7]) (
 .cond (.t 7) (
  .seq (
  .reg [
    I 4 (.mov (.c (.pointer none)))] [4]) (
  .ret)) (
  .skip))) (
 .seq (
 .reg [
   I 8 (.mov (.t 0)),
   I 9 (.mov (.t 1)),
   I 10 (.mov (.t 1)),
   I 11 (.build #[.int .i64 0, .bool false, .bool false, .int .u32 0, .int .i64 0, .int .u32 0, .int .u32 0] [((0, 1), (.t 8)), ((5, 1), (.t 9)), ((6, 1), (.t 10))]),
   I 12 (.box (.t 11)),
   I 4 (.mov (.t 12))] [4]) (
 .ret))))⟩

/- (*sakia/engine.Engine[uint32]).at -/
def c83 : AFn := ⟨2, [.tmp 4], (
 .seq (
 .reg [
   I 4 (.mov (.c (.pointer none)))] [0, 1]) (
 .seq (
 .seq (
 .reg [
   I 5 (.mov (.t 0)),
   I 6 (.isNil .ptr false (.t 5)),
   I 7 (.mov (.t 6)),
   IG (some 8) (7, false) (.mov (.t 1)),
   IG (some 9) (7, false) (.bin .lss (.t 8) (.c (.int .i64 0))),
   I 10 (.pick (.t 7) (.c (.bool true)) (.t 9)),
   I 11 (.mov (.t 10)),
   IG (some 12) (11, false) (.mov (.t 1)),
   IG (some 13) (11, false) (.mov (.t 0)),
   IG (some 14) (11, false) (.nilChk (.t 13)),
   IG (some 15) (11, false) (.fieldAddr 10 (.t 14)),
   IG (some 16) (11, false) (.load none (.t 15)),
   IG (some 17) (11, false) (.len false (.t 16)),
   IG (some 18) (11, false) (.bin .geq (.t 12) (.t 17)),
   I 19 (.pick (.t 11) (.c (.bool true)) (.t 18))] [0, 1, 19]) (
 .cond (.t 19) (
  .seq (
  .reg [
    I 4 (.mov (.c (.pointer none)))] [4]) (
  .ret)) (
  .skip))) (
 .seq (
 .reg [
   I 20 (.mov (.t 0)),
   I 21 (.nilChk (.t 20)),
   I 22 (.fieldAddr 10 (.t 21)),
   I 23 (.load none (.t 22)),
   I 24 (.mov (.t 1)),
   I 25 (.indexAddr none 1 (.t 23) (.t 24)),
   I 26 (.load none (.t 25)),
   I 4 (.mov (.t 26))] [4]) (
 .ret))))⟩

/- (*sakia/guard.Handle[uint32]).May -/
def c84 : AFn := ⟨2, [.tmp 4], (
 .seq (
 .reg [
   I 3 (.box (.t 1)),
   I 4 (.mov (.c (.int .i64 0)))] [0, 3]) (
 .seq (
 .seq (
 .reg [
   I 7 (.mov (.t 0)),
   I 8 (.isNil .ptr false (.t 7))] [0, 3, 8]) (
 .cond (.t 8) (
  .seq (
  .reg [
    I 4 (.mov (.c (.int .i64 22)))] [4]) (
  .ret)) (
  .skip))) (
 .seq (
 .reg [
   I 9 (.fieldAddr 0 (.t 3)),
   I 10 (.load none (.t 9)),
   I 11 (.bin .eql (.t 10) (.c (.int .i64 1))),
   I 12 (.mov (.t 11)),
   IG (some 13) (12, false) (.fieldAddr 0 (.t 3)),
   IG (some 14) (12, false) (.load none (.t 13)),
   IG (some 15) (12, false) (.bin .eql (.t 14) (.c (.int .i64 2))),
   I 16 (.pick (.t 12) (.c (.bool true)) (.t 15)),
   I 17 (.mov (.t 16)),
   IG (some 18) (17, false) (.fieldAddr 0 (.t 3)),
   IG (some 19) (17, false) (.load none (.t 18)),
   IG (some 20) (17, false) (.bin .eql (.t 19) (.c (.int .i64 5))),
   I 21 (.pick (.t 17) (.c (.bool true)) (.t 20)),
   I 5 (.mov (.t 21))] [0, 3, 5]) (
 .seq (
 .seq (
 .reg [
   I 22 (.mov (.t 5)),
   I 23 (.mov (.t 0)),
   I 24 (.nilChk (.t 23)),
   I 25 (.fieldAddr 1 (.t 24)),
   I 26 (.load none (.t 25)),
   I 27 (.eqB true (.t 22) (.t 26))] [0, 3, 27]) (
 .cond (.t 27) (
  .seq (
  .reg [
    I 4 (.mov (.c (.int .i64 12)))] [4]) (
  .ret)) (
  .skip))) (
 .seq (
 .reg [
   I 28 (.fieldAddr 1 (.t 3)),
   I 29 (.load none (.t 28)),
   I 6 (.mov (.t 29))] [0, 3, 6]) (
 .seq (
 .seq (
 .reg [
   I 30 (.fieldAddr 0 (.t 3)),
   I 31 (.load none (.t 30))] [0, 3, 6, 31]) (
 .block 0 (
  .seq (
  .block 7 (
   .seq (
   .block 6 (
    .seq (
    .block 5 (
     .seq (
     .block 4 (
      .seq (
      .block 3 (
       .seq (
       .block 2 (
        .seq (
        .block 1 (
         .seq (
         .seq (
         .seq (
         .reg [
           I 33 (.bin .eql (.t 31) (.c (.int .i64 5))),
           I 32 (.mov (.t 33))] [0, 3, 6, 31, 32]) (
         .cond (.t 32) (
          .exit 1) (
          .skip))) (
         .seq (
         .seq (
         .reg [
           I 35 (.bin .eql (.t 31) (.c (.int .i64 1))),
           I 34 (.mov (.t 35))] [0, 6, 31, 34]) (
         .cond (.t 34) (
          .exit 2) (
          .skip))) (
         .seq (
         .seq (
         .reg [
           I 37 (.bin .eql (.t 31) (.c (.int .i64 2))),
           I 36 (.mov (.t 37))] [0, 6, 31, 36]) (
         .cond (.t 36) (
          .exit 3) (
          .skip))) (
         .seq (
         .seq (
         .reg [
           I 39 (.bin .eql (.t 31) (.c (.int .i64 4))),
           I 38 (.mov (.t 39))] [0, 6, 31, 38]) (
         .cond (.t 38) (
          .exit 4) (
          .skip))) (
         .seq (
         .seq (
         .reg [
           I 41 (.bin .eql (.t 31) (.c (.int .i64 6))),
           I 40 (.mov (.t 41))] [0, 6, 31, 40]) (
         .cond (.t 40) (
          .exit 5) (
          .skip))) (
         .seq (
         .reg [
           I 43 (.bin .eql (.t 31) (.c (.int .i64 3))),
           I 42 (.mov (.t 43))] [42]) (
         .cond (.t 42) (
          .exit 6) (
          .skip)))))))) (
         .exit 7))) (
        .reg [
          I 44 (.fieldAddr 2 (.t 3)),
          I 45 (.load none (.t 44)),
          I 46 (.len false (.t 45)),
          I 6 (.mov (.t 46))] [0, 6]))) (
       .seq (
       .seq (
       .reg [
         I 47 (.mov (.t 0)),
         I 48 (.mov (.t 6)),
         I 49 (.callQ 115 [(.t 47), (.t 48)]),
         I 4 (.mov (.t 49))] [4]) (
       .ret)) (
       .exit 0)))) (
      .seq (
      .seq (
      .reg [
        I 50 (.mov (.t 0)),
        I 51 (.nilChk (.t 50)),
        I 52 (.fieldAddr 2 (.t 51)),
        I 53 (.load none (.t 52)),
        I 54 (.un .not (.t 53))] [54]) (
      .cond (.t 54) (
       .seq (
       .reg [
         I 4 (.mov (.c (.int .i64 14)))] [4]) (
       .ret)) (
       .skip))) (
      .exit 0)))) (
     .seq (
     .seq (
     .reg [
       I 55 (.mov (.t 6)),
       I 56 (.bin .lss (.t 55) (.c (.int .i64 1))),
       I 57 (.mov (.t 56)),
       IG (some 58) (57, false) (.mov (.t 6)),
       IG (some 59) (57, false) (.mov (.t 0)),
       IG (some 60) (57, false) (.callQ 116 [(.t 59)]),
       IG (some 61) (57, false) (.bin .gtr (.t 58) (.t 60)),
       I 62 (.pick (.t 57) (.c (.bool true)) (.t 61))] [62]) (
     .cond (.t 62) (
      .seq (
      .reg [
        I 4 (.mov (.c (.int .i64 13)))] [4]) (
      .ret)) (
      .skip))) (
     .exit 0)))) (
    .seq (
    .seq (
    .reg [
      I 63 (.mov (.t 0)),
      I 64 (.mov (.t 6)),
      I 65 (.callQ 117 [(.t 63), (.t 64)]),
      I 4 (.mov (.t 65))] [4]) (
    .ret)) (
    .exit 0)))) (
   .exit 0))) (
  .seq (
  .seq (
  .reg [
    I 4 (.mov (.c (.int .i64 12)))] [4]) (
  .ret)) (
  .exit 0))))) (
 .seq (
 .reg [
   I 4 (.mov (.c (.int .i64 0)))] [4]) (
 .ret))))))))⟩

/- sakia/engine.frame[uint32] -/
def c85 : AFn := ⟨2, [.cell 4 (some 11)], (
 .seq (
 .reg [
   I 3 (.box (.t 1)),
   I 4 (.alloc [.int .i64 0, .int .i64 0, .int .i64 0, .int .i64 0, .int .i64 0, .int .i64 0, .int .u32 0, .int .u32 0, .int .u32 0, .int .u32 0, .slice none 0 0])] [0, 3, 4]) (
 .seq (
 .reg [
   I 8 (.fieldAddr 0 (.t 3)),
   I 9 (.load none (.t 8)),
   I 10 (.fieldAddr 1 (.t 3)),
   I 11 (.load none (.t 10)),
   I 12 (.fieldAddr 2 (.t 3)),
   I 13 (.load none (.t 12)),
   I 14 (.build #[.int .i64 0, .int .i64 0, .int .i64 0, .int .i64 0, .int .i64 0, .int .i64 0, .int .u32 0, .int .u32 0, .int .u32 0, .int .u32 0, .slice none 0 0] [((0, 1), (.t 9)), ((1, 1), (.t 11)), ((10, 1), (.t 13))]),
   I 5 (.alloc [.int .i64 0, .int .i64 0, .int .i64 0, .int .i64 0, .int .i64 0, .int .i64 0, .int .u32 0, .int .u32 0, .int .u32 0, .int .u32 0, .slice none 0 0]),
   I0 (.store 11 (.t 5) (.t 14))] [0, 3, 4, 5]) (
 .seq (
 .seq (
 .reg [
   I 15 (.fieldAddr 0 (.t 3)),
   I 16 (.load none (.t 15))] [0, 3, 4, 5, 16]) (
 .block 0 (
  .seq (
  .reg [
    I 18 (.bin .eql (.t 16) (.c (.int .i64 2))),
    I 17 (.mov (.t 18))] [0, 3, 4, 5, 16, 17]) (
  .cond (.t 17) (
   .seq (
   .reg [
     I 20 (.mov (.t 0)),
     I 21 (.call 118 [(.t 20)]),
     I 19 (.mov (.t 21)),
     I 22 (.extract (.t 19) 0),
     I 23 (.extract (.t 19) 1),
     I 6 (.alloc [.int .u32 0, .int .i64 0]),
     I0 (.store 2 (.t 6) (.t 22)),
     I 7 (.mov (.t 23))] [4, 5, 6]) (
   .regd [0, 2, 1, 4, 3, 5, 6, 7] [
     I 24 (.fieldAddr 0 (.t 6)),
     I 26 (.fieldAddr 1 (.t 6)),
     I 25 (.load none (.t 24)),
     I 28 (.fieldAddr 6 (.t 5)),
     I 27 (.load none (.t 26)),
     I0 (.hold [(none, (.t 26))] (.store 1 (.t 28) (.t 25))),
     I 29 (.fieldAddr 1 (.t 5)),
     I0 (.store 1 (.t 29) (.t 27))] [4, 5])) (
   .seq (
   .reg [
     I 31 (.bin .eql (.t 16) (.c (.int .i64 5))),
     I 30 (.mov (.t 31))] [0, 3, 4, 5, 16, 30]) (
   .cond (.t 30) (
    .reg [
      I 32 (.fieldAddr 2 (.t 3)),
      I 33 (.load none (.t 32)),
      I 34 (.len false (.t 33)),
      I 35 (.fieldAddr 1 (.t 5)),
      I0 (.store 1 (.t 35) (.t 34))] [4, 5]) (
    .seq (
    .seq (
    .reg [
      I 37 (.bin .eql (.t 16) (.c (.int .i64 3))),
      I 36 (.mov (.t 37))] [0, 4, 5, 16, 36]) (
    .cond (.t 36) (
     .skip) (
     .reg [
       I 38 (.bin .eql (.t 16) (.c (.int .i64 6))),
       I 36 (.mov (.t 38))] [0, 4, 5, 16, 36]))) (
    .cond (.t 36) (
     .reg [
       I 39 (.mov (.t 0)),
       I 40 (.callQ 119 [(.t 39)]),
       I 41 (.fieldAddr 8 (.t 5)),
       I0 (.store 1 (.t 41) (.t 40)),
       I 42 (.fieldAddr 10 (.t 5)),
       I0 (.store 1 (.t 42) (.c (.slice none 0 0)))] [4, 5]) (
     .seq (
     .reg [
       I 44 (.bin .eql (.t 16) (.c (.int .i64 4))),
       I 43 (.mov (.t 44))] [0, 4, 5, 43]) (
     .cond (.t 43) (
      .reg [
        I 45 (.mov (.t 0)),
        I 46 (.callQ 120 [(.t 45)]),
        I 47 (.fieldAddr 6 (.t 5)),
        I0 (.store 1 (.t 47) (.t 46))] [4, 5]) (
      .skip))))))))))) (
 .seq (
 .reg [
   I 48 (.load (some 11) (.t 5)),
   I0 (.store 11 (.t 4) (.t 48))] [4]) (
 .ret)))))⟩

/- (*sakia/engine.Engine[uint32]).claims -/
def c86 : AFn := ⟨3, [.tmp 6], (
 .seq (
 .reg [
   I 6 (.mov (.c (.bool false)))] [0, 1, 2]) (
 .scope (
 .seq (
 .reg [
   I 8 (.mov (.t 2)),
   I 9 (.nilChk (.t 8)),
   I 10 (.fieldAddr 5 (.t 9)),
   I 7 (.mov (.t 10))] [0, 1, 2, 7]) (
 .seq (
 .block 0 (
  .seq (
  .reg [
    I 12 (.mov (.t 7)),
    I 13 (.nilChk (.t 12)),
    I 14 (.fieldAddr 2 (.t 13)),
    I 15 (.load none (.t 14)),
    I 16 (.bin .eql (.t 15) (.c (.int .i64 1))),
    I 11 (.mov (.t 16))] [0, 1, 2, 7, 11]) (
  .cond (.t 11) (
   .goto 0) (
   .seq (
   .seq (
   .reg [
     I 18 (.mov (.t 7)),
     I 19 (.nilChk (.t 18)),
     I 20 (.fieldAddr 2 (.t 19)),
     I 21 (.load none (.t 20)),
     I 22 (.bin .eql (.t 21) (.c (.int .i64 2))),
     I 17 (.mov (.t 22))] [0, 1, 2, 7, 17]) (
   .cond (.t 17) (
    .skip) (
    .reg [
      I 23 (.mov (.t 2)),
      I 24 (.nilChk (.t 23)),
      I 25 (.fieldAddr 2 (.t 24)),
      I 26 (.fieldAddr 0 (.t 25)),
      I 27 (.load none (.t 26)),
      I 28 (.bin .eql (.t 27) (.c (.int .i64 2))),
      I 17 (.mov (.t 28))] [0, 1, 2, 7, 17]))) (
   .cond (.t 17) (
    .goto 1) (
    .skip)))))) (
 .seq (
 .seq (
 .reg [
   I 29 (.mov (.t 0)),
   I 30 (.nilChk (.t 29)),
   I 31 (.fieldAddr 8 (.t 30)),
   I 32 (.load none (.t 31)),
   I 33 (.mov (.t 1)),
   I 34 (.mov (.t 7)),
   I 35 (.invoke "Claim" (.t 32) [(.t 33), (.t 34)]),
   I 36 (.un .not (.t 35))] [0, 1, 2, 7, 36]) (
 .cond (.t 36) (
  .seq (
  .reg [
    I 6 (.mov (.c (.bool true)))] [6]) (
  .ret)) (
  .skip))) (
 .seq (
 .seq (
 .reg [
   I 37 (.mov (.t 2)),
   I 38 (.nilChk (.t 37)),
   I 39 (.fieldAddr 2 (.t 38)),
   I 40 (.fieldAddr 0 (.t 39)),
   I 41 (.load none (.t 40)),
   I 42 (.bin .eql (.t 41) (.c (.int .i64 1)))] [0, 1, 2, 7, 42]) (
 .cond (.t 42) (
  .seq (
  .regd [0, 1, 2, 4, 5, 6, 8, 9, 10, 3, 7, 11, 12, 13] [
    I 43 (.mov (.t 2)),
    I 44 (.nilChk (.t 43)),
    I 45 (.fieldAddr 0 (.t 44)),
    I 47 (.mov (.t 7)),
    I 48 (.nilChk (.t 47)),
    I 49 (.fieldAddr 6 (.t 48)),
    I 51 (.mov (.t 7)),
    I 52 (.nilChk (.t 51)),
    I 53 (.fieldAddr 1 (.t 52)),
    I 46 (.load none (.t 45)),
    I 50 (.load none (.t 49)),
    I 54 (.load none (.t 53)),
    I 55 (.build #[.int .u32 0, .int .i64 0] [((0, 1), (.t 50)), ((1, 1), (.t 54))]),
    I 56 (.call 121 [(.t 46), (.t 55)])] [0, 1, 7]) (
  .seq (
  .regd [0, 1, 2, 3, 4, 7, 8, 9, 5, 6, 10, 11, 12, 13] [
    I 57 (.mov (.t 0)),
    I 58 (.mov (.t 1)),
    I 59 (.mov (.t 7)),
    I 60 (.nilChk (.t 59)),
    I 61 (.fieldAddr 6 (.t 60)),
    I 64 (.mov (.t 7)),
    I 65 (.nilChk (.t 64)),
    I 66 (.fieldAddr 1 (.t 65)),
    I 62 (.load none (.t 61)),
    I 63 (.callE 1 123 [(.t 62)]),
    I 67 (.load none (.t 66)),
    I 68 (.build #[.int .i64 0, .int .i64 0, .int .i64 0, .int .i64 0, .int .u64 0, .int .i64 0, .slice none 0 0] [((4, 1), (.t 63)), ((3, 1), (.t 67))]),
    I 69 (.call 122 [(.t 57), (.t 58), (.t 68)]),
    I 6 (.mov (.t 69))] [6]) (
  .ret))) (
  .skip))) (
 .seq (
 .reg [
   I 70 (.mov (.t 7)),
   I 71 (.mov (.t 7)),
   I 72 (.mov (.t 7)),
   I 73 (.nilChk (.t 70)),
   I 74 (.fieldAddr 2 (.t 73)),
   I0 (.store 1 (.t 74) (.c (.int .i64 1))),
   I 75 (.nilChk (.t 71)),
   I 76 (.fieldAddr 4 (.t 75)),
   I0 (.store 1 (.t 76) (.c (.int .i64 0))),
   I 77 (.nilChk (.t 72)),
   I 78 (.fieldAddr 3 (.t 77)),
   I0 (.store 1 (.t 78) (.c (.int .i64 0)))] []) (
 .seq (
 .seq (
 .reg [
   I 6 (.mov (.c (.bool true)))] [6]) (
 .ret)) (
 .seq (
 .label 0) (
 .seq (
 .regd [0, 1, 2, 4, 5, 6, 8, 9, 10, 12, 13, 14, 3, 7, 11, 15, 16, 17, 18] [
   I 79 (.mov (.t 0)),
   I 80 (.nilChk (.t 79)),
   I 81 (.fieldAddr 6 (.t 80)),
   I 83 (.mov (.t 1)),
   I 84 (.mov (.t 0)),
   I 85 (.mov (.t 7)),
   I 87 (.mov (.t 7)),
   I 88 (.nilChk (.t 87)),
   I 89 (.fieldAddr 10 (.t 88)),
   I 91 (.mov (.t 7)),
   I 92 (.nilChk (.t 91)),
   I 93 (.fieldAddr 4 (.t 92)),
   I 82 (.load none (.t 81)),
   I 86 (.callQ 125 [(.t 84), (.t 85)]),
   I 90 (.load none (.t 89)),
   I 94 (.load none (.t 93)),
   I 95 (.indexAddr none 1 (.t 90) (.t 94)),
   I 96 (.load none (.t 95)),
   I 97 (.call 124 [(.t 82), (.t 83), (.t 86), (.t 96)])] [7]) (
 .seq (
 .reg [
   I 98 (.mov (.t 7)),
   I 99 (.nilChk (.t 98)),
   I 100 (.fieldAddr 4 (.t 99)),
   I 101 (.load none (.t 100)),
   I 102 (.bin .add (.t 101) (.c (.int .i64 1))),
   I 103 (.nilChk (.t 98)),
   I 104 (.fieldAddr 4 (.t 103)),
   I0 (.store 1 (.t 104) (.t 102))] [7]) (
 .seq (
 .seq (
 .regd [0, 1, 2, 4, 5, 6, 3, 7, 8] [
   I 105 (.mov (.t 7)),
   I 106 (.nilChk (.t 105)),
   I 107 (.fieldAddr 4 (.t 106)),
   I 109 (.mov (.t 7)),
   I 110 (.nilChk (.t 109)),
   I 111 (.fieldAddr 1 (.t 110)),
   I 108 (.load none (.t 107)),
   I 112 (.load none (.t 111)),
   I 113 (.bin .eql (.t 108) (.t 112))] [7, 113]) (
 .cond (.t 113) (
  .reg [
    I 114 (.mov (.t 7)),
    I 115 (.mov (.t 7)),
    I 116 (.nilChk (.t 114)),
    I 117 (.fieldAddr 2 (.t 116)),
    I0 (.store 1 (.t 117) (.c (.int .i64 2))),
    I 118 (.nilChk (.t 115)),
    I 119 (.fieldAddr 4 (.t 118)),
    I0 (.store 1 (.t 119) (.c (.int .i64 0)))] []) (
  .skip))) (
 .seq (
 .seq (
 .reg [
   I 6 (.mov (.c (.bool true)))] [6]) (
 .ret)) (
 .seq (
 .label 1) (
 .seq (
 .seq (
 .reg [
   I 120 (.mov (.t 0)),
   I 121 (.mov (.t 1)),
   I 122 (.mov (.t 7)),
   I 123 (.call 126 [(.t 120), (.t 121), (.t 122)]),
   I 124 (.un .not (.t 123))] [0, 1, 2, 124]) (
 .cond (.t 124) (
  .seq (
  .reg [
    I 6 (.mov (.c (.bool true)))] [6]) (
  .ret)) (
  .skip))) (
 .seq (
 .reg [
   I 125 (.mov (.t 2)),
   I 126 (.nilChk (.t 125)),
   I 127 (.fieldAddr 0 (.t 126)),
   I 128 (.load none (.t 127)),
   I 129 (.call 127 [(.t 128)])] [0, 1]) (
 .seq (
 .reg [
   I 130 (.mov (.t 0)),
   I 131 (.mov (.t 1)),
   I 132 (.build #[.int .i64 0, .int .i64 0, .int .i64 0, .int .i64 0, .int .u64 0, .int .i64 0, .slice none 0 0] []),
   I 133 (.call 122 [(.t 130), (.t 131), (.t 132)]),
   I 6 (.mov (.t 133))] [6]) (
 .ret))))))))))))))))))⟩

/- (*sakia/engine.Engine[uint32]).reads -/
def c87 : AFn := ⟨3, [.tmp 6], (
 .seq (
 .reg [
   I 6 (.mov (.c (.bool false)))] [0, 1, 2]) (
 .scope (
 .seq (
 .reg [
   I 9 (.mov (.t 2)),
   I 10 (.nilChk (.t 9)),
   I 11 (.fieldAddr 5 (.t 10)),
   I 7 (.mov (.t 11))] [0, 1, 2, 7]) (
 .seq (
 .reg [
   I 12 (.mov (.t 1)),
   I 13 (.mov (.t 0)),
   I 14 (.nilChk (.t 13)),
   I 15 (.fieldAddr 0 (.t 14)),
   I 16 (.fieldAddr 3 (.t 15)),
   I 17 (.load none (.t 16)),
   I 18 (.bin .sub (.t 12) (.t 17)),
   I 8 (.mov (.t 18))] [0, 1, 2, 7, 8]) (
 .seq (
 .block 0 (
  .seq (
  .reg [
    I 20 (.mov (.t 7)),
    I 21 (.nilChk (.t 20)),
    I 22 (.fieldAddr 2 (.t 21)),
    I 23 (.load none (.t 22)),
    I 24 (.bin .eql (.t 23) (.c (.int .i64 1))),
    I 19 (.mov (.t 24))] [0, 1, 2, 7, 8, 19]) (
  .cond (.t 19) (
   .goto 0) (
   .seq (
   .seq (
   .reg [
     I 26 (.mov (.t 7)),
     I 27 (.nilChk (.t 26)),
     I 28 (.fieldAddr 2 (.t 27)),
     I 29 (.load none (.t 28)),
     I 30 (.bin .eql (.t 29) (.c (.int .i64 2))),
     I 25 (.mov (.t 30))] [0, 1, 2, 7, 8, 25]) (
   .cond (.t 25) (
    .skip) (
    .reg [
      I 31 (.mov (.t 2)),
      I 32 (.nilChk (.t 31)),
      I 33 (.fieldAddr 2 (.t 32)),
      I 34 (.fieldAddr 0 (.t 33)),
      I 35 (.load none (.t 34)),
      I 36 (.bin .eql (.t 35) (.c (.int .i64 4))),
      I 25 (.mov (.t 36))] [0, 1, 2, 7, 8, 25]))) (
   .cond (.t 25) (
    .goto 1) (
    .skip)))))) (
 .seq (
 .seq (
 .reg [
   I 37 (.mov (.t 0)),
   I 38 (.nilChk (.t 37)),
   I 39 (.fieldAddr 9 (.t 38)),
   I 40 (.load none (.t 39)),
   I 41 (.mov (.t 8)),
   I 42 (.mov (.t 7)),
   I 43 (.call 128 [(.t 40), (.t 41), (.t 42)]),
   I 44 (.un .not (.t 43))] [0, 1, 2, 7, 44]) (
 .cond (.t 44) (
  .seq (
  .reg [
    I 6 (.mov (.c (.bool true)))] [6]) (
  .ret)) (
  .skip))) (
 .seq (
 .regd [0, 1, 2, 4, 5, 6, 3, 7, 8] [
   I 45 (.mov (.t 2)),
   I 46 (.nilChk (.t 45)),
   I 47 (.fieldAddr 0 (.t 46)),
   I 49 (.mov (.t 7)),
   I 50 (.nilChk (.t 49)),
   I 51 (.fieldAddr 8 (.t 50)),
   I 48 (.load none (.t 47)),
   I 52 (.load none (.t 51)),
   I 53 (.call 129 [(.t 48), (.t 52)])] [0, 1, 2, 7]) (
 .seq (
 .seq (
 .reg [
   I 54 (.mov (.t 2)),
   I 55 (.nilChk (.t 54)),
   I 56 (.fieldAddr 2 (.t 55)),
   I 57 (.fieldAddr 0 (.t 56)),
   I 58 (.load none (.t 57)),
   I 59 (.bin .eql (.t 58) (.c (.int .i64 3)))] [0, 1, 2, 7, 59]) (
 .cond (.t 59) (
  .seq (
  .reg [
    I 60 (.mov (.t 0)),
    I 61 (.mov (.t 1)),
    I 62 (.mov (.t 2)),
    I 63 (.nilChk (.t 62)),
    I 64 (.fieldAddr 0 (.t 63)),
    I 65 (.load none (.t 64)),
    I 66 (.callQ 116 [(.t 65)]),
    I 67 (.build #[.int .i64 0, .int .i64 0, .int .i64 0, .int .i64 0, .int .u64 0, .int .i64 0, .slice none 0 0] [((3, 1), (.t 66))]),
    I 68 (.call 122 [(.t 60), (.t 61), (.t 67)]),
    I 6 (.mov (.t 68))] [6]) (
  .ret)) (
  .skip))) (
 .seq (
 .regd [0, 1, 2, 3, 5, 6, 7, 4, 8, 9, 10, 11, 12, 13] [
   I 69 (.mov (.t 7)),
   I 70 (.mov (.t 7)),
   I 71 (.nilChk (.t 70)),
   I 72 (.fieldAddr 1 (.t 71)),
   I 74 (.mov (.t 2)),
   I 75 (.nilChk (.t 74)),
   I 76 (.fieldAddr 0 (.t 75)),
   I 73 (.load none (.t 72)),
   I 77 (.load none (.t 76)),
   I 78 (.callQ 116 [(.t 77)]),
   I 79 (.minmax false (.t 73) (.t 78)),
   I 80 (.nilChk (.t 69)),
   I 81 (.fieldAddr 1 (.t 80)),
   I0 (.store 1 (.t 81) (.t 79))] [0, 1, 2, 7]) (
 .seq (
 .seq (
 .reg [
   I 82 (.mov (.t 7)),
   I 83 (.nilChk (.t 82)),
   I 84 (.fieldAddr 1 (.t 83)),
   I 85 (.load none (.t 84)),
   I 86 (.bin .eql (.t 85) (.c (.int .i64 0)))] [0, 1, 2, 7, 86]) (
 .cond (.t 86) (
  .seq (
  .reg [
    I 87 (.mov (.t 0)),
    I 88 (.mov (.t 1)),
    I 89 (.build #[.int .i64 0, .int .i64 0, .int .i64 0, .int .i64 0, .int .u64 0, .int .i64 0, .slice none 0 0] []),
    I 90 (.call 122 [(.t 87), (.t 88), (.t 89)]),
    I 6 (.mov (.t 90))] [6]) (
  .ret)) (
  .skip))) (
 .seq (
 .reg [
   I 91 (.mov (.t 7)),
   I 92 (.mov (.t 7)),
   I 93 (.mov (.t 7)),
   I 94 (.mov (.t 7)),
   I 95 (.mov (.t 2)),
   I 96 (.nilChk (.t 95)),
   I 97 (.fieldAddr 0 (.t 96)),
   I 98 (.load none (.t 97)),
   I 99 (.callQ 120 [(.t 98)]),
   I 100 (.nilChk (.t 91)),
   I 101 (.fieldAddr 2 (.t 100)),
   I0 (.store 1 (.t 101) (.c (.int .i64 1))),
   I 102 (.nilChk (.t 92)),
   I 103 (.fieldAddr 4 (.t 102)),
   I0 (.store 1 (.t 103) (.c (.int .i64 0))),
   I 104 (.nilChk (.t 93)),
   I 105 (.fieldAddr 3 (.t 104)),
   I0 (.store 1 (.t 105) (.c (.int .i64 0))),
   I 106 (.nilChk (.t 94)),
   I 107 (.fieldAddr 6 (.t 106)),
   I0 (.store 1 (.t 107) (.t 99))] []) (
 .seq (
 .seq (
 .reg [
   I 6 (.mov (.c (.bool true)))] [6]) (
 .ret)) (
 .seq (
 .label 0) (
 .seq (
 .regd [0, 1, 2, 3, 5, 6, 7, 9, 10, 11, 4, 8, 12, 13, 14, 15, 16, 17, 18] [
   I 108 (.mov (.t 7)),
   I 109 (.mov (.t 7)),
   I 110 (.nilChk (.t 109)),
   I 111 (.fieldAddr 10 (.t 110)),
   I 113 (.mov (.t 0)),
   I 114 (.nilChk (.t 113)),
   I 115 (.fieldAddr 6 (.t 114)),
   I 117 (.mov (.t 1)),
   I 118 (.mov (.t 0)),
   I 119 (.mov (.t 7)),
   I 112 (.load none (.t 111)),
   I 116 (.load none (.t 115)),
   I 120 (.callQ 125 [(.t 118), (.t 119)]),
   I 121 (.hold [(none, (.t 111))] (.call 130 [(.t 116), (.t 117), (.t 120)])),
   I 122 (.buildSlice 1 #[.int .i64 0] 1 [(0, (.t 121))]),
   I 123 (.append 1 8 (.t 112) (.t 122)),
   I 124 (.nilChk (.t 108)),
   I 125 (.fieldAddr 10 (.t 124)),
   I0 (.store 1 (.t 125) (.t 123))] [7]) (
 .seq (
 .reg [
   I 126 (.mov (.t 7)),
   I 127 (.nilChk (.t 126)),
   I 128 (.fieldAddr 4 (.t 127)),
   I 129 (.load none (.t 128)),
   I 130 (.bin .add (.t 129) (.c (.int .i64 1))),
   I 131 (.nilChk (.t 126)),
   I 132 (.fieldAddr 4 (.t 131)),
   I0 (.store 1 (.t 132) (.t 130))] [7]) (
 .seq (
 .seq (
 .regd [0, 1, 2, 4, 5, 6, 3, 7, 8] [
   I 133 (.mov (.t 7)),
   I 134 (.nilChk (.t 133)),
   I 135 (.fieldAddr 4 (.t 134)),
   I 137 (.mov (.t 7)),
   I 138 (.nilChk (.t 137)),
   I 139 (.fieldAddr 1 (.t 138)),
   I 136 (.load none (.t 135)),
   I 140 (.load none (.t 139)),
   I 141 (.bin .eql (.t 136) (.t 140))] [7, 141]) (
 .cond (.t 141) (
  .reg [
    I 142 (.mov (.t 7)),
    I 143 (.mov (.t 7)),
    I 144 (.nilChk (.t 142)),
    I 145 (.fieldAddr 2 (.t 144)),
    I0 (.store 1 (.t 145) (.c (.int .i64 2))),
    I 146 (.nilChk (.t 143)),
    I 147 (.fieldAddr 4 (.t 146)),
    I0 (.store 1 (.t 147) (.c (.int .i64 0)))] []) (
  .skip))) (
 .seq (
 .seq (
 .reg [
   I 6 (.mov (.c (.bool true)))] [6]) (
 .ret)) (
 .seq (
 .label 1) (
 .seq (
 .reg [
   I 148 (.mov (.t 0)),
   I 149 (.nilChk (.t 148)),
   I 150 (.fieldAddr 9 (.t 149)),
   I 151 (.load none (.t 150)),
   I 152 (.mov (.t 8)),
   I 153 (.mov (.t 7)),
   I 154 (.call 131 [(.t 151), (.t 152), (.t 153)])] [0, 1, 2, 7]) (
 .seq (
 .regd [0, 1, 2, 4, 5, 6, 3, 7, 8] [
   I 155 (.mov (.t 2)),
   I 156 (.nilChk (.t 155)),
   I 157 (.fieldAddr 0 (.t 156)),
   I 159 (.mov (.t 7)),
   I 160 (.nilChk (.t 159)),
   I 161 (.fieldAddr 1 (.t 160)),
   I 158 (.load none (.t 157)),
   I 162 (.load none (.t 161)),
   I 163 (.call 132 [(.t 158), (.t 162)])] [0, 1, 2, 7]) (
 .seq (
 .seq (
 .reg [
   I 164 (.mov (.t 2)),
   I 165 (.nilChk (.t 164)),
   I 166 (.fieldAddr 2 (.t 165)),
   I 167 (.fieldAddr 0 (.t 166)),
   I 168 (.load none (.t 167)),
   I 169 (.bin .eql (.t 168) (.c (.int .i64 4)))] [0, 1, 7, 169]) (
 .cond (.t 169) (
  .seq (
  .reg [
    I 170 (.mov (.t 0)),
    I 171 (.mov (.t 1)),
    I 172 (.build #[.int .i64 0, .int .i64 0, .int .i64 0, .int .i64 0, .int .u64 0, .int .i64 0, .slice none 0 0] []),
    I 173 (.call 122 [(.t 170), (.t 171), (.t 172)]),
    I 6 (.mov (.t 173))] [6]) (
  .ret)) (
  .skip))) (
 .seq (
 .regd [0, 1, 2, 3, 4, 7, 8, 9, 11, 12, 13, 5, 6, 10, 14, 15, 16, 17] [
   I 174 (.mov (.t 0)),
   I 175 (.mov (.t 1)),
   I 176 (.mov (.t 7)),
   I 177 (.nilChk (.t 176)),
   I 178 (.fieldAddr 6 (.t 177)),
   I 181 (.mov (.t 7)),
   I 182 (.nilChk (.t 181)),
   I 183 (.fieldAddr 1 (.t 182)),
   I 185 (.mov (.t 7)),
   I 186 (.nilChk (.t 185)),
   I 187 (.fieldAddr 10 (.t 186)),
   I 179 (.load none (.t 178)),
   I 180 (.callE 1 123 [(.t 179)]),
   I 184 (.load none (.t 183)),
   I 188 (.load none (.t 187)),
   I 189 (.build #[.int .i64 0, .int .i64 0, .int .i64 0, .int .i64 0, .int .u64 0, .int .i64 0, .slice none 0 0] [((4, 1), (.t 180)), ((3, 1), (.t 184)), ((6, 1), (.t 188))]),
   I 190 (.call 122 [(.t 174), (.t 175), (.t 189)]),
   I 6 (.mov (.t 190))] [6]) (
 .ret)))))))))))))))))))))))⟩

/- sakia/fabric.made -/
def c88 : AFn := ⟨1, [.tmp 2], (
 .seq (
 .reg [
   I 1 (.box (.t 0)),
   I 2 (.mov (.c (.nilIface)))] [1]) (
 .seq (
 .seq (
 .reg [
   I 7 (.fieldAddr 1 (.t 1)),
   I 8 (.load none (.t 7)),
   I 9 (.bin .eql (.t 8) (.c (.int .i64 32)))] [1, 9]) (
 .cond (.t 9) (
  .seq (
  .reg [
    I 11 (.load (some 6) (.t 1)),
    I 12 (.call 42 [(.t 11)]),
    I 10 (.mov (.t 12)),
    I 13 (.extract (.t 10) 0),
    I 14 (.extract (.t 10) 1),
    I 3 (.mov (.t 13)),
    I 4 (.mov (.t 14))] [3]) (
  .seq (
  .reg [
    I 15 (.mov (.t 3)),
    I 16 (.mkIface 77 (.t 15)),
    I 2 (.mov (.t 16))] [2]) (
  .ret))) (
  .skip))) (
 .seq (
 .reg [
   I 18 (.load (some 6) (.t 1)),
   I 19 (.call 133 [(.t 18)]),
   I 17 (.mov (.t 19)),
   I 20 (.extract (.t 17) 0),
   I 21 (.extract (.t 17) 1),
   I 5 (.mov (.t 20)),
   I 6 (.mov (.t 21))] [5]) (
 .seq (
 .reg [
   I 22 (.mov (.t 5)),
   I 23 (.mkIface 25 (.t 22)),
   I 2 (.mov (.t 23))] [2]) (
 .ret)))))⟩

/- (*sakia/board.Board[uint64]).slot -/
def c89 : AFn := ⟨2, [.tmp 4], (
 .seq (
 .reg [
   I 4 (.mov (.c (.bool false)))] [0, 1]) (
 .seq (
 .reg [
   I 5 (.mov (.t 0)),
   I 6 (.isNil .ptr true (.t 5)),
   I 7 (.mov (.t 6)),
   IG (some 8) (7, true) (.mov (.t 1)),
   IG (some 9) (7, true) (.bin .geq (.t 8) (.c (.int .i64 0))),
   I 10 (.pick (.t 7) (.t 9) (.c (.bool false))),
   I 11 (.mov (.t 10)),
   IG (some 12) (11, true) (.mov (.t 1)),
   IG (some 13) (11, true) (.mov (.t 0)),
   IG (some 14) (11, true) (.nilChk (.t 13)),
   IG (some 15) (11, true) (.fieldAddr 15 (.t 14)),
   IG (some 16) (11, true) (.load none (.t 15)),
   IG (some 17) (11, true) (.len false (.t 16)),
   IG (some 18) (11, true) (.bin .lss (.t 12) (.t 17)),
   I 19 (.pick (.t 11) (.t 18) (.c (.bool false))),
   I 4 (.mov (.t 19))] [4]) (
 .ret)))⟩

/- (*sakia/board.Board[uint64]).note -/
def c90 : AFn := ⟨6, [], (
 .reg [
   I 12 (.mov (.t 0)),
   I 13 (.mov (.t 0)),
   I 14 (.nilChk (.t 13)),
   I 15 (.fieldAddr 16 (.t 14)),
   I 16 (.load none (.t 15)),
   I 17 (.mov (.t 1)),
   I 18 (.mov (.t 2)),
   I 19 (.mov (.t 3)),
   I 20 (.mov (.t 4)),
   I 21 (.mov (.t 5)),
   I 22 (.build #[.int .i64 0, .int .i64 0, .int .i64 0, .int .u64 0, .int .u64 0] [((0, 1), (.t 17)), ((1, 1), (.t 18)), ((2, 1), (.t 19)), ((3, 1), (.t 20)), ((4, 1), (.t 21))]),
   I 23 (.buildSlice 5 #[.int .i64 0, .int .i64 0, .int .i64 0, .int .u64 0, .int .u64 0] 1 [(0, (.t 22))]),
   I 24 (.append 5 40 (.t 16) (.t 23)),
   I 25 (.nilChk (.t 12)),
   I 26 (.fieldAddr 16 (.t 25)),
   I0 (.store 1 (.t 26) (.t 24))] [])⟩

/- (sakia/layout.Layout).Slot -/
def c91 : AFn := ⟨2, [.tmp 4], (
 .seq (
 .reg [
   I 2 (.box (.t 0)),
   I 4 (.mov (.c (.int .i64 0)))] [1, 2]) (
 .seq (
 .reg [
   I 5 (.load (some 14) (.t 2)),
   I 6 (.fieldAddr 12 (.t 2)),
   I 7 (.load none (.t 6)),
   I 8 (.mov (.t 1)),
   I 9 (.callQ 134 [(.t 5), (.t 7), (.t 8)]),
   I 4 (.mov (.t 9))] [4]) (
 .ret)))⟩

/- sakia/lap.Slot[uint64] -/
def c92 : AFn := ⟨2, [.tmp 4], (
 .seq (
 .reg [
   I 4 (.mov (.c (.int .i64 0)))] [0, 1]) (
 .seq (
 .seq (
 .reg [
   I 5 (.mov (.t 0)),
   I 6 (.callE 1 114 [(.t 5)]),
   I 7 (.un .not (.t 6))] [0, 1, 7]) (
 .cond (.t 7) (
  .seq (
  .reg [
    I 4 (.mov (.c (.int .i64 0)))] [4]) (
  .ret)) (
  .skip))) (
 .seq (
 .reg [
   I 8 (.mov (.t 1)),
   I 9 (.mov (.t 0)),
   I 10 (.bin .sub (.t 9) (.c (.int .i64 1))),
   I 11 (.conv .u64 (.t 10)),
   I 12 (.bin .and (.t 8) (.t 11)),
   I 13 (.conv .i64 (.t 12)),
   I 4 (.mov (.t 13))] [4]) (
 .ret))))⟩

/- sakia/wide.Add[uint64] -/
def c93 : AFn := ⟨2, [.tmp 4], (
 .seq (
 .reg [
   I 4 (.mov (.c (.int .u64 0)))] [0, 1]) (
 .seq (
 .reg [
   I 5 (.mov (.t 0)),
   I 6 (.mov (.t 1)),
   I 7 (.conv .u64 (.t 6)),
   I 8 (.bin .add (.t 5) (.t 7)),
   I 4 (.mov (.t 8))] [4]) (
 .ret)))⟩

/- (*sakia/board.Board[uint64]).Data -/
def c94 : AFn := ⟨2, [.tmp 4], (
 .seq (
 .reg [
   I 4 (.mov (.c (.int .i64 0)))] [0, 1]) (
 .seq (
 .seq (
 .reg [
   I 5 (.mov (.t 0)),
   I 6 (.mov (.t 1)),
   I 7 (.callQ 89 [(.t 5), (.t 6)]),
   I 8 (.un .not (.t 7))] [0, 1, 8]) (
 .cond (.t 8) (
  .seq (
  .reg [
    I 4 (.mov (.c (.int .i64 0)))] [4]) (
  .ret)) (
  .skip))) (
 .seq (
 .reg [
   I 9 (.mov (.t 0)),
   I 10 (.nilChk (.t 9)),
   I 11 (.fieldAddr 15 (.t 10)),
   I 12 (.load none (.t 11)),
   I 13 (.mov (.t 1)),
   I 14 (.indexAddr none 1 (.t 12) (.t 13)),
   I 15 (.load none (.t 14)),
   I 4 (.mov (.t 15))] [4]) (
 .ret))))⟩

/- sakia/wide.Of[uint64] -/
def c95 : AFn := ⟨1, [.tmp 2], (
 .seq (
 .reg [
   I 2 (.mov (.c (.int .u64 0)))] [0]) (
 .seq (
 .reg [
   I 3 (.mov (.t 0)),
   I 2 (.mov (.t 3))] [2]) (
 .ret)))⟩

/- (*sakia/event.Log).Fill -/
def c96 : AFn := ⟨3, [.tmp 6], (
 .seq (
 .reg [
   I 6 (.mov (.c (.bool false)))] [0, 1, 2]) (
 .seq (
 .seq (
 .reg [
   I 7 (.mov (.t 0)),
   I 8 (.isNil .ptr false (.t 7)),
   I 9 (.mov (.t 8)),
   IG (some 10) (9, false) (.mov (.t 1)),
   IG (some 11) (9, false) (.bin .lss (.t 10) (.c (.int .i64 0))),
   I 12 (.pick (.t 9) (.c (.bool true)) (.t 11)),
   I 13 (.mov (.t 12)),
   IG (some 14) (13, false) (.mov (.t 1)),
   IG (some 15) (13, false) (.mov (.t 0)),
   IG (some 16) (13, false) (.nilChk (.t 15)),
   IG (some 17) (13, false) (.fieldAddr 0 (.t 16)),
   IG (some 18) (13, false) (.load none (.t 17)),
   IG (some 19) (13, false) (.len false (.t 18)),
   IG (some 20) (13, false) (.bin .geq (.t 14) (.t 19)),
   I 21 (.pick (.t 13) (.c (.bool true)) (.t 20))] [0, 1, 2, 21]) (
 .cond (.t 21) (
  .seq (
  .reg [
    I 6 (.mov (.c (.bool false)))] [6]) (
  .ret)) (
  .skip))) (
 .seq (
 .regd [0, 1, 2, 4, 6, 3, 5, 7, 8, 9, 10] [
   I 22 (.mov (.t 0)),
   I 23 (.nilChk (.t 22)),
   I 24 (.fieldAddr 0 (.t 23)),
   I 26 (.mov (.t 1)),
   I 28 (.mov (.t 2)),
   I 25 (.load none (.t 24)),
   I 27 (.buildSlice 1 #[.int .i64 0] 0 []),
   I 29 (.hold [(none, (.t 24))] (.append 1 8 (.t 27) (.t 28))),
   I 30 (.indexAddr none 7 (.t 25) (.t 26)),
   I 31 (.fieldAddr 6 (.t 30)),
   I0 (.store 1 (.t 31) (.t 29))] []) (
 .seq (
 .reg [
   I 6 (.mov (.c (.bool true)))] [6]) (
 .ret)))))⟩

/- (*sakia/barrier.Barrier[uint64]).there -/
def c97 : AFn := ⟨2, [.tmp 4], (
 .seq (
 .reg [
   I 4 (.mov (.c (.bool false)))] [0, 1]) (
 .seq (
 .reg [
   I 5 (.mov (.t 0)),
   I 6 (.isNil .ptr true (.t 5)),
   I 7 (.mov (.t 6)),
   IG (some 8) (7, true) (.mov (.t 1)),
   IG (some 9) (7, true) (.bin .geq (.t 8) (.c (.int .i64 0))),
   I 10 (.pick (.t 7) (.t 9) (.c (.bool false))),
   I 11 (.mov (.t 10)),
   IG (some 12) (11, true) (.mov (.t 1)),
   IG (some 13) (11, true) (.mov (.t 0)),
   IG (some 14) (11, true) (.nilChk (.t 13)),
   IG (some 15) (11, true) (.fieldAddr 17 (.t 14)),
   IG (some 16) (11, true) (.load none (.t 15)),
   IG (some 17) (11, true) (.len false (.t 16)),
   IG (some 18) (11, true) (.bin .lss (.t 12) (.t 17)),
   I 19 (.pick (.t 11) (.t 18) (.c (.bool false))),
   I 4 (.mov (.t 19))] [4]) (
 .ret)))⟩

/- (*sakia/barrier.Barrier[uint64]).look -/
def c98 : AFn := ⟨3, [.tmp 6], (
 .seq (
 .reg [
   I 6 (.mov (.c (.bool false)))] [0, 1, 2]) (
 .seq (
 .seq (
 .reg [
   I 7 (.mov (.t 0)),
   I 8 (.mov (.t 1)),
   I 9 (.callQ 135 [(.t 7), (.t 8)])] [0, 1, 2, 9]) (
 .cond (.t 9) (
  .seq (
  .regd [0, 1, 2, 4, 5, 7, 3, 8, 9, 6, 10, 11] [
    I 10 (.mov (.t 0)),
    I 11 (.nilChk (.t 10)),
    I 12 (.fieldAddr 2 (.t 11)),
    I 14 (.mov (.t 0)),
    I 15 (.mov (.t 1)),
    I 17 (.mov (.t 2)),
    I 13 (.load none (.t 12)),
    I 18 (.nilChk (.t 13)),
    I 19 (.mov (.t 13)),
    I 16 (.callQ 99 [(.t 14), (.t 15)]),
    I 20 (.invoke "Tip" (.t 19) [(.t 16), (.t 17)]),
    I 6 (.mov (.t 20))] [6]) (
  .ret)) (
  .skip))) (
 .seq (
 .seq (
 .regd [0, 1, 2, 4, 5, 7, 8, 9, 11, 14, 3, 6, 10, 12, 13, 15, 16] [
   I 21 (.mov (.t 0)),
   I 22 (.nilChk (.t 21)),
   I 23 (.fieldAddr 0 (.t 22)),
   I 25 (.mov (.t 0)),
   I 26 (.mov (.t 1)),
   I 28 (.mov (.t 0)),
   I 29 (.nilChk (.t 28)),
   I 30 (.fieldAddr 17 (.t 29)),
   I 32 (.mov (.t 1)),
   I 35 (.mov (.t 2)),
   I 24 (.load none (.t 23)),
   I 27 (.callQ 99 [(.t 25), (.t 26)]),
   I 31 (.load none (.t 30)),
   I 33 (.indexAddr none 1 (.t 31) (.t 32)),
   I 34 (.load none (.t 33)),
   I 36 (.call 136 [(.t 24), (.t 27), (.t 34), (.t 35)]),
   I 37 (.un .not (.t 36))] [2, 37]) (
 .cond (.t 37) (
  .seq (
  .reg [
    I 6 (.mov (.c (.bool false)))] [6]) (
  .ret)) (
  .skip))) (
 .seq (
 .seq (
 .regd [0, 1, 2, 4, 5, 6, 3, 7, 8] [
   I 38 (.mov (.t 2)),
   I 39 (.nilChk (.t 38)),
   I 40 (.fieldAddr 8 (.t 39)),
   I 42 (.mov (.t 2)),
   I 43 (.nilChk (.t 42)),
   I 44 (.fieldAddr 7 (.t 43)),
   I 41 (.load none (.t 40)),
   I 45 (.load none (.t 44)),
   I 46 (.callE 1 137 [(.t 41), (.t 45)])] [2, 46]) (
 .cond (.t 46) (
  .reg [
    I 47 (.mov (.t 2)),
    I 48 (.mov (.t 2)),
    I 49 (.nilChk (.t 48)),
    I 50 (.fieldAddr 7 (.t 49)),
    I 51 (.load none (.t 50)),
    I 52 (.nilChk (.t 47)),
    I 53 (.fieldAddr 8 (.t 52)),
    I0 (.store 1 (.t 53) (.t 51))] []) (
  .skip))) (
 .seq (
 .reg [
   I 6 (.mov (.c (.bool true)))] [6]) (
 .ret))))))⟩

/- (*sakia/barrier.Barrier[uint64]).thread -/
def c99 : AFn := ⟨2, [.tmp 4], (
 .seq (
 .reg [
   I 4 (.mov (.c (.int .i64 0)))] [0, 1]) (
 .seq (
 .reg [
   I 5 (.mov (.t 0)),
   I 6 (.nilChk (.t 5)),
   I 7 (.fieldAddr 3 (.t 6)),
   I 8 (.fieldAddr 0 (.t 7)),
   I 9 (.fieldAddr 3 (.t 8)),
   I 10 (.load none (.t 9)),
   I 11 (.mov (.t 1)),
   I 12 (.bin .add (.t 10) (.t 11)),
   I 4 (.mov (.t 12))] [4]) (
 .ret)))⟩

/- (*sakia/board.Board[uint64]).Store -/
def c100 : AFn := ⟨4, [], (
 .seq (
 .reg [
   I 8 (.mov (.t 0)),
   I 9 (.mov (.t 2)),
   I 10 (.callQ 138 [(.t 8), (.t 9), (.c (.int .i64 1))])] [0, 1, 2, 3, 10]) (
 .cond (.t 10) (
  .reg [
    I 11 (.mov (.t 0)),
    I 12 (.mov (.t 1)),
    I 13 (.mov (.t 2)),
    I 14 (.mov (.t 3)),
    I 15 (.call 139 [(.t 11), (.t 12), (.c (.int .i64 2)), (.t 13), (.t 14)])] []) (
  .skip)))⟩

/- (sakia/layout.Layout).Gate -/
def c101 : AFn := ⟨2, [.tmp 4], (
 .seq (
 .reg [
   I 2 (.box (.t 0)),
   I 4 (.mov (.c (.int .i64 0)))] [1, 2]) (
 .seq (
 .seq (
 .reg [
   I 5 (.load (some 14) (.t 2)),
   I 6 (.callQ 140 [(.t 5)]),
   I 7 (.un .not (.t 6)),
   I 8 (.mov (.t 7)),
   IG (some 9) (8, false) (.mov (.t 1)),
   IG (some 10) (8, false) (.bin .lss (.t 9) (.c (.int .i64 0))),
   I 11 (.pick (.t 8) (.c (.bool true)) (.t 10)),
   I 12 (.mov (.t 11)),
   IG (some 13) (12, false) (.mov (.t 1)),
   IG (some 14) (12, false) (.fieldAddr 0 (.t 2)),
   IG (some 15) (12, false) (.fieldAddr 5 (.t 14)),
   IG (some 16) (12, false) (.load none (.t 15)),
   IG (some 17) (12, false) (.len false (.t 16)),
   IG (some 18) (12, false) (.bin .geq (.t 13) (.t 17)),
   I 19 (.pick (.t 12) (.c (.bool true)) (.t 18))] [1, 19]) (
 .cond (.t 19) (
  .seq (
  .reg [
    I 4 (.mov (.c (.int .i64 (-1))))] [4]) (
  .ret)) (
  .skip))) (
 .seq (
 .reg [
   I 20 (.mov (.t 1)),
   I 4 (.mov (.t 20))] [4]) (
 .ret))))⟩

/- sakia/wide.signed[uint64] -/
def c102 : AFn := ⟨1, [.tmp 2], (
 .seq (
 .reg [
   I 2 (.mov (.c (.int .i64 0)))] [0]) (
 .seq (
 .seq (
 .reg [
   I 3 (.callE 1 141 []),
   I 4 (.bin .eql (.t 3) (.c (.int .i64 32)))] [0, 4]) (
 .cond (.t 4) (
  .seq (
  .reg [
    I 5 (.mov (.t 0)),
    I 6 (.conv .i32 (.t 5)),
    I 7 (.conv .i64 (.t 6)),
    I 2 (.mov (.t 7))] [2]) (
  .ret)) (
  .skip))) (
 .seq (
 .reg [
   I 8 (.mov (.t 0)),
   I 9 (.conv .i64 (.t 8)),
   I 2 (.mov (.t 9))] [2]) (
 .ret))))⟩

/- (sakia/layout.Layout).there -/
def c103 : AFn := ⟨2, [.tmp 4], (
 .seq (
 .reg [
   I 2 (.box (.t 0)),
   I 4 (.mov (.c (.bool false)))] [1, 2]) (
 .seq (
 .reg [
   I 5 (.load (some 14) (.t 2)),
   I 6 (.callQ 140 [(.t 5)]),
   I 7 (.mov (.t 6)),
   IG (some 8) (7, true) (.mov (.t 1)),
   IG (some 9) (7, true) (.bin .geq (.t 8) (.c (.int .i64 0))),
   I 10 (.pick (.t 7) (.t 9) (.c (.bool false))),
   I 11 (.mov (.t 10)),
   IG (some 12) (11, true) (.mov (.t 1)),
   IG (some 13) (11, true) (.fieldAddr 13 (.t 2)),
   IG (some 14) (11, true) (.load none (.t 13)),
   IG (some 15) (11, true) (.bin .lss (.t 12) (.t 14)),
   I 16 (.pick (.t 11) (.t 15) (.c (.bool false))),
   I 4 (.mov (.t 16))] [4]) (
 .ret)))⟩

/- sakia/conf.Check -/
def c104 : AFn := ⟨1, [.tmp 2], (
 .seq (
 .reg [
   I 1 (.box (.t 0)),
   I 2 (.mov (.c (.int .i64 0)))] [1]) (
 .seq (
 .block 0 (
  .seq (
  .reg [
    I 5 (.fieldAddr 0 (.t 1)),
    I 6 (.load none (.t 5)),
    I 7 (.bin .lss (.t 6) (.c (.int .i64 1))),
    I 8 (.mov (.t 7)),
    IG (some 9) (8, false) (.fieldAddr 0 (.t 1)),
    IG (some 10) (8, false) (.load none (.t 9)),
    IG (some 11) (8, false) (.bin .gtr (.t 10) (.c (.int .i64 5))),
    I 12 (.pick (.t 8) (.c (.bool true)) (.t 11)),
    I 4 (.mov (.t 12))] [1, 4]) (
  .cond (.t 4) (
   .seq (
   .reg [
     I 2 (.mov (.c (.int .i64 2)))] [2]) (
   .ret)) (
   .seq (
   .reg [
     I 14 (.fieldAddr 1 (.t 1)),
     I 15 (.load none (.t 14)),
     I 16 (.callE 1 142 [(.t 15)]),
     I 17 (.un .not (.t 16)),
     I 13 (.mov (.t 17))] [1, 13]) (
   .cond (.t 13) (
    .seq (
    .reg [
      I 2 (.mov (.c (.int .i64 3)))] [2]) (
    .ret)) (
    .seq (
    .reg [
      I 19 (.fieldAddr 2 (.t 1)),
      I 20 (.load none (.t 19)),
      I 21 (.callE 1 114 [(.t 20)]),
      I 22 (.un .not (.t 21)),
      I 18 (.mov (.t 22))] [1, 18]) (
    .cond (.t 18) (
     .seq (
     .reg [
       I 2 (.mov (.c (.int .i64 4)))] [2]) (
     .ret)) (
     .seq (
     .seq (
     .reg [
       I 24 (.fieldAddr 3 (.t 1)),
       I 25 (.load none (.t 24)),
       I 26 (.bin .lss (.t 25) (.c (.int .i64 1))),
       I 27 (.mov (.t 26)),
       IG (some 28) (27, false) (.fieldAddr 3 (.t 1)),
       IG (some 29) (27, false) (.load none (.t 28)),
       IG (some 30) (27, false) (.bin .gtr (.t 29) (.c (.int .i64 4))),
       I 31 (.pick (.t 27) (.c (.bool true)) (.t 30)),
       I 23 (.mov (.t 31))] [1, 23]) (
     .cond (.t 23) (
      .skip) (
      .reg [
        I 32 (.fieldAddr 0 (.t 1)),
        I 33 (.load none (.t 32)),
        I 34 (.bin .eql (.t 33) (.c (.int .i64 1))),
        I 35 (.mov (.t 34)),
        IG (some 36) (35, true) (.fieldAddr 3 (.t 1)),
        IG (some 37) (35, true) (.load none (.t 36)),
        IG (some 38) (35, true) (.bin .gtr (.t 37) (.c (.int .i64 1))),
        I 39 (.pick (.t 35) (.t 38) (.c (.bool false))),
        I 23 (.mov (.t 39))] [1, 23]))) (
     .cond (.t 23) (
      .seq (
      .reg [
        I 2 (.mov (.c (.int .i64 5)))] [2]) (
      .ret)) (
      .skip)))))))))) (
 .seq (
 .seq (
 .reg [
   I 40 (.fieldAddr 5 (.t 1)),
   I 41 (.load none (.t 40)),
   I 42 (.callQ 143 [(.t 41)]),
   I 3 (.mov (.t 42))] [1, 3]) (
 .seq (
 .reg [
   I 43 (.mov (.t 3)),
   I 44 (.bin .neq (.t 43) (.c (.int .i64 0)))] [1, 3, 44]) (
 .cond (.t 44) (
  .seq (
  .reg [
    I 45 (.mov (.t 3)),
    I 2 (.mov (.t 45))] [2]) (
  .ret)) (
  .skip)))) (
 .seq (
 .block 1 (
  .seq (
  .reg [
    I 47 (.load (some 6) (.t 1)),
    I 48 (.callQ 144 [(.t 47)]),
    I 46 (.mov (.t 48))] [1, 46]) (
  .cond (.t 46) (
   .seq (
   .reg [
     I 2 (.mov (.c (.int .i64 9)))] [2]) (
   .ret)) (
   .seq (
   .reg [
     I 50 (.fieldAddr 2 (.t 1)),
     I 51 (.load none (.t 50)),
     I 52 (.bin .gtr (.t 51) (.c (.int .i64 64))),
     I 49 (.mov (.t 52))] [49]) (
   .cond (.t 49) (
    .seq (
    .reg [
      I 2 (.mov (.c (.int .i64 10)))] [2]) (
    .ret)) (
    .skip)))))) (
 .seq (
 .reg [
   I 2 (.mov (.c (.int .i64 0)))] [2]) (
 .ret))))))⟩

/- (sakia/layout.Layout).First -/
def c105 : AFn := ⟨2, [.tmp 4], (
 .seq (
 .reg [
   I 2 (.box (.t 0)),
   I 4 (.mov (.c (.int .u64 0)))] [1, 2]) (
 .seq (
 .seq (
 .reg [
   I 8 (.load (some 14) (.t 2)),
   I 9 (.mov (.t 1)),
   I 10 (.callQ 103 [(.t 8), (.t 9)]),
   I 11 (.un .not (.t 10)),
   I 12 (.mov (.t 11)),
   IG (some 13) (12, false) (.mov (.t 1)),
   IG (some 14) (12, false) (.fieldAddr 12 (.t 2)),
   IG (some 15) (12, false) (.load none (.t 14)),
   IG (some 16) (12, false) (.bin .geq (.t 13) (.t 15)),
   I 17 (.pick (.t 12) (.c (.bool true)) (.t 16)),
   I 18 (.mov (.t 17)),
   IG (some 19) (18, false) (.mov (.t 1)),
   IG (some 20) (18, false) (.fieldAddr 8 (.t 2)),
   IG (some 21) (18, false) (.load none (.t 20)),
   IG (some 22) (18, false) (.bin .eql (.t 19) (.t 21)),
   I 23 (.pick (.t 18) (.c (.bool true)) (.t 22)),
   I 24 (.mov (.t 23)),
   IG (some 25) (24, false) (.mov (.t 1)),
   IG (some 26) (24, false) (.fieldAddr 9 (.t 2)),
   IG (some 27) (24, false) (.load none (.t 26)),
   IG (some 28) (24, false) (.bin .eql (.t 25) (.t 27)),
   I 29 (.pick (.t 24) (.c (.bool true)) (.t 28))] [1, 2, 29]) (
 .cond (.t 29) (
  .seq (
  .reg [
    I 4 (.mov (.c (.int .u64 0)))] [4]) (
  .ret)) (
  .skip))) (
 .seq (
 .reg [
   I 30 (.fieldAddr 0 (.t 2)),
   I 31 (.load (some 6) (.t 30)),
   I 32 (.callQ 79 [(.t 31)]),
   I 5 (.mov (.t 32))] [1, 2, 5]) (
 .seq (
 .reg [
   I 34 (.load (some 14) (.t 2)),
   I 35 (.mov (.t 1)),
   I 36 (.callQ 145 [(.t 34), (.t 35)]),
   I 33 (.mov (.t 36)),
   I 37 (.extract (.t 33) 0),
   I 38 (.extract (.t 33) 1),
   I 6 (.mov (.t 37)),
   I 7 (.mov (.t 38))] [2, 5, 6, 7]) (
 .seq (
 .block 0 (
  .seq (
  .reg [
    I 40 (.mov (.t 7)),
    I 41 (.un .not (.t 40)),
    I 39 (.mov (.t 41))] [2, 5, 6, 39]) (
  .cond (.t 39) (
   .seq (
   .reg [
     I 42 (.mov (.t 5)),
     I 4 (.mov (.t 42))] [4]) (
   .ret)) (
   .seq (
   .reg [
     I 44 (.fieldAddr 0 (.t 2)),
     I 45 (.fieldAddr 1 (.t 44)),
     I 46 (.load none (.t 45)),
     I 47 (.bin .eql (.t 46) (.c (.int .i64 32))),
     I 48 (.mov (.t 47)),
     IG (some 49) (48, true) (.fieldAddr 0 (.t 2)),
     IG (some 50) (48, true) (.fieldAddr 0 (.t 49)),
     IG (some 51) (48, true) (.load none (.t 50)),
     IG (some 52) (48, true) (.bin .eql (.t 51) (.c (.int .i64 4))),
     I 53 (.pick (.t 48) (.t 52) (.c (.bool false))),
     I 43 (.mov (.t 53))] [2, 5, 6, 43]) (
   .cond (.t 43) (
    .seq (
    .reg [
      I 54 (.fieldAddr 0 (.t 2)),
      I 55 (.fieldAddr 2 (.t 54)),
      I 56 (.load none (.t 55)),
      I 57 (.mov (.t 6)),
      I 58 (.mov (.t 5)),
      I 59 (.conv .u32 (.t 58)),
      I 60 (.callE 1 146 [(.t 56), (.t 57), (.t 59)]),
      I 61 (.conv .u64 (.t 60)),
      I 4 (.mov (.t 61))] [4]) (
    .ret)) (
    .seq (
    .reg [
      I 63 (.fieldAddr 0 (.t 2)),
      I 64 (.fieldAddr 1 (.t 63)),
      I 65 (.load none (.t 64)),
      I 66 (.bin .eql (.t 65) (.c (.int .i64 32))),
      I 62 (.mov (.t 66))] [2, 5, 6, 62]) (
    .cond (.t 62) (
     .seq (
     .reg [
       I 67 (.fieldAddr 0 (.t 2)),
       I 68 (.fieldAddr 2 (.t 67)),
       I 69 (.load none (.t 68)),
       I 70 (.mov (.t 6)),
       I 71 (.mov (.t 5)),
       I 72 (.conv .u32 (.t 71)),
       I 73 (.callE 1 147 [(.t 69), (.t 70), (.t 72)]),
       I 74 (.conv .u64 (.t 73)),
       I 4 (.mov (.t 74))] [4]) (
     .ret)) (
     .seq (
     .reg [
       I 76 (.fieldAddr 0 (.t 2)),
       I 77 (.fieldAddr 0 (.t 76)),
       I 78 (.load none (.t 77)),
       I 79 (.bin .eql (.t 78) (.c (.int .i64 4))),
       I 75 (.mov (.t 79))] [2, 5, 6, 75]) (
     .cond (.t 75) (
      .seq (
      .reg [
        I 80 (.fieldAddr 0 (.t 2)),
        I 81 (.fieldAddr 2 (.t 80)),
        I 82 (.load none (.t 81)),
        I 83 (.mov (.t 6)),
        I 84 (.mov (.t 5)),
        I 85 (.callE 1 148 [(.t 82), (.t 83), (.t 84)]),
        I 4 (.mov (.t 85))] [4]) (
      .ret)) (
      .skip)))))))))) (
 .seq (
 .reg [
   I 86 (.fieldAddr 0 (.t 2)),
   I 87 (.fieldAddr 2 (.t 86)),
   I 88 (.load none (.t 87)),
   I 89 (.mov (.t 6)),
   I 90 (.mov (.t 5)),
   I 91 (.callE 1 149 [(.t 88), (.t 89), (.t 90)]),
   I 4 (.mov (.t 91))] [4]) (
 .ret)))))))⟩

/- (*sakia/board.Board[uint32]).Layout -/
def c106 : AFn := ⟨1, [.cell 2 (some 14)], (
 .seq (
 .reg [
   I 2 (.alloc [.int .i64 0, .int .i64 0, .int .i64 0, .int .i64 0, .int .u64 0, .slice none 0 0, .int .i64 0, .int .i64 0, .int .i64 0, .int .i64 0, .int .i64 0, .int .i64 0, .int .i64 0, .int .i64 0])] [0, 2]) (
 .seq (
 .seq (
 .reg [
   I 3 (.mov (.t 0)),
   I 4 (.isNil .ptr false (.t 3))] [0, 2, 4]) (
 .cond (.t 4) (
  .seq (
  .reg [
    I 5 (.build #[.int .i64 0, .int .i64 0, .int .i64 0, .int .i64 0, .int .u64 0, .slice none 0 0, .int .i64 0, .int .i64 0, .int .i64 0, .int .i64 0, .int .i64 0, .int .i64 0, .int .i64 0, .int .i64 0] []),
    I0 (.store 14 (.t 2) (.t 5))] [2]) (
  .ret)) (
  .skip))) (
 .seq (
 .reg [
   I 6 (.mov (.t 0)),
   I 7 (.nilChk (.t 6)),
   I 8 (.fieldAddr 0 (.t 7)),
   I 9 (.load (some 14) (.t 8)),
   I0 (.store 14 (.t 2) (.t 9))] [2]) (
 .ret))))⟩

/- sakia/seqone.New[uint32] -/
def c107 : AFn := ⟨2, [.tmp 4], (
 .seq (
 .reg [
   I 4 (.mov (.c (.pointer none)))] [0, 1]) (
 .seq (
 .reg [
   I 7 (.mov (.t 0)),
   I 8 (.call 106 [(.t 7)]),
   I 5 (.alloc [.int .i64 0, .int .i64 0, .int .i64 0, .int .i64 0, .int .u64 0, .slice none 0 0, .int .i64 0, .int .i64 0, .int .i64 0, .int .i64 0, .int .i64 0, .int .i64 0, .int .i64 0, .int .i64 0]),
   I0 (.store 14 (.t 5) (.t 8))] [0, 1, 5]) (
 .seq (
 .seq (
 .reg [
   I 9 (.fieldAddr 0 (.t 5)),
   I 10 (.fieldAddr 0 (.t 9)),
   I 11 (.load none (.t 10)),
   I 12 (.bin .neq (.t 11) (.c (.int .i64 1)))] [0, 1, 5, 12]) (
 .cond (.t 12) (
  .seq (
  .reg [
    I 4 (.mov (.c (.pointer none)))] [4]) (
  .ret)) (
  .skip))) (
 .seq (
 .reg [
   I 13 (.fieldAddr 0 (.t 5)),
   I 14 (.load (some 6) (.t 13)),
   I 15 (.callQ 79 [(.t 14)]),
   I 16 (.callE 1 78 [(.t 15)]),
   I 6 (.mov (.t 16))] [0, 1, 5, 6]) (
 .seq (
 .regd [0, 1, 2, 6, 8, 9, 3, 4, 7, 5, 10, 11, 12] [
   I 17 (.mov (.t 0)),
   I 18 (.mov (.t 1)),
   I 19 (.fieldAddr 0 (.t 5)),
   I 23 (.fieldAddr 6 (.t 5)),
   I 25 (.mov (.t 6)),
   I 26 (.mov (.t 6)),
   I 20 (.load (some 6) (.t 19)),
   I 21 (.load (some 14) (.t 5)),
   I 24 (.load none (.t 23)),
   I 22 (.hold [((some 6), (.t 19)), (none, (.t 23))] (.call 150 [(.t 21)])),
   I 27 (.build #[.pointer none, .pointer none, .int .i64 0, .int .i64 0, .int .i64 0, .int .i64 0, .int .u64 0, .slice none 0 0, .slice none 0 0, .int .i64 0, .int .u32 0, .int .u32 0] [((0, 1), (.t 17)), ((1, 1), (.t 18)), ((2, 6), (.t 20)), ((8, 1), (.t 22)), ((9, 1), (.t 24)), ((10, 1), (.t 25)), ((11, 1), (.t 26))]),
   I 28 (.box (.t 27)),
   I 4 (.mov (.t 28))] [4]) (
 .ret))))))⟩

/- sakia/seqcas.New[uint32] -/
def c108 : AFn := ⟨2, [.tmp 4], (
 .seq (
 .reg [
   I 4 (.mov (.c (.pointer none)))] [0, 1]) (
 .seq (
 .reg [
   I 7 (.mov (.t 0)),
   I 8 (.call 106 [(.t 7)]),
   I 5 (.alloc [.int .i64 0, .int .i64 0, .int .i64 0, .int .i64 0, .int .u64 0, .slice none 0 0, .int .i64 0, .int .i64 0, .int .i64 0, .int .i64 0, .int .i64 0, .int .i64 0, .int .i64 0, .int .i64 0]),
   I0 (.store 14 (.t 5) (.t 8))] [0, 1, 5]) (
 .seq (
 .seq (
 .reg [
   I 9 (.fieldAddr 0 (.t 5)),
   I 10 (.fieldAddr 0 (.t 9)),
   I 11 (.load none (.t 10)),
   I 12 (.bin .neq (.t 11) (.c (.int .i64 2)))] [0, 1, 5, 12]) (
 .cond (.t 12) (
  .seq (
  .reg [
    I 4 (.mov (.c (.pointer none)))] [4]) (
  .ret)) (
  .skip))) (
 .seq (
 .regd [0, 1, 2, 6, 3, 4, 7, 5, 8, 9, 10] [
   I 13 (.mov (.t 0)),
   I 14 (.mov (.t 1)),
   I 15 (.fieldAddr 0 (.t 5)),
   I 19 (.fieldAddr 7 (.t 5)),
   I 16 (.load (some 6) (.t 15)),
   I 17 (.load (some 14) (.t 5)),
   I 20 (.load none (.t 19)),
   I 18 (.hold [((some 6), (.t 15)), (none, (.t 19))] (.call 150 [(.t 17)])),
   I 21 (.build #[.pointer none, .pointer none, .int .i64 0, .int .i64 0, .int .i64 0, .int .i64 0, .int .u64 0, .slice none 0 0, .slice none 0 0, .int .i64 0, .slice none 0 0] [((0, 1), (.t 13)), ((1, 1), (.t 14)), ((2, 6), (.t 16)), ((8, 1), (.t 18)), ((9, 1), (.t 20))]),
   I 22 (.box (.t 21)),
   I 6 (.mov (.t 22))] [5, 6]) (
 .seq (
 .seq (
 .reg [
   I 23 (.fieldAddr 0 (.t 5)),
   I 24 (.fieldAddr 3 (.t 23)),
   I 25 (.load none (.t 24)),
   I 26 (.mov (.c (.int .i64 0)))] [5, 6, 25, 26]) (
 .block 0 (
  .loop (
   .seq (
   .reg [
     I 27 (.bin .lss (.t 26) (.t 25))] [5, 6, 25, 26, 27]) (
   .seq (
   .cond (.t 27) (
    .skip) (
    .exit 0)) (
   .seq (
   .block 1 (
    .regd [0, 1, 2, 3, 5, 4, 6, 7, 8, 9, 10, 11, 12, 13] [
      I 28 (.mov (.t 6)),
      I 29 (.mov (.t 6)),
      I 30 (.nilChk (.t 29)),
      I 31 (.fieldAddr 10 (.t 30)),
      I 33 (.fieldAddr 0 (.t 5)),
      I 32 (.load none (.t 31)),
      I 34 (.load (some 6) (.t 33)),
      I 35 (.callQ 79 [(.t 34)]),
      I 36 (.callE 1 78 [(.t 35)]),
      I 37 (.buildSlice 1 #[.int .u32 0] 1 [(0, (.t 36))]),
      I 38 (.append 1 4 (.t 32) (.t 37)),
      I 39 (.nilChk (.t 28)),
      I 40 (.fieldAddr 10 (.t 39)),
      I0 (.store 1 (.t 40) (.t 38))] [5, 6, 25, 26])) (
   .reg [
     I 41 (.bin .add (.t 26) (.c (.int .i64 1))),
     I 26 (.mov (.t 41))] [5, 6, 25, 26]))))))) (
 .seq (
 .reg [
   I 42 (.mov (.t 6)),
   I 4 (.mov (.t 42))] [4]) (
 .ret)))))))⟩

/- sakia/seqfaa.New[uint32] -/
def c109 : AFn := ⟨2, [.tmp 4], (
 .seq (
 .reg [
   I 4 (.mov (.c (.pointer none)))] [0, 1]) (
 .seq (
 .reg [
   I 7 (.mov (.t 0)),
   I 8 (.call 106 [(.t 7)]),
   I 5 (.alloc [.int .i64 0, .int .i64 0, .int .i64 0, .int .i64 0, .int .u64 0, .slice none 0 0, .int .i64 0, .int .i64 0, .int .i64 0, .int .i64 0, .int .i64 0, .int .i64 0, .int .i64 0, .int .i64 0]),
   I0 (.store 14 (.t 5) (.t 8))] [0, 1, 5]) (
 .seq (
 .seq (
 .reg [
   I 9 (.fieldAddr 0 (.t 5)),
   I 10 (.fieldAddr 0 (.t 9)),
   I 11 (.load none (.t 10)),
   I 12 (.bin .neq (.t 11) (.c (.int .i64 3)))] [0, 1, 5, 12]) (
 .cond (.t 12) (
  .seq (
  .reg [
    I 4 (.mov (.c (.pointer none)))] [4]) (
  .ret)) (
  .skip))) (
 .seq (
 .regd [0, 1, 2, 6, 3, 4, 7, 5, 8, 9, 10] [
   I 13 (.mov (.t 0)),
   I 14 (.mov (.t 1)),
   I 15 (.fieldAddr 0 (.t 5)),
   I 19 (.fieldAddr 7 (.t 5)),
   I 16 (.load (some 6) (.t 15)),
   I 17 (.load (some 14) (.t 5)),
   I 20 (.load none (.t 19)),
   I 18 (.hold [((some 6), (.t 15)), (none, (.t 19))] (.call 150 [(.t 17)])),
   I 21 (.build #[.pointer none, .pointer none, .int .i64 0, .int .i64 0, .int .i64 0, .int .i64 0, .int .u64 0, .slice none 0 0, .slice none 0 0, .int .i64 0, .slice none 0 0] [((0, 1), (.t 13)), ((1, 1), (.t 14)), ((2, 6), (.t 16)), ((8, 1), (.t 18)), ((9, 1), (.t 20))]),
   I 22 (.box (.t 21)),
   I 6 (.mov (.t 22))] [5, 6]) (
 .seq (
 .seq (
 .reg [
   I 23 (.fieldAddr 0 (.t 5)),
   I 24 (.fieldAddr 3 (.t 23)),
   I 25 (.load none (.t 24)),
   I 26 (.mov (.c (.int .i64 0)))] [5, 6, 25, 26]) (
 .block 0 (
  .loop (
   .seq (
   .reg [
     I 27 (.bin .lss (.t 26) (.t 25))] [5, 6, 25, 26, 27]) (
   .seq (
   .cond (.t 27) (
    .skip) (
    .exit 0)) (
   .seq (
   .block 1 (
    .regd [0, 1, 2, 3, 5, 4, 6, 7, 8, 9, 10, 11, 12, 13] [
      I 28 (.mov (.t 6)),
      I 29 (.mov (.t 6)),
      I 30 (.nilChk (.t 29)),
      I 31 (.fieldAddr 10 (.t 30)),
      I 33 (.fieldAddr 0 (.t 5)),
      I 32 (.load none (.t 31)),
      I 34 (.load (some 6) (.t 33)),
      I 35 (.callQ 79 [(.t 34)]),
      I 36 (.callE 1 78 [(.t 35)]),
      I 37 (.buildSlice 1 #[.int .u32 0] 1 [(0, (.t 36))]),
      I 38 (.append 1 4 (.t 32) (.t 37)),
      I 39 (.nilChk (.t 28)),
      I 40 (.fieldAddr 10 (.t 39)),
      I0 (.store 1 (.t 40) (.t 38))] [5, 6, 25, 26])) (
   .reg [
     I 41 (.bin .add (.t 26) (.c (.int .i64 1))),
     I 26 (.mov (.t 41))] [5, 6, 25, 26]))))))) (
 .seq (
 .reg [
   I 42 (.mov (.t 6)),
   I 4 (.mov (.t 42))] [4]) (
 .ret)))))))⟩

/- sakia/seqstamp.New[uint32] -/
def c110 : AFn := ⟨2, [.tmp 4], (
 .seq (
 .reg [
   I 4 (.mov (.c (.pointer none)))] [0, 1]) (
 .seq (
 .reg [
   I 7 (.mov (.t 0)),
   I 8 (.call 106 [(.t 7)]),
   I 5 (.alloc [.int .i64 0, .int .i64 0, .int .i64 0, .int .i64 0, .int .u64 0, .slice none 0 0, .int .i64 0, .int .i64 0, .int .i64 0, .int .i64 0, .int .i64 0, .int .i64 0, .int .i64 0, .int .i64 0]),
   I0 (.store 14 (.t 5) (.t 8))] [0, 1, 5]) (
 .seq (
 .seq (
 .reg [
   I 9 (.fieldAddr 0 (.t 5)),
   I 10 (.fieldAddr 0 (.t 9)),
   I 11 (.load none (.t 10)),
   I 12 (.bin .neq (.t 11) (.c (.int .i64 4)))] [0, 1, 5, 12]) (
 .cond (.t 12) (
  .seq (
  .reg [
    I 4 (.mov (.c (.pointer none)))] [4]) (
  .ret)) (
  .skip))) (
 .seq (
 .regd [0, 1, 2, 3, 4, 5, 6, 7] [
   I 13 (.mov (.t 0)),
   I 14 (.mov (.t 1)),
   I 15 (.load (some 14) (.t 5)),
   I 16 (.load (some 14) (.t 5)),
   I 17 (.hold [((some 14), (.t 5))] (.call 150 [(.t 16)])),
   I 18 (.build #[.pointer none, .pointer none, .int .i64 0, .int .i64 0, .int .i64 0, .int .i64 0, .int .u64 0, .slice none 0 0, .int .i64 0, .int .i64 0, .int .i64 0, .int .i64 0, .int .i64 0, .int .i64 0, .int .i64 0, .int .i64 0, .slice none 0 0, .slice none 0 0] [((0, 1), (.t 13)), ((1, 1), (.t 14)), ((2, 14), (.t 15)), ((16, 1), (.t 17))]),
   I 19 (.box (.t 18)),
   I 6 (.mov (.t 19))] [5, 6]) (
 .seq (
 .seq (
 .reg [
   I 20 (.fieldAddr 0 (.t 5)),
   I 21 (.fieldAddr 3 (.t 20)),
   I 22 (.load none (.t 21)),
   I 23 (.mov (.c (.int .i64 0)))] [5, 6, 22, 23]) (
 .block 0 (
  .loop (
   .seq (
   .reg [
     I 24 (.bin .lss (.t 23) (.t 22))] [5, 6, 22, 23, 24]) (
   .seq (
   .cond (.t 24) (
    .skip) (
    .exit 0)) (
   .seq (
   .block 1 (
    .regd [0, 1, 2, 3, 5, 4, 6, 7, 8, 9, 10, 11, 12, 13] [
      I 25 (.mov (.t 6)),
      I 26 (.mov (.t 6)),
      I 27 (.nilChk (.t 26)),
      I 28 (.fieldAddr 17 (.t 27)),
      I 30 (.fieldAddr 0 (.t 5)),
      I 29 (.load none (.t 28)),
      I 31 (.load (some 6) (.t 30)),
      I 32 (.callQ 79 [(.t 31)]),
      I 33 (.callE 1 78 [(.t 32)]),
      I 34 (.buildSlice 1 #[.int .u32 0] 1 [(0, (.t 33))]),
      I 35 (.append 1 4 (.t 29) (.t 34)),
      I 36 (.nilChk (.t 25)),
      I 37 (.fieldAddr 17 (.t 36)),
      I0 (.store 1 (.t 37) (.t 35))] [5, 6, 22, 23])) (
   .reg [
     I 38 (.bin .add (.t 23) (.c (.int .i64 1))),
     I 23 (.mov (.t 38))] [5, 6, 22, 23]))))))) (
 .seq (
 .reg [
   I 39 (.mov (.t 6)),
   I 4 (.mov (.t 39))] [4]) (
 .ret)))))))⟩

/- sakia/seqlock.New[uint32] -/
def c111 : AFn := ⟨2, [.tmp 4], (
 .seq (
 .reg [
   I 4 (.mov (.c (.pointer none)))] [0, 1]) (
 .seq (
 .reg [
   I 7 (.mov (.t 0)),
   I 8 (.call 106 [(.t 7)]),
   I 5 (.alloc [.int .i64 0, .int .i64 0, .int .i64 0, .int .i64 0, .int .u64 0, .slice none 0 0, .int .i64 0, .int .i64 0, .int .i64 0, .int .i64 0, .int .i64 0, .int .i64 0, .int .i64 0, .int .i64 0]),
   I0 (.store 14 (.t 5) (.t 8))] [0, 1, 5]) (
 .seq (
 .seq (
 .reg [
   I 9 (.fieldAddr 0 (.t 5)),
   I 10 (.fieldAddr 0 (.t 9)),
   I 11 (.load none (.t 10)),
   I 12 (.bin .neq (.t 11) (.c (.int .i64 5)))] [0, 1, 5, 12]) (
 .cond (.t 12) (
  .seq (
  .reg [
    I 4 (.mov (.c (.pointer none)))] [4]) (
  .ret)) (
  .skip))) (
 .seq (
 .regd [0, 1, 2, 6, 3, 4, 7, 5, 8, 9, 10] [
   I 13 (.mov (.t 0)),
   I 14 (.mov (.t 1)),
   I 15 (.fieldAddr 0 (.t 5)),
   I 19 (.fieldAddr 10 (.t 5)),
   I 16 (.load (some 6) (.t 15)),
   I 17 (.load (some 14) (.t 5)),
   I 20 (.load none (.t 19)),
   I 18 (.hold [((some 6), (.t 15)), (none, (.t 19))] (.call 150 [(.t 17)])),
   I 21 (.build #[.pointer none, .pointer none, .int .i64 0, .int .i64 0, .int .i64 0, .int .i64 0, .int .u64 0, .slice none 0 0, .slice none 0 0, .int .i64 0, .slice none 0 0] [((0, 1), (.t 13)), ((1, 1), (.t 14)), ((2, 6), (.t 16)), ((8, 1), (.t 18)), ((9, 1), (.t 20))]),
   I 22 (.box (.t 21)),
   I 6 (.mov (.t 22))] [5, 6]) (
 .seq (
 .seq (
 .reg [
   I 23 (.fieldAddr 0 (.t 5)),
   I 24 (.fieldAddr 3 (.t 23)),
   I 25 (.load none (.t 24)),
   I 26 (.mov (.c (.int .i64 0)))] [5, 6, 25, 26]) (
 .block 0 (
  .loop (
   .seq (
   .reg [
     I 27 (.bin .lss (.t 26) (.t 25))] [5, 6, 25, 26, 27]) (
   .seq (
   .cond (.t 27) (
    .skip) (
    .exit 0)) (
   .seq (
   .block 1 (
    .regd [0, 1, 2, 3, 5, 4, 6, 7, 8, 9, 10, 11, 12, 13] [
      I 28 (.mov (.t 6)),
      I 29 (.mov (.t 6)),
      I 30 (.nilChk (.t 29)),
      I 31 (.fieldAddr 10 (.t 30)),
      I 33 (.fieldAddr 0 (.t 5)),
      I 32 (.load none (.t 31)),
      I 34 (.load (some 6) (.t 33)),
      I 35 (.callQ 79 [(.t 34)]),
      I 36 (.callE 1 78 [(.t 35)]),
      I 37 (.buildSlice 1 #[.int .u32 0] 1 [(0, (.t 36))]),
      I 38 (.append 1 4 (.t 32) (.t 37)),
      I 39 (.nilChk (.t 28)),
      I 40 (.fieldAddr 10 (.t 39)),
      I0 (.store 1 (.t 40) (.t 38))] [5, 6, 25, 26])) (
   .reg [
     I 41 (.bin .add (.t 26) (.c (.int .i64 1))),
     I 26 (.mov (.t 41))] [5, 6, 25, 26]))))))) (
 .seq (
 .reg [
   I 42 (.mov (.t 6)),
   I 4 (.mov (.t 42))] [4]) (
 .ret)))))))⟩

/- sakia/gate.Ups -/
def c112 : AFn := ⟨2, [.tmp 4], (
 .seq (
 .reg [
   I 2 (.box (.t 0)),
   I 4 (.mov (.c (.slice none 0 0)))] [1, 2]) (
 .seq (
 .seq (
 .reg [
   I 5 (.load (some 14) (.t 2)),
   I 6 (.mov (.t 1)),
   I 7 (.callQ 101 [(.t 5), (.t 6)]),
   I 8 (.bin .lss (.t 7) (.c (.int .i64 0)))] [1, 2, 8]) (
 .cond (.t 8) (
  .seq (
  .reg [
    I 4 (.mov (.c (.slice none 0 0)))] [4]) (
  .ret)) (
  .skip))) (
 .seq (
 .regd [1, 2, 4, 0, 3, 5, 6, 7, 8] [
   I 10 (.fieldAddr 0 (.t 2)),
   I 11 (.fieldAddr 5 (.t 10)),
   I 13 (.mov (.t 1)),
   I 9 (.load (some 14) (.t 2)),
   I 12 (.load none (.t 11)),
   I 14 (.indexAddr none 1 (.t 12) (.t 13)),
   I 15 (.load none (.t 14)),
   I 16 (.call 151 [(.t 9), (.t 15)]),
   I 4 (.mov (.t 16))] [4]) (
 .ret))))⟩

/- sakia/wide.Cut -/
def c113 : AFn := ⟨2, [.tmp 4], (
 .seq (
 .reg [
   I 4 (.mov (.c (.int .u64 0)))] [0, 1]) (
 .seq (
 .seq (
 .reg [
   I 5 (.mov (.t 0))] [1, 5]) (
 .block 0 (
  .seq (
  .reg [
    I 7 (.bin .eql (.t 5) (.c (.int .i64 32))),
    I 6 (.mov (.t 7))] [1, 5, 6]) (
  .cond (.t 6) (
   .seq (
   .reg [
     I 8 (.mov (.t 1)),
     I 9 (.callE 1 78 [(.t 8)]),
     I 10 (.callE 1 123 [(.t 9)]),
     I 4 (.mov (.t 10))] [4]) (
   .ret)) (
   .seq (
   .reg [
     I 12 (.bin .eql (.t 5) (.c (.int .i64 64))),
     I 11 (.mov (.t 12))] [1, 11]) (
   .cond (.t 11) (
    .seq (
    .reg [
      I 13 (.mov (.t 1)),
      I 4 (.mov (.t 13))] [4]) (
    .ret)) (
    .skip))))))) (
 .seq (
 .reg [
   I 4 (.mov (.c (.int .u64 0)))] [4]) (
 .ret))))⟩

end Go.Ab
