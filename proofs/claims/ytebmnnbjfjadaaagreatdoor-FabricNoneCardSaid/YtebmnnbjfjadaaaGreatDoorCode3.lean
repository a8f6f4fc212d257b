/- Abstract code of functions of the program, printed by a program. -/
import Derived.Test.YtebmnnbjfjadaaaGreatDoorFo
namespace Go.Ab
set_option maxRecDepth 100000
/- sakia/group.in -/
def c190 : AFn := ⟨1, [.tmp 2], (
 .seq (
 .reg [
   I 2 (.mov (.c (.bool false)))] [0]) (
 .seq (
 .reg [
   I 3 (.mov (.t 0)),
   I 4 (.bin .geq (.t 3) (.c (.int .i64 0))),
   I 5 (.mov (.t 4)),
   IG (some 6) (5, true) (.mov (.t 0)),
   IG (some 7) (5, true) (.bin .lss (.t 6) (.c (.int .i64 64))),
   I 8 (.pick (.t 5) (.t 7) (.c (.bool false))),
   I 2 (.mov (.t 8))] [2]) (
 .ret)))⟩

/- sakia/lap.Log -/
def c191 : AFn := ⟨1, [.tmp 2], (
 .seq (
 .reg [
   I 2 (.mov (.c (.int .i64 0)))] [0]) (
 .seq (
 .seq (
 .reg [
   I 4 (.mov (.t 0)),
   I 5 (.callE 1 114 [(.t 4)]),
   I 6 (.un .not (.t 5))] [0, 6]) (
 .cond (.t 6) (
  .seq (
  .reg [
    I 2 (.mov (.c (.int .i64 0)))] [2]) (
  .ret)) (
  .skip))) (
 .seq (
 .seq (
 .reg [
   I 7 (.mov (.c (.int .i64 0)))] [0, 7]) (
 .block 0 (
  .loop (
   .seq (
   .reg [
     I 8 (.bin .lss (.t 7) (.c (.int .i64 31)))] [0, 7, 8]) (
   .seq (
   .cond (.t 8) (
    .skip) (
    .exit 0)) (
   .seq (
   .block 1 (
    .seq (
    .reg [
      I 9 (.mov (.t 7)),
      I 3 (.mov (.t 9))] [0, 3, 7]) (
    .seq (
    .reg [
      I 10 (.mov (.t 3)),
      I 11 (.bin .shl (.c (.int .i64 1)) (.t 10)),
      I 12 (.mov (.t 0)),
      I 13 (.bin .eql (.t 11) (.t 12))] [0, 3, 7, 13]) (
    .cond (.t 13) (
     .seq (
     .reg [
       I 14 (.mov (.t 3)),
       I 2 (.mov (.t 14))] [2]) (
     .ret)) (
     .skip))))) (
   .reg [
     I 15 (.bin .add (.t 7) (.c (.int .i64 1))),
     I 7 (.mov (.t 15))] [0, 7]))))))) (
 .seq (
 .reg [
   I 2 (.mov (.c (.int .i64 0)))] [2]) (
 .ret)))))⟩

/- sakia/lap.one -/
def c192 : AFn := ⟨1, [.tmp 2], (
 .seq (
 .reg [
   I 2 (.mov (.c (.int .i64 0)))] [0]) (
 .seq (
 .seq (
 .reg [
   I 3 (.mov (.t 0)),
   I 4 (.callE 1 114 [(.t 3)])] [4]) (
 .cond (.t 4) (
  .seq (
  .reg [
    I 2 (.mov (.c (.int .i64 1)))] [2]) (
  .ret)) (
  .skip))) (
 .seq (
 .reg [
   I 2 (.mov (.c (.int .i64 0)))] [2]) (
 .ret))))⟩

/- sakia/group.Full -/
def c193 : AFn := ⟨1, [.tmp 2], (
 .seq (
 .reg [
   I 2 (.mov (.c (.int .u64 0)))] [0]) (
 .seq (
 .block 0 (
  .seq (
  .reg [
    I 4 (.mov (.t 0)),
    I 5 (.bin .leq (.t 4) (.c (.int .i64 0))),
    I 3 (.mov (.t 5))] [0, 3]) (
  .cond (.t 3) (
   .seq (
   .reg [
     I 2 (.mov (.c (.int .u64 0)))] [2]) (
   .ret)) (
   .seq (
   .reg [
     I 7 (.mov (.t 0)),
     I 8 (.bin .geq (.t 7) (.c (.int .i64 64))),
     I 6 (.mov (.t 8))] [0, 6]) (
   .cond (.t 6) (
    .seq (
    .reg [
      I 2 (.mov (.c (.int .u64 18446744073709551615)))] [2]) (
    .ret)) (
    .skip)))))) (
 .seq (
 .reg [
   I 9 (.mov (.t 0)),
   I 10 (.bin .shl (.c (.int .u64 1)) (.t 9)),
   I 11 (.bin .sub (.t 10) (.c (.int .u64 1))),
   I 2 (.mov (.t 11))] [2]) (
 .ret))))⟩

/- (sakia/group.Group).Without -/
def c194 : AFn := ⟨2, [.tmp 4], (
 .seq (
 .reg [
   I 4 (.mov (.c (.int .u64 0)))] [0, 1]) (
 .seq (
 .seq (
 .reg [
   I 5 (.mov (.t 1)),
   I 6 (.callE 1 190 [(.t 5)]),
   I 7 (.un .not (.t 6))] [0, 1, 7]) (
 .cond (.t 7) (
  .seq (
  .reg [
    I 8 (.mov (.t 0)),
    I 4 (.mov (.t 8))] [4]) (
  .ret)) (
  .skip))) (
 .seq (
 .reg [
   I 9 (.mov (.t 0)),
   I 10 (.mov (.t 1)),
   I 11 (.bin .shl (.c (.int .u64 1)) (.t 10)),
   I 12 (.bin .andNot (.t 9) (.t 11)),
   I 4 (.mov (.t 12))] [4]) (
 .ret))))⟩

/- (*sakia/board.Board[uint32]).Load -/
def c196 : AFn := ⟨3, [.tmp 6], (
 .seq (
 .reg [
   I 6 (.mov (.c (.int .u32 0)))] [0, 1, 2]) (
 .seq (
 .seq (
 .reg [
   I 7 (.mov (.t 0)),
   I 8 (.mov (.t 2)),
   I 9 (.callQ 179 [(.t 7), (.t 8), (.c (.int .i64 1))]),
   I 10 (.un .not (.t 9))] [0, 1, 2, 10]) (
 .cond (.t 10) (
  .seq (
  .reg [
    I 6 (.mov (.c (.int .u32 0)))] [6]) (
  .ret)) (
  .skip))) (
 .seq (
 .reg [
   I 11 (.mov (.t 0)),
   I 12 (.mov (.t 1)),
   I 13 (.mov (.t 2)),
   I 14 (.call 198 [(.t 11), (.t 12), (.c (.int .i64 1)), (.t 13)]),
   I 6 (.mov (.t 14))] [6]) (
 .ret))))⟩

/- (*sakia/board.Board[uint32]).look -/
def c198 : AFn := ⟨4, [.tmp 8], (
 .seq (
 .reg [
   I 8 (.mov (.c (.int .u32 0)))] [0, 1, 2, 3]) (
 .seq (
 .reg [
   I 10 (.mov (.t 0)),
   I 11 (.nilChk (.t 10)),
   I 12 (.fieldAddr 14 (.t 11)),
   I 13 (.load none (.t 12)),
   I 14 (.mov (.t 3)),
   I 15 (.indexAddr none 1 (.t 13) (.t 14)),
   I 16 (.load none (.t 15)),
   I 9 (.mov (.t 16))] [0, 1, 2, 3, 9]) (
 .seq (
 .reg [
   I 17 (.mov (.t 0)),
   I 18 (.mov (.t 1)),
   I 19 (.mov (.t 2)),
   I 20 (.mov (.t 3)),
   I 21 (.mov (.t 9)),
   I 22 (.callE 1 123 [(.t 21)]),
   I 23 (.mov (.t 9)),
   I 24 (.callE 1 123 [(.t 23)]),
   I 25 (.call 154 [(.t 17), (.t 18), (.t 19), (.t 20), (.t 22), (.t 24)])] [9]) (
 .seq (
 .reg [
   I 26 (.mov (.t 9)),
   I 8 (.mov (.t 26))] [8]) (
 .ret)))))⟩

/- (sakia/group.Group).Least -/
def c200 : AFn := ⟨1, [.tmp 2, .tmp 3], (
 .seq (
 .reg [
   I 2 (.mov (.c (.int .i64 0))),
   I 3 (.mov (.c (.bool false)))] [0]) (
 .seq (
 .seq (
 .reg [
   I 4 (.mov (.t 0)),
   I 5 (.bin .eql (.t 4) (.c (.int .u64 0)))] [0, 5]) (
 .cond (.t 5) (
  .seq (
  .reg [
    I 2 (.mov (.c (.int .i64 0))),
    I 3 (.mov (.c (.bool false)))] [2, 3]) (
  .ret)) (
  .skip))) (
 .seq (
 .reg [
   I 6 (.mov (.t 0)),
   I 7 (.callQ 202 [(.t 6)]),
   I 2 (.mov (.t 7)),
   I 3 (.mov (.c (.bool true)))] [2, 3]) (
 .ret))))⟩

/- (sakia/group.Group).Next -/
def c201 : AFn := ⟨2, [.tmp 4, .tmp 5], (
 .seq (
 .reg [
   I 4 (.mov (.c (.int .i64 0))),
   I 5 (.mov (.c (.bool false)))] [0, 1]) (
 .seq (
 .seq (
 .reg [
   I 6 (.mov (.t 1)),
   I 7 (.bin .geq (.t 6) (.c (.int .i64 63)))] [0, 1, 7]) (
 .cond (.t 7) (
  .seq (
  .reg [
    I 4 (.mov (.c (.int .i64 0))),
    I 5 (.mov (.c (.bool false)))] [4, 5]) (
  .ret)) (
  .skip))) (
 .seq (
 .reg [
   I 8 (.mov (.t 0)),
   I 9 (.mov (.t 1)),
   I 10 (.minmax true (.t 9) (.c (.int .i64 (-1)))),
   I 11 (.bin .add (.t 10) (.c (.int .i64 1))),
   I 12 (.callE 1 193 [(.t 11)]),
   I 13 (.bin .andNot (.t 8) (.t 12)),
   I 14 (.callQ 200 [(.t 13)]),
   I 15 (.extract (.t 14) 0),
   I 16 (.extract (.t 14) 1),
   I 4 (.mov (.t 15)),
   I 5 (.mov (.t 16))] [4, 5]) (
 .ret))))⟩

/- math/bits.TrailingZeros64 -/
def c202 : AFn := ⟨1, [.tmp 2], (
 .seq (
 .reg [
   I 2 (.mov (.c (.int .i64 0)))] [0]) (
 .seq (
 .seq (
 .reg [
   I 3 (.mov (.t 0)),
   I 4 (.bin .eql (.t 3) (.c (.int .u64 0)))] [0, 4]) (
 .cond (.t 4) (
  .seq (
  .reg [
    I 2 (.mov (.c (.int .i64 64)))] [2]) (
  .ret)) (
  .skip))) (
 .seq (
 .reg [
   I 5 (.mov (.t 0)),
   I 6 (.mov (.t 0)),
   I 7 (.un .neg (.t 6)),
   I 8 (.bin .and (.t 5) (.t 7)),
   I 9 (.bin .mul (.t 8) (.c (.int .u64 285870213051353865))),
   I 10 (.bin .shr (.t 9) (.c (.int .u64 58))),
   I 11 (.indexAddr (some 64) 1 (.c (.pointer (some ⟨0, 0, none⟩))) (.t 10)),
   I 12 (.load none (.t 11)),
   I 13 (.conv .i64 (.t 12)),
   I 2 (.mov (.t 13))] [2]) (
 .ret))))⟩

/- (*sakia/engine.Engine[uint32]).Accesses -/
def c220 : AFn := ⟨1, [.tmp 2], (
 .seq (
 .reg [
   I 2 (.mov (.c (.slice none 0 0)))] [0]) (
 .seq (
 .seq (
 .reg [
   I 3 (.mov (.t 0)),
   I 4 (.isNil .ptr false (.t 3))] [0, 4]) (
 .cond (.t 4) (
  .seq (
  .reg [
    I 2 (.mov (.c (.slice none 0 0)))] [2]) (
  .ret)) (
  .skip))) (
 .seq (
 .reg [
   I 5 (.mov (.t 0)),
   I 6 (.nilChk (.t 5)),
   I 7 (.fieldAddr 6 (.t 6)),
   I 8 (.load none (.t 7)),
   I 9 (.call 226 [(.t 8)]),
   I 2 (.mov (.t 9))] [2]) (
 .ret))))⟩

/- (*sakia/engine.Engine[uint32]).Call -/
def c221 : AFn := ⟨2, [.cell 4 (some 3), .tmp 5], (
 .seq (
 .reg [
   I 4 (.alloc [.int .i64 0, .int .i64 0, .slice none 0 0]),
   I 5 (.mov (.c (.bool false)))] [0, 1, 4]) (
 .seq (
 .seq (
 .reg [
   I 6 (.mov (.t 0)),
   I 7 (.mov (.t 1)),
   I 8 (.callQ 45 [(.t 6), (.t 7)]),
   I 9 (.un .not (.t 8))] [0, 1, 4, 9]) (
 .cond (.t 9) (
  .seq (
  .reg [
    I 10 (.build #[.int .i64 0, .int .i64 0, .slice none 0 0] []),
    I0 (.store 3 (.t 4) (.t 10)),
    I 5 (.mov (.c (.bool false)))] [4, 5]) (
  .ret)) (
  .skip))) (
 .seq (
 .reg [
   I 11 (.mov (.t 0)),
   I 12 (.nilChk (.t 11)),
   I 13 (.fieldAddr 10 (.t 12)),
   I 14 (.load none (.t 13)),
   I 15 (.mov (.t 1)),
   I 16 (.indexAddr none 1 (.t 14) (.t 15)),
   I 17 (.load none (.t 16)),
   I 18 (.nilChk (.t 17)),
   I 19 (.fieldAddr 2 (.t 18)),
   I 20 (.load (some 3) (.t 19)),
   I 21 (.call 30 [(.t 20)]),
   I0 (.store 3 (.t 4) (.t 21)),
   I 5 (.mov (.c (.bool true)))] [4, 5]) (
 .ret))))⟩

/- (*sakia/engine.Engine[uint32]).Noted -/
def c222 : AFn := ⟨1, [.tmp 2], (
 .seq (
 .reg [
   I 2 (.mov (.c (.int .i64 0)))] [0]) (
 .seq (
 .seq (
 .reg [
   I 3 (.mov (.t 0)),
   I 4 (.isNil .ptr false (.t 3))] [0, 4]) (
 .cond (.t 4) (
  .seq (
  .reg [
    I 2 (.mov (.c (.int .i64 0)))] [2]) (
  .ret)) (
  .skip))) (
 .seq (
 .reg [
   I 5 (.mov (.t 0)),
   I 6 (.nilChk (.t 5)),
   I 7 (.fieldAddr 7 (.t 6)),
   I 8 (.load none (.t 7)),
   I 9 (.callQ 37 [(.t 8)]),
   I 2 (.mov (.t 9))] [2]) (
 .ret))))⟩

/- (*sakia/engine.Engine[uint32]).Peek -/
def c223 : AFn := ⟨2, [.tmp 4], (
 .seq (
 .reg [
   I 4 (.mov (.c (.int .u64 0)))] [0, 1]) (
 .seq (
 .seq (
 .reg [
   I 5 (.mov (.t 0)),
   I 6 (.isNil .ptr false (.t 5))] [0, 1, 6]) (
 .cond (.t 6) (
  .seq (
  .reg [
    I 4 (.mov (.c (.int .u64 0)))] [4]) (
  .ret)) (
  .skip))) (
 .seq (
 .reg [
   I 7 (.mov (.t 0)),
   I 8 (.nilChk (.t 7)),
   I 9 (.fieldAddr 6 (.t 8)),
   I 10 (.load none (.t 9)),
   I 11 (.mov (.t 1)),
   I 12 (.callQ 227 [(.t 10), (.t 11)]),
   I 4 (.mov (.t 12))] [4]) (
 .ret))))⟩

/- (*sakia/engine.Engine[uint32]).Ready -/
def c224 : AFn := ⟨2, [.tmp 4], (
 .seq (
 .reg [
   I 4 (.mov (.c (.int .i64 0)))] [0, 1]) (
 .seq (
 .reg [
   I 6 (.mov (.t 0)),
   I 7 (.mov (.t 1)),
   I 8 (.call 83 [(.t 6), (.t 7)]),
   I 5 (.mov (.t 8))] [5]) (
 .seq (
 .seq (
 .reg [
   I 9 (.mov (.t 5)),
   I 10 (.isNil .ptr false (.t 9))] [5, 10]) (
 .cond (.t 10) (
  .seq (
  .reg [
    I 4 (.mov (.c (.int .i64 0)))] [4]) (
  .ret)) (
  .skip))) (
 .seq (
 .reg [
   I 11 (.mov (.t 5)),
   I 12 (.nilChk (.t 11)),
   I 13 (.fieldAddr 0 (.t 12)),
   I 14 (.load none (.t 13)),
   I 15 (.callQ 116 [(.t 14)]),
   I 4 (.mov (.t 15))] [4]) (
 .ret)))))⟩

/- (*sakia/engine.Engine[uint32]).Threads -/
def c225 : AFn := ⟨1, [.tmp 2], (
 .seq (
 .reg [
   I 2 (.mov (.c (.int .i64 0)))] [0]) (
 .seq (
 .seq (
 .reg [
   I 3 (.mov (.t 0)),
   I 4 (.isNil .ptr false (.t 3))] [0, 4]) (
 .cond (.t 4) (
  .seq (
  .reg [
    I 2 (.mov (.c (.int .i64 0)))] [2]) (
  .ret)) (
  .skip))) (
 .seq (
 .reg [
   I 5 (.mov (.t 0)),
   I 6 (.nilChk (.t 5)),
   I 7 (.fieldAddr 10 (.t 6)),
   I 8 (.load none (.t 7)),
   I 9 (.len false (.t 8)),
   I 2 (.mov (.t 9))] [2]) (
 .ret))))⟩

/- (*sakia/board.Board[uint32]).Log -/
def c226 : AFn := ⟨1, [.tmp 2], (
 .seq (
 .reg [
   I 2 (.mov (.c (.slice none 0 0)))] [0]) (
 .seq (
 .seq (
 .reg [
   I 3 (.mov (.t 0)),
   I 4 (.isNil .ptr false (.t 3))] [0, 4]) (
 .cond (.t 4) (
  .seq (
  .reg [
    I 2 (.mov (.c (.slice none 0 0)))] [2]) (
  .ret)) (
  .skip))) (
 .seq (
 .reg [
   I 5 (.buildSlice 5 #[.int .i64 0, .int .i64 0, .int .i64 0, .int .u64 0, .int .u64 0] 0 []),
   I 6 (.mov (.t 0)),
   I 7 (.nilChk (.t 6)),
   I 8 (.fieldAddr 16 (.t 7)),
   I 9 (.load none (.t 8)),
   I 10 (.append 5 40 (.t 5) (.t 9)),
   I 2 (.mov (.t 10))] [2]) (
 .ret))))⟩

/- (*sakia/board.Board[uint32]).Peek -/
def c227 : AFn := ⟨2, [.tmp 4], (
 .seq (
 .reg [
   I 4 (.mov (.c (.int .u64 0)))] [0, 1]) (
 .seq (
 .seq (
 .reg [
   I 5 (.mov (.t 0)),
   I 6 (.isNil .ptr false (.t 5)),
   I 7 (.mov (.t 6)),
   IG (some 8) (7, false) (.mov (.t 0)),
   IG (some 9) (7, false) (.nilChk (.t 8)),
   IG (some 10) (7, false) (.fieldAddr 0 (.t 9)),
   IG (some 11) (7, false) (.load (some 14) (.t 10)),
   IG (some 12) (7, false) (.mov (.t 1)),
   IG (some 13) (7, false) (.callQ 71 [(.t 11), (.t 12)]),
   IG (some 14) (7, false) (.bin .eql (.t 13) (.c (.int .i64 0))),
   I 15 (.pick (.t 7) (.c (.bool true)) (.t 14))] [0, 1, 15]) (
 .cond (.t 15) (
  .seq (
  .reg [
    I 4 (.mov (.c (.int .u64 0)))] [4]) (
  .ret)) (
  .skip))) (
 .seq (
 .seq (
 .reg [
   I 16 (.mov (.t 1)),
   I 17 (.mov (.t 0)),
   I 18 (.nilChk (.t 17)),
   I 19 (.fieldAddr 14 (.t 18)),
   I 20 (.load none (.t 19)),
   I 21 (.len false (.t 20)),
   I 22 (.bin .lss (.t 16) (.t 21))] [0, 1, 22]) (
 .cond (.t 22) (
  .seq (
  .reg [
    I 23 (.mov (.t 0)),
    I 24 (.nilChk (.t 23)),
    I 25 (.fieldAddr 14 (.t 24)),
    I 26 (.load none (.t 25)),
    I 27 (.mov (.t 1)),
    I 28 (.indexAddr none 1 (.t 26) (.t 27)),
    I 29 (.load none (.t 28)),
    I 30 (.callE 1 123 [(.t 29)]),
    I 4 (.mov (.t 30))] [4]) (
  .ret)) (
  .skip))) (
 .seq (
 .regd [0, 1, 2, 4, 5, 6, 7, 3, 8, 9, 10, 11, 12, 13, 14] [
   I 31 (.mov (.t 0)),
   I 32 (.nilChk (.t 31)),
   I 33 (.fieldAddr 15 (.t 32)),
   I 35 (.mov (.t 1)),
   I 36 (.mov (.t 0)),
   I 37 (.nilChk (.t 36)),
   I 38 (.fieldAddr 14 (.t 37)),
   I 34 (.load none (.t 33)),
   I 39 (.load none (.t 38)),
   I 40 (.len false (.t 39)),
   I 41 (.bin .sub (.t 35) (.t 40)),
   I 42 (.indexAddr none 1 (.t 34) (.t 41)),
   I 43 (.load none (.t 42)),
   I 44 (.conv .u64 (.t 43)),
   I 4 (.mov (.t 44))] [4]) (
 .ret)))))⟩

/- (*sakia/seqone.Seq[uint32]).Claim -/
def c231 : AFn := ⟨3, [.tmp 6], (
 .seq (
 .reg [
   I 6 (.mov (.c (.bool false)))] [0, 1, 2]) (
 .scope (
 .seq (
 .seq (
 .reg [
   I 7 (.mov (.t 0)),
   I 8 (.mov (.t 1)),
   I 9 (.mov (.t 2)),
   I 10 (.callQ 235 [(.t 7), (.t 8), (.t 9)]),
   I 11 (.un .not (.t 10))] [0, 1, 2, 11]) (
 .cond (.t 11) (
  .seq (
  .reg [
    I 6 (.mov (.c (.bool true)))] [6]) (
  .ret)) (
  .skip))) (
 .seq (
 .seq (
 .reg [
   I 12 (.mov (.t 2)),
   I 13 (.nilChk (.t 12)),
   I 14 (.fieldAddr 3 (.t 13)),
   I 15 (.load none (.t 14)),
   I 16 (.bin .eql (.t 15) (.c (.int .i64 1)))] [0, 1, 2, 16]) (
 .cond (.t 16) (
  .goto 0) (
  .skip))) (
 .seq (
 .reg [
   I 17 (.mov (.t 2)),
   I 18 (.mov (.t 0)),
   I 19 (.nilChk (.t 18)),
   I 20 (.fieldAddr 10 (.t 19)),
   I 21 (.load none (.t 20)),
   I 22 (.nilChk (.t 17)),
   I 23 (.fieldAddr 6 (.t 22)),
   I0 (.store 1 (.t 23) (.t 21))] [0, 1, 2]) (
 .seq (
 .seq (
 .reg [
   I 24 (.mov (.t 0)),
   I 25 (.mov (.t 2)),
   I 26 (.callQ 234 [(.t 24), (.t 25)])] [0, 1, 2, 26]) (
 .cond (.t 26) (
  .goto 1) (
  .skip))) (
 .seq (
 .reg [
   I 27 (.mov (.t 2)),
   I 28 (.mov (.t 2)),
   I 29 (.nilChk (.t 27)),
   I 30 (.fieldAddr 3 (.t 29)),
   I0 (.store 1 (.t 30) (.c (.int .i64 1))),
   I 31 (.nilChk (.t 28)),
   I 32 (.fieldAddr 4 (.t 31)),
   I0 (.store 1 (.t 32) (.c (.int .i64 0)))] [0, 1, 2]) (
 .seq (
 .label 0) (
 .seq (
 .seq (
 .regd [0, 1, 2, 4, 5, 6, 7, 9, 3, 8, 10, 11] [
   I 33 (.mov (.t 0)),
   I 34 (.nilChk (.t 33)),
   I 35 (.fieldAddr 0 (.t 34)),
   I 37 (.mov (.t 1)),
   I 38 (.mov (.t 0)),
   I 39 (.nilChk (.t 38)),
   I 40 (.fieldAddr 8 (.t 39)),
   I 42 (.mov (.t 2)),
   I 36 (.load none (.t 35)),
   I 41 (.load none (.t 40)),
   I 43 (.call 177 [(.t 36), (.t 37), (.t 41), (.t 42)]),
   I 44 (.un .not (.t 43))] [0, 1, 2, 44]) (
 .cond (.t 44) (
  .seq (
  .reg [
    I 6 (.mov (.c (.bool false)))] [6]) (
  .ret)) (
  .skip))) (
 .seq (
 .reg [
   I 45 (.mov (.t 0)),
   I 46 (.mov (.t 2)),
   I 47 (.nilChk (.t 46)),
   I 48 (.fieldAddr 7 (.t 47)),
   I 49 (.load none (.t 48)),
   I 50 (.nilChk (.t 45)),
   I 51 (.fieldAddr 11 (.t 50)),
   I0 (.store 1 (.t 51) (.t 49))] [0, 1, 2]) (
 .seq (
 .seq (
 .reg [
   I 52 (.mov (.t 0)),
   I 53 (.mov (.t 2)),
   I 54 (.callQ 234 [(.t 52), (.t 53)]),
   I 55 (.un .not (.t 54))] [0, 1, 2, 55]) (
 .cond (.t 55) (
  .seq (
  .reg [
    I 6 (.mov (.c (.bool false)))] [6]) (
  .ret)) (
  .skip))) (
 .seq (
 .label 1) (
 .seq (
 .regd [0, 1, 2, 3, 5, 6, 7, 4, 8, 9, 10, 11, 12] [
   I 56 (.mov (.t 0)),
   I 57 (.mov (.t 0)),
   I 58 (.nilChk (.t 57)),
   I 59 (.fieldAddr 10 (.t 58)),
   I 61 (.mov (.t 2)),
   I 62 (.nilChk (.t 61)),
   I 63 (.fieldAddr 1 (.t 62)),
   I 60 (.load none (.t 59)),
   I 64 (.load none (.t 63)),
   I 65 (.callE 1 156 [(.t 60), (.t 64)]),
   I 66 (.nilChk (.t 56)),
   I 67 (.fieldAddr 10 (.t 66)),
   I0 (.store 1 (.t 67) (.t 65))] [0, 1, 2]) (
 .seq (
 .reg [
   I 68 (.mov (.t 2)),
   I 69 (.nilChk (.t 68)),
   I 70 (.fieldAddr 3 (.t 69)),
   I0 (.store 1 (.t 70) (.c (.int .i64 0)))] [0, 1, 2]) (
 .seq (
 .regd [0, 1, 2, 4, 5, 6, 7, 9, 10, 11, 3, 8, 12, 13, 14, 15] [
   I 71 (.mov (.t 0)),
   I 72 (.nilChk (.t 71)),
   I 73 (.fieldAddr 1 (.t 72)),
   I 75 (.mov (.t 1)),
   I 76 (.mov (.t 2)),
   I 77 (.nilChk (.t 76)),
   I 78 (.fieldAddr 1 (.t 77)),
   I 80 (.mov (.t 2)),
   I 81 (.nilChk (.t 80)),
   I 82 (.fieldAddr 6 (.t 81)),
   I 74 (.load none (.t 73)),
   I 79 (.load none (.t 78)),
   I 83 (.load none (.t 82)),
   I 84 (.callE 1 123 [(.t 83)]),
   I 85 (.build #[.int .i64 0, .int .i64 0, .int .i64 0, .int .i64 0, .int .u64 0, .int .i64 0, .slice none 0 0] [((0, 1), (.c (.int .i64 3))), ((1, 1), (.t 75)), ((3, 1), (.t 79)), ((4, 1), (.t 84))]),
   I 86 (.call 32 [(.t 74), (.t 85)])] [0, 1]) (
 .seq (
 .reg [
   I 87 (.mov (.t 0)),
   I 88 (.nilChk (.t 87)),
   I 89 (.fieldAddr 1 (.t 88)),
   I 90 (.load none (.t 89)),
   I 91 (.mov (.t 1)),
   I 92 (.build #[.int .i64 0, .int .i64 0, .int .i64 0, .int .i64 0, .int .u64 0, .int .i64 0, .slice none 0 0] [((0, 1), (.c (.int .i64 4))), ((1, 1), (.t 91))]),
   I 93 (.call 32 [(.t 90), (.t 92)])] []) (
 .seq (
 .reg [
   I 6 (.mov (.c (.bool true)))] [6]) (
 .ret))))))))))))))))))⟩

/- (*sakia/seqone.Seq[uint32]).Publish -/
def c232 : AFn := ⟨3, [.tmp 6], (
 .seq (
 .reg [
   I 6 (.mov (.c (.bool false)))] [0, 1, 2]) (
 .seq (
 .seq (
 .reg [
   I 7 (.mov (.t 0)),
   I 8 (.mov (.t 1)),
   I 9 (.mov (.t 2)),
   I 10 (.callQ 235 [(.t 7), (.t 8), (.t 9)]),
   I 11 (.un .not (.t 10))] [0, 1, 2, 11]) (
 .cond (.t 11) (
  .seq (
  .reg [
    I 6 (.mov (.c (.bool true)))] [6]) (
  .ret)) (
  .skip))) (
 .seq (
 .regd [0, 1, 2, 4, 5, 6, 7, 9, 10, 11, 13, 14, 15, 3, 8, 12, 16, 17, 18] [
   I 12 (.mov (.t 0)),
   I 13 (.nilChk (.t 12)),
   I 14 (.fieldAddr 0 (.t 13)),
   I 16 (.mov (.t 1)),
   I 17 (.mov (.t 0)),
   I 18 (.nilChk (.t 17)),
   I 19 (.fieldAddr 9 (.t 18)),
   I 21 (.mov (.t 2)),
   I 22 (.nilChk (.t 21)),
   I 23 (.fieldAddr 6 (.t 22)),
   I 25 (.mov (.t 2)),
   I 26 (.nilChk (.t 25)),
   I 27 (.fieldAddr 1 (.t 26)),
   I 15 (.load none (.t 14)),
   I 20 (.load none (.t 19)),
   I 24 (.load none (.t 23)),
   I 28 (.load none (.t 27)),
   I 29 (.callE 1 156 [(.t 24), (.t 28)]),
   I 30 (.call 161 [(.t 15), (.t 16), (.t 20), (.t 29)])] [0, 1, 2]) (
 .seq (
 .regd [0, 1, 2, 4, 5, 6, 7, 9, 10, 11, 3, 8, 12, 13, 14, 15] [
   I 31 (.mov (.t 0)),
   I 32 (.nilChk (.t 31)),
   I 33 (.fieldAddr 1 (.t 32)),
   I 35 (.mov (.t 1)),
   I 36 (.mov (.t 2)),
   I 37 (.nilChk (.t 36)),
   I 38 (.fieldAddr 1 (.t 37)),
   I 40 (.mov (.t 2)),
   I 41 (.nilChk (.t 40)),
   I 42 (.fieldAddr 6 (.t 41)),
   I 34 (.load none (.t 33)),
   I 39 (.load none (.t 38)),
   I 43 (.load none (.t 42)),
   I 44 (.callE 1 123 [(.t 43)]),
   I 45 (.build #[.int .i64 0, .int .i64 0, .int .i64 0, .int .i64 0, .int .u64 0, .int .i64 0, .slice none 0 0] [((0, 1), (.c (.int .i64 5))), ((1, 1), (.t 35)), ((3, 1), (.t 39)), ((4, 1), (.t 44))]),
   I 46 (.call 32 [(.t 34), (.t 45)])] []) (
 .seq (
 .reg [
   I 6 (.mov (.c (.bool true)))] [6]) (
 .ret))))))⟩

/- (*sakia/seqone.Seq[uint32]).Tip -/
def c233 : AFn := ⟨3, [.tmp 6], (
 .seq (
 .reg [
   I 6 (.mov (.c (.bool false)))] [0, 1, 2]) (
 .seq (
 .seq (
 .reg [
   I 7 (.mov (.t 0)),
   I 8 (.isNil .ptr true (.t 7)),
   I 9 (.mov (.t 8)),
   IG (some 10) (9, true) (.mov (.t 2)),
   IG (some 11) (9, true) (.isNil .ptr true (.t 10)),
   I 12 (.pick (.t 9) (.t 11) (.c (.bool false)))] [0, 1, 2, 12]) (
 .cond (.t 12) (
  .regd [0, 1, 2, 3, 5, 6, 7, 8, 4, 9, 10, 11, 12, 13] [
    I 13 (.mov (.t 2)),
    I 14 (.mov (.t 0)),
    I 15 (.nilChk (.t 14)),
    I 16 (.fieldAddr 0 (.t 15)),
    I 18 (.mov (.t 1)),
    I 19 (.mov (.t 0)),
    I 20 (.nilChk (.t 19)),
    I 21 (.fieldAddr 9 (.t 20)),
    I 17 (.load none (.t 16)),
    I 22 (.load none (.t 21)),
    I 23 (.call 196 [(.t 17), (.t 18), (.t 22)]),
    I 24 (.nilChk (.t 13)),
    I 25 (.fieldAddr 8 (.t 24)),
    I0 (.store 1 (.t 25) (.t 23))] []) (
  .skip))) (
 .seq (
 .reg [
   I 6 (.mov (.c (.bool true)))] [6]) (
 .ret))))⟩

/- (*sakia/seqone.Seq[uint32]).fits -/
def c234 : AFn := ⟨2, [.tmp 4], (
 .seq (
 .reg [
   I 4 (.mov (.c (.bool false)))] [0, 1]) (
 .seq (
 .regd [0, 1, 2, 3, 5, 6, 7, 9, 10, 11, 13, 14, 15, 4, 8, 12, 16, 17, 18] [
   I 5 (.mov (.t 0)),
   I 6 (.nilChk (.t 5)),
   I 7 (.fieldAddr 2 (.t 6)),
   I 8 (.fieldAddr 2 (.t 7)),
   I 10 (.mov (.t 1)),
   I 11 (.nilChk (.t 10)),
   I 12 (.fieldAddr 6 (.t 11)),
   I 14 (.mov (.t 1)),
   I 15 (.nilChk (.t 14)),
   I 16 (.fieldAddr 1 (.t 15)),
   I 18 (.mov (.t 0)),
   I 19 (.nilChk (.t 18)),
   I 20 (.fieldAddr 11 (.t 19)),
   I 9 (.load none (.t 8)),
   I 13 (.load none (.t 12)),
   I 17 (.load none (.t 16)),
   I 21 (.load none (.t 20)),
   I 22 (.callE 1 236 [(.t 9), (.t 13), (.t 17), (.t 21)]),
   I 4 (.mov (.t 22))] [4]) (
 .ret)))⟩

/- (*sakia/seqone.Seq[uint32]).may -/
def c235 : AFn := ⟨3, [.tmp 6], (
 .seq (
 .reg [
   I 6 (.mov (.c (.bool false)))] [0, 1, 2]) (
 .seq (
 .regd [0, 1, 2, 3, 4, 5, 6, 7, 8, 9, 10, 11, 12, 13, 14, 15, 16, 17, 18, 19, 20, 21, 22, 23, 24, 25, 26, 27, 28, 29, 31, 32, 33, 34, 30, 35, 36, 37, 38] [
   I 7 (.mov (.t 0)),
   I 8 (.isNil .ptr true (.t 7)),
   I 9 (.mov (.t 8)),
   IG (some 10) (9, true) (.mov (.t 2)),
   IG (some 11) (9, true) (.isNil .ptr true (.t 10)),
   I 12 (.pick (.t 9) (.t 11) (.c (.bool false))),
   I 13 (.mov (.t 12)),
   IG (some 14) (13, true) (.mov (.t 1)),
   IG (some 15) (13, true) (.bin .geq (.t 14) (.c (.int .i64 0))),
   I 16 (.pick (.t 13) (.t 15) (.c (.bool false))),
   I 17 (.mov (.t 16)),
   IG (some 18) (17, true) (.mov (.t 1)),
   IG (some 19) (17, true) (.mov (.t 0)),
   IG (some 20) (17, true) (.nilChk (.t 19)),
   IG (some 21) (17, true) (.fieldAddr 2 (.t 20)),
   IG (some 22) (17, true) (.fieldAddr 3 (.t 21)),
   IG (some 23) (17, true) (.load none (.t 22)),
   IG (some 24) (17, true) (.bin .lss (.t 18) (.t 23)),
   I 25 (.pick (.t 17) (.t 24) (.c (.bool false))),
   I 26 (.mov (.t 25)),
   IG (some 27) (26, true) (.mov (.t 2)),
   IG (some 28) (26, true) (.nilChk (.t 27)),
   IG (some 29) (26, true) (.fieldAddr 1 (.t 28)),
   IG (some 30) (26, true) (.load none (.t 29)),
   IG (some 31) (26, true) (.bin .geq (.t 30) (.c (.int .i64 1))),
   I 32 (.pick (.t 26) (.t 31) (.c (.bool false))),
   I 33 (.mov (.t 32)),
   IG (some 34) (33, true) (.mov (.t 2)),
   IG (some 35) (33, true) (.nilChk (.t 34)),
   IG (some 36) (33, true) (.fieldAddr 1 (.t 35)),
   IG (some 38) (33, true) (.mov (.t 0)),
   IG (some 39) (33, true) (.nilChk (.t 38)),
   IG (some 40) (33, true) (.fieldAddr 2 (.t 39)),
   IG (some 41) (33, true) (.fieldAddr 2 (.t 40)),
   IG (some 37) (33, true) (.load none (.t 36)),
   IG (some 42) (33, true) (.load none (.t 41)),
   IG (some 43) (33, true) (.bin .leq (.t 37) (.t 42)),
   I 44 (.pick (.t 33) (.t 43) (.c (.bool false))),
   I 6 (.mov (.t 44))] [6]) (
 .ret)))⟩

/- sakia/gate.Fits[uint32] -/
def c236 : AFn := ⟨4, [.tmp 8], (
 .seq (
 .reg [
   I 8 (.mov (.c (.bool false)))] [0, 1, 2, 3]) (
 .seq (
 .reg [
   I 9 (.mov (.t 1)),
   I 10 (.mov (.t 2)),
   I 11 (.callE 1 156 [(.t 9), (.t 10)]),
   I 12 (.mov (.t 3)),
   I 13 (.callE 1 152 [(.t 11), (.t 12)]),
   I 14 (.mov (.t 0)),
   I 15 (.bin .leq (.t 13) (.t 14)),
   I 8 (.mov (.t 15))] [8]) (
 .ret)))⟩

/- (*sakia/seqcas.Seq[uint32]).Claim -/
def c237 : AFn := ⟨3, [.tmp 6], (
 .seq (
 .reg [
   I 6 (.mov (.c (.bool false)))] [0, 1, 2]) (
 .scope (
 .seq (
 .seq (
 .reg [
   I 7 (.mov (.t 0)),
   I 8 (.mov (.t 1)),
   I 9 (.mov (.t 2)),
   I 10 (.callQ 240 [(.t 7), (.t 8), (.t 9)]),
   I 11 (.un .not (.t 10))] [0, 1, 2, 11]) (
 .cond (.t 11) (
  .seq (
  .reg [
    I 6 (.mov (.c (.bool true)))] [6]) (
  .ret)) (
  .skip))) (
 .seq (
 .seq (
 .reg [
   I 12 (.mov (.t 2)),
   I 13 (.nilChk (.t 12)),
   I 14 (.fieldAddr 3 (.t 13)),
   I 15 (.load none (.t 14))] [0, 1, 2, 15]) (
 .block 0 (
  .seq (
  .reg [
    I 17 (.bin .eql (.t 15) (.c (.int .i64 1))),
    I 16 (.mov (.t 17))] [0, 1, 2, 15, 16]) (
  .cond (.t 16) (
   .goto 0) (
   .seq (
   .reg [
     I 19 (.bin .eql (.t 15) (.c (.int .i64 2))),
     I 18 (.mov (.t 19))] [0, 1, 2, 18]) (
   .cond (.t 18) (
    .goto 1) (
    .skip))))))) (
 .seq (
 .regd [0, 1, 2, 3, 4, 6, 7, 8, 9, 5, 10, 11, 12, 13, 14, 15, 16, 17] [
   I 20 (.mov (.t 2)),
   I 21 (.mov (.t 2)),
   I 22 (.mov (.t 0)),
   I 23 (.nilChk (.t 22)),
   I 24 (.fieldAddr 0 (.t 23)),
   I 26 (.mov (.t 1)),
   I 27 (.mov (.t 0)),
   I 28 (.nilChk (.t 27)),
   I 29 (.fieldAddr 9 (.t 28)),
   I 25 (.load none (.t 24)),
   I 30 (.load none (.t 29)),
   I 31 (.call 196 [(.t 25), (.t 26), (.t 30)]),
   I 32 (.nilChk (.t 20)),
   I 33 (.fieldAddr 6 (.t 32)),
   I0 (.store 1 (.t 33) (.t 31)),
   I 34 (.nilChk (.t 21)),
   I 35 (.fieldAddr 4 (.t 34)),
   I0 (.store 1 (.t 35) (.c (.int .i64 0)))] [0, 1, 2]) (
 .seq (
 .reg [
   I 36 (.mov (.t 2)),
   I 37 (.mov (.t 0)),
   I 38 (.mov (.t 1)),
   I 39 (.mov (.t 2)),
   I 40 (.callQ 241 [(.t 37), (.t 38), (.t 39), (.c (.int .i64 1))]),
   I 41 (.nilChk (.t 36)),
   I 42 (.fieldAddr 3 (.t 41)),
   I0 (.store 1 (.t 42) (.t 40))] []) (
 .seq (
 .seq (
 .reg [
   I 6 (.mov (.c (.bool false)))] [6]) (
 .ret)) (
 .seq (
 .label 0) (
 .seq (
 .seq (
 .regd [0, 1, 2, 4, 5, 6, 7, 9, 3, 8, 10] [
   I 43 (.mov (.t 0)),
   I 44 (.nilChk (.t 43)),
   I 45 (.fieldAddr 0 (.t 44)),
   I 47 (.mov (.t 1)),
   I 48 (.mov (.t 0)),
   I 49 (.nilChk (.t 48)),
   I 50 (.fieldAddr 8 (.t 49)),
   I 52 (.mov (.t 2)),
   I 46 (.load none (.t 45)),
   I 51 (.load none (.t 50)),
   I 53 (.call 177 [(.t 46), (.t 47), (.t 51), (.t 52)])] [0, 1, 2, 53]) (
 .cond (.t 53) (
  .seq (
  .regd [0, 1, 2, 4, 5, 6, 7, 3, 8, 9, 10] [
    I 54 (.mov (.t 0)),
    I 55 (.nilChk (.t 54)),
    I 56 (.fieldAddr 10 (.t 55)),
    I 58 (.mov (.t 1)),
    I 59 (.mov (.t 2)),
    I 60 (.nilChk (.t 59)),
    I 61 (.fieldAddr 7 (.t 60)),
    I 57 (.load none (.t 56)),
    I 62 (.load none (.t 61)),
    I 63 (.indexAddr none 1 (.t 57) (.t 58)),
    I0 (.store 1 (.t 63) (.t 62))] [0, 1, 2]) (
  .reg [
    I 64 (.mov (.t 2)),
    I 65 (.mov (.t 0)),
    I 66 (.mov (.t 1)),
    I 67 (.mov (.t 2)),
    I 68 (.callQ 241 [(.t 65), (.t 66), (.t 67), (.c (.int .i64 0))]),
    I 69 (.nilChk (.t 64)),
    I 70 (.fieldAddr 3 (.t 69)),
    I0 (.store 1 (.t 70) (.t 68))] [])) (
  .skip))) (
 .seq (
 .seq (
 .reg [
   I 6 (.mov (.c (.bool false)))] [6]) (
 .ret)) (
 .seq (
 .label 1) (
 .seq (
 .reg [
   I 71 (.mov (.t 2)),
   I 72 (.nilChk (.t 71)),
   I 73 (.fieldAddr 3 (.t 72)),
   I0 (.store 1 (.t 73) (.c (.int .i64 0)))] [0, 1, 2]) (
 .seq (
 .seq (
 .regd [0, 1, 2, 4, 5, 6, 7, 9, 10, 11, 13, 14, 15, 17, 18, 19, 3, 8, 12, 16, 20, 21, 22, 23] [
   I 74 (.mov (.t 0)),
   I 75 (.nilChk (.t 74)),
   I 76 (.fieldAddr 0 (.t 75)),
   I 78 (.mov (.t 1)),
   I 79 (.mov (.t 0)),
   I 80 (.nilChk (.t 79)),
   I 81 (.fieldAddr 9 (.t 80)),
   I 83 (.mov (.t 2)),
   I 84 (.nilChk (.t 83)),
   I 85 (.fieldAddr 6 (.t 84)),
   I 87 (.mov (.t 2)),
   I 88 (.nilChk (.t 87)),
   I 89 (.fieldAddr 6 (.t 88)),
   I 91 (.mov (.t 2)),
   I 92 (.nilChk (.t 91)),
   I 93 (.fieldAddr 1 (.t 92)),
   I 77 (.load none (.t 76)),
   I 82 (.load none (.t 81)),
   I 86 (.load none (.t 85)),
   I 90 (.load none (.t 89)),
   I 94 (.load none (.t 93)),
   I 95 (.callE 1 156 [(.t 90), (.t 94)]),
   I 96 (.call 242 [(.t 77), (.t 78), (.t 82), (.t 86), (.t 95)]),
   I 97 (.un .not (.t 96))] [0, 1, 2, 97]) (
 .cond (.t 97) (
  .seq (
  .reg [
    I 6 (.mov (.c (.bool false)))] [6]) (
  .ret)) (
  .skip))) (
 .seq (
 .regd [0, 1, 2, 4, 5, 6, 7, 9, 10, 11, 3, 8, 12, 13, 14, 15] [
   I 98 (.mov (.t 0)),
   I 99 (.nilChk (.t 98)),
   I 100 (.fieldAddr 1 (.t 99)),
   I 102 (.mov (.t 1)),
   I 103 (.mov (.t 2)),
   I 104 (.nilChk (.t 103)),
   I 105 (.fieldAddr 1 (.t 104)),
   I 107 (.mov (.t 2)),
   I 108 (.nilChk (.t 107)),
   I 109 (.fieldAddr 6 (.t 108)),
   I 101 (.load none (.t 100)),
   I 106 (.load none (.t 105)),
   I 110 (.load none (.t 109)),
   I 111 (.callE 1 123 [(.t 110)]),
   I 112 (.build #[.int .i64 0, .int .i64 0, .int .i64 0, .int .i64 0, .int .u64 0, .int .i64 0, .slice none 0 0] [((0, 1), (.c (.int .i64 3))), ((1, 1), (.t 102)), ((3, 1), (.t 106)), ((4, 1), (.t 111))]),
   I 113 (.call 32 [(.t 101), (.t 112)])] [0, 1]) (
 .seq (
 .reg [
   I 114 (.mov (.t 0)),
   I 115 (.nilChk (.t 114)),
   I 116 (.fieldAddr 1 (.t 115)),
   I 117 (.load none (.t 116)),
   I 118 (.mov (.t 1)),
   I 119 (.build #[.int .i64 0, .int .i64 0, .int .i64 0, .int .i64 0, .int .u64 0, .int .i64 0, .slice none 0 0] [((0, 1), (.c (.int .i64 4))), ((1, 1), (.t 118))]),
   I 120 (.call 32 [(.t 117), (.t 119)])] []) (
 .seq (
 .reg [
   I 6 (.mov (.c (.bool true)))] [6]) (
 .ret)))))))))))))))))⟩

/- (*sakia/seqcas.Seq[uint32]).Publish -/
def c238 : AFn := ⟨3, [.tmp 6], (
 .seq (
 .reg [
   I 6 (.mov (.c (.bool false)))] [0, 1, 2]) (
 .seq (
 .seq (
 .reg [
   I 9 (.mov (.t 0)),
   I 10 (.mov (.t 1)),
   I 11 (.mov (.t 2)),
   I 12 (.callQ 240 [(.t 9), (.t 10), (.t 11)]),
   I 13 (.un .not (.t 12))] [0, 1, 2, 13]) (
 .cond (.t 13) (
  .seq (
  .reg [
    I 6 (.mov (.c (.bool true)))] [6]) (
  .ret)) (
  .skip))) (
 .seq (
 .regd [0, 1, 2, 4, 5, 6, 3, 7, 8, 9] [
   I 14 (.mov (.t 2)),
   I 15 (.nilChk (.t 14)),
   I 16 (.fieldAddr 6 (.t 15)),
   I 18 (.mov (.t 2)),
   I 19 (.nilChk (.t 18)),
   I 20 (.fieldAddr 4 (.t 19)),
   I 17 (.load none (.t 16)),
   I 21 (.load none (.t 20)),
   I 22 (.callE 1 156 [(.t 17), (.t 21)]),
   I 7 (.mov (.t 22))] [0, 1, 2, 7]) (
 .seq (
 .reg [
   I 23 (.mov (.t 0)),
   I 24 (.nilChk (.t 23)),
   I 25 (.fieldAddr 0 (.t 24)),
   I 26 (.load none (.t 25)),
   I 27 (.mov (.t 1)),
   I 28 (.mov (.t 2)),
   I 29 (.call 243 [(.t 26), (.t 27), (.t 28)]),
   I 8 (.mov (.t 29))] [0, 1, 7, 8]) (
 .seq (
 .regd [0, 1, 2, 4, 5, 6, 7, 3, 8] [
   I 30 (.mov (.t 0)),
   I 31 (.nilChk (.t 30)),
   I 32 (.fieldAddr 1 (.t 31)),
   I 34 (.mov (.t 1)),
   I 35 (.mov (.t 7)),
   I 36 (.callE 1 123 [(.t 35)]),
   I 37 (.build #[.int .i64 0, .int .i64 0, .int .i64 0, .int .i64 0, .int .u64 0, .int .i64 0, .slice none 0 0] [((0, 1), (.c (.int .i64 5))), ((1, 1), (.t 34)), ((3, 1), (.c (.int .i64 1))), ((4, 1), (.t 36))]),
   I 33 (.load none (.t 32)),
   I 38 (.call 32 [(.t 33), (.t 37)])] [8]) (
 .seq (
 .reg [
   I 39 (.mov (.t 8)),
   I 6 (.mov (.t 39))] [6]) (
 .ret)))))))⟩

/- (*sakia/seqcas.Seq[uint32]).Tip -/
def c239 : AFn := ⟨3, [.tmp 6], (
 .seq (
 .reg [
   I 6 (.mov (.c (.bool false)))] [0, 1, 2]) (
 .seq (
 .reg [
   I 7 (.mov (.t 0)),
   I 8 (.isNil .ptr false (.t 7)),
   I 9 (.mov (.t 8)),
   IG (some 10) (9, false) (.mov (.t 2)),
   IG (some 11) (9, false) (.isNil .ptr false (.t 10)),
   I 12 (.pick (.t 9) (.c (.bool true)) (.t 11)),
   I 13 (.mov (.t 12)),
   IG (some 14) (13, false) (.mov (.t 0)),
   IG (some 15) (13, false) (.nilChk (.t 14)),
   IG (some 16) (13, false) (.fieldAddr 0 (.t 15)),
   IG (some 17) (13, false) (.load none (.t 16)),
   IG (some 18) (13, false) (.mov (.t 1)),
   IG (some 19) (13, false) (.mov (.t 2)),
   IG (some 20) (13, false) (.call 244 [(.t 17), (.t 18), (.t 19)]),
   I 21 (.pick (.t 13) (.c (.bool true)) (.t 20)),
   I 6 (.mov (.t 21))] [6]) (
 .ret)))⟩

/- (*sakia/seqcas.Seq[uint32]).may -/
def c240 : AFn := ⟨3, [.tmp 6], (
 .seq (
 .reg [
   I 6 (.mov (.c (.bool false)))] [0, 1, 2]) (
 .seq (
 .regd [0, 1, 2, 3, 4, 5, 6, 7, 8, 9, 10, 11, 12, 13, 14, 15, 16, 17, 18, 19, 20, 21, 22, 23, 24, 25, 26, 27, 28, 29, 31, 32, 33, 34, 30, 35, 36, 37, 38] [
   I 7 (.mov (.t 0)),
   I 8 (.isNil .ptr true (.t 7)),
   I 9 (.mov (.t 8)),
   IG (some 10) (9, true) (.mov (.t 2)),
   IG (some 11) (9, true) (.isNil .ptr true (.t 10)),
   I 12 (.pick (.t 9) (.t 11) (.c (.bool false))),
   I 13 (.mov (.t 12)),
   IG (some 14) (13, true) (.mov (.t 1)),
   IG (some 15) (13, true) (.bin .geq (.t 14) (.c (.int .i64 0))),
   I 16 (.pick (.t 13) (.t 15) (.c (.bool false))),
   I 17 (.mov (.t 16)),
   IG (some 18) (17, true) (.mov (.t 1)),
   IG (some 19) (17, true) (.mov (.t 0)),
   IG (some 20) (17, true) (.nilChk (.t 19)),
   IG (some 21) (17, true) (.fieldAddr 2 (.t 20)),
   IG (some 22) (17, true) (.fieldAddr 3 (.t 21)),
   IG (some 23) (17, true) (.load none (.t 22)),
   IG (some 24) (17, true) (.bin .lss (.t 18) (.t 23)),
   I 25 (.pick (.t 17) (.t 24) (.c (.bool false))),
   I 26 (.mov (.t 25)),
   IG (some 27) (26, true) (.mov (.t 2)),
   IG (some 28) (26, true) (.nilChk (.t 27)),
   IG (some 29) (26, true) (.fieldAddr 1 (.t 28)),
   IG (some 30) (26, true) (.load none (.t 29)),
   IG (some 31) (26, true) (.bin .geq (.t 30) (.c (.int .i64 1))),
   I 32 (.pick (.t 26) (.t 31) (.c (.bool false))),
   I 33 (.mov (.t 32)),
   IG (some 34) (33, true) (.mov (.t 2)),
   IG (some 35) (33, true) (.nilChk (.t 34)),
   IG (some 36) (33, true) (.fieldAddr 1 (.t 35)),
   IG (some 38) (33, true) (.mov (.t 0)),
   IG (some 39) (33, true) (.nilChk (.t 38)),
   IG (some 40) (33, true) (.fieldAddr 2 (.t 39)),
   IG (some 41) (33, true) (.fieldAddr 2 (.t 40)),
   IG (some 37) (33, true) (.load none (.t 36)),
   IG (some 42) (33, true) (.load none (.t 41)),
   IG (some 43) (33, true) (.bin .leq (.t 37) (.t 42)),
   I 44 (.pick (.t 33) (.t 43) (.c (.bool false))),
   I 6 (.mov (.t 44))] [6]) (
 .ret)))⟩

/- (*sakia/seqcas.Seq[uint32]).next -/
def c241 : AFn := ⟨4, [.tmp 8], (
 .seq (
 .reg [
   I 8 (.mov (.c (.int .i64 0)))] [0, 1, 2, 3]) (
 .seq (
 .seq (
 .regd [0, 1, 2, 3, 5, 6, 7, 9, 10, 11, 13, 14, 15, 17, 4, 8, 12, 16, 18, 19, 20] [
   I 9 (.mov (.t 0)),
   I 10 (.nilChk (.t 9)),
   I 11 (.fieldAddr 2 (.t 10)),
   I 12 (.fieldAddr 2 (.t 11)),
   I 14 (.mov (.t 2)),
   I 15 (.nilChk (.t 14)),
   I 16 (.fieldAddr 6 (.t 15)),
   I 18 (.mov (.t 2)),
   I 19 (.nilChk (.t 18)),
   I 20 (.fieldAddr 1 (.t 19)),
   I 22 (.mov (.t 0)),
   I 23 (.nilChk (.t 22)),
   I 24 (.fieldAddr 10 (.t 23)),
   I 26 (.mov (.t 1)),
   I 13 (.load none (.t 12)),
   I 17 (.load none (.t 16)),
   I 21 (.load none (.t 20)),
   I 25 (.load none (.t 24)),
   I 27 (.indexAddr none 1 (.t 25) (.t 26)),
   I 28 (.load none (.t 27)),
   I 29 (.callE 1 236 [(.t 13), (.t 17), (.t 21), (.t 28)])] [3, 29]) (
 .cond (.t 29) (
  .seq (
  .reg [
    I 8 (.mov (.c (.int .i64 2)))] [8]) (
  .ret)) (
  .skip))) (
 .seq (
 .reg [
   I 30 (.mov (.t 3)),
   I 8 (.mov (.t 30))] [8]) (
 .ret))))⟩

/- (*sakia/board.Board[uint32]).Swap -/
def c242 : AFn := ⟨5, [.tmp 10], (
 .seq (
 .reg [
   I 10 (.mov (.c (.bool false)))] [0, 1, 2, 3, 4]) (
 .seq (
 .seq (
 .reg [
   I 11 (.mov (.t 0)),
   I 12 (.mov (.t 2)),
   I 13 (.callQ 179 [(.t 11), (.t 12), (.c (.int .i64 1))]),
   I 14 (.un .not (.t 13))] [0, 1, 2, 3, 4, 14]) (
 .cond (.t 14) (
  .seq (
  .reg [
    I 10 (.mov (.c (.bool false)))] [10]) (
  .ret)) (
  .skip))) (
 .seq (
 .seq (
 .reg [
   I 15 (.mov (.t 0)),
   I 16 (.nilChk (.t 15)),
   I 17 (.fieldAddr 14 (.t 16)),
   I 18 (.load none (.t 17)),
   I 19 (.mov (.t 2)),
   I 20 (.indexAddr none 1 (.t 18) (.t 19)),
   I 21 (.load none (.t 20)),
   I 22 (.mov (.t 3)),
   I 23 (.bin .neq (.t 21) (.t 22))] [0, 1, 2, 4, 23]) (
 .cond (.t 23) (
  .seq (
  .reg [
    I 24 (.mov (.t 0)),
    I 25 (.mov (.t 1)),
    I 26 (.mov (.t 2)),
    I 27 (.call 198 [(.t 24), (.t 25), (.c (.int .i64 5)), (.t 26)])] []) (
  .seq (
  .reg [
    I 10 (.mov (.c (.bool false)))] [10]) (
  .ret))) (
  .skip))) (
 .seq (
 .reg [
   I 28 (.mov (.t 0)),
   I 29 (.mov (.t 1)),
   I 30 (.mov (.t 2)),
   I 31 (.mov (.t 4)),
   I 32 (.call 180 [(.t 28), (.t 29), (.c (.int .i64 4)), (.t 30), (.t 31)])] []) (
 .seq (
 .reg [
   I 10 (.mov (.c (.bool true)))] [10]) (
 .ret))))))⟩

/- sakia/mark.Publish[uint32] -/
def c243 : AFn := ⟨3, [.tmp 6], (
 .seq (
 .reg [
   I 6 (.mov (.c (.bool false)))] [0, 1, 2]) (
 .seq (
 .seq (
 .reg [
   I 7 (.mov (.t 0)),
   I 8 (.callQ 245 [(.t 7)]),
   I 9 (.un .not (.t 8)),
   I 10 (.mov (.t 9)),
   IG (some 11) (10, false) (.mov (.t 2)),
   IG (some 12) (10, false) (.isNil .ptr false (.t 11)),
   I 13 (.pick (.t 10) (.c (.bool true)) (.t 12))] [0, 1, 2, 13]) (
 .cond (.t 13) (
  .seq (
  .reg [
    I 6 (.mov (.c (.bool true)))] [6]) (
  .ret)) (
  .skip))) (
 .seq (
 .seq (
 .reg [
   I 14 (.mov (.t 2)),
   I 15 (.callQ 246 [(.t 14)])] [0, 1, 2, 15]) (
 .cond (.t 15) (
  .seq (
  .regd [0, 1, 2, 3, 4, 6, 7, 8, 5, 9, 10, 11] [
    I 16 (.mov (.t 0)),
    I 17 (.mov (.t 1)),
    I 18 (.mov (.t 2)),
    I 19 (.nilChk (.t 18)),
    I 20 (.fieldAddr 6 (.t 19)),
    I 22 (.mov (.t 2)),
    I 23 (.nilChk (.t 22)),
    I 24 (.fieldAddr 4 (.t 23)),
    I 21 (.load none (.t 20)),
    I 25 (.load none (.t 24)),
    I 26 (.callE 1 156 [(.t 21), (.t 25)]),
    I 27 (.call 247 [(.t 16), (.t 17), (.t 26)])] [2]) (
  .reg [
    I 28 (.mov (.t 2)),
    I 29 (.nilChk (.t 28)),
    I 30 (.fieldAddr 4 (.t 29)),
    I 31 (.load none (.t 30)),
    I 32 (.bin .add (.t 31) (.c (.int .i64 1))),
    I 33 (.nilChk (.t 28)),
    I 34 (.fieldAddr 4 (.t 33)),
    I0 (.store 1 (.t 34) (.t 32))] [2])) (
  .skip))) (
 .seq (
 .seq (
 .reg [
   I 35 (.mov (.t 2)),
   I 36 (.callQ 246 [(.t 35)])] [2, 36]) (
 .cond (.t 36) (
  .seq (
  .reg [
    I 6 (.mov (.c (.bool false)))] [6]) (
  .ret)) (
  .skip))) (
 .seq (
 .reg [
   I 37 (.mov (.t 2)),
   I 38 (.nilChk (.t 37)),
   I 39 (.fieldAddr 4 (.t 38)),
   I0 (.store 1 (.t 39) (.c (.int .i64 0)))] []) (
 .seq (
 .reg [
   I 6 (.mov (.c (.bool true)))] [6]) (
 .ret)))))))⟩

/- sakia/mark.Seek[uint32] -/
def c244 : AFn := ⟨3, [.tmp 6], (
 .seq (
 .reg [
   I 6 (.mov (.c (.bool false)))] [0, 1, 2]) (
 .seq (
 .seq (
 .reg [
   I 7 (.mov (.t 0)),
   I 8 (.callQ 245 [(.t 7)]),
   I 9 (.un .not (.t 8)),
   I 10 (.mov (.t 9)),
   IG (some 11) (10, false) (.mov (.t 2)),
   IG (some 12) (10, false) (.isNil .ptr false (.t 11)),
   I 13 (.pick (.t 10) (.c (.bool true)) (.t 12)),
   I 14 (.mov (.t 13)),
   IG (some 15) (14, false) (.mov (.t 0)),
   IG (some 16) (14, false) (.mov (.t 1)),
   IG (some 17) (14, false) (.mov (.t 2)),
   IG (some 18) (14, false) (.nilChk (.t 17)),
   IG (some 19) (14, false) (.fieldAddr 8 (.t 18)),
   IG (some 20) (14, false) (.load none (.t 19)),
   IG (some 21) (14, false) (.call 248 [(.t 15), (.t 16), (.t 20)]),
   IG (some 22) (14, false) (.un .not (.t 21)),
   I 23 (.pick (.t 14) (.c (.bool true)) (.t 22))] [2, 23]) (
 .cond (.t 23) (
  .seq (
  .reg [
    I 6 (.mov (.c (.bool true)))] [6]) (
  .ret)) (
  .skip))) (
 .seq (
 .reg [
   I 24 (.mov (.t 2)),
   I 25 (.mov (.t 2)),
   I 26 (.nilChk (.t 25)),
   I 27 (.fieldAddr 8 (.t 26)),
   I 28 (.load none (.t 27)),
   I 29 (.callE 1 156 [(.t 28), (.c (.int .i64 1))]),
   I 30 (.nilChk (.t 24)),
   I 31 (.fieldAddr 8 (.t 30)),
   I0 (.store 1 (.t 31) (.t 29))] []) (
 .seq (
 .reg [
   I 6 (.mov (.c (.bool false)))] [6]) (
 .ret)))))⟩

/- sakia/mark.Has[uint32] -/
def c245 : AFn := ⟨1, [.tmp 2], (
 .seq (
 .reg [
   I 2 (.mov (.c (.bool false)))] [0]) (
 .seq (
 .reg [
   I 3 (.mov (.t 0)),
   I 4 (.isNil .ptr true (.t 3)),
   I 5 (.mov (.t 4)),
   IG (some 6) (5, true) (.mov (.t 0)),
   IG (some 7) (5, true) (.callQ 249 [(.t 6)]),
   IG (some 8) (5, true) (.bin .neq (.t 7) (.c (.int .i64 0))),
   I 9 (.pick (.t 5) (.t 8) (.c (.bool false))),
   I 2 (.mov (.t 9))] [2]) (
 .ret)))⟩

/- sakia/mark.inside[uint32] -/
def c246 : AFn := ⟨1, [.tmp 2], (
 .seq (
 .reg [
   I 2 (.mov (.c (.bool false)))] [0]) (
 .seq (
 .regd [0, 1, 2, 3, 4, 5, 6, 7, 8, 10, 11, 12, 9, 13, 14, 15, 16] [
   I 3 (.mov (.t 0)),
   I 4 (.nilChk (.t 3)),
   I 5 (.fieldAddr 4 (.t 4)),
   I 6 (.load none (.t 5)),
   I 7 (.bin .geq (.t 6) (.c (.int .i64 0))),
   I 8 (.mov (.t 7)),
   IG (some 9) (8, true) (.mov (.t 0)),
   IG (some 10) (8, true) (.nilChk (.t 9)),
   IG (some 11) (8, true) (.fieldAddr 4 (.t 10)),
   IG (some 13) (8, true) (.mov (.t 0)),
   IG (some 14) (8, true) (.nilChk (.t 13)),
   IG (some 15) (8, true) (.fieldAddr 1 (.t 14)),
   IG (some 12) (8, true) (.load none (.t 11)),
   IG (some 16) (8, true) (.load none (.t 15)),
   IG (some 17) (8, true) (.bin .lss (.t 12) (.t 16)),
   I 18 (.pick (.t 8) (.t 17) (.c (.bool false))),
   I 2 (.mov (.t 18))] [2]) (
 .ret)))⟩

/- sakia/mark.lay[uint32] -/
def c247 : AFn := ⟨3, [], (
 .seq (
 .reg [
   I 9 (.mov (.t 0)),
   I 10 (.mov (.t 2)),
   I 11 (.callQ 250 [(.t 9), (.t 10)]),
   I 8 (.mov (.t 11)),
   I 12 (.extract (.t 8) 0),
   I 13 (.extract (.t 8) 1),
   I 6 (.mov (.t 12)),
   I 7 (.mov (.t 13))] [0, 1, 6, 7]) (
 .seq (
 .seq (
 .reg [
   I 14 (.mov (.t 0)),
   I 15 (.callQ 249 [(.t 14)]),
   I 16 (.bin .eql (.t 15) (.c (.int .i64 2)))] [0, 1, 6, 7, 16]) (
 .cond (.t 16) (
  .seq (
  .reg [
    I 17 (.mov (.t 0)),
    I 18 (.mov (.t 1)),
    I 19 (.mov (.t 6)),
    I 20 (.mov (.t 7)),
    I 21 (.call 251 [(.t 17), (.t 18), (.t 19), (.t 20)])] []) (
  .ret)) (
  .skip))) (
 .reg [
   I 22 (.mov (.t 0)),
   I 23 (.mov (.t 1)),
   I 24 (.mov (.t 6)),
   I 25 (.mov (.t 7)),
   I 26 (.call 161 [(.t 22), (.t 23), (.t 24), (.t 25)])] [])))⟩

/- sakia/mark.look[uint32] -/
def c248 : AFn := ⟨3, [.tmp 6], (
 .seq (
 .reg [
   I 6 (.mov (.c (.bool false)))] [0, 1, 2]) (
 .seq (
 .reg [
   I 10 (.mov (.t 0)),
   I 11 (.mov (.t 2)),
   I 12 (.callQ 250 [(.t 10), (.t 11)]),
   I 9 (.mov (.t 12)),
   I 13 (.extract (.t 9) 0),
   I 14 (.extract (.t 9) 1),
   I 7 (.mov (.t 13)),
   I 8 (.mov (.t 14))] [0, 1, 7, 8]) (
 .seq (
 .seq (
 .reg [
   I 15 (.mov (.t 0)),
   I 16 (.callQ 249 [(.t 15)]),
   I 17 (.bin .eql (.t 16) (.c (.int .i64 2)))] [0, 1, 7, 8, 17]) (
 .cond (.t 17) (
  .seq (
  .reg [
    I 18 (.mov (.t 0)),
    I 19 (.mov (.t 1)),
    I 20 (.mov (.t 7)),
    I 21 (.call 252 [(.t 18), (.t 19), (.t 20)]),
    I 22 (.mov (.t 8)),
    I 23 (.bin .eql (.t 21) (.t 22)),
    I 6 (.mov (.t 23))] [6]) (
  .ret)) (
  .skip))) (
 .seq (
 .reg [
   I 24 (.mov (.t 0)),
   I 25 (.mov (.t 1)),
   I 26 (.mov (.t 7)),
   I 27 (.call 196 [(.t 24), (.t 25), (.t 26)]),
   I 28 (.mov (.t 8)),
   I 29 (.bin .eql (.t 27) (.t 28)),
   I 6 (.mov (.t 29))] [6]) (
 .ret)))))⟩

/- sakia/mark.kind[uint32] -/
def c249 : AFn := ⟨1, [.tmp 2], (
 .seq (
 .reg [
   I 2 (.mov (.c (.int .i64 0)))] [0]) (
 .seq (
 .seq (
 .reg [
   I 3 (.mov (.t 0)),
   I 4 (.call 106 [(.t 3)]),
   I 5 (.field 0 (some 6) (.t 4)),
   I 6 (.field 0 none (.t 5))] [6]) (
 .block 0 (
  .seq (
  .block 3 (
   .block 2 (
    .seq (
    .block 1 (
     .seq (
     .seq (
     .seq (
     .reg [
       I 8 (.bin .eql (.t 6) (.c (.int .i64 5))),
       I 7 (.mov (.t 8))] [6, 7]) (
     .cond (.t 7) (
      .exit 1) (
      .skip))) (
     .seq (
     .seq (
     .reg [
       I 10 (.bin .eql (.t 6) (.c (.int .i64 2))),
       I 9 (.mov (.t 10))] [6, 9]) (
     .cond (.t 9) (
      .exit 2) (
      .skip))) (
     .seq (
     .reg [
       I 12 (.bin .eql (.t 6) (.c (.int .i64 3))),
       I 11 (.mov (.t 12))] [11]) (
     .cond (.t 11) (
      .exit 3) (
      .skip))))) (
     .exit 0))) (
    .seq (
    .seq (
    .reg [
      I 2 (.mov (.c (.int .i64 2)))] [2]) (
    .ret)) (
    .exit 0))))) (
  .seq (
  .seq (
  .reg [
    I 2 (.mov (.c (.int .i64 1)))] [2]) (
  .ret)) (
  .exit 0))))) (
 .seq (
 .reg [
   I 2 (.mov (.c (.int .i64 0)))] [2]) (
 .ret))))⟩

/- sakia/mark.cell[uint32] -/
def c250 : AFn := ⟨2, [.tmp 4, .tmp 5], (
 .seq (
 .reg [
   I 4 (.mov (.c (.int .i64 0))),
   I 5 (.mov (.c (.int .u32 0)))] [0, 1]) (
 .seq (
 .reg [
   I 7 (.mov (.t 0)),
   I 8 (.call 106 [(.t 7)]),
   I 6 (.alloc [.int .i64 0, .int .i64 0, .int .i64 0, .int .i64 0, .int .u64 0, .slice none 0 0, .int .i64 0, .int .i64 0, .int .i64 0, .int .i64 0, .int .i64 0, .int .i64 0, .int .i64 0, .int .i64 0]),
   I0 (.store 14 (.t 6) (.t 8))] [1, 6]) (
 .seq (
 .regd [1, 2, 4, 7, 8, 10, 0, 3, 5, 6, 9, 11, 12, 13] [
   I 10 (.fieldAddr 0 (.t 6)),
   I 11 (.fieldAddr 2 (.t 10)),
   I 13 (.mov (.t 1)),
   I 16 (.fieldAddr 0 (.t 6)),
   I 17 (.fieldAddr 2 (.t 16)),
   I 19 (.mov (.t 1)),
   I 9 (.load (some 14) (.t 6)),
   I 12 (.load none (.t 11)),
   I 14 (.callE 1 155 [(.t 12), (.t 13)]),
   I 15 (.callQ 253 [(.t 9), (.t 14)]),
   I 18 (.load none (.t 17)),
   I 20 (.callE 1 172 [(.t 18), (.t 19)]),
   I 4 (.mov (.t 15)),
   I 5 (.mov (.t 20))] [4, 5]) (
 .ret))))⟩

/- (*sakia/board.Board[uint32]).Write -/
def c251 : AFn := ⟨4, [], (
 .seq (
 .reg [
   I 8 (.mov (.t 0)),
   I 9 (.mov (.t 2)),
   I 10 (.callQ 179 [(.t 8), (.t 9), (.c (.int .i64 2))])] [0, 1, 2, 3, 10]) (
 .cond (.t 10) (
  .reg [
    I 11 (.mov (.t 0)),
    I 12 (.mov (.t 1)),
    I 13 (.mov (.t 2)),
    I 14 (.mov (.t 3)),
    I 15 (.call 180 [(.t 11), (.t 12), (.c (.int .i64 7)), (.t 13), (.t 14)])] []) (
  .skip)))⟩

/- (*sakia/board.Board[uint32]).Read -/
def c252 : AFn := ⟨3, [.tmp 6], (
 .seq (
 .reg [
   I 6 (.mov (.c (.int .u32 0)))] [0, 1, 2]) (
 .seq (
 .seq (
 .reg [
   I 7 (.mov (.t 0)),
   I 8 (.mov (.t 2)),
   I 9 (.callQ 179 [(.t 7), (.t 8), (.c (.int .i64 2))]),
   I 10 (.un .not (.t 9))] [0, 1, 2, 10]) (
 .cond (.t 10) (
  .seq (
  .reg [
    I 6 (.mov (.c (.int .u32 0)))] [6]) (
  .ret)) (
  .skip))) (
 .seq (
 .reg [
   I 11 (.mov (.t 0)),
   I 12 (.mov (.t 1)),
   I 13 (.mov (.t 2)),
   I 14 (.call 198 [(.t 11), (.t 12), (.c (.int .i64 6)), (.t 13)]),
   I 6 (.mov (.t 14))] [6]) (
 .ret))))⟩

/- (sakia/layout.Layout).Mark -/
def c253 : AFn := ⟨2, [.tmp 4], (
 .seq (
 .reg [
   I 2 (.box (.t 0)),
   I 4 (.mov (.c (.int .i64 0)))] [1, 2]) (
 .seq (
 .reg [
   I 5 (.load (some 14) (.t 2)),
   I 6 (.fieldAddr 11 (.t 2)),
   I 7 (.load none (.t 6)),
   I 8 (.mov (.t 1)),
   I 9 (.callQ 134 [(.t 5), (.t 7), (.t 8)]),
   I 4 (.mov (.t 9))] [4]) (
 .ret)))⟩

/- (*sakia/seqfaa.Seq[uint32]).Claim -/
def c254 : AFn := ⟨3, [.tmp 6], (
 .seq (
 .reg [
   I 6 (.mov (.c (.bool false)))] [0, 1, 2]) (
 .scope (
 .seq (
 .seq (
 .reg [
   I 7 (.mov (.t 0)),
   I 8 (.mov (.t 1)),
   I 9 (.mov (.t 2)),
   I 10 (.callQ 257 [(.t 7), (.t 8), (.t 9)]),
   I 11 (.un .not (.t 10))] [0, 1, 2, 11]) (
 .cond (.t 11) (
  .seq (
  .reg [
    I 6 (.mov (.c (.bool true)))] [6]) (
  .ret)) (
  .skip))) (
 .seq (
 .seq (
 .reg [
   I 12 (.mov (.t 2)),
   I 13 (.nilChk (.t 12)),
   I 14 (.fieldAddr 3 (.t 13)),
   I 15 (.load none (.t 14)),
   I 16 (.bin .neq (.t 15) (.c (.int .i64 0)))] [0, 1, 2, 16]) (
 .cond (.t 16) (
  .goto 0) (
  .skip))) (
 .seq (
 .regd [0, 1, 2, 3, 5, 6, 7, 8, 10, 11, 12, 4, 9, 13, 14, 15, 16, 17] [
   I 17 (.mov (.t 2)),
   I 18 (.mov (.t 0)),
   I 19 (.nilChk (.t 18)),
   I 20 (.fieldAddr 0 (.t 19)),
   I 22 (.mov (.t 1)),
   I 23 (.mov (.t 0)),
   I 24 (.nilChk (.t 23)),
   I 25 (.fieldAddr 9 (.t 24)),
   I 27 (.mov (.t 2)),
   I 28 (.nilChk (.t 27)),
   I 29 (.fieldAddr 1 (.t 28)),
   I 21 (.load none (.t 20)),
   I 26 (.load none (.t 25)),
   I 30 (.load none (.t 29)),
   I 31 (.call 258 [(.t 21), (.t 22), (.t 26), (.t 30)]),
   I 32 (.nilChk (.t 17)),
   I 33 (.fieldAddr 6 (.t 32)),
   I0 (.store 1 (.t 33) (.t 31))] [0, 1, 2]) (
 .seq (
 .regd [0, 1, 2, 4, 5, 6, 7, 9, 10, 11, 3, 8, 12, 13, 14, 15] [
   I 34 (.mov (.t 0)),
   I 35 (.nilChk (.t 34)),
   I 36 (.fieldAddr 1 (.t 35)),
   I 38 (.mov (.t 1)),
   I 39 (.mov (.t 2)),
   I 40 (.nilChk (.t 39)),
   I 41 (.fieldAddr 1 (.t 40)),
   I 43 (.mov (.t 2)),
   I 44 (.nilChk (.t 43)),
   I 45 (.fieldAddr 6 (.t 44)),
   I 37 (.load none (.t 36)),
   I 42 (.load none (.t 41)),
   I 46 (.load none (.t 45)),
   I 47 (.callE 1 123 [(.t 46)]),
   I 48 (.build #[.int .i64 0, .int .i64 0, .int .i64 0, .int .i64 0, .int .u64 0, .int .i64 0, .slice none 0 0] [((0, 1), (.c (.int .i64 3))), ((1, 1), (.t 38)), ((3, 1), (.t 42)), ((4, 1), (.t 47))]),
   I 49 (.call 32 [(.t 37), (.t 48)])] [0, 1, 2]) (
 .seq (
 .seq (
 .reg [
   I 50 (.mov (.t 0)),
   I 51 (.mov (.t 1)),
   I 52 (.mov (.t 2)),
   I 53 (.callQ 259 [(.t 50), (.t 51), (.t 52)])] [0, 1, 2, 53]) (
 .cond (.t 53) (
  .goto 1) (
  .skip))) (
 .seq (
 .reg [
   I 54 (.mov (.t 2)),
   I 55 (.mov (.t 2)),
   I 56 (.nilChk (.t 54)),
   I 57 (.fieldAddr 3 (.t 56)),
   I0 (.store 1 (.t 57) (.c (.int .i64 1))),
   I 58 (.nilChk (.t 55)),
   I 59 (.fieldAddr 4 (.t 58)),
   I0 (.store 1 (.t 59) (.c (.int .i64 0)))] []) (
 .seq (
 .seq (
 .reg [
   I 6 (.mov (.c (.bool false)))] [6]) (
 .ret)) (
 .seq (
 .label 0) (
 .seq (
 .seq (
 .regd [0, 1, 2, 4, 5, 6, 7, 9, 3, 8, 10, 11] [
   I 60 (.mov (.t 0)),
   I 61 (.nilChk (.t 60)),
   I 62 (.fieldAddr 0 (.t 61)),
   I 64 (.mov (.t 1)),
   I 65 (.mov (.t 0)),
   I 66 (.nilChk (.t 65)),
   I 67 (.fieldAddr 8 (.t 66)),
   I 69 (.mov (.t 2)),
   I 63 (.load none (.t 62)),
   I 68 (.load none (.t 67)),
   I 70 (.call 177 [(.t 63), (.t 64), (.t 68), (.t 69)]),
   I 71 (.un .not (.t 70))] [0, 1, 2, 71]) (
 .cond (.t 71) (
  .seq (
  .reg [
    I 6 (.mov (.c (.bool false)))] [6]) (
  .ret)) (
  .skip))) (
 .seq (
 .regd [0, 1, 2, 4, 5, 6, 7, 3, 8, 9, 10] [
   I 72 (.mov (.t 0)),
   I 73 (.nilChk (.t 72)),
   I 74 (.fieldAddr 10 (.t 73)),
   I 76 (.mov (.t 1)),
   I 77 (.mov (.t 2)),
   I 78 (.nilChk (.t 77)),
   I 79 (.fieldAddr 7 (.t 78)),
   I 75 (.load none (.t 74)),
   I 80 (.load none (.t 79)),
   I 81 (.indexAddr none 1 (.t 75) (.t 76)),
   I0 (.store 1 (.t 81) (.t 80))] [0, 1, 2]) (
 .seq (
 .seq (
 .reg [
   I 82 (.mov (.t 0)),
   I 83 (.mov (.t 1)),
   I 84 (.mov (.t 2)),
   I 85 (.callQ 259 [(.t 82), (.t 83), (.t 84)]),
   I 86 (.un .not (.t 85))] [0, 1, 2, 86]) (
 .cond (.t 86) (
  .seq (
  .reg [
    I 6 (.mov (.c (.bool false)))] [6]) (
  .ret)) (
  .skip))) (
 .seq (
 .label 1) (
 .seq (
 .reg [
   I 87 (.mov (.t 2)),
   I 88 (.nilChk (.t 87)),
   I 89 (.fieldAddr 3 (.t 88)),
   I0 (.store 1 (.t 89) (.c (.int .i64 0)))] [0, 1]) (
 .seq (
 .reg [
   I 90 (.mov (.t 0)),
   I 91 (.nilChk (.t 90)),
   I 92 (.fieldAddr 1 (.t 91)),
   I 93 (.load none (.t 92)),
   I 94 (.mov (.t 1)),
   I 95 (.build #[.int .i64 0, .int .i64 0, .int .i64 0, .int .i64 0, .int .u64 0, .int .i64 0, .slice none 0 0] [((0, 1), (.c (.int .i64 4))), ((1, 1), (.t 94))]),
   I 96 (.call 32 [(.t 93), (.t 95)])] []) (
 .seq (
 .reg [
   I 6 (.mov (.c (.bool true)))] [6]) (
 .ret))))))))))))))))))⟩

/- (*sakia/seqfaa.Seq[uint32]).Publish -/
def c255 : AFn := ⟨3, [.tmp 6], (
 .seq (
 .reg [
   I 6 (.mov (.c (.bool false)))] [0, 1, 2]) (
 .seq (
 .seq (
 .reg [
   I 9 (.mov (.t 0)),
   I 10 (.mov (.t 1)),
   I 11 (.mov (.t 2)),
   I 12 (.callQ 257 [(.t 9), (.t 10), (.t 11)]),
   I 13 (.un .not (.t 12))] [0, 1, 2, 13]) (
 .cond (.t 13) (
  .seq (
  .reg [
    I 6 (.mov (.c (.bool true)))] [6]) (
  .ret)) (
  .skip))) (
 .seq (
 .regd [0, 1, 2, 4, 5, 6, 3, 7, 8, 9] [
   I 14 (.mov (.t 2)),
   I 15 (.nilChk (.t 14)),
   I 16 (.fieldAddr 6 (.t 15)),
   I 18 (.mov (.t 2)),
   I 19 (.nilChk (.t 18)),
   I 20 (.fieldAddr 4 (.t 19)),
   I 17 (.load none (.t 16)),
   I 21 (.load none (.t 20)),
   I 22 (.callE 1 156 [(.t 17), (.t 21)]),
   I 7 (.mov (.t 22))] [0, 1, 2, 7]) (
 .seq (
 .reg [
   I 23 (.mov (.t 0)),
   I 24 (.nilChk (.t 23)),
   I 25 (.fieldAddr 0 (.t 24)),
   I 26 (.load none (.t 25)),
   I 27 (.mov (.t 1)),
   I 28 (.mov (.t 2)),
   I 29 (.call 243 [(.t 26), (.t 27), (.t 28)]),
   I 8 (.mov (.t 29))] [0, 1, 7, 8]) (
 .seq (
 .regd [0, 1, 2, 4, 5, 6, 7, 3, 8] [
   I 30 (.mov (.t 0)),
   I 31 (.nilChk (.t 30)),
   I 32 (.fieldAddr 1 (.t 31)),
   I 34 (.mov (.t 1)),
   I 35 (.mov (.t 7)),
   I 36 (.callE 1 123 [(.t 35)]),
   I 37 (.build #[.int .i64 0, .int .i64 0, .int .i64 0, .int .i64 0, .int .u64 0, .int .i64 0, .slice none 0 0] [((0, 1), (.c (.int .i64 5))), ((1, 1), (.t 34)), ((3, 1), (.c (.int .i64 1))), ((4, 1), (.t 36))]),
   I 33 (.load none (.t 32)),
   I 38 (.call 32 [(.t 33), (.t 37)])] [8]) (
 .seq (
 .reg [
   I 39 (.mov (.t 8)),
   I 6 (.mov (.t 39))] [6]) (
 .ret)))))))⟩

/- (*sakia/seqfaa.Seq[uint32]).Tip -/
def c256 : AFn := ⟨3, [.tmp 6], (
 .seq (
 .reg [
   I 6 (.mov (.c (.bool false)))] [0, 1, 2]) (
 .seq (
 .reg [
   I 7 (.mov (.t 0)),
   I 8 (.isNil .ptr false (.t 7)),
   I 9 (.mov (.t 8)),
   IG (some 10) (9, false) (.mov (.t 2)),
   IG (some 11) (9, false) (.isNil .ptr false (.t 10)),
   I 12 (.pick (.t 9) (.c (.bool true)) (.t 11)),
   I 13 (.mov (.t 12)),
   IG (some 14) (13, false) (.mov (.t 0)),
   IG (some 15) (13, false) (.nilChk (.t 14)),
   IG (some 16) (13, false) (.fieldAddr 0 (.t 15)),
   IG (some 17) (13, false) (.load none (.t 16)),
   IG (some 18) (13, false) (.mov (.t 1)),
   IG (some 19) (13, false) (.mov (.t 2)),
   IG (some 20) (13, false) (.call 244 [(.t 17), (.t 18), (.t 19)]),
   I 21 (.pick (.t 13) (.c (.bool true)) (.t 20)),
   I 6 (.mov (.t 21))] [6]) (
 .ret)))⟩

/- (*sakia/seqfaa.Seq[uint32]).may -/
def c257 : AFn := ⟨3, [.tmp 6], (
 .seq (
 .reg [
   I 6 (.mov (.c (.bool false)))] [0, 1, 2]) (
 .seq (
 .regd [0, 1, 2, 3, 4, 5, 6, 7, 8, 9, 10, 11, 12, 13, 14, 15, 16, 17, 18, 19, 20, 21, 22, 23, 24, 25, 26, 27, 28, 29, 31, 32, 33, 34, 30, 35, 36, 37, 38] [
   I 7 (.mov (.t 0)),
   I 8 (.isNil .ptr true (.t 7)),
   I 9 (.mov (.t 8)),
   IG (some 10) (9, true) (.mov (.t 2)),
   IG (some 11) (9, true) (.isNil .ptr true (.t 10)),
   I 12 (.pick (.t 9) (.t 11) (.c (.bool false))),
   I 13 (.mov (.t 12)),
   IG (some 14) (13, true) (.mov (.t 1)),
   IG (some 15) (13, true) (.bin .geq (.t 14) (.c (.int .i64 0))),
   I 16 (.pick (.t 13) (.t 15) (.c (.bool false))),
   I 17 (.mov (.t 16)),
   IG (some 18) (17, true) (.mov (.t 1)),
   IG (some 19) (17, true) (.mov (.t 0)),
   IG (some 20) (17, true) (.nilChk (.t 19)),
   IG (some 21) (17, true) (.fieldAddr 2 (.t 20)),
   IG (some 22) (17, true) (.fieldAddr 3 (.t 21)),
   IG (some 23) (17, true) (.load none (.t 22)),
   IG (some 24) (17, true) (.bin .lss (.t 18) (.t 23)),
   I 25 (.pick (.t 17) (.t 24) (.c (.bool false))),
   I 26 (.mov (.t 25)),
   IG (some 27) (26, true) (.mov (.t 2)),
   IG (some 28) (26, true) (.nilChk (.t 27)),
   IG (some 29) (26, true) (.fieldAddr 1 (.t 28)),
   IG (some 30) (26, true) (.load none (.t 29)),
   IG (some 31) (26, true) (.bin .geq (.t 30) (.c (.int .i64 1))),
   I 32 (.pick (.t 26) (.t 31) (.c (.bool false))),
   I 33 (.mov (.t 32)),
   IG (some 34) (33, true) (.mov (.t 2)),
   IG (some 35) (33, true) (.nilChk (.t 34)),
   IG (some 36) (33, true) (.fieldAddr 1 (.t 35)),
   IG (some 38) (33, true) (.mov (.t 0)),
   IG (some 39) (33, true) (.nilChk (.t 38)),
   IG (some 40) (33, true) (.fieldAddr 2 (.t 39)),
   IG (some 41) (33, true) (.fieldAddr 2 (.t 40)),
   IG (some 37) (33, true) (.load none (.t 36)),
   IG (some 42) (33, true) (.load none (.t 41)),
   IG (some 43) (33, true) (.bin .leq (.t 37) (.t 42)),
   I 44 (.pick (.t 33) (.t 43) (.c (.bool false))),
   I 6 (.mov (.t 44))] [6]) (
 .ret)))⟩

/- (*sakia/board.Board[uint32]).Add -/
def c258 : AFn := ⟨4, [.tmp 8], (
 .seq (
 .reg [
   I 8 (.mov (.c (.int .u32 0)))] [0, 1, 2, 3]) (
 .seq (
 .seq (
 .reg [
   I 9 (.mov (.t 0)),
   I 10 (.mov (.t 2)),
   I 11 (.callQ 179 [(.t 9), (.t 10), (.c (.int .i64 1))]),
   I 12 (.un .not (.t 11))] [0, 1, 2, 3, 12]) (
 .cond (.t 12) (
  .seq (
  .reg [
    I 8 (.mov (.c (.int .u32 0)))] [8]) (
  .ret)) (
  .skip))) (
 .seq (
 .reg [
   I 13 (.mov (.t 0)),
   I 14 (.mov (.t 1)),
   I 15 (.mov (.t 2)),
   I 16 (.mov (.t 0)),
   I 17 (.nilChk (.t 16)),
   I 18 (.fieldAddr 14 (.t 17)),
   I 19 (.load none (.t 18)),
   I 20 (.mov (.t 2)),
   I 21 (.indexAddr none 1 (.t 19) (.t 20)),
   I 22 (.load none (.t 21)),
   I 23 (.mov (.t 3)),
   I 24 (.callE 1 156 [(.t 22), (.t 23)]),
   I 25 (.call 180 [(.t 13), (.t 14), (.c (.int .i64 3)), (.t 15), (.t 24)]),
   I 8 (.mov (.t 25))] [8]) (
 .ret))))⟩

/- (*sakia/seqfaa.Seq[uint32]).fits -/
def c259 : AFn := ⟨3, [.tmp 6], (
 .seq (
 .reg [
   I 6 (.mov (.c (.bool false)))] [0, 1, 2]) (
 .seq (
 .regd [0, 1, 2, 3, 5, 6, 7, 9, 10, 11, 13, 14, 15, 17, 4, 8, 12, 16, 18, 19, 20, 21] [
   I 7 (.mov (.t 0)),
   I 8 (.nilChk (.t 7)),
   I 9 (.fieldAddr 2 (.t 8)),
   I 10 (.fieldAddr 2 (.t 9)),
   I 12 (.mov (.t 2)),
   I 13 (.nilChk (.t 12)),
   I 14 (.fieldAddr 6 (.t 13)),
   I 16 (.mov (.t 2)),
   I 17 (.nilChk (.t 16)),
   I 18 (.fieldAddr 1 (.t 17)),
   I 20 (.mov (.t 0)),
   I 21 (.nilChk (.t 20)),
   I 22 (.fieldAddr 10 (.t 21)),
   I 24 (.mov (.t 1)),
   I 11 (.load none (.t 10)),
   I 15 (.load none (.t 14)),
   I 19 (.load none (.t 18)),
   I 23 (.load none (.t 22)),
   I 25 (.indexAddr none 1 (.t 23) (.t 24)),
   I 26 (.load none (.t 25)),
   I 27 (.callE 1 236 [(.t 11), (.t 15), (.t 19), (.t 26)]),
   I 6 (.mov (.t 27))] [6]) (
 .ret)))⟩

/- (*sakia/seqstamp.Seq[uint32]).Claim -/
def c260 : AFn := ⟨3, [.tmp 6], (
 .seq (
 .reg [
   I 6 (.mov (.c (.bool false)))] [0, 1, 2]) (
 .scope (
 .seq (
 .seq (
 .reg [
   I 7 (.mov (.t 0)),
   I 8 (.mov (.t 1)),
   I 9 (.mov (.t 2)),
   I 10 (.callQ 264 [(.t 7), (.t 8), (.t 9)]),
   I 11 (.un .not (.t 10))] [0, 1, 2, 11]) (
 .cond (.t 11) (
  .seq (
  .reg [
    I 6 (.mov (.c (.bool true)))] [6]) (
  .ret)) (
  .skip))) (
 .seq (
 .seq (
 .reg [
   I 12 (.mov (.t 2)),
   I 13 (.nilChk (.t 12)),
   I 14 (.fieldAddr 3 (.t 13)),
   I 15 (.load none (.t 14))] [0, 1, 2, 15]) (
 .block 0 (
  .seq (
  .reg [
    I 17 (.bin .eql (.t 15) (.c (.int .i64 1))),
    I 16 (.mov (.t 17))] [0, 1, 2, 15, 16]) (
  .cond (.t 16) (
   .seq (
   .reg [
     I 18 (.mov (.t 2)),
     I 19 (.mov (.t 0)),
     I 20 (.mov (.t 1)),
     I 21 (.mov (.t 2)),
     I 22 (.call 265 [(.t 19), (.t 20), (.t 21)]),
     I 23 (.nilChk (.t 18)),
     I 24 (.fieldAddr 3 (.t 23)),
     I0 (.store 1 (.t 24) (.t 22))] []) (
   .seq (
   .reg [
     I 6 (.mov (.c (.bool false)))] [6]) (
   .ret))) (
   .seq (
   .reg [
     I 26 (.bin .eql (.t 15) (.c (.int .i64 2))),
     I 25 (.mov (.t 26))] [0, 1, 2, 15, 25]) (
   .cond (.t 25) (
    .goto 0) (
    .seq (
    .reg [
      I 28 (.bin .eql (.t 15) (.c (.int .i64 3))),
      I 27 (.mov (.t 28))] [0, 1, 2, 15, 27]) (
    .cond (.t 27) (
     .goto 1) (
     .seq (
     .reg [
       I 30 (.bin .eql (.t 15) (.c (.int .i64 4))),
       I 29 (.mov (.t 30))] [0, 1, 2, 29]) (
     .cond (.t 29) (
      .goto 2) (
      .skip))))))))))) (
 .seq (
 .regd [0, 1, 2, 3, 4, 5, 7, 8, 9, 10, 11, 6, 12, 13, 14, 15, 16, 17, 18, 19, 20, 21, 22] [
   I 31 (.mov (.t 2)),
   I 32 (.mov (.t 2)),
   I 33 (.mov (.t 2)),
   I 34 (.mov (.t 0)),
   I 35 (.nilChk (.t 34)),
   I 36 (.fieldAddr 0 (.t 35)),
   I 38 (.mov (.t 1)),
   I 39 (.mov (.t 0)),
   I 40 (.nilChk (.t 39)),
   I 41 (.fieldAddr 2 (.t 40)),
   I 42 (.fieldAddr 7 (.t 41)),
   I 37 (.load none (.t 36)),
   I 43 (.load none (.t 42)),
   I 44 (.call 196 [(.t 37), (.t 38), (.t 43)]),
   I 45 (.nilChk (.t 31)),
   I 46 (.fieldAddr 6 (.t 45)),
   I0 (.store 1 (.t 46) (.t 44)),
   I 47 (.nilChk (.t 32)),
   I 48 (.fieldAddr 5 (.t 47)),
   I0 (.store 1 (.t 48) (.c (.int .i64 0))),
   I 49 (.nilChk (.t 33)),
   I 50 (.fieldAddr 3 (.t 49)),
   I0 (.store 1 (.t 50) (.c (.int .i64 1)))] []) (
 .seq (
 .seq (
 .reg [
   I 6 (.mov (.c (.bool false)))] [6]) (
 .ret)) (
 .seq (
 .label 0) (
 .seq (
 .seq (
 .regd [0, 1, 2, 4, 5, 6, 7, 9, 3, 8, 10] [
   I 51 (.mov (.t 0)),
   I 52 (.nilChk (.t 51)),
   I 53 (.fieldAddr 0 (.t 52)),
   I 55 (.mov (.t 1)),
   I 56 (.mov (.t 0)),
   I 57 (.nilChk (.t 56)),
   I 58 (.fieldAddr 16 (.t 57)),
   I 60 (.mov (.t 2)),
   I 54 (.load none (.t 53)),
   I 59 (.load none (.t 58)),
   I 61 (.call 177 [(.t 54), (.t 55), (.t 59), (.t 60)])] [0, 1, 2, 61]) (
 .cond (.t 61) (
  .seq (
  .regd [0, 1, 2, 4, 5, 6, 7, 3, 8, 9, 10] [
    I 62 (.mov (.t 0)),
    I 63 (.nilChk (.t 62)),
    I 64 (.fieldAddr 17 (.t 63)),
    I 66 (.mov (.t 1)),
    I 67 (.mov (.t 2)),
    I 68 (.nilChk (.t 67)),
    I 69 (.fieldAddr 7 (.t 68)),
    I 65 (.load none (.t 64)),
    I 70 (.load none (.t 69)),
    I 71 (.indexAddr none 1 (.t 65) (.t 66)),
    I0 (.store 1 (.t 71) (.t 70))] [0, 1, 2]) (
  .reg [
    I 72 (.mov (.t 2)),
    I 73 (.mov (.t 0)),
    I 74 (.mov (.t 1)),
    I 75 (.mov (.t 2)),
    I 76 (.callQ 266 [(.t 73), (.t 74), (.t 75), (.c (.int .i64 0))]),
    I 77 (.nilChk (.t 72)),
    I 78 (.fieldAddr 3 (.t 77)),
    I0 (.store 1 (.t 78) (.t 76))] [])) (
  .skip))) (
 .seq (
 .seq (
 .reg [
   I 6 (.mov (.c (.bool false)))] [6]) (
 .ret)) (
 .seq (
 .label 1) (
 .seq (
 .regd [0, 1, 2, 4, 5, 6, 7, 10, 11, 13, 14, 3, 8, 9, 12, 15, 16] [
   I 79 (.mov (.t 0)),
   I 80 (.nilChk (.t 79)),
   I 81 (.fieldAddr 0 (.t 80)),
   I 83 (.mov (.t 1)),
   I 84 (.mov (.t 0)),
   I 85 (.mov (.t 0)),
   I 86 (.mov (.t 2)),
   I 89 (.mov (.t 0)),
   I 90 (.mov (.t 2)),
   I 92 (.mov (.t 0)),
   I 93 (.mov (.t 2)),
   I 82 (.load none (.t 81)),
   I 87 (.callQ 267 [(.t 85), (.t 86)]),
   I 88 (.callQ 263 [(.t 84), (.t 87)]),
   I 91 (.callQ 268 [(.t 89), (.t 90)]),
   I 94 (.callQ 267 [(.t 92), (.t 93)]),
   I 95 (.call 242 [(.t 82), (.t 83), (.t 88), (.t 91), (.t 94)])] [2]) (
 .seq (
 .reg [
   I 96 (.mov (.t 2)),
   I 97 (.nilChk (.t 96)),
   I 98 (.fieldAddr 3 (.t 97)),
   I0 (.store 1 (.t 98) (.c (.int .i64 1)))] []) (
 .seq (
 .seq (
 .reg [
   I 6 (.mov (.c (.bool false)))] [6]) (
 .ret)) (
 .seq (
 .label 2) (
 .seq (
 .reg [
   I 99 (.mov (.t 2)),
   I 100 (.nilChk (.t 99)),
   I 101 (.fieldAddr 3 (.t 100)),
   I0 (.store 1 (.t 101) (.c (.int .i64 0)))] [0, 1, 2]) (
 .seq (
 .seq (
 .regd [0, 1, 2, 4, 5, 6, 7, 8, 10, 11, 12, 14, 15, 16, 18, 19, 20, 3, 9, 13, 17, 21, 22, 23, 24] [
   I 102 (.mov (.t 0)),
   I 103 (.nilChk (.t 102)),
   I 104 (.fieldAddr 0 (.t 103)),
   I 106 (.mov (.t 1)),
   I 107 (.mov (.t 0)),
   I 108 (.nilChk (.t 107)),
   I 109 (.fieldAddr 2 (.t 108)),
   I 110 (.fieldAddr 7 (.t 109)),
   I 112 (.mov (.t 2)),
   I 113 (.nilChk (.t 112)),
   I 114 (.fieldAddr 6 (.t 113)),
   I 116 (.mov (.t 2)),
   I 117 (.nilChk (.t 116)),
   I 118 (.fieldAddr 6 (.t 117)),
   I 120 (.mov (.t 2)),
   I 121 (.nilChk (.t 120)),
   I 122 (.fieldAddr 1 (.t 121)),
   I 105 (.load none (.t 104)),
   I 111 (.load none (.t 110)),
   I 115 (.load none (.t 114)),
   I 119 (.load none (.t 118)),
   I 123 (.load none (.t 122)),
   I 124 (.callE 1 156 [(.t 119), (.t 123)]),
   I 125 (.call 242 [(.t 105), (.t 106), (.t 111), (.t 115), (.t 124)]),
   I 126 (.un .not (.t 125))] [0, 1, 2, 126]) (
 .cond (.t 126) (
  .seq (
  .reg [
    I 6 (.mov (.c (.bool false)))] [6]) (
  .ret)) (
  .skip))) (
 .seq (
 .regd [0, 1, 2, 4, 5, 6, 7, 9, 10, 11, 3, 8, 12, 13, 14, 15] [
   I 127 (.mov (.t 0)),
   I 128 (.nilChk (.t 127)),
   I 129 (.fieldAddr 1 (.t 128)),
   I 131 (.mov (.t 1)),
   I 132 (.mov (.t 2)),
   I 133 (.nilChk (.t 132)),
   I 134 (.fieldAddr 1 (.t 133)),
   I 136 (.mov (.t 2)),
   I 137 (.nilChk (.t 136)),
   I 138 (.fieldAddr 6 (.t 137)),
   I 130 (.load none (.t 129)),
   I 135 (.load none (.t 134)),
   I 139 (.load none (.t 138)),
   I 140 (.callE 1 123 [(.t 139)]),
   I 141 (.build #[.int .i64 0, .int .i64 0, .int .i64 0, .int .i64 0, .int .u64 0, .int .i64 0, .slice none 0 0] [((0, 1), (.c (.int .i64 3))), ((1, 1), (.t 131)), ((3, 1), (.t 135)), ((4, 1), (.t 140))]),
   I 142 (.call 32 [(.t 130), (.t 141)])] [0, 1]) (
 .seq (
 .reg [
   I 143 (.mov (.t 0)),
   I 144 (.nilChk (.t 143)),
   I 145 (.fieldAddr 1 (.t 144)),
   I 146 (.load none (.t 145)),
   I 147 (.mov (.t 1)),
   I 148 (.build #[.int .i64 0, .int .i64 0, .int .i64 0, .int .i64 0, .int .u64 0, .int .i64 0, .slice none 0 0] [((0, 1), (.c (.int .i64 4))), ((1, 1), (.t 147))]),
   I 149 (.call 32 [(.t 146), (.t 148)])] []) (
 .seq (
 .reg [
   I 6 (.mov (.c (.bool true)))] [6]) (
 .ret))))))))))))))))))))⟩

/- (*sakia/seqstamp.Seq[uint32]).Publish -/
def c261 : AFn := ⟨3, [.tmp 6], (
 .seq (
 .reg [
   I 6 (.mov (.c (.bool false)))] [0, 1, 2]) (
 .seq (
 .seq (
 .reg [
   I 8 (.mov (.t 0)),
   I 9 (.mov (.t 1)),
   I 10 (.mov (.t 2)),
   I 11 (.callQ 264 [(.t 8), (.t 9), (.t 10)]),
   I 12 (.un .not (.t 11))] [0, 1, 2, 12]) (
 .cond (.t 12) (
  .seq (
  .reg [
    I 6 (.mov (.c (.bool true)))] [6]) (
  .ret)) (
  .skip))) (
 .seq (
 .regd [0, 1, 2, 4, 5, 6, 3, 7, 8, 9] [
   I 13 (.mov (.t 2)),
   I 14 (.nilChk (.t 13)),
   I 15 (.fieldAddr 6 (.t 14)),
   I 17 (.mov (.t 2)),
   I 18 (.nilChk (.t 17)),
   I 19 (.fieldAddr 4 (.t 18)),
   I 16 (.load none (.t 15)),
   I 20 (.load none (.t 19)),
   I 21 (.callE 1 156 [(.t 16), (.t 20)]),
   I 7 (.mov (.t 21))] [0, 1, 2, 7]) (
 .seq (
 .regd [0, 1, 2, 4, 5, 6, 8, 3, 7, 9, 10] [
   I 22 (.mov (.t 0)),
   I 23 (.nilChk (.t 22)),
   I 24 (.fieldAddr 0 (.t 23)),
   I 26 (.mov (.t 1)),
   I 27 (.mov (.t 0)),
   I 28 (.mov (.t 7)),
   I 30 (.mov (.t 7)),
   I 25 (.load none (.t 24)),
   I 29 (.callQ 263 [(.t 27), (.t 28)]),
   I 31 (.callE 1 156 [(.t 30), (.c (.int .i64 1))]),
   I 32 (.call 161 [(.t 25), (.t 26), (.t 29), (.t 31)])] [0, 1, 2, 7]) (
 .seq (
 .regd [0, 1, 2, 4, 5, 6, 7, 3, 8] [
   I 33 (.mov (.t 0)),
   I 34 (.nilChk (.t 33)),
   I 35 (.fieldAddr 1 (.t 34)),
   I 37 (.mov (.t 1)),
   I 38 (.mov (.t 7)),
   I 39 (.callE 1 123 [(.t 38)]),
   I 40 (.build #[.int .i64 0, .int .i64 0, .int .i64 0, .int .i64 0, .int .u64 0, .int .i64 0, .slice none 0 0] [((0, 1), (.c (.int .i64 5))), ((1, 1), (.t 37)), ((3, 1), (.c (.int .i64 1))), ((4, 1), (.t 39))]),
   I 36 (.load none (.t 35)),
   I 41 (.call 32 [(.t 36), (.t 40)])] [2]) (
 .seq (
 .reg [
   I 42 (.mov (.t 2)),
   I 43 (.nilChk (.t 42)),
   I 44 (.fieldAddr 4 (.t 43)),
   I 45 (.load none (.t 44)),
   I 46 (.bin .add (.t 45) (.c (.int .i64 1))),
   I 47 (.nilChk (.t 42)),
   I 48 (.fieldAddr 4 (.t 47)),
   I0 (.store 1 (.t 48) (.t 46))] [2]) (
 .seq (
 .seq (
 .regd [0, 1, 2, 4, 5, 6, 3, 7, 8] [
   I 49 (.mov (.t 2)),
   I 50 (.nilChk (.t 49)),
   I 51 (.fieldAddr 4 (.t 50)),
   I 53 (.mov (.t 2)),
   I 54 (.nilChk (.t 53)),
   I 55 (.fieldAddr 1 (.t 54)),
   I 52 (.load none (.t 51)),
   I 56 (.load none (.t 55)),
   I 57 (.bin .lss (.t 52) (.t 56))] [2, 57]) (
 .cond (.t 57) (
  .seq (
  .reg [
    I 6 (.mov (.c (.bool false)))] [6]) (
  .ret)) (
  .skip))) (
 .seq (
 .reg [
   I 58 (.mov (.t 2)),
   I 59 (.nilChk (.t 58)),
   I 60 (.fieldAddr 4 (.t 59)),
   I0 (.store 1 (.t 60) (.c (.int .i64 0)))] []) (
 .seq (
 .reg [
   I 6 (.mov (.c (.bool true)))] [6]) (
 .ret))))))))))⟩

/- (*sakia/seqstamp.Seq[uint32]).Tip -/
def c262 : AFn := ⟨3, [.tmp 6], (
 .seq (
 .reg [
   I 6 (.mov (.c (.bool false)))] [0, 1, 2]) (
 .seq (
 .seq (
 .reg [
   I 7 (.mov (.t 0)),
   I 8 (.isNil .ptr false (.t 7)),
   I 9 (.mov (.t 8)),
   IG (some 10) (9, false) (.mov (.t 2)),
   IG (some 11) (9, false) (.isNil .ptr false (.t 10)),
   I 12 (.pick (.t 9) (.c (.bool true)) (.t 11))] [0, 1, 2, 12]) (
 .cond (.t 12) (
  .seq (
  .reg [
    I 6 (.mov (.c (.bool true)))] [6]) (
  .ret)) (
  .skip))) (
 .seq (
 .seq (
 .regd [0, 1, 2, 4, 5, 6, 7, 8, 12, 13, 14, 3, 9, 10, 15, 11, 16, 17] [
   I 13 (.mov (.t 0)),
   I 14 (.nilChk (.t 13)),
   I 15 (.fieldAddr 0 (.t 14)),
   I 17 (.mov (.t 1)),
   I 18 (.mov (.t 0)),
   I 19 (.mov (.t 2)),
   I 20 (.nilChk (.t 19)),
   I 21 (.fieldAddr 8 (.t 20)),
   I 25 (.mov (.t 2)),
   I 26 (.nilChk (.t 25)),
   I 27 (.fieldAddr 8 (.t 26)),
   I 16 (.load none (.t 15)),
   I 22 (.load none (.t 21)),
   I 23 (.callQ 263 [(.t 18), (.t 22)]),
   I 28 (.load none (.t 27)),
   I 24 (.hold [(none, (.t 27))] (.call 196 [(.t 16), (.t 17), (.t 23)])),
   I 29 (.callE 1 156 [(.t 28), (.c (.int .i64 1))]),
   I 30 (.bin .neq (.t 24) (.t 29))] [2, 30]) (
 .cond (.t 30) (
  .seq (
  .reg [
    I 6 (.mov (.c (.bool true)))] [6]) (
  .ret)) (
  .skip))) (
 .seq (
 .reg [
   I 31 (.mov (.t 2)),
   I 32 (.mov (.t 2)),
   I 33 (.nilChk (.t 32)),
   I 34 (.fieldAddr 8 (.t 33)),
   I 35 (.load none (.t 34)),
   I 36 (.callE 1 156 [(.t 35), (.c (.int .i64 1))]),
   I 37 (.nilChk (.t 31)),
   I 38 (.fieldAddr 8 (.t 37)),
   I0 (.store 1 (.t 38) (.t 36))] []) (
 .seq (
 .reg [
   I 6 (.mov (.c (.bool false)))] [6]) (
 .ret))))))⟩

/- (*sakia/seqstamp.Seq[uint32]).stamp -/
def c263 : AFn := ⟨2, [.tmp 4], (
 .seq (
 .reg [
   I 4 (.mov (.c (.int .i64 0)))] [0, 1]) (
 .seq (
 .regd [0, 1, 2, 4, 5, 6, 7, 8, 10, 3, 9, 11, 12, 13] [
   I 5 (.mov (.t 0)),
   I 6 (.nilChk (.t 5)),
   I 7 (.fieldAddr 2 (.t 6)),
   I 9 (.mov (.t 0)),
   I 10 (.nilChk (.t 9)),
   I 11 (.fieldAddr 2 (.t 10)),
   I 12 (.fieldAddr 0 (.t 11)),
   I 13 (.fieldAddr 2 (.t 12)),
   I 15 (.mov (.t 1)),
   I 8 (.load (some 14) (.t 7)),
   I 14 (.load none (.t 13)),
   I 16 (.callE 1 155 [(.t 14), (.t 15)]),
   I 17 (.callQ 253 [(.t 8), (.t 16)]),
   I 4 (.mov (.t 17))] [4]) (
 .ret)))⟩

/- (*sakia/seqstamp.Seq[uint32]).may -/
def c264 : AFn := ⟨3, [.tmp 6], (
 .seq (
 .reg [
   I 6 (.mov (.c (.bool false)))] [0, 1, 2]) (
 .seq (
 .regd [0, 1, 2, 3, 4, 5, 6, 7, 8, 9, 10, 11, 12, 13, 14, 15, 16, 17, 18, 19, 20, 21, 22, 23, 24, 25, 26, 27, 28, 29, 30, 32, 33, 34, 35, 36, 31, 37, 38, 39, 40] [
   I 7 (.mov (.t 0)),
   I 8 (.isNil .ptr true (.t 7)),
   I 9 (.mov (.t 8)),
   IG (some 10) (9, true) (.mov (.t 2)),
   IG (some 11) (9, true) (.isNil .ptr true (.t 10)),
   I 12 (.pick (.t 9) (.t 11) (.c (.bool false))),
   I 13 (.mov (.t 12)),
   IG (some 14) (13, true) (.mov (.t 1)),
   IG (some 15) (13, true) (.bin .geq (.t 14) (.c (.int .i64 0))),
   I 16 (.pick (.t 13) (.t 15) (.c (.bool false))),
   I 17 (.mov (.t 16)),
   IG (some 18) (17, true) (.mov (.t 1)),
   IG (some 19) (17, true) (.mov (.t 0)),
   IG (some 20) (17, true) (.nilChk (.t 19)),
   IG (some 21) (17, true) (.fieldAddr 2 (.t 20)),
   IG (some 22) (17, true) (.fieldAddr 0 (.t 21)),
   IG (some 23) (17, true) (.fieldAddr 3 (.t 22)),
   IG (some 24) (17, true) (.load none (.t 23)),
   IG (some 25) (17, true) (.bin .lss (.t 18) (.t 24)),
   I 26 (.pick (.t 17) (.t 25) (.c (.bool false))),
   I 27 (.mov (.t 26)),
   IG (some 28) (27, true) (.mov (.t 2)),
   IG (some 29) (27, true) (.nilChk (.t 28)),
   IG (some 30) (27, true) (.fieldAddr 1 (.t 29)),
   IG (some 31) (27, true) (.load none (.t 30)),
   IG (some 32) (27, true) (.bin .geq (.t 31) (.c (.int .i64 1))),
   I 33 (.pick (.t 27) (.t 32) (.c (.bool false))),
   I 34 (.mov (.t 33)),
   IG (some 35) (34, true) (.mov (.t 2)),
   IG (some 36) (34, true) (.nilChk (.t 35)),
   IG (some 37) (34, true) (.fieldAddr 1 (.t 36)),
   IG (some 39) (34, true) (.mov (.t 0)),
   IG (some 40) (34, true) (.nilChk (.t 39)),
   IG (some 41) (34, true) (.fieldAddr 2 (.t 40)),
   IG (some 42) (34, true) (.fieldAddr 0 (.t 41)),
   IG (some 43) (34, true) (.fieldAddr 2 (.t 42)),
   IG (some 38) (34, true) (.load none (.t 37)),
   IG (some 44) (34, true) (.load none (.t 43)),
   IG (some 45) (34, true) (.bin .leq (.t 38) (.t 44)),
   I 46 (.pick (.t 34) (.t 45) (.c (.bool false))),
   I 6 (.mov (.t 46))] [6]) (
 .ret)))⟩

/- (*sakia/seqstamp.Seq[uint32]).look -/
def c265 : AFn := ⟨3, [.tmp 6], (
 .seq (
 .reg [
   I 6 (.mov (.c (.int .i64 0)))] [0, 1, 2]) (
 .seq (
 .seq (
 .regd [0, 1, 2, 4, 5, 6, 7, 3, 8, 9, 10] [
   I 7 (.mov (.t 0)),
   I 8 (.nilChk (.t 7)),
   I 9 (.fieldAddr 0 (.t 8)),
   I 11 (.mov (.t 1)),
   I 12 (.mov (.t 0)),
   I 13 (.mov (.t 0)),
   I 14 (.mov (.t 2)),
   I 10 (.load none (.t 9)),
   I 15 (.callQ 267 [(.t 13), (.t 14)]),
   I 16 (.callQ 263 [(.t 12), (.t 15)]),
   I 17 (.call 196 [(.t 10), (.t 11), (.t 16)])] [0, 1, 2, 17]) (
 .block 0 (
  .seq (
  .reg [
    I 19 (.mov (.t 0)),
    I 20 (.mov (.t 2)),
    I 21 (.callQ 267 [(.t 19), (.t 20)]),
    I 22 (.bin .eql (.t 17) (.t 21)),
    I 18 (.mov (.t 22))] [0, 1, 2, 17, 18]) (
  .cond (.t 18) (
   .seq (
   .reg [
     I 23 (.mov (.t 2)),
     I 24 (.nilChk (.t 23)),
     I 25 (.fieldAddr 5 (.t 24)),
     I 26 (.load none (.t 25)),
     I 27 (.bin .add (.t 26) (.c (.int .i64 1))),
     I 28 (.nilChk (.t 23)),
     I 29 (.fieldAddr 5 (.t 28)),
     I0 (.store 1 (.t 29) (.t 27))] [2]) (
   .seq (
   .seq (
   .regd [0, 1, 2, 4, 5, 6, 3, 7, 8] [
     I 30 (.mov (.t 2)),
     I 31 (.nilChk (.t 30)),
     I 32 (.fieldAddr 5 (.t 31)),
     I 34 (.mov (.t 2)),
     I 35 (.nilChk (.t 34)),
     I 36 (.fieldAddr 1 (.t 35)),
     I 33 (.load none (.t 32)),
     I 37 (.load none (.t 36)),
     I 38 (.bin .eql (.t 33) (.t 37))] [38]) (
   .cond (.t 38) (
    .seq (
    .reg [
      I 6 (.mov (.c (.int .i64 4)))] [6]) (
    .ret)) (
    .skip))) (
   .seq (
   .reg [
     I 6 (.mov (.c (.int .i64 1)))] [6]) (
   .ret)))) (
   .seq (
   .reg [
     I 40 (.mov (.t 0)),
     I 41 (.mov (.t 2)),
     I 42 (.callQ 268 [(.t 40), (.t 41)]),
     I 43 (.bin .eql (.t 17) (.t 42)),
     I 39 (.mov (.t 43))] [0, 1, 2, 39]) (
   .cond (.t 39) (
    .seq (
    .reg [
      I 44 (.mov (.t 2)),
      I 45 (.nilChk (.t 44)),
      I 46 (.fieldAddr 4 (.t 45)),
      I0 (.store 1 (.t 46) (.c (.int .i64 0)))] [0, 1, 2]) (
    .seq (
    .reg [
      I 47 (.mov (.t 0)),
      I 48 (.mov (.t 1)),
      I 49 (.mov (.t 2)),
      I 50 (.callQ 266 [(.t 47), (.t 48), (.t 49), (.c (.int .i64 2))]),
      I 6 (.mov (.t 50))] [6]) (
    .ret))) (
    .skip))))))) (
 .seq (
 .reg [
   I 6 (.mov (.c (.int .i64 0)))] [6]) (
 .ret))))⟩

/- (*sakia/seqstamp.Seq[uint32]).free -/
def c266 : AFn := ⟨4, [.tmp 8], (
 .seq (
 .reg [
   I 8 (.mov (.c (.int .i64 0)))] [0, 1, 2, 3]) (
 .seq (
 .seq (
 .reg [
   I 9 (.mov (.t 0)),
   I 10 (.mov (.t 1)),
   I 11 (.mov (.t 2)),
   I 12 (.callQ 269 [(.t 9), (.t 10), (.t 11)])] [3, 12]) (
 .cond (.t 12) (
  .seq (
  .reg [
    I 8 (.mov (.c (.int .i64 3)))] [8]) (
  .ret)) (
  .skip))) (
 .seq (
 .reg [
   I 13 (.mov (.t 3)),
   I 8 (.mov (.t 13))] [8]) (
 .ret))))⟩

/- (*sakia/seqstamp.Seq[uint32]).pos -/
def c267 : AFn := ⟨2, [.tmp 4], (
 .seq (
 .reg [
   I 4 (.mov (.c (.int .u32 0)))] [1]) (
 .seq (
 .regd [0, 1, 2, 4, 5, 6, 3, 7, 8, 9] [
   I 5 (.mov (.t 1)),
   I 6 (.nilChk (.t 5)),
   I 7 (.fieldAddr 6 (.t 6)),
   I 9 (.mov (.t 1)),
   I 10 (.nilChk (.t 9)),
   I 11 (.fieldAddr 5 (.t 10)),
   I 8 (.load none (.t 7)),
   I 12 (.load none (.t 11)),
   I 13 (.callE 1 156 [(.t 8), (.t 12)]),
   I 4 (.mov (.t 13))] [4]) (
 .ret)))⟩

/- (*sakia/seqstamp.Seq[uint32]).used -/
def c268 : AFn := ⟨2, [.tmp 4], (
 .seq (
 .reg [
   I 4 (.mov (.c (.int .u32 0)))] [0, 1]) (
 .seq (
 .regd [0, 1, 3, 4, 5, 6, 7, 2, 8, 9, 10, 11] [
   I 5 (.mov (.t 0)),
   I 6 (.mov (.t 1)),
   I 8 (.mov (.t 0)),
   I 9 (.nilChk (.t 8)),
   I 10 (.fieldAddr 2 (.t 9)),
   I 11 (.fieldAddr 0 (.t 10)),
   I 12 (.fieldAddr 2 (.t 11)),
   I 7 (.callQ 267 [(.t 5), (.t 6)]),
   I 13 (.load none (.t 12)),
   I 14 (.bin .sub (.c (.int .i64 1)) (.t 13)),
   I 15 (.callE 1 156 [(.t 7), (.t 14)]),
   I 4 (.mov (.t 15))] [4]) (
 .ret)))⟩

/- (*sakia/seqstamp.Seq[uint32]).passed -/
def c269 : AFn := ⟨3, [.tmp 6], (
 .seq (
 .reg [
   I 6 (.mov (.c (.bool false)))] [0, 1, 2]) (
 .seq (
 .regd [0, 1, 2, 4, 7, 8, 10, 11, 12, 13, 14, 3, 5, 6, 9, 15, 16, 17, 18, 19, 20] [
   I 7 (.mov (.t 0)),
   I 8 (.nilChk (.t 7)),
   I 9 (.fieldAddr 17 (.t 8)),
   I 11 (.mov (.t 1)),
   I 14 (.mov (.t 0)),
   I 15 (.mov (.t 2)),
   I 17 (.mov (.t 0)),
   I 18 (.nilChk (.t 17)),
   I 19 (.fieldAddr 2 (.t 18)),
   I 20 (.fieldAddr 0 (.t 19)),
   I 21 (.fieldAddr 2 (.t 20)),
   I 10 (.load none (.t 9)),
   I 12 (.indexAddr none 1 (.t 10) (.t 11)),
   I 13 (.load none (.t 12)),
   I 16 (.callQ 267 [(.t 14), (.t 15)]),
   I 22 (.load none (.t 21)),
   I 23 (.un .neg (.t 22)),
   I 24 (.callE 1 156 [(.t 16), (.t 23)]),
   I 25 (.callE 1 152 [(.t 13), (.t 24)]),
   I 26 (.bin .gtr (.t 25) (.c (.int .i64 0))),
   I 6 (.mov (.t 26))] [6]) (
 .ret)))⟩

/- (*sakia/seqlock.Seq[uint32]).Claim -/
def c270 : AFn := ⟨3, [.tmp 6], (
 .seq (
 .reg [
   I 6 (.mov (.c (.bool false)))] [0, 1, 2]) (
 .scope (
 .seq (
 .seq (
 .reg [
   I 7 (.mov (.t 0)),
   I 8 (.mov (.t 1)),
   I 9 (.mov (.t 2)),
   I 10 (.callQ 273 [(.t 7), (.t 8), (.t 9)]),
   I 11 (.un .not (.t 10))] [0, 1, 2, 11]) (
 .cond (.t 11) (
  .seq (
  .reg [
    I 6 (.mov (.c (.bool true)))] [6]) (
  .ret)) (
  .skip))) (
 .seq (
 .seq (
 .reg [
   I 12 (.mov (.t 2)),
   I 13 (.nilChk (.t 12)),
   I 14 (.fieldAddr 3 (.t 13)),
   I 15 (.load none (.t 14))] [0, 1, 2, 15]) (
 .block 0 (
  .seq (
  .reg [
    I 17 (.bin .eql (.t 15) (.c (.int .i64 2))),
    I 16 (.mov (.t 17))] [0, 1, 2, 15, 16]) (
  .cond (.t 16) (
   .goto 0) (
   .seq (
   .reg [
     I 19 (.bin .eql (.t 15) (.c (.int .i64 3))),
     I 18 (.mov (.t 19))] [0, 1, 2, 15, 18]) (
   .cond (.t 18) (
    .goto 1) (
    .seq (
    .reg [
      I 21 (.bin .eql (.t 15) (.c (.int .i64 4))),
      I 20 (.mov (.t 21))] [0, 1, 2, 15, 20]) (
    .cond (.t 20) (
     .goto 2) (
     .seq (
     .seq (
     .reg [
       I 23 (.bin .eql (.t 15) (.c (.int .i64 5))),
       I 22 (.mov (.t 23))] [0, 1, 2, 15, 22]) (
     .cond (.t 22) (
      .skip) (
      .reg [
        I 24 (.bin .eql (.t 15) (.c (.int .i64 6))),
        I 22 (.mov (.t 24))] [0, 1, 2, 22]))) (
     .cond (.t 22) (
      .goto 3) (
      .skip))))))))))) (
 .seq (
 .reg [
   I 25 (.mov (.t 0)),
   I 26 (.nilChk (.t 25)),
   I 27 (.fieldAddr 0 (.t 26)),
   I 28 (.load none (.t 27)),
   I 29 (.mov (.t 1)),
   I 30 (.mov (.t 2)),
   I 31 (.call 274 [(.t 28), (.t 29), (.t 30)])] []) (
 .seq (
 .seq (
 .reg [
   I 6 (.mov (.c (.bool false)))] [6]) (
 .ret)) (
 .seq (
 .label 0) (
 .seq (
 .regd [0, 1, 2, 3, 4, 6, 7, 8, 9, 5, 10, 11, 12, 13, 14, 15, 16, 17] [
   I 32 (.mov (.t 2)),
   I 33 (.mov (.t 2)),
   I 34 (.mov (.t 0)),
   I 35 (.nilChk (.t 34)),
   I 36 (.fieldAddr 0 (.t 35)),
   I 38 (.mov (.t 1)),
   I 39 (.mov (.t 0)),
   I 40 (.nilChk (.t 39)),
   I 41 (.fieldAddr 9 (.t 40)),
   I 37 (.load none (.t 36)),
   I 42 (.load none (.t 41)),
   I 43 (.call 252 [(.t 37), (.t 38), (.t 42)]),
   I 44 (.nilChk (.t 32)),
   I 45 (.fieldAddr 6 (.t 44)),
   I0 (.store 1 (.t 45) (.t 43)),
   I 46 (.nilChk (.t 33)),
   I 47 (.fieldAddr 4 (.t 46)),
   I0 (.store 1 (.t 47) (.c (.int .i64 0)))] [0, 1, 2]) (
 .seq (
 .reg [
   I 48 (.mov (.t 2)),
   I 49 (.mov (.t 0)),
   I 50 (.mov (.t 1)),
   I 51 (.mov (.t 2)),
   I 52 (.callQ 275 [(.t 49), (.t 50), (.t 51), (.c (.int .i64 3))]),
   I 53 (.nilChk (.t 48)),
   I 54 (.fieldAddr 3 (.t 53)),
   I0 (.store 1 (.t 54) (.t 52))] []) (
 .seq (
 .seq (
 .reg [
   I 6 (.mov (.c (.bool false)))] [6]) (
 .ret)) (
 .seq (
 .label 1) (
 .seq (
 .seq (
 .regd [0, 1, 2, 4, 5, 6, 7, 9, 3, 8, 10] [
   I 55 (.mov (.t 0)),
   I 56 (.nilChk (.t 55)),
   I 57 (.fieldAddr 0 (.t 56)),
   I 59 (.mov (.t 1)),
   I 60 (.mov (.t 0)),
   I 61 (.nilChk (.t 60)),
   I 62 (.fieldAddr 8 (.t 61)),
   I 64 (.mov (.t 2)),
   I 58 (.load none (.t 57)),
   I 63 (.load none (.t 62)),
   I 65 (.call 177 [(.t 58), (.t 59), (.t 63), (.t 64)])] [0, 1, 2, 65]) (
 .cond (.t 65) (
  .seq (
  .regd [0, 1, 2, 4, 5, 6, 7, 3, 8, 9, 10] [
    I 66 (.mov (.t 0)),
    I 67 (.nilChk (.t 66)),
    I 68 (.fieldAddr 10 (.t 67)),
    I 70 (.mov (.t 1)),
    I 71 (.mov (.t 2)),
    I 72 (.nilChk (.t 71)),
    I 73 (.fieldAddr 7 (.t 72)),
    I 69 (.load none (.t 68)),
    I 74 (.load none (.t 73)),
    I 75 (.indexAddr none 1 (.t 69) (.t 70)),
    I0 (.store 1 (.t 75) (.t 74))] [0, 1, 2]) (
  .reg [
    I 76 (.mov (.t 2)),
    I 77 (.mov (.t 0)),
    I 78 (.mov (.t 1)),
    I 79 (.mov (.t 2)),
    I 80 (.callQ 275 [(.t 77), (.t 78), (.t 79), (.c (.int .i64 5))]),
    I 81 (.nilChk (.t 76)),
    I 82 (.fieldAddr 3 (.t 81)),
    I0 (.store 1 (.t 82) (.t 80))] [])) (
  .skip))) (
 .seq (
 .seq (
 .reg [
   I 6 (.mov (.c (.bool false)))] [6]) (
 .ret)) (
 .seq (
 .label 2) (
 .seq (
 .regd [0, 1, 2, 4, 5, 6, 7, 9, 10, 11, 13, 14, 15, 3, 8, 12, 16, 17, 18] [
   I 83 (.mov (.t 0)),
   I 84 (.nilChk (.t 83)),
   I 85 (.fieldAddr 0 (.t 84)),
   I 87 (.mov (.t 1)),
   I 88 (.mov (.t 0)),
   I 89 (.nilChk (.t 88)),
   I 90 (.fieldAddr 9 (.t 89)),
   I 92 (.mov (.t 2)),
   I 93 (.nilChk (.t 92)),
   I 94 (.fieldAddr 6 (.t 93)),
   I 96 (.mov (.t 2)),
   I 97 (.nilChk (.t 96)),
   I 98 (.fieldAddr 1 (.t 97)),
   I 86 (.load none (.t 85)),
   I 91 (.load none (.t 90)),
   I 95 (.load none (.t 94)),
   I 99 (.load none (.t 98)),
   I 100 (.callE 1 156 [(.t 95), (.t 99)]),
   I 101 (.call 251 [(.t 86), (.t 87), (.t 91), (.t 100)])] [0, 1, 2]) (
 .seq (
 .regd [0, 1, 2, 4, 5, 6, 7, 9, 10, 11, 3, 8, 12, 13, 14, 15] [
   I 102 (.mov (.t 0)),
   I 103 (.nilChk (.t 102)),
   I 104 (.fieldAddr 1 (.t 103)),
   I 106 (.mov (.t 1)),
   I 107 (.mov (.t 2)),
   I 108 (.nilChk (.t 107)),
   I 109 (.fieldAddr 1 (.t 108)),
   I 111 (.mov (.t 2)),
   I 112 (.nilChk (.t 111)),
   I 113 (.fieldAddr 6 (.t 112)),
   I 105 (.load none (.t 104)),
   I 110 (.load none (.t 109)),
   I 114 (.load none (.t 113)),
   I 115 (.callE 1 123 [(.t 114)]),
   I 116 (.build #[.int .i64 0, .int .i64 0, .int .i64 0, .int .i64 0, .int .u64 0, .int .i64 0, .slice none 0 0] [((0, 1), (.c (.int .i64 3))), ((1, 1), (.t 106)), ((3, 1), (.t 110)), ((4, 1), (.t 115))]),
   I 117 (.call 32 [(.t 105), (.t 116)])] [0, 1, 2]) (
 .seq (
 .reg [
   I 118 (.mov (.t 0)),
   I 119 (.nilChk (.t 118)),
   I 120 (.fieldAddr 1 (.t 119)),
   I 121 (.load none (.t 120)),
   I 122 (.mov (.t 1)),
   I 123 (.build #[.int .i64 0, .int .i64 0, .int .i64 0, .int .i64 0, .int .u64 0, .int .i64 0, .slice none 0 0] [((0, 1), (.c (.int .i64 4))), ((1, 1), (.t 122))]),
   I 124 (.call 32 [(.t 121), (.t 123)])] [2]) (
 .seq (
 .reg [
   I 125 (.mov (.t 2)),
   I 126 (.nilChk (.t 125)),
   I 127 (.fieldAddr 3 (.t 126)),
   I0 (.store 1 (.t 127) (.c (.int .i64 6)))] []) (
 .seq (
 .seq (
 .reg [
   I 6 (.mov (.c (.bool false)))] [6]) (
 .ret)) (
 .seq (
 .label 3) (
 .seq (
 .reg [
   I 128 (.mov (.t 0)),
   I 129 (.mov (.t 1)),
   I 130 (.mov (.t 2)),
   I 131 (.call 276 [(.t 128), (.t 129), (.t 130)]),
   I 6 (.mov (.t 131))] [6]) (
 .ret))))))))))))))))))))))⟩

/- (*sakia/seqlock.Seq[uint32]).Publish -/
def c271 : AFn := ⟨3, [.tmp 6], (
 .seq (
 .reg [
   I 6 (.mov (.c (.bool false)))] [0, 1, 2]) (
 .seq (
 .seq (
 .reg [
   I 8 (.mov (.t 0)),
   I 9 (.mov (.t 1)),
   I 10 (.mov (.t 2)),
   I 11 (.callQ 273 [(.t 8), (.t 9), (.t 10)]),
   I 12 (.un .not (.t 11))] [0, 1, 2, 12]) (
 .cond (.t 12) (
  .seq (
  .reg [
    I 6 (.mov (.c (.bool true)))] [6]) (
  .ret)) (
  .skip))) (
 .seq (
 .seq (
 .reg [
   I 13 (.mov (.t 2)),
   I 14 (.nilChk (.t 13)),
   I 15 (.fieldAddr 3 (.t 14)),
   I 16 (.load none (.t 15))] [0, 1, 2, 16]) (
 .block 0 (
  .seq (
  .reg [
    I 18 (.bin .eql (.t 16) (.c (.int .i64 6))),
    I 17 (.mov (.t 18))] [0, 1, 2, 16, 17]) (
  .cond (.t 17) (
   .seq (
   .reg [
     I 19 (.mov (.t 0)),
     I 20 (.mov (.t 1)),
     I 21 (.mov (.t 2)),
     I 22 (.call 276 [(.t 19), (.t 20), (.t 21)]),
     I 6 (.mov (.t 22))] [6]) (
   .ret)) (
   .seq (
   .reg [
     I 24 (.bin .eql (.t 16) (.c (.int .i64 2))),
     I 23 (.mov (.t 24))] [0, 1, 2, 23]) (
   .cond (.t 23) (
    .seq (
    .regd [0, 1, 2, 4, 5, 6, 3, 7, 8, 9] [
      I 25 (.mov (.t 2)),
      I 26 (.nilChk (.t 25)),
      I 27 (.fieldAddr 6 (.t 26)),
      I 29 (.mov (.t 2)),
      I 30 (.nilChk (.t 29)),
      I 31 (.fieldAddr 4 (.t 30)),
      I 28 (.load none (.t 27)),
      I 32 (.load none (.t 31)),
      I 33 (.callE 1 156 [(.t 28), (.t 32)]),
      I 7 (.mov (.t 33))] [0, 1, 2, 7]) (
    .seq (
    .seq (
    .reg [
      I 34 (.mov (.t 0)),
      I 35 (.nilChk (.t 34)),
      I 36 (.fieldAddr 0 (.t 35)),
      I 37 (.load none (.t 36)),
      I 38 (.mov (.t 1)),
      I 39 (.mov (.t 2)),
      I 40 (.call 243 [(.t 37), (.t 38), (.t 39)])] [0, 1, 2, 7, 40]) (
    .cond (.t 40) (
     .reg [
       I 41 (.mov (.t 2)),
       I 42 (.nilChk (.t 41)),
       I 43 (.fieldAddr 3 (.t 42)),
       I0 (.store 1 (.t 43) (.c (.int .i64 6)))] [0, 1, 7]) (
     .skip))) (
    .seq (
    .regd [0, 1, 2, 4, 5, 6, 7, 3, 8] [
      I 44 (.mov (.t 0)),
      I 45 (.nilChk (.t 44)),
      I 46 (.fieldAddr 1 (.t 45)),
      I 48 (.mov (.t 1)),
      I 49 (.mov (.t 7)),
      I 50 (.callE 1 123 [(.t 49)]),
      I 51 (.build #[.int .i64 0, .int .i64 0, .int .i64 0, .int .i64 0, .int .u64 0, .int .i64 0, .slice none 0 0] [((0, 1), (.c (.int .i64 5))), ((1, 1), (.t 48)), ((3, 1), (.c (.int .i64 1))), ((4, 1), (.t 50))]),
      I 47 (.load none (.t 46)),
      I 52 (.call 32 [(.t 47), (.t 51)])] []) (
    .seq (
    .reg [
      I 6 (.mov (.c (.bool false)))] [6]) (
    .ret))))) (
    .skip))))))) (
 .seq (
 .reg [
   I 53 (.mov (.t 0)),
   I 54 (.nilChk (.t 53)),
   I 55 (.fieldAddr 0 (.t 54)),
   I 56 (.load none (.t 55)),
   I 57 (.mov (.t 1)),
   I 58 (.mov (.t 2)),
   I 59 (.call 274 [(.t 56), (.t 57), (.t 58)])] []) (
 .seq (
 .reg [
   I 6 (.mov (.c (.bool false)))] [6]) (
 .ret))))))⟩

/- (*sakia/seqlock.Seq[uint32]).Tip -/
def c272 : AFn := ⟨3, [.tmp 6], (
 .seq (
 .reg [
   I 6 (.mov (.c (.bool false)))] [0, 1, 2]) (
 .seq (
 .seq (
 .reg [
   I 7 (.mov (.t 0)),
   I 8 (.isNil .ptr false (.t 7)),
   I 9 (.mov (.t 8)),
   IG (some 10) (9, false) (.mov (.t 2)),
   IG (some 11) (9, false) (.isNil .ptr false (.t 10)),
   I 12 (.pick (.t 9) (.c (.bool true)) (.t 11))] [0, 1, 2, 12]) (
 .cond (.t 12) (
  .seq (
  .reg [
    I 6 (.mov (.c (.bool true)))] [6]) (
  .ret)) (
  .skip))) (
 .seq (
 .seq (
 .reg [
   I 13 (.mov (.t 2)),
   I 14 (.nilChk (.t 13)),
   I 15 (.fieldAddr 3 (.t 14)),
   I 16 (.load none (.t 15))] [0, 1, 2, 16]) (
 .block 0 (
  .seq (
  .reg [
    I 18 (.bin .eql (.t 16) (.c (.int .i64 6))),
    I 17 (.mov (.t 18))] [0, 1, 2, 16, 17]) (
  .cond (.t 17) (
   .seq (
   .reg [
     I 19 (.mov (.t 0)),
     I 20 (.mov (.t 1)),
     I 21 (.mov (.t 2)),
     I 22 (.call 276 [(.t 19), (.t 20), (.t 21)]),
     I 6 (.mov (.t 22))] [6]) (
   .ret)) (
   .seq (
   .reg [
     I 24 (.bin .eql (.t 16) (.c (.int .i64 2))),
     I 23 (.mov (.t 24))] [0, 1, 2, 23]) (
   .cond (.t 23) (
    .seq (
    .seq (
    .reg [
      I 25 (.mov (.t 0)),
      I 26 (.nilChk (.t 25)),
      I 27 (.fieldAddr 0 (.t 26)),
      I 28 (.load none (.t 27)),
      I 29 (.mov (.t 1)),
      I 30 (.mov (.t 2)),
      I 31 (.call 244 [(.t 28), (.t 29), (.t 30)])] [2, 31]) (
    .cond (.t 31) (
     .reg [
       I 32 (.mov (.t 2)),
       I 33 (.nilChk (.t 32)),
       I 34 (.fieldAddr 3 (.t 33)),
       I0 (.store 1 (.t 34) (.c (.int .i64 6)))] []) (
     .skip))) (
    .seq (
    .reg [
      I 6 (.mov (.c (.bool false)))] [6]) (
    .ret))) (
    .skip))))))) (
 .seq (
 .reg [
   I 35 (.mov (.t 0)),
   I 36 (.nilChk (.t 35)),
   I 37 (.fieldAddr 0 (.t 36)),
   I 38 (.load none (.t 37)),
   I 39 (.mov (.t 1)),
   I 40 (.mov (.t 2)),
   I 41 (.call 274 [(.t 38), (.t 39), (.t 40)])] []) (
 .seq (
 .reg [
   I 6 (.mov (.c (.bool false)))] [6]) (
 .ret))))))⟩

/- (*sakia/seqlock.Seq[uint32]).may -/
def c273 : AFn := ⟨3, [.tmp 6], (
 .seq (
 .reg [
   I 6 (.mov (.c (.bool false)))] [0, 1, 2]) (
 .seq (
 .regd [0, 1, 2, 3, 4, 5, 6, 7, 8, 9, 10, 11, 12, 13, 14, 15, 16, 17, 18, 19, 20, 21, 22, 23, 24, 25, 26, 27, 28, 29, 31, 32, 33, 34, 30, 35, 36, 37, 38] [
   I 7 (.mov (.t 0)),
   I 8 (.isNil .ptr true (.t 7)),
   I 9 (.mov (.t 8)),
   IG (some 10) (9, true) (.mov (.t 2)),
   IG (some 11) (9, true) (.isNil .ptr true (.t 10)),
   I 12 (.pick (.t 9) (.t 11) (.c (.bool false))),
   I 13 (.mov (.t 12)),
   IG (some 14) (13, true) (.mov (.t 1)),
   IG (some 15) (13, true) (.bin .geq (.t 14) (.c (.int .i64 0))),
   I 16 (.pick (.t 13) (.t 15) (.c (.bool false))),
   I 17 (.mov (.t 16)),
   IG (some 18) (17, true) (.mov (.t 1)),
   IG (some 19) (17, true) (.mov (.t 0)),
   IG (some 20) (17, true) (.nilChk (.t 19)),
   IG (some 21) (17, true) (.fieldAddr 2 (.t 20)),
   IG (some 22) (17, true) (.fieldAddr 3 (.t 21)),
   IG (some 23) (17, true) (.load none (.t 22)),
   IG (some 24) (17, true) (.bin .lss (.t 18) (.t 23)),
   I 25 (.pick (.t 17) (.t 24) (.c (.bool false))),
   I 26 (.mov (.t 25)),
   IG (some 27) (26, true) (.mov (.t 2)),
   IG (some 28) (26, true) (.nilChk (.t 27)),
   IG (some 29) (26, true) (.fieldAddr 1 (.t 28)),
   IG (some 30) (26, true) (.load none (.t 29)),
   IG (some 31) (26, true) (.bin .geq (.t 30) (.c (.int .i64 1))),
   I 32 (.pick (.t 26) (.t 31) (.c (.bool false))),
   I 33 (.mov (.t 32)),
   IG (some 34) (33, true) (.mov (.t 2)),
   IG (some 35) (33, true) (.nilChk (.t 34)),
   IG (some 36) (33, true) (.fieldAddr 1 (.t 35)),
   IG (some 38) (33, true) (.mov (.t 0)),
   IG (some 39) (33, true) (.nilChk (.t 38)),
   IG (some 40) (33, true) (.fieldAddr 2 (.t 39)),
   IG (some 41) (33, true) (.fieldAddr 2 (.t 40)),
   IG (some 37) (33, true) (.load none (.t 36)),
   IG (some 42) (33, true) (.load none (.t 41)),
   IG (some 43) (33, true) (.bin .leq (.t 37) (.t 42)),
   I 44 (.pick (.t 33) (.t 43) (.c (.bool false))),
   I 6 (.mov (.t 44))] [6]) (
 .ret)))⟩

end Go.Ab
