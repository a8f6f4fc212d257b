/- Abstract code of functions of the program, printed by a program. -/
import Derived.Test.YtebmnnbjfjadaaaGreatDoorFo
namespace Go.Ab
set_option maxRecDepth 100000
/- sakia/sakialaw26.EngineNone -/
def c3 : AFn := ⟨2, [.tmp 4], (
 .seq (
 .reg [
   I 3 (.box (.t 1)),
   I 4 (.mov (.c (.bool false)))] [0, 3]) (
 .seq (
 .reg [
   I 5 (.mov (.c (.pointer none)))] [0, 3, 5]) (
 .seq (
 .reg [
   I 9 (.mov (.t 5)),
   I 10 (.mov (.t 0)),
   I 11 (.call 5 [(.t 9), (.t 10)]),
   I 8 (.mov (.t 11)),
   I 12 (.extract (.t 8) 0),
   I 13 (.extract (.t 8) 1),
   I 6 (.alloc [.int .i64 0, .int .i64 0, .slice none 0 0]),
   I0 (.store 3 (.t 6) (.t 12)),
   I 7 (.mov (.t 13))] [0, 3, 5, 6, 7]) (
 .seq (
 .reg [
   I 14 (.mov (.t 5)),
   I 15 (.mov (.t 0)),
   I 16 (.load (some 3) (.t 3)),
   I 17 (.call 6 [(.t 14), (.t 15), (.t 16)]),
   I 18 (.bin .eql (.t 17) (.c (.int .i64 22))),
   I 19 (.mov (.t 18)),
   IG (some 20) (19, true) (.mov (.t 5)),
   IG (some 21) (19, true) (.mov (.t 0)),
   IG (some 22) (19, true) (.call 7 [(.t 20), (.t 21)]),
   IG (some 23) (19, true) (.un .not (.t 22)),
   I 24 (.pick (.t 19) (.t 23) (.c (.bool false))),
   I 25 (.mov (.t 24)),
   IG (some 26) (25, true) (.mov (.t 5)),
   IG (some 27) (25, true) (.mov (.t 0)),
   IG (some 28) (25, true) (.callQ 8 [(.t 26), (.t 27)]),
   IG (some 29) (25, true) (.un .not (.t 28)),
   I 30 (.pick (.t 25) (.t 29) (.c (.bool false))),
   I 31 (.mov (.t 30)),
   IG (some 32) (31, true) (.fieldAddr 0 (.t 6)),
   IG (some 33) (31, true) (.load none (.t 32)),
   IG (some 34) (31, true) (.bin .eql (.t 33) (.c (.int .i64 0))),
   I 35 (.pick (.t 31) (.t 34) (.c (.bool false))),
   I 36 (.mov (.t 35)),
   IG (some 37) (36, true) (.mov (.t 7)),
   IG (some 38) (36, true) (.un .not (.t 37)),
   I 39 (.pick (.t 36) (.t 38) (.c (.bool false))),
   I 40 (.mov (.t 39)),
   IG (some 41) (40, true) (.mov (.t 5)),
   IG (some 42) (40, true) (.callQ 9 [(.t 41)]),
   IG (some 43) (40, true) (.mov (.t 5)),
   IG (some 44) (40, true) (.callQ 10 [(.t 43)]),
   IG (some 45) (40, true) (.bin .add (.t 42) (.t 44)),
   IG (some 46) (40, true) (.mov (.t 5)),
   IG (some 47) (40, true) (.call 11 [(.t 46), (.c (.int .i64 0))]),
   IG (some 48) (40, true) (.len false (.t 47)),
   IG (some 49) (40, true) (.bin .add (.t 45) (.t 48)),
   IG (some 50) (40, true) (.mov (.t 5)),
   IG (some 51) (40, true) (.call 12 [(.t 50)]),
   IG (some 52) (40, true) (.len false (.t 51)),
   IG (some 53) (40, true) (.bin .add (.t 49) (.t 52)),
   IG (some 54) (40, true) (.mov (.t 5)),
   IG (some 55) (40, true) (.mov (.t 0)),
   IG (some 56) (40, true) (.callQ 13 [(.t 54), (.t 55)]),
   IG (some 57) (40, true) (.bin .add (.t 53) (.t 56)),
   IG (some 58) (40, true) (.bin .eql (.t 57) (.c (.int .i64 0))),
   I 59 (.pick (.t 40) (.t 58) (.c (.bool false))),
   I 60 (.mov (.t 59)),
   IG (some 61) (60, true) (.mov (.t 5)),
   IG (some 62) (60, true) (.mov (.t 0)),
   IG (some 63) (60, true) (.callQ 14 [(.t 61), (.t 62)]),
   IG (some 64) (60, true) (.bin .eql (.t 63) (.c (.int .u64 0))),
   I 65 (.pick (.t 60) (.t 64) (.c (.bool false))),
   I 66 (.mov (.t 65)),
   IG (some 67) (66, true) (.callE 1 15 []),
   I 68 (.pick (.t 66) (.t 67) (.c (.bool false))),
   I 4 (.mov (.t 68))] [4]) (
 .ret)))))⟩

/- sakia/sakialaw27.FabricNone -/
def c4 : AFn := ⟨3, [.tmp 6], (
 .seq (
 .reg [
   I 6 (.mov (.c (.bool false)))] [0, 1, 2]) (
 .seq (
 .seq (
 .reg [
   I 14 (.mov (.t 0)),
   I 15 (.len false (.t 14)),
   I 16 (.bin .gtr (.t 15) (.c (.int .i64 100)))] [0, 1, 2, 16]) (
 .cond (.t 16) (
  .seq (
  .reg [
    I 17 (.callE 1 16 []),
    I 6 (.mov (.t 17))] [6]) (
  .ret)) (
  .skip))) (
 .seq (
 .reg [
   I 7 (.mov (.c (.pointer none)))] [0, 1, 2, 7]) (
 .seq (
 .reg [
   I 18 (.mov (.t 7)),
   I 19 (.mov (.t 0)),
   I 20 (.call 17 [(.t 18), (.t 19)]),
   I 8 (.mov (.t 20))] [0, 1, 2, 7, 8]) (
 .seq (
 .seq (
 .reg [
   I 9 (.mov (.c (.int .i64 0)))] [0, 1, 2, 7, 8, 9]) (
 .block 0 (
  .loop (
   .seq (
   .seq (
   .reg [
     I 21 (.mov (.t 9)),
     I 22 (.mov (.t 8)),
     I 23 (.len false (.t 22)),
     I 24 (.bin .lss (.t 21) (.t 23))] [0, 1, 2, 7, 8, 9, 24]) (
   .cond (.t 24) (
    .skip) (
    .exit 0))) (
   .seq (
   .block 1 (
    .seq (
    .reg [
      I 27 (.mov (.t 8)),
      I 28 (.mov (.t 9)),
      I 29 (.indexAddr none 1 (.t 27) (.t 28)),
      I 30 (.load none (.t 29)),
      I 31 (.bin .neq (.t 30) (.c (.int .i64 22)))] [0, 1, 2, 7, 8, 9, 31]) (
    .cond (.t 31) (
     .seq (
     .reg [
       I 6 (.mov (.c (.bool false)))] [6]) (
     .ret)) (
     .skip)))) (
   .reg [
     I 25 (.mov (.t 9)),
     I 26 (.bin .add (.t 25) (.c (.int .i64 1))),
     I 9 (.mov (.t 26))] [0, 1, 2, 7, 8, 9])))))) (
 .seq (
 .reg [
   I 33 (.mov (.t 7)),
   I 34 (.mov (.t 1)),
   I 35 (.mov (.t 2)),
   I 36 (.call 18 [(.t 33), (.t 34), (.t 35)]),
   I 32 (.mov (.t 36)),
   I 37 (.extract (.t 32) 0),
   I 38 (.extract (.t 32) 1),
   I 10 (.mov (.t 37)),
   I 11 (.mov (.t 38))] [0, 1, 7, 8, 10, 11]) (
 .seq (
 .reg [
   I 40 (.mov (.t 7)),
   I 41 (.mov (.t 1)),
   I 42 (.call 19 [(.t 40), (.t 41)]),
   I 39 (.mov (.t 42)),
   I 43 (.extract (.t 39) 0),
   I 44 (.extract (.t 39) 1),
   I 12 (.alloc [.int .i64 0, .int .i64 0, .slice none 0 0]),
   I0 (.store 3 (.t 12) (.t 43)),
   I 13 (.mov (.t 44))] [0, 1, 7, 8, 10, 11, 12, 13]) (
 .seq (
 .reg [
   I 45 (.mov (.t 8)),
   I 46 (.len false (.t 45)),
   I 47 (.mov (.t 0)),
   I 48 (.len false (.t 47)),
   I 49 (.bin .eql (.t 46) (.t 48)),
   I 50 (.mov (.t 49)),
   IG (some 51) (50, true) (.mov (.t 10)),
   IG (some 52) (50, true) (.bin .eql (.t 51) (.c (.int .i64 0))),
   I 53 (.pick (.t 50) (.t 52) (.c (.bool false))),
   I 54 (.mov (.t 53)),
   IG (some 55) (54, true) (.mov (.t 11)),
   I 56 (.pick (.t 54) (.t 55) (.c (.bool false))),
   I 57 (.mov (.t 56)),
   IG (some 58) (57, true) (.mov (.t 7)),
   IG (some 59) (57, true) (.call 20 [(.t 58)]),
   I 60 (.pick (.t 57) (.t 59) (.c (.bool false))),
   I 61 (.mov (.t 60)),
   IG (some 62) (61, true) (.mov (.t 7)),
   IG (some 63) (61, true) (.mov (.t 1)),
   IG (some 64) (61, true) (.call 21 [(.t 62), (.t 63)]),
   IG (some 65) (61, true) (.un .not (.t 64)),
   I 66 (.pick (.t 61) (.t 65) (.c (.bool false))),
   I 67 (.mov (.t 66)),
   IG (some 68) (67, true) (.fieldAddr 0 (.t 12)),
   IG (some 69) (67, true) (.load none (.t 68)),
   IG (some 70) (67, true) (.bin .eql (.t 69) (.c (.int .i64 0))),
   I 71 (.pick (.t 67) (.t 70) (.c (.bool false))),
   I 72 (.mov (.t 71)),
   IG (some 73) (72, true) (.mov (.t 13)),
   IG (some 74) (72, true) (.un .not (.t 73)),
   I 75 (.pick (.t 72) (.t 74) (.c (.bool false))),
   I 76 (.mov (.t 75)),
   IG (some 77) (76, true) (.mov (.t 7)),
   IG (some 78) (76, true) (.call 22 [(.t 77)]),
   IG (some 79) (76, true) (.mov (.t 7)),
   IG (some 80) (76, true) (.call 23 [(.t 79)]),
   IG (some 81) (76, true) (.bin .add (.t 78) (.t 80)),
   IG (some 82) (76, true) (.mov (.t 7)),
   IG (some 83) (76, true) (.mov (.t 1)),
   IG (some 84) (76, true) (.call 24 [(.t 82), (.t 83)]),
   IG (some 85) (76, true) (.bin .add (.t 81) (.t 84)),
   IG (some 86) (76, true) (.mov (.t 7)),
   IG (some 87) (76, true) (.mov (.t 1)),
   IG (some 88) (76, true) (.call 25 [(.t 86), (.t 87)]),
   IG (some 89) (76, true) (.len false (.t 88)),
   IG (some 90) (76, true) (.bin .add (.t 85) (.t 89)),
   IG (some 91) (76, true) (.mov (.t 7)),
   IG (some 92) (76, true) (.call 26 [(.t 91)]),
   IG (some 93) (76, true) (.len false (.t 92)),
   IG (some 94) (76, true) (.bin .add (.t 90) (.t 93)),
   IG (some 95) (76, true) (.mov (.t 7)),
   IG (some 96) (76, true) (.call 27 [(.t 95)]),
   IG (some 97) (76, true) (.field 13 none (.t 96)),
   IG (some 98) (76, true) (.bin .add (.t 94) (.t 97)),
   IG (some 99) (76, true) (.mov (.t 7)),
   IG (some 100) (76, true) (.call 28 [(.t 99)]),
   IG (some 101) (76, true) (.field 2 none (.t 100)),
   IG (some 102) (76, true) (.bin .add (.t 98) (.t 101)),
   IG (some 103) (76, true) (.bin .eql (.t 102) (.c (.int .i64 0))),
   I 104 (.pick (.t 76) (.t 103) (.c (.bool false))),
   I 105 (.mov (.t 104)),
   IG (some 106) (105, true) (.mov (.t 7)),
   IG (some 107) (105, true) (.mov (.t 1)),
   IG (some 108) (105, true) (.call 29 [(.t 106), (.t 107)]),
   IG (some 109) (105, true) (.bin .eql (.t 108) (.c (.int .u64 0))),
   I 110 (.pick (.t 105) (.t 109) (.c (.bool false))),
   I 111 (.mov (.t 110)),
   IG (some 112) (111, true) (.callE 1 16 []),
   I 113 (.pick (.t 111) (.t 112) (.c (.bool false))),
   I 6 (.mov (.t 113))] [6]) (
 .ret)))))))))⟩

/- (*sakia/engine.Engine[uint64]).Call -/
def c5 : AFn := ⟨2, [.cell 4 (some 3), .tmp 5], (
 .seq (
 .reg [
   I 4 (.alloc [.int .i64 0, .int .i64 0, .slice none 0 0]),
   I 5 (.mov (.c (.bool false)))] [0, 1, 4]) (
 .seq (
 .seq (
 .reg [
   I 6 (.mov (.t 0)),
   I 7 (.mov (.t 1)),
   I 8 (.callQ 8 [(.t 6), (.t 7)]),
   I 9 (.un .not (.t 8))] [0, 1, 4, 9]) (
 .cond (.t 9) (
  .seq (
  .reg [
    I 10 (.build #[.int .i64 0, .int .i64 0, .slice none 0 0] []),
    I0 (.store 3 (.t 4) (.t 10)),
    I 5 (.mov (.c (.bool false)))] [4, 5]) (
  .ret)) (
  .skip))) (
 .seq (
 .reg [
   I 11 (.mov (.t 0)),
   I 12 (.nilChk (.t 11)),
   I 13 (.fieldAddr 10 (.t 12)),
   I 14 (.load none (.t 13)),
   I 15 (.mov (.t 1)),
   I 16 (.indexAddr none 1 (.t 14) (.t 15)),
   I 17 (.load none (.t 16)),
   I 18 (.nilChk (.t 17)),
   I 19 (.fieldAddr 2 (.t 18)),
   I 20 (.load (some 3) (.t 19)),
   I 21 (.call 30 [(.t 20)]),
   I0 (.store 3 (.t 4) (.t 21)),
   I 5 (.mov (.c (.bool true)))] [4, 5]) (
 .ret))))⟩

/- (*sakia/engine.Engine[uint64]).Invoke -/
def c6 : AFn := ⟨3, [.tmp 6], (
 .seq (
 .reg [
   I 5 (.box (.t 2)),
   I 6 (.mov (.c (.int .i64 0)))] [0, 1, 5]) (
 .seq (
 .seq (
 .reg [
   I 9 (.mov (.t 0)),
   I 10 (.isNil .ptr false (.t 9))] [0, 1, 5, 10]) (
 .cond (.t 10) (
  .seq (
  .reg [
    I 6 (.mov (.c (.int .i64 22)))] [6]) (
  .ret)) (
  .skip))) (
 .seq (
 .reg [
   I 11 (.mov (.t 0)),
   I 12 (.mov (.t 1)),
   I 13 (.call 31 [(.t 11), (.t 12)]),
   I 7 (.mov (.t 13))] [0, 1, 5, 7]) (
 .seq (
 .block 0 (
  .seq (
  .reg [
    I 15 (.mov (.t 7)),
    I 16 (.isNil .ptr false (.t 15)),
    I 14 (.mov (.t 16))] [0, 1, 5, 7, 14]) (
  .cond (.t 14) (
   .seq (
   .reg [
     I 6 (.mov (.c (.int .i64 11)))] [6]) (
   .ret)) (
   .seq (
   .reg [
     I 18 (.mov (.t 7)),
     I 19 (.nilChk (.t 18)),
     I 20 (.fieldAddr 1 (.t 19)),
     I 21 (.load none (.t 20)),
     I 17 (.mov (.t 21))] [0, 1, 5, 7, 17]) (
   .cond (.t 17) (
    .seq (
    .reg [
      I 6 (.mov (.c (.int .i64 15)))] [6]) (
    .ret)) (
    .skip)))))) (
 .seq (
 .regd [0, 1, 2, 4, 5, 7, 9, 3, 6, 8, 10, 11, 12] [
   I 22 (.mov (.t 0)),
   I 23 (.nilChk (.t 22)),
   I 24 (.fieldAddr 7 (.t 23)),
   I 26 (.mov (.t 1)),
   I 27 (.fieldAddr 0 (.t 5)),
   I 29 (.fieldAddr 1 (.t 5)),
   I 31 (.fieldAddr 2 (.t 5)),
   I 25 (.load none (.t 24)),
   I 28 (.load none (.t 27)),
   I 30 (.load none (.t 29)),
   I 32 (.load none (.t 31)),
   I 33 (.build #[.int .i64 0, .int .i64 0, .int .i64 0, .int .i64 0, .int .u64 0, .int .i64 0, .slice none 0 0] [((0, 1), (.c (.int .i64 1))), ((1, 1), (.t 26)), ((2, 1), (.t 28)), ((3, 1), (.t 30)), ((6, 1), (.t 32))]),
   I 34 (.call 32 [(.t 25), (.t 33)])] [0, 1, 5, 7]) (
 .seq (
 .seq (
 .regd [0, 1, 2, 3, 4, 5, 6] [
   I 35 (.mov (.t 7)),
   I 36 (.nilChk (.t 35)),
   I 37 (.fieldAddr 0 (.t 36)),
   I 38 (.load none (.t 37)),
   I 39 (.load (some 3) (.t 5)),
   I 40 (.callQ 33 [(.t 38), (.t 39)]),
   I 8 (.mov (.t 40))] [0, 1, 5, 7, 8]) (
 .seq (
 .reg [
   I 41 (.mov (.t 8)),
   I 42 (.bin .neq (.t 41) (.c (.int .i64 0)))] [0, 1, 5, 7, 8, 42]) (
 .cond (.t 42) (
  .seq (
  .regd [0, 1, 2, 4, 5, 7, 3, 6, 8, 9] [
    I 43 (.mov (.t 0)),
    I 44 (.nilChk (.t 43)),
    I 45 (.fieldAddr 7 (.t 44)),
    I 47 (.mov (.t 1)),
    I 48 (.fieldAddr 0 (.t 5)),
    I 50 (.mov (.t 8)),
    I 46 (.load none (.t 45)),
    I 49 (.load none (.t 48)),
    I 51 (.build #[.int .i64 0, .int .i64 0, .int .i64 0, .int .i64 0, .int .u64 0, .int .i64 0, .slice none 0 0] [((0, 1), (.c (.int .i64 2))), ((1, 1), (.t 47)), ((2, 1), (.t 49)), ((5, 1), (.t 50))]),
    I 52 (.call 32 [(.t 46), (.t 51)])] [8]) (
  .seq (
  .reg [
    I 53 (.mov (.t 8)),
    I 6 (.mov (.t 53))] [6]) (
  .ret))) (
  .skip)))) (
 .seq (
 .reg [
   I 54 (.mov (.t 7)),
   I 55 (.mov (.t 7)),
   I 56 (.load (some 3) (.t 5)),
   I 57 (.call 30 [(.t 56)]),
   I 58 (.nilChk (.t 54)),
   I 59 (.fieldAddr 1 (.t 58)),
   I0 (.store 1 (.t 59) (.c (.bool true))),
   I 60 (.nilChk (.t 55)),
   I 61 (.fieldAddr 2 (.t 60)),
   I0 (.store 3 (.t 61) (.t 57))] [7]) (
 .seq (
 .regd [0, 1, 2, 3, 5, 6, 7, 4, 8, 9, 10, 11, 12] [
   I 62 (.mov (.t 7)),
   I 63 (.mov (.t 7)),
   I 64 (.nilChk (.t 63)),
   I 65 (.fieldAddr 0 (.t 64)),
   I 67 (.mov (.t 7)),
   I 68 (.nilChk (.t 67)),
   I 69 (.fieldAddr 2 (.t 68)),
   I 66 (.load none (.t 65)),
   I 70 (.load (some 3) (.t 69)),
   I 71 (.call 34 [(.t 66), (.t 70)]),
   I 72 (.nilChk (.t 62)),
   I 73 (.fieldAddr 5 (.t 72)),
   I0 (.store 11 (.t 73) (.t 71))] []) (
 .seq (
 .reg [
   I 6 (.mov (.c (.int .i64 0)))] [6]) (
 .ret))))))))))⟩

/- (*sakia/engine.Engine[uint64]).Step -/
def c7 : AFn := ⟨2, [.tmp 4], (
 .seq (
 .reg [
   I 4 (.mov (.c (.bool false)))] [0, 1]) (
 .seq (
 .reg [
   I 6 (.mov (.t 0)),
   I 7 (.mov (.t 1)),
   I 8 (.call 31 [(.t 6), (.t 7)]),
   I 5 (.mov (.t 8))] [0, 1, 5]) (
 .seq (
 .seq (
 .reg [
   I 9 (.mov (.t 5)),
   I 10 (.isNil .ptr false (.t 9)),
   I 11 (.mov (.t 10)),
   IG (some 12) (11, false) (.mov (.t 5)),
   IG (some 13) (11, false) (.nilChk (.t 12)),
   IG (some 14) (11, false) (.fieldAddr 1 (.t 13)),
   IG (some 15) (11, false) (.load none (.t 14)),
   IG (some 16) (11, false) (.un .not (.t 15)),
   I 17 (.pick (.t 11) (.c (.bool true)) (.t 16))] [0, 1, 5, 17]) (
 .cond (.t 17) (
  .seq (
  .reg [
    I 4 (.mov (.c (.bool false)))] [4]) (
  .ret)) (
  .skip))) (
 .seq (
 .seq (
 .reg [
   I 18 (.mov (.t 1)),
   I 19 (.mov (.t 0)),
   I 20 (.nilChk (.t 19)),
   I 21 (.fieldAddr 0 (.t 20)),
   I 22 (.fieldAddr 3 (.t 21)),
   I 23 (.load none (.t 22)),
   I 24 (.bin .lss (.t 18) (.t 23))] [0, 1, 5, 24]) (
 .cond (.t 24) (
  .seq (
  .reg [
    I 25 (.mov (.t 0)),
    I 26 (.mov (.t 1)),
    I 27 (.mov (.t 5)),
    I 28 (.call 35 [(.t 25), (.t 26), (.t 27)]),
    I 4 (.mov (.t 28))] [4]) (
  .ret)) (
  .skip))) (
 .seq (
 .reg [
   I 29 (.mov (.t 0)),
   I 30 (.mov (.t 1)),
   I 31 (.mov (.t 5)),
   I 32 (.call 36 [(.t 29), (.t 30), (.t 31)]),
   I 4 (.mov (.t 32))] [4]) (
 .ret))))))⟩

/- (*sakia/engine.Engine[uint64]).Busy -/
def c8 : AFn := ⟨2, [.tmp 4], (
 .seq (
 .reg [
   I 4 (.mov (.c (.bool false)))] [0, 1]) (
 .seq (
 .reg [
   I 6 (.mov (.t 0)),
   I 7 (.mov (.t 1)),
   I 8 (.call 31 [(.t 6), (.t 7)]),
   I 5 (.mov (.t 8))] [5]) (
 .seq (
 .reg [
   I 9 (.mov (.t 5)),
   I 10 (.isNil .ptr true (.t 9)),
   I 11 (.mov (.t 10)),
   IG (some 12) (11, true) (.mov (.t 5)),
   IG (some 13) (11, true) (.nilChk (.t 12)),
   IG (some 14) (11, true) (.fieldAddr 1 (.t 13)),
   IG (some 15) (11, true) (.load none (.t 14)),
   I 16 (.pick (.t 11) (.t 15) (.c (.bool false))),
   I 4 (.mov (.t 16))] [4]) (
 .ret))))⟩

/- (*sakia/engine.Engine[uint64]).Threads -/
def c9 : AFn := ⟨1, [.tmp 2], (
 .seq (
 .reg [
   I 2 (.mov (.c (.int .i64 0)))] [0]) (
 .seq (
 .seq (
 .reg [
   I 3 (.mov (.t 0)),
   I 4 (.isNil .ptr false (.t 3))] [0, 4]) (
 .cond (.t 4) (
  .seq (
  .reg [
    I 2 (.mov (.c (.int .i64 0)))] [2]) (
  .ret)) (
  .skip))) (
 .seq (
 .reg [
   I 5 (.mov (.t 0)),
   I 6 (.nilChk (.t 5)),
   I 7 (.fieldAddr 10 (.t 6)),
   I 8 (.load none (.t 7)),
   I 9 (.len false (.t 8)),
   I 2 (.mov (.t 9))] [2]) (
 .ret))))⟩

/- (*sakia/engine.Engine[uint64]).Noted -/
def c10 : AFn := ⟨1, [.tmp 2], (
 .seq (
 .reg [
   I 2 (.mov (.c (.int .i64 0)))] [0]) (
 .seq (
 .seq (
 .reg [
   I 3 (.mov (.t 0)),
   I 4 (.isNil .ptr false (.t 3))] [0, 4]) (
 .cond (.t 4) (
  .seq (
  .reg [
    I 2 (.mov (.c (.int .i64 0)))] [2]) (
  .ret)) (
  .skip))) (
 .seq (
 .reg [
   I 5 (.mov (.t 0)),
   I 6 (.nilChk (.t 5)),
   I 7 (.fieldAddr 7 (.t 6)),
   I 8 (.load none (.t 7)),
   I 9 (.callQ 37 [(.t 8)]),
   I 2 (.mov (.t 9))] [2]) (
 .ret))))⟩

/- (*sakia/engine.Engine[uint64]).Events -/
def c11 : AFn := ⟨2, [.tmp 4], (
 .seq (
 .reg [
   I 4 (.mov (.c (.slice none 0 0)))] [0, 1]) (
 .seq (
 .seq (
 .reg [
   I 5 (.mov (.t 0)),
   I 6 (.isNil .ptr false (.t 5))] [0, 1, 6]) (
 .cond (.t 6) (
  .seq (
  .reg [
    I 4 (.mov (.c (.slice none 0 0)))] [4]) (
  .ret)) (
  .skip))) (
 .seq (
 .reg [
   I 7 (.mov (.t 0)),
   I 8 (.nilChk (.t 7)),
   I 9 (.fieldAddr 7 (.t 8)),
   I 10 (.load none (.t 9)),
   I 11 (.mov (.t 1)),
   I 12 (.call 38 [(.t 10), (.t 11)]),
   I 4 (.mov (.t 12))] [4]) (
 .ret))))⟩

/- (*sakia/engine.Engine[uint64]).Accesses -/
def c12 : AFn := ⟨1, [.tmp 2], (
 .seq (
 .reg [
   I 2 (.mov (.c (.slice none 0 0)))] [0]) (
 .seq (
 .seq (
 .reg [
   I 3 (.mov (.t 0)),
   I 4 (.isNil .ptr false (.t 3))] [0, 4]) (
 .cond (.t 4) (
  .seq (
  .reg [
    I 2 (.mov (.c (.slice none 0 0)))] [2]) (
  .ret)) (
  .skip))) (
 .seq (
 .reg [
   I 5 (.mov (.t 0)),
   I 6 (.nilChk (.t 5)),
   I 7 (.fieldAddr 6 (.t 6)),
   I 8 (.load none (.t 7)),
   I 9 (.call 39 [(.t 8)]),
   I 2 (.mov (.t 9))] [2]) (
 .ret))))⟩

/- (*sakia/engine.Engine[uint64]).Ready -/
def c13 : AFn := ⟨2, [.tmp 4], (
 .seq (
 .reg [
   I 4 (.mov (.c (.int .i64 0)))] [0, 1]) (
 .seq (
 .reg [
   I 6 (.mov (.t 0)),
   I 7 (.mov (.t 1)),
   I 8 (.call 31 [(.t 6), (.t 7)]),
   I 5 (.mov (.t 8))] [5]) (
 .seq (
 .seq (
 .reg [
   I 9 (.mov (.t 5)),
   I 10 (.isNil .ptr false (.t 9))] [5, 10]) (
 .cond (.t 10) (
  .seq (
  .reg [
    I 4 (.mov (.c (.int .i64 0)))] [4]) (
  .ret)) (
  .skip))) (
 .seq (
 .reg [
   I 11 (.mov (.t 5)),
   I 12 (.nilChk (.t 11)),
   I 13 (.fieldAddr 0 (.t 12)),
   I 14 (.load none (.t 13)),
   I 15 (.callQ 40 [(.t 14)]),
   I 4 (.mov (.t 15))] [4]) (
 .ret)))))⟩

/- (*sakia/engine.Engine[uint64]).Peek -/
def c14 : AFn := ⟨2, [.tmp 4], (
 .seq (
 .reg [
   I 4 (.mov (.c (.int .u64 0)))] [0, 1]) (
 .seq (
 .seq (
 .reg [
   I 5 (.mov (.t 0)),
   I 6 (.isNil .ptr false (.t 5))] [0, 1, 6]) (
 .cond (.t 6) (
  .seq (
  .reg [
    I 4 (.mov (.c (.int .u64 0)))] [4]) (
  .ret)) (
  .skip))) (
 .seq (
 .reg [
   I 7 (.mov (.t 0)),
   I 8 (.nilChk (.t 7)),
   I 9 (.fieldAddr 6 (.t 8)),
   I 10 (.load none (.t 9)),
   I 11 (.mov (.t 1)),
   I 12 (.callQ 41 [(.t 10), (.t 11)]),
   I 4 (.mov (.t 12))] [4]) (
 .ret))))⟩

/- sakia/sakialaw26.live -/
def c15 : AFn := ⟨0, [.tmp 0], (
 .seq (
 .reg [
   I 0 (.mov (.c (.bool false)))] []) (
 .seq (
 .reg [
   I 9 (.call 43 []),
   I 10 (.call 42 [(.t 9)]),
   I 8 (.mov (.t 10)),
   I 11 (.extract (.t 8) 0),
   I 12 (.extract (.t 8) 1),
   I 1 (.mov (.t 11)),
   I 2 (.mov (.t 12))] [1, 2]) (
 .seq (
 .seq (
 .reg [
   I 13 (.mov (.t 2)),
   I 14 (.bin .neq (.t 13) (.c (.int .i64 0)))] [1, 14]) (
 .cond (.t 14) (
  .seq (
  .reg [
    I 0 (.mov (.c (.bool false)))] [0]) (
  .ret)) (
  .skip))) (
 .seq (
 .reg [
   I 15 (.mov (.t 1)),
   I 16 (.build #[.int .i64 0, .int .i64 0, .slice none 0 0] [((0, 1), (.c (.int .i64 1))), ((1, 1), (.c (.int .i64 5)))]),
   I 17 (.call 44 [(.t 15), (.c (.int .i64 0)), (.t 16)]),
   I 18 (.mov (.t 1)),
   I 19 (.build #[.int .i64 0, .int .i64 0, .slice none 0 0] [((0, 1), (.c (.int .i64 1))), ((1, 1), (.c (.int .i64 2)))]),
   I 20 (.call 44 [(.t 18), (.c (.int .i64 0)), (.t 19)]),
   I 3 (.mov (.t 17)),
   I 4 (.mov (.t 20))] [1, 3, 4]) (
 .seq (
 .seq (
 .reg [
   I 5 (.mov (.c (.int .i64 0)))] [1, 3, 4, 5]) (
 .block 0 (
  .loop (
   .seq (
   .seq (
   .reg [
     I 21 (.mov (.t 5)),
     I 22 (.bin .lss (.t 21) (.c (.int .i64 9))),
     I 23 (.mov (.t 22)),
     IG (some 24) (23, true) (.mov (.t 1)),
     IG (some 25) (23, true) (.callQ 45 [(.t 24), (.c (.int .i64 0))]),
     I 26 (.pick (.t 23) (.t 25) (.c (.bool false)))] [1, 3, 4, 5, 26]) (
   .cond (.t 26) (
    .skip) (
    .exit 0))) (
   .seq (
   .block 1 (
    .reg [
      I 29 (.mov (.t 1)),
      I 30 (.call 46 [(.t 29), (.c (.int .i64 0))])] [1, 3, 4, 5])) (
   .reg [
     I 27 (.mov (.t 5)),
     I 28 (.bin .add (.t 27) (.c (.int .i64 1))),
     I 5 (.mov (.t 28))] [1, 3, 4, 5])))))) (
 .seq (
 .reg [
   I 31 (.mov (.t 1)),
   I 32 (.call 47 [(.t 31), (.c (.int .i64 0))]),
   I 6 (.mov (.t 32))] [3, 4, 6]) (
 .seq (
 .reg [
   I 33 (.mov (.t 6)),
   I 34 (.len false (.t 33)),
   I 7 (.mov (.t 34))] [3, 4, 6, 7]) (
 .seq (
 .reg [
   I 35 (.mov (.t 3)),
   I 36 (.bin .eql (.t 35) (.c (.int .i64 13))),
   I 37 (.mov (.t 36)),
   IG (some 38) (37, true) (.mov (.t 4)),
   IG (some 39) (37, true) (.bin .eql (.t 38) (.c (.int .i64 0))),
   I 40 (.pick (.t 37) (.t 39) (.c (.bool false))),
   I 41 (.mov (.t 40)),
   IG (some 42) (41, true) (.mov (.t 7)),
   IG (some 43) (41, true) (.bin .gtr (.t 42) (.c (.int .i64 3))),
   I 44 (.pick (.t 41) (.t 43) (.c (.bool false))),
   I 45 (.mov (.t 44)),
   IG (some 46) (45, true) (.mov (.t 6)),
   IG (some 47) (45, true) (.mov (.t 7)),
   IG (some 48) (45, true) (.bin .sub (.t 47) (.c (.int .i64 1))),
   IG (some 49) (45, true) (.indexAddr none 7 (.t 46) (.t 48)),
   IG (some 50) (45, true) (.fieldAddr 0 (.t 49)),
   IG (some 51) (45, true) (.load none (.t 50)),
   IG (some 52) (45, true) (.bin .eql (.t 51) (.c (.int .i64 2))),
   I 53 (.pick (.t 45) (.t 52) (.c (.bool false))),
   I 54 (.mov (.t 53)),
   IG (some 55) (54, true) (.mov (.t 6)),
   IG (some 56) (54, true) (.mov (.t 7)),
   IG (some 57) (54, true) (.bin .sub (.t 56) (.c (.int .i64 1))),
   IG (some 58) (54, true) (.indexAddr none 7 (.t 55) (.t 57)),
   IG (some 59) (54, true) (.fieldAddr 3 (.t 58)),
   IG (some 60) (54, true) (.load none (.t 59)),
   IG (some 61) (54, true) (.bin .eql (.t 60) (.c (.int .i64 2))),
   I 62 (.pick (.t 54) (.t 61) (.c (.bool false))),
   I 0 (.mov (.t 62))] [0]) (
 .ret)))))))))⟩

/- sakia/sakialaw27.live -/
def c16 : AFn := ⟨0, [.tmp 0], (
 .seq (
 .reg [
   I 0 (.mov (.c (.bool false)))] []) (
 .seq (
 .reg [
   I 8 (.call 43 []),
   I 9 (.call 48 [(.t 8)]),
   I 7 (.mov (.t 9)),
   I 10 (.extract (.t 7) 0),
   I 11 (.extract (.t 7) 1),
   I 1 (.mov (.t 10)),
   I 2 (.mov (.t 11))] [1, 2]) (
 .seq (
 .reg [
   I 12 (.mov (.t 1)),
   I 13 (.build #[.int .i64 0, .int .i64 0, .slice none 0 0] [((0, 1), (.c (.int .i64 6))), ((1, 1), (.c (.int .i64 2)))]),
   I 14 (.build #[.int .i64 0, .int .i64 0, .int .i64 0, .slice none 0 0] [((0, 1), (.c (.int .i64 1))), ((1, 3), (.t 13))]),
   I 15 (.call 49 [(.t 12), (.t 14)]),
   I 3 (.mov (.t 15))] [1, 2, 3]) (
 .seq (
 .reg [
   I 17 (.mov (.t 1)),
   I 18 (.call 18 [(.t 17), (.c (.int .i64 1)), (.c (.int .i64 9))]),
   I 16 (.mov (.t 18)),
   I 19 (.extract (.t 16) 0),
   I 20 (.extract (.t 16) 1),
   I 4 (.mov (.t 19)),
   I 5 (.mov (.t 20))] [1, 2, 3, 4, 5]) (
 .seq (
 .reg [
   I 21 (.mov (.t 1)),
   I 22 (.call 25 [(.t 21), (.c (.int .i64 0))]),
   I 6 (.mov (.t 22))] [1, 2, 3, 4, 5, 6]) (
 .seq (
 .reg [
   I 23 (.mov (.t 2)),
   I 24 (.bin .eql (.t 23) (.c (.int .i64 0))),
   I 25 (.mov (.t 24)),
   IG (some 26) (25, true) (.mov (.t 3)),
   IG (some 27) (25, true) (.bin .eql (.t 26) (.c (.int .i64 0))),
   I 28 (.pick (.t 25) (.t 27) (.c (.bool false))),
   I 29 (.mov (.t 28)),
   IG (some 30) (29, true) (.mov (.t 4)),
   IG (some 31) (29, true) (.bin .gtr (.t 30) (.c (.int .i64 0))),
   I 32 (.pick (.t 29) (.t 31) (.c (.bool false))),
   I 33 (.mov (.t 32)),
   IG (some 34) (33, true) (.mov (.t 5)),
   I 35 (.pick (.t 33) (.t 34) (.c (.bool false))),
   I 36 (.mov (.t 35)),
   IG (some 37) (36, true) (.mov (.t 1)),
   IG (some 38) (36, true) (.call 20 [(.t 37)]),
   I 39 (.pick (.t 36) (.t 38) (.c (.bool false))),
   I 40 (.mov (.t 39)),
   IG (some 41) (40, true) (.mov (.t 6)),
   IG (some 42) (40, true) (.len false (.t 41)),
   IG (some 43) (40, true) (.bin .gtr (.t 42) (.c (.int .i64 1))),
   I 44 (.pick (.t 40) (.t 43) (.c (.bool false))),
   I 45 (.mov (.t 44)),
   IG (some 46) (45, true) (.mov (.t 6)),
   IG (some 47) (45, true) (.mov (.t 6)),
   IG (some 48) (45, true) (.len false (.t 47)),
   IG (some 49) (45, true) (.bin .sub (.t 48) (.c (.int .i64 1))),
   IG (some 50) (45, true) (.indexAddr none 7 (.t 46) (.t 49)),
   IG (some 51) (45, true) (.fieldAddr 2 (.t 50)),
   IG (some 52) (45, true) (.load none (.t 51)),
   IG (some 53) (45, true) (.bin .eql (.t 52) (.c (.int .i64 6))),
   I 54 (.pick (.t 45) (.t 53) (.c (.bool false))),
   I 55 (.mov (.t 54)),
   IG (some 56) (55, true) (.mov (.t 6)),
   IG (some 57) (55, true) (.mov (.t 6)),
   IG (some 58) (55, true) (.len false (.t 57)),
   IG (some 59) (55, true) (.bin .sub (.t 58) (.c (.int .i64 1))),
   IG (some 60) (55, true) (.indexAddr none 7 (.t 56) (.t 59)),
   IG (some 61) (55, true) (.fieldAddr 3 (.t 60)),
   IG (some 62) (55, true) (.load none (.t 61)),
   IG (some 63) (55, true) (.bin .eql (.t 62) (.c (.int .i64 0))),
   I 64 (.pick (.t 55) (.t 63) (.c (.bool false))),
   I 0 (.mov (.t 64))] [0]) (
 .ret)))))))⟩

/- (*sakia/fabric.Fabric).Run -/
def c17 : AFn := ⟨2, [.tmp 4], (
 .seq (
 .reg [
   I 4 (.mov (.c (.slice none 0 0)))] [0, 1]) (
 .seq (
 .reg [
   I 5 (.mov (.c (.slice none 0 0)))] [0, 1, 5]) (
 .seq (
 .seq (
 .reg [
   I 8 (.mov (.t 1)),
   I 9 (.len false (.t 8)),
   I 10 (.mov (.c (.int .i64 0)))] [0, 5, 8, 9, 10]) (
 .block 0 (
  .loop (
   .seq (
   .reg [
     I 11 (.bin .lss (.t 10) (.t 9))] [0, 5, 8, 9, 10, 11]) (
   .seq (
   .cond (.t 11) (
    .skip) (
    .exit 0)) (
   .seq (
   .block 1 (
    .seq (
    .reg [
      I 12 (.indexAddr none 4 (.t 8) (.t 10)),
      I 13 (.load (some 4) (.t 12)),
      I 7 (.alloc [.int .i64 0, .int .i64 0, .int .i64 0, .slice none 0 0]),
      I0 (.store 4 (.t 7) (.t 13))] [0, 5, 7, 8, 9, 10]) (
    .reg [
      I 14 (.mov (.t 5)),
      I 15 (.mov (.t 0)),
      I 16 (.load (some 4) (.t 7)),
      I 17 (.call 49 [(.t 15), (.t 16)]),
      I 18 (.buildSlice 1 #[.int .i64 0] 1 [(0, (.t 17))]),
      I 19 (.append 1 8 (.t 14) (.t 18)),
      I 5 (.mov (.t 19))] [0, 5, 8, 9, 10]))) (
   .reg [
     I 20 (.bin .add (.t 10) (.c (.int .i64 1))),
     I 10 (.mov (.t 20))] [0, 5, 8, 9, 10]))))))) (
 .seq (
 .reg [
   I 21 (.mov (.t 5)),
   I 4 (.mov (.t 21))] [4]) (
 .ret)))))⟩

/- (*sakia/fabric.Fabric).Finish -/
def c18 : AFn := ⟨3, [.tmp 6, .tmp 7], (
 .seq (
 .reg [
   I 6 (.mov (.c (.int .i64 0))),
   I 7 (.mov (.c (.bool false)))] [0, 1, 2]) (
 .seq (
 .reg [
   I 8 (.mov (.c (.int .i64 0)))] [0, 1, 2, 8]) (
 .seq (
 .block 0 (
  .loop (
   .seq (
   .seq (
   .reg [
     I 9 (.mov (.t 0)),
     I 10 (.mov (.t 1)),
     I 11 (.call 21 [(.t 9), (.t 10)]),
     I 12 (.mov (.t 11)),
     IG (some 13) (12, true) (.mov (.t 8)),
     IG (some 14) (12, true) (.mov (.t 2)),
     IG (some 15) (12, true) (.bin .lss (.t 13) (.t 14)),
     I 16 (.pick (.t 12) (.t 15) (.c (.bool false)))] [0, 1, 2, 8, 16]) (
   .cond (.t 16) (
    .skip) (
    .exit 0))) (
   .block 1 (
    .seq (
    .reg [
      I 17 (.mov (.t 0)),
      I 18 (.nilChk (.t 17)),
      I 19 (.fieldAddr 14 (.t 18)),
      I 20 (.fieldAddr 0 (.t 19)),
      I 21 (.load none (.t 20)),
      I 22 (.mov (.t 1)),
      I 23 (.invoke "Step" (.t 21) [(.t 22)])] [0, 1, 2, 8]) (
    .reg [
      I 24 (.mov (.t 8)),
      I 25 (.bin .add (.t 24) (.c (.int .i64 1))),
      I 8 (.mov (.t 25))] [0, 1, 2, 8])))))) (
 .seq (
 .reg [
   I 26 (.mov (.t 8)),
   I 27 (.mov (.t 0)),
   I 28 (.mov (.t 1)),
   I 29 (.call 21 [(.t 27), (.t 28)]),
   I 30 (.un .not (.t 29)),
   I 6 (.mov (.t 26)),
   I 7 (.mov (.t 30))] [6, 7]) (
 .ret)))))⟩

/- (*sakia/fabric.Fabric).Call -/
def c19 : AFn := ⟨2, [.cell 4 (some 3), .tmp 5], (
 .seq (
 .reg [
   I 4 (.alloc [.int .i64 0, .int .i64 0, .slice none 0 0]),
   I 5 (.mov (.c (.bool false)))] [0, 1, 4]) (
 .seq (
 .seq (
 .reg [
   I 6 (.mov (.t 0)),
   I 7 (.isNil .ptr false (.t 6))] [0, 1, 4, 7]) (
 .cond (.t 7) (
  .seq (
  .reg [
    I 8 (.build #[.int .i64 0, .int .i64 0, .slice none 0 0] []),
    I0 (.store 3 (.t 4) (.t 8)),
    I 5 (.mov (.c (.bool false)))] [4, 5]) (
  .ret)) (
  .skip))) (
 .seq (
 .reg [
   I 9 (.mov (.t 0)),
   I 10 (.nilChk (.t 9)),
   I 11 (.fieldAddr 14 (.t 10)),
   I 12 (.fieldAddr 0 (.t 11)),
   I 13 (.load none (.t 12)),
   I 14 (.mov (.t 1)),
   I 15 (.invoke "Call" (.t 13) [(.t 14)]),
   I 16 (.extract (.t 15) 0),
   I 17 (.extract (.t 15) 1),
   I0 (.store 3 (.t 4) (.t 16)),
   I 5 (.mov (.t 17))] [4, 5]) (
 .ret))))⟩

/- (*sakia/fabric.Fabric).Idle -/
def c20 : AFn := ⟨1, [.tmp 2], (
 .seq (
 .reg [
   I 2 (.mov (.c (.bool false)))] [0]) (
 .seq (
 .seq (
 .reg [
   I 4 (.mov (.t 0)),
   I 5 (.call 22 [(.t 4)]),
   I 6 (.mov (.c (.int .i64 0)))] [0, 5, 6]) (
 .block 0 (
  .loop (
   .seq (
   .reg [
     I 7 (.bin .lss (.t 6) (.t 5))] [0, 5, 6, 7]) (
   .seq (
   .cond (.t 7) (
    .skip) (
    .exit 0)) (
   .seq (
   .block 1 (
    .seq (
    .reg [
      I 8 (.mov (.t 6)),
      I 3 (.mov (.t 8))] [0, 3, 5, 6]) (
    .seq (
    .reg [
      I 9 (.mov (.t 0)),
      I 10 (.mov (.t 3)),
      I 11 (.call 21 [(.t 9), (.t 10)])] [0, 5, 6, 11]) (
    .cond (.t 11) (
     .seq (
     .reg [
       I 2 (.mov (.c (.bool false)))] [2]) (
     .ret)) (
     .skip))))) (
   .reg [
     I 12 (.bin .add (.t 6) (.c (.int .i64 1))),
     I 6 (.mov (.t 12))] [0, 5, 6]))))))) (
 .seq (
 .reg [
   I 2 (.mov (.c (.bool true)))] [2]) (
 .ret))))⟩

/- (*sakia/fabric.Fabric).Busy -/
def c21 : AFn := ⟨2, [.tmp 4], (
 .seq (
 .reg [
   I 4 (.mov (.c (.bool false)))] [0, 1]) (
 .seq (
 .reg [
   I 5 (.mov (.t 0)),
   I 6 (.isNil .ptr true (.t 5)),
   I 7 (.mov (.t 6)),
   IG (some 8) (7, true) (.mov (.t 0)),
   IG (some 9) (7, true) (.nilChk (.t 8)),
   IG (some 10) (7, true) (.fieldAddr 14 (.t 9)),
   IG (some 11) (7, true) (.fieldAddr 0 (.t 10)),
   IG (some 12) (7, true) (.load none (.t 11)),
   IG (some 13) (7, true) (.mov (.t 1)),
   IG (some 14) (7, true) (.invoke "Busy" (.t 12) [(.t 13)]),
   I 15 (.pick (.t 7) (.t 14) (.c (.bool false))),
   I 4 (.mov (.t 15))] [4]) (
 .ret)))⟩

/- (*sakia/fabric.Fabric).Threads -/
def c22 : AFn := ⟨1, [.tmp 2], (
 .seq (
 .reg [
   I 2 (.mov (.c (.int .i64 0)))] [0]) (
 .seq (
 .seq (
 .reg [
   I 3 (.mov (.t 0)),
   I 4 (.isNil .ptr false (.t 3))] [0, 4]) (
 .cond (.t 4) (
  .seq (
  .reg [
    I 2 (.mov (.c (.int .i64 0)))] [2]) (
  .ret)) (
  .skip))) (
 .seq (
 .reg [
   I 5 (.mov (.t 0)),
   I 6 (.nilChk (.t 5)),
   I 7 (.fieldAddr 14 (.t 6)),
   I 8 (.fieldAddr 0 (.t 7)),
   I 9 (.load none (.t 8)),
   I 10 (.invoke "Threads" (.t 9) []),
   I 2 (.mov (.t 10))] [2]) (
 .ret))))⟩

/- (*sakia/fabric.Fabric).Noted -/
def c23 : AFn := ⟨1, [.tmp 2], (
 .seq (
 .reg [
   I 2 (.mov (.c (.int .i64 0)))] [0]) (
 .seq (
 .seq (
 .reg [
   I 3 (.mov (.t 0)),
   I 4 (.isNil .ptr false (.t 3))] [0, 4]) (
 .cond (.t 4) (
  .seq (
  .reg [
    I 2 (.mov (.c (.int .i64 0)))] [2]) (
  .ret)) (
  .skip))) (
 .seq (
 .reg [
   I 5 (.mov (.t 0)),
   I 6 (.nilChk (.t 5)),
   I 7 (.fieldAddr 14 (.t 6)),
   I 8 (.fieldAddr 0 (.t 7)),
   I 9 (.load none (.t 8)),
   I 10 (.invoke "Noted" (.t 9) []),
   I 2 (.mov (.t 10))] [2]) (
 .ret))))⟩

/- (*sakia/fabric.Fabric).Ready -/
def c24 : AFn := ⟨2, [.tmp 4], (
 .seq (
 .reg [
   I 4 (.mov (.c (.int .i64 0)))] [0, 1]) (
 .seq (
 .seq (
 .reg [
   I 5 (.mov (.t 0)),
   I 6 (.isNil .ptr false (.t 5))] [0, 1, 6]) (
 .cond (.t 6) (
  .seq (
  .reg [
    I 4 (.mov (.c (.int .i64 0)))] [4]) (
  .ret)) (
  .skip))) (
 .seq (
 .reg [
   I 7 (.mov (.t 0)),
   I 8 (.nilChk (.t 7)),
   I 9 (.fieldAddr 14 (.t 8)),
   I 10 (.fieldAddr 0 (.t 9)),
   I 11 (.load none (.t 10)),
   I 12 (.mov (.t 1)),
   I 13 (.invoke "Ready" (.t 11) [(.t 12)]),
   I 4 (.mov (.t 13))] [4]) (
 .ret))))⟩

/- (*sakia/fabric.Fabric).Events -/
def c25 : AFn := ⟨2, [.tmp 4], (
 .seq (
 .reg [
   I 4 (.mov (.c (.slice none 0 0)))] [0, 1]) (
 .seq (
 .seq (
 .reg [
   I 5 (.mov (.t 0)),
   I 6 (.isNil .ptr false (.t 5))] [0, 1, 6]) (
 .cond (.t 6) (
  .seq (
  .reg [
    I 4 (.mov (.c (.slice none 0 0)))] [4]) (
  .ret)) (
  .skip))) (
 .seq (
 .reg [
   I 7 (.mov (.t 0)),
   I 8 (.nilChk (.t 7)),
   I 9 (.fieldAddr 14 (.t 8)),
   I 10 (.fieldAddr 0 (.t 9)),
   I 11 (.load none (.t 10)),
   I 12 (.mov (.t 1)),
   I 13 (.invoke "Events" (.t 11) [(.t 12)]),
   I 4 (.mov (.t 13))] [4]) (
 .ret))))⟩

/- (*sakia/fabric.Fabric).Accesses -/
def c26 : AFn := ⟨1, [.tmp 2], (
 .seq (
 .reg [
   I 2 (.mov (.c (.slice none 0 0)))] [0]) (
 .seq (
 .seq (
 .reg [
   I 3 (.mov (.t 0)),
   I 4 (.isNil .ptr false (.t 3))] [0, 4]) (
 .cond (.t 4) (
  .seq (
  .reg [
    I 2 (.mov (.c (.slice none 0 0)))] [2]) (
  .ret)) (
  .skip))) (
 .seq (
 .reg [
   I 5 (.mov (.t 0)),
   I 6 (.nilChk (.t 5)),
   I 7 (.fieldAddr 14 (.t 6)),
   I 8 (.fieldAddr 0 (.t 7)),
   I 9 (.load none (.t 8)),
   I 10 (.invoke "Accesses" (.t 9) []),
   I 2 (.mov (.t 10))] [2]) (
 .ret))))⟩

/- (*sakia/fabric.Fabric).Layout -/
def c27 : AFn := ⟨1, [.cell 2 (some 14)], (
 .seq (
 .reg [
   I 2 (.alloc [.int .i64 0, .int .i64 0, .int .i64 0, .int .i64 0, .int .u64 0, .slice none 0 0, .int .i64 0, .int .i64 0, .int .i64 0, .int .i64 0, .int .i64 0, .int .i64 0, .int .i64 0, .int .i64 0])] [0, 2]) (
 .seq (
 .seq (
 .reg [
   I 4 (.mov (.t 0)),
   I 5 (.isNil .ptr false (.t 4))] [0, 2, 5]) (
 .cond (.t 5) (
  .seq (
  .reg [
    I 6 (.build #[.int .i64 0, .int .i64 0, .int .i64 0, .int .i64 0, .int .u64 0, .slice none 0 0, .int .i64 0, .int .i64 0, .int .i64 0, .int .i64 0, .int .i64 0, .int .i64 0, .int .i64 0, .int .i64 0] []),
    I0 (.store 14 (.t 2) (.t 6))] [2]) (
  .ret)) (
  .skip))) (
 .seq (
 .reg [
   I 7 (.mov (.t 0)),
   I 8 (.nilChk (.t 7)),
   I 9 (.fieldAddr 0 (.t 8)),
   I 10 (.load (some 14) (.t 9)),
   I 3 (.alloc [.int .i64 0, .int .i64 0, .int .i64 0, .int .i64 0, .int .u64 0, .slice none 0 0, .int .i64 0, .int .i64 0, .int .i64 0, .int .i64 0, .int .i64 0, .int .i64 0, .int .i64 0, .int .i64 0]),
   I0 (.store 14 (.t 3) (.t 10))] [0, 2, 3]) (
 .seq (
 .reg [
   I 11 (.mov (.t 0)),
   I 12 (.call 28 [(.t 11)]),
   I 13 (.fieldAddr 0 (.t 3)),
   I0 (.store 6 (.t 13) (.t 12))] [2, 3]) (
 .seq (
 .reg [
   I 14 (.load (some 14) (.t 3)),
   I0 (.store 14 (.t 2) (.t 14))] [2]) (
 .ret))))))⟩

/- (*sakia/fabric.Fabric).Conf -/
def c28 : AFn := ⟨1, [.cell 2 (some 6)], (
 .seq (
 .reg [
   I 2 (.alloc [.int .i64 0, .int .i64 0, .int .i64 0, .int .i64 0, .int .u64 0, .slice none 0 0])] [0, 2]) (
 .seq (
 .seq (
 .reg [
   I 4 (.mov (.t 0)),
   I 5 (.isNil .ptr false (.t 4))] [0, 2, 5]) (
 .cond (.t 5) (
  .seq (
  .reg [
    I 6 (.build #[.int .i64 0, .int .i64 0, .int .i64 0, .int .i64 0, .int .u64 0, .slice none 0 0] []),
    I0 (.store 6 (.t 2) (.t 6))] [2]) (
  .ret)) (
  .skip))) (
 .seq (
 .reg [
   I 7 (.mov (.t 0)),
   I 8 (.nilChk (.t 7)),
   I 9 (.fieldAddr 0 (.t 8)),
   I 10 (.fieldAddr 0 (.t 9)),
   I 11 (.load (some 6) (.t 10)),
   I 3 (.alloc [.int .i64 0, .int .i64 0, .int .i64 0, .int .i64 0, .int .u64 0, .slice none 0 0]),
   I0 (.store 6 (.t 3) (.t 11))] [2, 3]) (
 .seq (
 .reg [
   I 12 (.fieldAddr 5 (.t 3)),
   I 13 (.load none (.t 12)),
   I 14 (.call 50 [(.t 13)]),
   I 15 (.fieldAddr 5 (.t 3)),
   I0 (.store 1 (.t 15) (.t 14))] [2, 3]) (
 .seq (
 .reg [
   I 16 (.load (some 6) (.t 3)),
   I0 (.store 6 (.t 2) (.t 16))] [2]) (
 .ret))))))⟩

/- (*sakia/fabric.Fabric).Peek -/
def c29 : AFn := ⟨2, [.tmp 4], (
 .seq (
 .reg [
   I 4 (.mov (.c (.int .u64 0)))] [0, 1]) (
 .seq (
 .seq (
 .reg [
   I 5 (.mov (.t 0)),
   I 6 (.isNil .ptr false (.t 5))] [0, 1, 6]) (
 .cond (.t 6) (
  .seq (
  .reg [
    I 4 (.mov (.c (.int .u64 0)))] [4]) (
  .ret)) (
  .skip))) (
 .seq (
 .reg [
   I 7 (.mov (.t 0)),
   I 8 (.nilChk (.t 7)),
   I 9 (.fieldAddr 14 (.t 8)),
   I 10 (.fieldAddr 0 (.t 9)),
   I 11 (.load none (.t 10)),
   I 12 (.mov (.t 1)),
   I 13 (.invoke "Peek" (.t 11) [(.t 12)]),
   I 4 (.mov (.t 13))] [4]) (
 .ret))))⟩

/- sakia/engine.copied -/
def c30 : AFn := ⟨1, [.cell 2 (some 3)], (
 .seq (
 .reg [
   I 1 (.box (.t 0)),
   I 2 (.alloc [.int .i64 0, .int .i64 0, .slice none 0 0])] [1, 2]) (
 .seq (
 .reg [
   I 3 (.buildSlice 1 #[.int .i64 0] 0 []),
   I 4 (.fieldAddr 2 (.t 1)),
   I 5 (.load none (.t 4)),
   I 6 (.append 1 8 (.t 3) (.t 5)),
   I 7 (.fieldAddr 2 (.t 1)),
   I0 (.store 1 (.t 7) (.t 6))] [1, 2]) (
 .seq (
 .reg [
   I 8 (.load (some 3) (.t 1)),
   I0 (.store 3 (.t 2) (.t 8))] [2]) (
 .ret))))⟩

/- (*sakia/engine.Engine[uint64]).at -/
def c31 : AFn := ⟨2, [.tmp 4], (
 .seq (
 .reg [
   I 4 (.mov (.c (.pointer none)))] [0, 1]) (
 .seq (
 .seq (
 .reg [
   I 5 (.mov (.t 0)),
   I 6 (.isNil .ptr false (.t 5)),
   I 7 (.mov (.t 6)),
   IG (some 8) (7, false) (.mov (.t 1)),
   IG (some 9) (7, false) (.bin .lss (.t 8) (.c (.int .i64 0))),
   I 10 (.pick (.t 7) (.c (.bool true)) (.t 9)),
   I 11 (.mov (.t 10)),
   IG (some 12) (11, false) (.mov (.t 1)),
   IG (some 13) (11, false) (.mov (.t 0)),
   IG (some 14) (11, false) (.nilChk (.t 13)),
   IG (some 15) (11, false) (.fieldAddr 10 (.t 14)),
   IG (some 16) (11, false) (.load none (.t 15)),
   IG (some 17) (11, false) (.len false (.t 16)),
   IG (some 18) (11, false) (.bin .geq (.t 12) (.t 17)),
   I 19 (.pick (.t 11) (.c (.bool true)) (.t 18))] [0, 1, 19]) (
 .cond (.t 19) (
  .seq (
  .reg [
    I 4 (.mov (.c (.pointer none)))] [4]) (
  .ret)) (
  .skip))) (
 .seq (
 .reg [
   I 20 (.mov (.t 0)),
   I 21 (.nilChk (.t 20)),
   I 22 (.fieldAddr 10 (.t 21)),
   I 23 (.load none (.t 22)),
   I 24 (.mov (.t 1)),
   I 25 (.indexAddr none 1 (.t 23) (.t 24)),
   I 26 (.load none (.t 25)),
   I 4 (.mov (.t 26))] [4]) (
 .ret))))⟩

/- (*sakia/event.Log).Note -/
def c32 : AFn := ⟨2, [], (
 .seq (
 .reg [
   I 3 (.box (.t 1))] [0, 3]) (
 .seq (
 .reg [
   I 4 (.mov (.t 0)),
   I 5 (.isNil .ptr true (.t 4))] [0, 3, 5]) (
 .cond (.t 5) (
  .regd [0, 1, 2, 3, 4, 5, 6, 7, 8, 9, 10, 11] [
    I 6 (.mov (.t 0)),
    I 7 (.mov (.t 0)),
    I 8 (.nilChk (.t 7)),
    I 9 (.fieldAddr 0 (.t 8)),
    I 10 (.load none (.t 9)),
    I 11 (.load (some 7) (.t 3)),
    I 12 (.hold [(none, (.t 9))] (.call 51 [(.t 11)])),
    I 13 (.buildSlice 7 #[.int .i64 0, .int .i64 0, .int .i64 0, .int .i64 0, .int .u64 0, .int .i64 0, .slice none 0 0] 1 [(0, (.t 12))]),
    I 14 (.append 7 72 (.t 10) (.t 13)),
    I 15 (.nilChk (.t 6)),
    I 16 (.fieldAddr 0 (.t 15)),
    I0 (.store 1 (.t 16) (.t 14))] []) (
  .skip))))⟩

/- (*sakia/guard.Handle[uint64]).May -/
def c33 : AFn := ⟨2, [.tmp 4], (
 .seq (
 .reg [
   I 3 (.box (.t 1)),
   I 4 (.mov (.c (.int .i64 0)))] [0, 3]) (
 .seq (
 .seq (
 .reg [
   I 7 (.mov (.t 0)),
   I 8 (.isNil .ptr false (.t 7))] [0, 3, 8]) (
 .cond (.t 8) (
  .seq (
  .reg [
    I 4 (.mov (.c (.int .i64 22)))] [4]) (
  .ret)) (
  .skip))) (
 .seq (
 .reg [
   I 9 (.fieldAddr 0 (.t 3)),
   I 10 (.load none (.t 9)),
   I 11 (.bin .eql (.t 10) (.c (.int .i64 1))),
   I 12 (.mov (.t 11)),
   IG (some 13) (12, false) (.fieldAddr 0 (.t 3)),
   IG (some 14) (12, false) (.load none (.t 13)),
   IG (some 15) (12, false) (.bin .eql (.t 14) (.c (.int .i64 2))),
   I 16 (.pick (.t 12) (.c (.bool true)) (.t 15)),
   I 17 (.mov (.t 16)),
   IG (some 18) (17, false) (.fieldAddr 0 (.t 3)),
   IG (some 19) (17, false) (.load none (.t 18)),
   IG (some 20) (17, false) (.bin .eql (.t 19) (.c (.int .i64 5))),
   I 21 (.pick (.t 17) (.c (.bool true)) (.t 20)),
   I 5 (.mov (.t 21))] [0, 3, 5]) (
 .seq (
 .seq (
 .reg [
   I 22 (.mov (.t 5)),
   I 23 (.mov (.t 0)),
   I 24 (.nilChk (.t 23)),
   I 25 (.fieldAddr 1 (.t 24)),
   I 26 (.load none (.t 25)),
   I 27 (.eqB true (.t 22) (.t 26))] [0, 3, 27]) (
 .cond (.t 27) (
  .seq (
  .reg [
    I 4 (.mov (.c (.int .i64 12)))] [4]) (
  .ret)) (
  .skip))) (
 .seq (
 .reg [
   I 28 (.fieldAddr 1 (.t 3)),
   I 29 (.load none (.t 28)),
   I 6 (.mov (.t 29))] [0, 3, 6]) (
 .seq (
 .seq (
 .reg [
   I 30 (.fieldAddr 0 (.t 3)),
   I 31 (.load none (.t 30))] [0, 3, 6, 31]) (
 .block 0 (
  .seq (
  .block 7 (
   .seq (
   .block 6 (
    .seq (
    .block 5 (
     .seq (
     .block 4 (
      .seq (
      .block 3 (
       .seq (
       .block 2 (
        .seq (
        .block 1 (
         .seq (
         .seq (
         .seq (
         .reg [
           I 33 (.bin .eql (.t 31) (.c (.int .i64 5))),
           I 32 (.mov (.t 33))] [0, 3, 6, 31, 32]) (
         .cond (.t 32) (
          .exit 1) (
          .skip))) (
         .seq (
         .seq (
         .reg [
           I 35 (.bin .eql (.t 31) (.c (.int .i64 1))),
           I 34 (.mov (.t 35))] [0, 6, 31, 34]) (
         .cond (.t 34) (
          .exit 2) (
          .skip))) (
         .seq (
         .seq (
         .reg [
           I 37 (.bin .eql (.t 31) (.c (.int .i64 2))),
           I 36 (.mov (.t 37))] [0, 6, 31, 36]) (
         .cond (.t 36) (
          .exit 3) (
          .skip))) (
         .seq (
         .seq (
         .reg [
           I 39 (.bin .eql (.t 31) (.c (.int .i64 4))),
           I 38 (.mov (.t 39))] [0, 6, 31, 38]) (
         .cond (.t 38) (
          .exit 4) (
          .skip))) (
         .seq (
         .seq (
         .reg [
           I 41 (.bin .eql (.t 31) (.c (.int .i64 6))),
           I 40 (.mov (.t 41))] [0, 6, 31, 40]) (
         .cond (.t 40) (
          .exit 5) (
          .skip))) (
         .seq (
         .reg [
           I 43 (.bin .eql (.t 31) (.c (.int .i64 3))),
           I 42 (.mov (.t 43))] [42]) (
         .cond (.t 42) (
          .exit 6) (
          .skip)))))))) (
         .exit 7))) (
        .reg [
          I 44 (.fieldAddr 2 (.t 3)),
          I 45 (.load none (.t 44)),
          I 46 (.len false (.t 45)),
          I 6 (.mov (.t 46))] [0, 6]))) (
       .seq (
       .seq (
       .reg [
         I 47 (.mov (.t 0)),
         I 48 (.mov (.t 6)),
         I 49 (.callQ 52 [(.t 47), (.t 48)]),
         I 4 (.mov (.t 49))] [4]) (
       .ret)) (
       .exit 0)))) (
      .seq (
      .seq (
      .reg [
        I 50 (.mov (.t 0)),
        I 51 (.nilChk (.t 50)),
        I 52 (.fieldAddr 2 (.t 51)),
        I 53 (.load none (.t 52)),
        I 54 (.un .not (.t 53))] [54]) (
      .cond (.t 54) (
       .seq (
       .reg [
         I 4 (.mov (.c (.int .i64 14)))] [4]) (
       .ret)) (
       .skip))) (
      .exit 0)))) (
     .seq (
     .seq (
     .reg [
       I 55 (.mov (.t 6)),
       I 56 (.bin .lss (.t 55) (.c (.int .i64 1))),
       I 57 (.mov (.t 56)),
       IG (some 58) (57, false) (.mov (.t 6)),
       IG (some 59) (57, false) (.mov (.t 0)),
       IG (some 60) (57, false) (.callQ 40 [(.t 59)]),
       IG (some 61) (57, false) (.bin .gtr (.t 58) (.t 60)),
       I 62 (.pick (.t 57) (.c (.bool true)) (.t 61))] [62]) (
     .cond (.t 62) (
      .seq (
      .reg [
        I 4 (.mov (.c (.int .i64 13)))] [4]) (
      .ret)) (
      .skip))) (
     .exit 0)))) (
    .seq (
    .seq (
    .reg [
      I 63 (.mov (.t 0)),
      I 64 (.mov (.t 6)),
      I 65 (.callQ 53 [(.t 63), (.t 64)]),
      I 4 (.mov (.t 65))] [4]) (
    .ret)) (
    .exit 0)))) (
   .exit 0))) (
  .seq (
  .seq (
  .reg [
    I 4 (.mov (.c (.int .i64 12)))] [4]) (
  .ret)) (
  .exit 0))))) (
 .seq (
 .reg [
   I 4 (.mov (.c (.int .i64 0)))] [4]) (
 .ret))))))))⟩

/- sakia/engine.frame[uint64] -/
def c34 : AFn := ⟨2, [.cell 4 (some 11)], (
 .seq (
 .reg [
   I 3 (.box (.t 1)),
   I 4 (.alloc [.int .i64 0, .int .i64 0, .int .i64 0, .int .i64 0, .int .i64 0, .int .i64 0, .int .u64 0, .int .u64 0, .int .u64 0, .int .u64 0, .slice none 0 0])] [0, 3, 4]) (
 .seq (
 .reg [
   I 8 (.fieldAddr 0 (.t 3)),
   I 9 (.load none (.t 8)),
   I 10 (.fieldAddr 1 (.t 3)),
   I 11 (.load none (.t 10)),
   I 12 (.fieldAddr 2 (.t 3)),
   I 13 (.load none (.t 12)),
   I 14 (.build #[.int .i64 0, .int .i64 0, .int .i64 0, .int .i64 0, .int .i64 0, .int .i64 0, .int .u64 0, .int .u64 0, .int .u64 0, .int .u64 0, .slice none 0 0] [((0, 1), (.t 9)), ((1, 1), (.t 11)), ((10, 1), (.t 13))]),
   I 5 (.alloc [.int .i64 0, .int .i64 0, .int .i64 0, .int .i64 0, .int .i64 0, .int .i64 0, .int .u64 0, .int .u64 0, .int .u64 0, .int .u64 0, .slice none 0 0]),
   I0 (.store 11 (.t 5) (.t 14))] [0, 3, 4, 5]) (
 .seq (
 .seq (
 .reg [
   I 15 (.fieldAddr 0 (.t 3)),
   I 16 (.load none (.t 15))] [0, 3, 4, 5, 16]) (
 .block 0 (
  .seq (
  .reg [
    I 18 (.bin .eql (.t 16) (.c (.int .i64 2))),
    I 17 (.mov (.t 18))] [0, 3, 4, 5, 16, 17]) (
  .cond (.t 17) (
   .seq (
   .reg [
     I 20 (.mov (.t 0)),
     I 21 (.call 54 [(.t 20)]),
     I 19 (.mov (.t 21)),
     I 22 (.extract (.t 19) 0),
     I 23 (.extract (.t 19) 1),
     I 6 (.alloc [.int .u64 0, .int .i64 0]),
     I0 (.store 2 (.t 6) (.t 22)),
     I 7 (.mov (.t 23))] [4, 5, 6]) (
   .regd [0, 2, 1, 4, 3, 5, 6, 7] [
     I 24 (.fieldAddr 0 (.t 6)),
     I 26 (.fieldAddr 1 (.t 6)),
     I 25 (.load none (.t 24)),
     I 28 (.fieldAddr 6 (.t 5)),
     I 27 (.load none (.t 26)),
     I0 (.hold [(none, (.t 26))] (.store 1 (.t 28) (.t 25))),
     I 29 (.fieldAddr 1 (.t 5)),
     I0 (.store 1 (.t 29) (.t 27))] [4, 5])) (
   .seq (
   .reg [
     I 31 (.bin .eql (.t 16) (.c (.int .i64 5))),
     I 30 (.mov (.t 31))] [0, 3, 4, 5, 16, 30]) (
   .cond (.t 30) (
    .reg [
      I 32 (.fieldAddr 2 (.t 3)),
      I 33 (.load none (.t 32)),
      I 34 (.len false (.t 33)),
      I 35 (.fieldAddr 1 (.t 5)),
      I0 (.store 1 (.t 35) (.t 34))] [4, 5]) (
    .seq (
    .seq (
    .reg [
      I 37 (.bin .eql (.t 16) (.c (.int .i64 3))),
      I 36 (.mov (.t 37))] [0, 4, 5, 16, 36]) (
    .cond (.t 36) (
     .skip) (
     .reg [
       I 38 (.bin .eql (.t 16) (.c (.int .i64 6))),
       I 36 (.mov (.t 38))] [0, 4, 5, 16, 36]))) (
    .cond (.t 36) (
     .reg [
       I 39 (.mov (.t 0)),
       I 40 (.callQ 55 [(.t 39)]),
       I 41 (.fieldAddr 8 (.t 5)),
       I0 (.store 1 (.t 41) (.t 40)),
       I 42 (.fieldAddr 10 (.t 5)),
       I0 (.store 1 (.t 42) (.c (.slice none 0 0)))] [4, 5]) (
     .seq (
     .reg [
       I 44 (.bin .eql (.t 16) (.c (.int .i64 4))),
       I 43 (.mov (.t 44))] [0, 4, 5, 43]) (
     .cond (.t 43) (
      .reg [
        I 45 (.mov (.t 0)),
        I 46 (.callQ 56 [(.t 45)]),
        I 47 (.fieldAddr 6 (.t 5)),
        I0 (.store 1 (.t 47) (.t 46))] [4, 5]) (
      .skip))))))))))) (
 .seq (
 .reg [
   I 48 (.load (some 11) (.t 5)),
   I0 (.store 11 (.t 4) (.t 48))] [4]) (
 .ret)))))⟩

/- (*sakia/engine.Engine[uint64]).claims -/
def c35 : AFn := ⟨3, [.tmp 6], (
 .seq (
 .reg [
   I 6 (.mov (.c (.bool false)))] [0, 1, 2]) (
 .scope (
 .seq (
 .reg [
   I 8 (.mov (.t 2)),
   I 9 (.nilChk (.t 8)),
   I 10 (.fieldAddr 5 (.t 9)),
   I 7 (.mov (.t 10))] [0, 1, 2, 7]) (
 .seq (
 .block 0 (
  .seq (
  .reg [
    I 12 (.mov (.t 7)),
    I 13 (.nilChk (.t 12)),
    I 14 (.fieldAddr 2 (.t 13)),
    I 15 (.load none (.t 14)),
    I 16 (.bin .eql (.t 15) (.c (.int .i64 1))),
    I 11 (.mov (.t 16))] [0, 1, 2, 7, 11]) (
  .cond (.t 11) (
   .goto 0) (
   .seq (
   .seq (
   .reg [
     I 18 (.mov (.t 7)),
     I 19 (.nilChk (.t 18)),
     I 20 (.fieldAddr 2 (.t 19)),
     I 21 (.load none (.t 20)),
     I 22 (.bin .eql (.t 21) (.c (.int .i64 2))),
     I 17 (.mov (.t 22))] [0, 1, 2, 7, 17]) (
   .cond (.t 17) (
    .skip) (
    .reg [
      I 23 (.mov (.t 2)),
      I 24 (.nilChk (.t 23)),
      I 25 (.fieldAddr 2 (.t 24)),
      I 26 (.fieldAddr 0 (.t 25)),
      I 27 (.load none (.t 26)),
      I 28 (.bin .eql (.t 27) (.c (.int .i64 2))),
      I 17 (.mov (.t 28))] [0, 1, 2, 7, 17]))) (
   .cond (.t 17) (
    .goto 1) (
    .skip)))))) (
 .seq (
 .seq (
 .reg [
   I 29 (.mov (.t 0)),
   I 30 (.nilChk (.t 29)),
   I 31 (.fieldAddr 8 (.t 30)),
   I 32 (.load none (.t 31)),
   I 33 (.mov (.t 1)),
   I 34 (.mov (.t 7)),
   I 35 (.invoke "Claim" (.t 32) [(.t 33), (.t 34)]),
   I 36 (.un .not (.t 35))] [0, 1, 2, 7, 36]) (
 .cond (.t 36) (
  .seq (
  .reg [
    I 6 (.mov (.c (.bool true)))] [6]) (
  .ret)) (
  .skip))) (
 .seq (
 .seq (
 .reg [
   I 37 (.mov (.t 2)),
   I 38 (.nilChk (.t 37)),
   I 39 (.fieldAddr 2 (.t 38)),
   I 40 (.fieldAddr 0 (.t 39)),
   I 41 (.load none (.t 40)),
   I 42 (.bin .eql (.t 41) (.c (.int .i64 1)))] [0, 1, 2, 7, 42]) (
 .cond (.t 42) (
  .seq (
  .regd [0, 1, 2, 4, 5, 6, 8, 9, 10, 3, 7, 11, 12, 13] [
    I 43 (.mov (.t 2)),
    I 44 (.nilChk (.t 43)),
    I 45 (.fieldAddr 0 (.t 44)),
    I 47 (.mov (.t 7)),
    I 48 (.nilChk (.t 47)),
    I 49 (.fieldAddr 6 (.t 48)),
    I 51 (.mov (.t 7)),
    I 52 (.nilChk (.t 51)),
    I 53 (.fieldAddr 1 (.t 52)),
    I 46 (.load none (.t 45)),
    I 50 (.load none (.t 49)),
    I 54 (.load none (.t 53)),
    I 55 (.build #[.int .u64 0, .int .i64 0] [((0, 1), (.t 50)), ((1, 1), (.t 54))]),
    I 56 (.call 57 [(.t 46), (.t 55)])] [0, 1, 7]) (
  .seq (
  .regd [0, 1, 2, 3, 4, 7, 8, 9, 5, 6, 10, 11, 12, 13] [
    I 57 (.mov (.t 0)),
    I 58 (.mov (.t 1)),
    I 59 (.mov (.t 7)),
    I 60 (.nilChk (.t 59)),
    I 61 (.fieldAddr 6 (.t 60)),
    I 64 (.mov (.t 7)),
    I 65 (.nilChk (.t 64)),
    I 66 (.fieldAddr 1 (.t 65)),
    I 62 (.load none (.t 61)),
    I 63 (.callE 1 59 [(.t 62)]),
    I 67 (.load none (.t 66)),
    I 68 (.build #[.int .i64 0, .int .i64 0, .int .i64 0, .int .i64 0, .int .u64 0, .int .i64 0, .slice none 0 0] [((4, 1), (.t 63)), ((3, 1), (.t 67))]),
    I 69 (.call 58 [(.t 57), (.t 58), (.t 68)]),
    I 6 (.mov (.t 69))] [6]) (
  .ret))) (
  .skip))) (
 .seq (
 .reg [
   I 70 (.mov (.t 7)),
   I 71 (.mov (.t 7)),
   I 72 (.mov (.t 7)),
   I 73 (.nilChk (.t 70)),
   I 74 (.fieldAddr 2 (.t 73)),
   I0 (.store 1 (.t 74) (.c (.int .i64 1))),
   I 75 (.nilChk (.t 71)),
   I 76 (.fieldAddr 4 (.t 75)),
   I0 (.store 1 (.t 76) (.c (.int .i64 0))),
   I 77 (.nilChk (.t 72)),
   I 78 (.fieldAddr 3 (.t 77)),
   I0 (.store 1 (.t 78) (.c (.int .i64 0)))] []) (
 .seq (
 .seq (
 .reg [
   I 6 (.mov (.c (.bool true)))] [6]) (
 .ret)) (
 .seq (
 .label 0) (
 .seq (
 .regd [0, 1, 2, 4, 5, 6, 8, 9, 10, 12, 13, 14, 3, 7, 11, 15, 16, 17, 18] [
   I 79 (.mov (.t 0)),
   I 80 (.nilChk (.t 79)),
   I 81 (.fieldAddr 6 (.t 80)),
   I 83 (.mov (.t 1)),
   I 84 (.mov (.t 0)),
   I 85 (.mov (.t 7)),
   I 87 (.mov (.t 7)),
   I 88 (.nilChk (.t 87)),
   I 89 (.fieldAddr 10 (.t 88)),
   I 91 (.mov (.t 7)),
   I 92 (.nilChk (.t 91)),
   I 93 (.fieldAddr 4 (.t 92)),
   I 82 (.load none (.t 81)),
   I 86 (.callQ 61 [(.t 84), (.t 85)]),
   I 90 (.load none (.t 89)),
   I 94 (.load none (.t 93)),
   I 95 (.indexAddr none 1 (.t 90) (.t 94)),
   I 96 (.load none (.t 95)),
   I 97 (.call 60 [(.t 82), (.t 83), (.t 86), (.t 96)])] [7]) (
 .seq (
 .reg [
   I 98 (.mov (.t 7)),
   I 99 (.nilChk (.t 98)),
   I 100 (.fieldAddr 4 (.t 99)),
   I 101 (.load none (.t 100)),
   I 102 (.bin .add (.t 101) (.c (.int .i64 1))),
   I 103 (.nilChk (.t 98)),
   I 104 (.fieldAddr 4 (.t 103)),
   I0 (.store 1 (.t 104) (.t 102))] [7]) (
 .seq (
 .seq (
 .regd [0, 1, 2, 4, 5, 6, 3, 7, 8] [
   I 105 (.mov (.t 7)),
   I 106 (.nilChk (.t 105)),
   I 107 (.fieldAddr 4 (.t 106)),
   I 109 (.mov (.t 7)),
   I 110 (.nilChk (.t 109)),
   I 111 (.fieldAddr 1 (.t 110)),
   I 108 (.load none (.t 107)),
   I 112 (.load none (.t 111)),
   I 113 (.bin .eql (.t 108) (.t 112))] [7, 113]) (
 .cond (.t 113) (
  .reg [
    I 114 (.mov (.t 7)),
    I 115 (.mov (.t 7)),
    I 116 (.nilChk (.t 114)),
    I 117 (.fieldAddr 2 (.t 116)),
    I0 (.store 1 (.t 117) (.c (.int .i64 2))),
    I 118 (.nilChk (.t 115)),
    I 119 (.fieldAddr 4 (.t 118)),
    I0 (.store 1 (.t 119) (.c (.int .i64 0)))] []) (
  .skip))) (
 .seq (
 .seq (
 .reg [
   I 6 (.mov (.c (.bool true)))] [6]) (
 .ret)) (
 .seq (
 .label 1) (
 .seq (
 .seq (
 .reg [
   I 120 (.mov (.t 0)),
   I 121 (.mov (.t 1)),
   I 122 (.mov (.t 7)),
   I 123 (.call 62 [(.t 120), (.t 121), (.t 122)]),
   I 124 (.un .not (.t 123))] [0, 1, 2, 124]) (
 .cond (.t 124) (
  .seq (
  .reg [
    I 6 (.mov (.c (.bool true)))] [6]) (
  .ret)) (
  .skip))) (
 .seq (
 .reg [
   I 125 (.mov (.t 2)),
   I 126 (.nilChk (.t 125)),
   I 127 (.fieldAddr 0 (.t 126)),
   I 128 (.load none (.t 127)),
   I 129 (.call 63 [(.t 128)])] [0, 1]) (
 .seq (
 .reg [
   I 130 (.mov (.t 0)),
   I 131 (.mov (.t 1)),
   I 132 (.build #[.int .i64 0, .int .i64 0, .int .i64 0, .int .i64 0, .int .u64 0, .int .i64 0, .slice none 0 0] []),
   I 133 (.call 58 [(.t 130), (.t 131), (.t 132)]),
   I 6 (.mov (.t 133))] [6]) (
 .ret))))))))))))))))))⟩

/- (*sakia/engine.Engine[uint64]).reads -/
def c36 : AFn := ⟨3, [.tmp 6], (
 .seq (
 .reg [
   I 6 (.mov (.c (.bool false)))] [0, 1, 2]) (
 .scope (
 .seq (
 .reg [
   I 9 (.mov (.t 2)),
   I 10 (.nilChk (.t 9)),
   I 11 (.fieldAddr 5 (.t 10)),
   I 7 (.mov (.t 11))] [0, 1, 2, 7]) (
 .seq (
 .reg [
   I 12 (.mov (.t 1)),
   I 13 (.mov (.t 0)),
   I 14 (.nilChk (.t 13)),
   I 15 (.fieldAddr 0 (.t 14)),
   I 16 (.fieldAddr 3 (.t 15)),
   I 17 (.load none (.t 16)),
   I 18 (.bin .sub (.t 12) (.t 17)),
   I 8 (.mov (.t 18))] [0, 1, 2, 7, 8]) (
 .seq (
 .block 0 (
  .seq (
  .reg [
    I 20 (.mov (.t 7)),
    I 21 (.nilChk (.t 20)),
    I 22 (.fieldAddr 2 (.t 21)),
    I 23 (.load none (.t 22)),
    I 24 (.bin .eql (.t 23) (.c (.int .i64 1))),
    I 19 (.mov (.t 24))] [0, 1, 2, 7, 8, 19]) (
  .cond (.t 19) (
   .goto 0) (
   .seq (
   .seq (
   .reg [
     I 26 (.mov (.t 7)),
     I 27 (.nilChk (.t 26)),
     I 28 (.fieldAddr 2 (.t 27)),
     I 29 (.load none (.t 28)),
     I 30 (.bin .eql (.t 29) (.c (.int .i64 2))),
     I 25 (.mov (.t 30))] [0, 1, 2, 7, 8, 25]) (
   .cond (.t 25) (
    .skip) (
    .reg [
      I 31 (.mov (.t 2)),
      I 32 (.nilChk (.t 31)),
      I 33 (.fieldAddr 2 (.t 32)),
      I 34 (.fieldAddr 0 (.t 33)),
      I 35 (.load none (.t 34)),
      I 36 (.bin .eql (.t 35) (.c (.int .i64 4))),
      I 25 (.mov (.t 36))] [0, 1, 2, 7, 8, 25]))) (
   .cond (.t 25) (
    .goto 1) (
    .skip)))))) (
 .seq (
 .seq (
 .reg [
   I 37 (.mov (.t 0)),
   I 38 (.nilChk (.t 37)),
   I 39 (.fieldAddr 9 (.t 38)),
   I 40 (.load none (.t 39)),
   I 41 (.mov (.t 8)),
   I 42 (.mov (.t 7)),
   I 43 (.call 64 [(.t 40), (.t 41), (.t 42)]),
   I 44 (.un .not (.t 43))] [0, 1, 2, 7, 44]) (
 .cond (.t 44) (
  .seq (
  .reg [
    I 6 (.mov (.c (.bool true)))] [6]) (
  .ret)) (
  .skip))) (
 .seq (
 .regd [0, 1, 2, 4, 5, 6, 3, 7, 8] [
   I 45 (.mov (.t 2)),
   I 46 (.nilChk (.t 45)),
   I 47 (.fieldAddr 0 (.t 46)),
   I 49 (.mov (.t 7)),
   I 50 (.nilChk (.t 49)),
   I 51 (.fieldAddr 8 (.t 50)),
   I 48 (.load none (.t 47)),
   I 52 (.load none (.t 51)),
   I 53 (.call 65 [(.t 48), (.t 52)])] [0, 1, 2, 7]) (
 .seq (
 .seq (
 .reg [
   I 54 (.mov (.t 2)),
   I 55 (.nilChk (.t 54)),
   I 56 (.fieldAddr 2 (.t 55)),
   I 57 (.fieldAddr 0 (.t 56)),
   I 58 (.load none (.t 57)),
   I 59 (.bin .eql (.t 58) (.c (.int .i64 3)))] [0, 1, 2, 7, 59]) (
 .cond (.t 59) (
  .seq (
  .reg [
    I 60 (.mov (.t 0)),
    I 61 (.mov (.t 1)),
    I 62 (.mov (.t 2)),
    I 63 (.nilChk (.t 62)),
    I 64 (.fieldAddr 0 (.t 63)),
    I 65 (.load none (.t 64)),
    I 66 (.callQ 40 [(.t 65)]),
    I 67 (.build #[.int .i64 0, .int .i64 0, .int .i64 0, .int .i64 0, .int .u64 0, .int .i64 0, .slice none 0 0] [((3, 1), (.t 66))]),
    I 68 (.call 58 [(.t 60), (.t 61), (.t 67)]),
    I 6 (.mov (.t 68))] [6]) (
  .ret)) (
  .skip))) (
 .seq (
 .regd [0, 1, 2, 3, 5, 6, 7, 4, 8, 9, 10, 11, 12, 13] [
   I 69 (.mov (.t 7)),
   I 70 (.mov (.t 7)),
   I 71 (.nilChk (.t 70)),
   I 72 (.fieldAddr 1 (.t 71)),
   I 74 (.mov (.t 2)),
   I 75 (.nilChk (.t 74)),
   I 76 (.fieldAddr 0 (.t 75)),
   I 73 (.load none (.t 72)),
   I 77 (.load none (.t 76)),
   I 78 (.callQ 40 [(.t 77)]),
   I 79 (.minmax false (.t 73) (.t 78)),
   I 80 (.nilChk (.t 69)),
   I 81 (.fieldAddr 1 (.t 80)),
   I0 (.store 1 (.t 81) (.t 79))] [0, 1, 2, 7]) (
 .seq (
 .seq (
 .reg [
   I 82 (.mov (.t 7)),
   I 83 (.nilChk (.t 82)),
   I 84 (.fieldAddr 1 (.t 83)),
   I 85 (.load none (.t 84)),
   I 86 (.bin .eql (.t 85) (.c (.int .i64 0)))] [0, 1, 2, 7, 86]) (
 .cond (.t 86) (
  .seq (
  .reg [
    I 87 (.mov (.t 0)),
    I 88 (.mov (.t 1)),
    I 89 (.build #[.int .i64 0, .int .i64 0, .int .i64 0, .int .i64 0, .int .u64 0, .int .i64 0, .slice none 0 0] []),
    I 90 (.call 58 [(.t 87), (.t 88), (.t 89)]),
    I 6 (.mov (.t 90))] [6]) (
  .ret)) (
  .skip))) (
 .seq (
 .reg [
   I 91 (.mov (.t 7)),
   I 92 (.mov (.t 7)),
   I 93 (.mov (.t 7)),
   I 94 (.mov (.t 7)),
   I 95 (.mov (.t 2)),
   I 96 (.nilChk (.t 95)),
   I 97 (.fieldAddr 0 (.t 96)),
   I 98 (.load none (.t 97)),
   I 99 (.callQ 56 [(.t 98)]),
   I 100 (.nilChk (.t 91)),
   I 101 (.fieldAddr 2 (.t 100)),
   I0 (.store 1 (.t 101) (.c (.int .i64 1))),
   I 102 (.nilChk (.t 92)),
   I 103 (.fieldAddr 4 (.t 102)),
   I0 (.store 1 (.t 103) (.c (.int .i64 0))),
   I 104 (.nilChk (.t 93)),
   I 105 (.fieldAddr 3 (.t 104)),
   I0 (.store 1 (.t 105) (.c (.int .i64 0))),
   I 106 (.nilChk (.t 94)),
   I 107 (.fieldAddr 6 (.t 106)),
   I0 (.store 1 (.t 107) (.t 99))] []) (
 .seq (
 .seq (
 .reg [
   I 6 (.mov (.c (.bool true)))] [6]) (
 .ret)) (
 .seq (
 .label 0) (
 .seq (
 .regd [0, 1, 2, 3, 5, 6, 7, 9, 10, 11, 4, 8, 12, 13, 14, 15, 16, 17, 18] [
   I 108 (.mov (.t 7)),
   I 109 (.mov (.t 7)),
   I 110 (.nilChk (.t 109)),
   I 111 (.fieldAddr 10 (.t 110)),
   I 113 (.mov (.t 0)),
   I 114 (.nilChk (.t 113)),
   I 115 (.fieldAddr 6 (.t 114)),
   I 117 (.mov (.t 1)),
   I 118 (.mov (.t 0)),
   I 119 (.mov (.t 7)),
   I 112 (.load none (.t 111)),
   I 116 (.load none (.t 115)),
   I 120 (.callQ 61 [(.t 118), (.t 119)]),
   I 121 (.hold [(none, (.t 111))] (.call 66 [(.t 116), (.t 117), (.t 120)])),
   I 122 (.buildSlice 1 #[.int .i64 0] 1 [(0, (.t 121))]),
   I 123 (.append 1 8 (.t 112) (.t 122)),
   I 124 (.nilChk (.t 108)),
   I 125 (.fieldAddr 10 (.t 124)),
   I0 (.store 1 (.t 125) (.t 123))] [7]) (
 .seq (
 .reg [
   I 126 (.mov (.t 7)),
   I 127 (.nilChk (.t 126)),
   I 128 (.fieldAddr 4 (.t 127)),
   I 129 (.load none (.t 128)),
   I 130 (.bin .add (.t 129) (.c (.int .i64 1))),
   I 131 (.nilChk (.t 126)),
   I 132 (.fieldAddr 4 (.t 131)),
   I0 (.store 1 (.t 132) (.t 130))] [7]) (
 .seq (
 .seq (
 .regd [0, 1, 2, 4, 5, 6, 3, 7, 8] [
   I 133 (.mov (.t 7)),
   I 134 (.nilChk (.t 133)),
   I 135 (.fieldAddr 4 (.t 134)),
   I 137 (.mov (.t 7)),
   I 138 (.nilChk (.t 137)),
   I 139 (.fieldAddr 1 (.t 138)),
   I 136 (.load none (.t 135)),
   I 140 (.load none (.t 139)),
   I 141 (.bin .eql (.t 136) (.t 140))] [7, 141]) (
 .cond (.t 141) (
  .reg [
    I 142 (.mov (.t 7)),
    I 143 (.mov (.t 7)),
    I 144 (.nilChk (.t 142)),
    I 145 (.fieldAddr 2 (.t 144)),
    I0 (.store 1 (.t 145) (.c (.int .i64 2))),
    I 146 (.nilChk (.t 143)),
    I 147 (.fieldAddr 4 (.t 146)),
    I0 (.store 1 (.t 147) (.c (.int .i64 0)))] []) (
  .skip))) (
 .seq (
 .seq (
 .reg [
   I 6 (.mov (.c (.bool true)))] [6]) (
 .ret)) (
 .seq (
 .label 1) (
 .seq (
 .reg [
   I 148 (.mov (.t 0)),
   I 149 (.nilChk (.t 148)),
   I 150 (.fieldAddr 9 (.t 149)),
   I 151 (.load none (.t 150)),
   I 152 (.mov (.t 8)),
   I 153 (.mov (.t 7)),
   I 154 (.call 67 [(.t 151), (.t 152), (.t 153)])] [0, 1, 2, 7]) (
 .seq (
 .regd [0, 1, 2, 4, 5, 6, 3, 7, 8] [
   I 155 (.mov (.t 2)),
   I 156 (.nilChk (.t 155)),
   I 157 (.fieldAddr 0 (.t 156)),
   I 159 (.mov (.t 7)),
   I 160 (.nilChk (.t 159)),
   I 161 (.fieldAddr 1 (.t 160)),
   I 158 (.load none (.t 157)),
   I 162 (.load none (.t 161)),
   I 163 (.call 68 [(.t 158), (.t 162)])] [0, 1, 2, 7]) (
 .seq (
 .seq (
 .reg [
   I 164 (.mov (.t 2)),
   I 165 (.nilChk (.t 164)),
   I 166 (.fieldAddr 2 (.t 165)),
   I 167 (.fieldAddr 0 (.t 166)),
   I 168 (.load none (.t 167)),
   I 169 (.bin .eql (.t 168) (.c (.int .i64 4)))] [0, 1, 7, 169]) (
 .cond (.t 169) (
  .seq (
  .reg [
    I 170 (.mov (.t 0)),
    I 171 (.mov (.t 1)),
    I 172 (.build #[.int .i64 0, .int .i64 0, .int .i64 0, .int .i64 0, .int .u64 0, .int .i64 0, .slice none 0 0] []),
    I 173 (.call 58 [(.t 170), (.t 171), (.t 172)]),
    I 6 (.mov (.t 173))] [6]) (
  .ret)) (
  .skip))) (
 .seq (
 .regd [0, 1, 2, 3, 4, 7, 8, 9, 11, 12, 13, 5, 6, 10, 14, 15, 16, 17] [
   I 174 (.mov (.t 0)),
   I 175 (.mov (.t 1)),
   I 176 (.mov (.t 7)),
   I 177 (.nilChk (.t 176)),
   I 178 (.fieldAddr 6 (.t 177)),
   I 181 (.mov (.t 7)),
   I 182 (.nilChk (.t 181)),
   I 183 (.fieldAddr 1 (.t 182)),
   I 185 (.mov (.t 7)),
   I 186 (.nilChk (.t 185)),
   I 187 (.fieldAddr 10 (.t 186)),
   I 179 (.load none (.t 178)),
   I 180 (.callE 1 59 [(.t 179)]),
   I 184 (.load none (.t 183)),
   I 188 (.load none (.t 187)),
   I 189 (.build #[.int .i64 0, .int .i64 0, .int .i64 0, .int .i64 0, .int .u64 0, .int .i64 0, .slice none 0 0] [((4, 1), (.t 180)), ((3, 1), (.t 184)), ((6, 1), (.t 188))]),
   I 190 (.call 58 [(.t 174), (.t 175), (.t 189)]),
   I 6 (.mov (.t 190))] [6]) (
 .ret)))))))))))))))))))))))⟩

/- (*sakia/event.Log).Len -/
def c37 : AFn := ⟨1, [.tmp 2], (
 .seq (
 .reg [
   I 2 (.mov (.c (.int .i64 0)))] [0]) (
 .seq (
 .seq (
 .reg [
   I 3 (.mov (.t 0)),
   I 4 (.isNil .ptr false (.t 3))] [0, 4]) (
 .cond (.t 4) (
  .seq (
  .reg [
    I 2 (.mov (.c (.int .i64 0)))] [2]) (
  .ret)) (
  .skip))) (
 .seq (
 .reg [
   I 5 (.mov (.t 0)),
   I 6 (.nilChk (.t 5)),
   I 7 (.fieldAddr 0 (.t 6)),
   I 8 (.load none (.t 7)),
   I 9 (.len false (.t 8)),
   I 2 (.mov (.t 9))] [2]) (
 .ret))))⟩

/- (*sakia/event.Log).From -/
def c38 : AFn := ⟨2, [.tmp 4], (
 .seq (
 .reg [
   I 4 (.mov (.c (.slice none 0 0)))] [0, 1]) (
 .seq (
 .seq (
 .reg [
   I 5 (.mov (.t 0)),
   I 6 (.isNil .ptr false (.t 5))] [0, 1, 6]) (
 .cond (.t 6) (
  .seq (
  .reg [
    I 4 (.mov (.c (.slice none 0 0)))] [4]) (
  .ret)) (
  .skip))) (
 .seq (
 .regd [0, 1, 2, 4, 5, 6, 7, 8, 3, 9, 10, 11, 12, 13, 14] [
   I 7 (.mov (.t 0)),
   I 8 (.nilChk (.t 7)),
   I 9 (.fieldAddr 0 (.t 8)),
   I 11 (.mov (.t 1)),
   I 12 (.minmax true (.t 11) (.c (.int .i64 0))),
   I 13 (.mov (.t 0)),
   I 14 (.nilChk (.t 13)),
   I 15 (.fieldAddr 0 (.t 14)),
   I 10 (.load none (.t 9)),
   I 16 (.load none (.t 15)),
   I 17 (.len false (.t 16)),
   I 18 (.minmax false (.t 12) (.t 17)),
   I 19 (.slice 7 (.t 10) (some (.t 18)) none),
   I 20 (.call 69 [(.t 19)]),
   I 4 (.mov (.t 20))] [4]) (
 .ret))))⟩

/- (*sakia/board.Board[uint64]).Log -/
def c39 : AFn := ⟨1, [.tmp 2], (
 .seq (
 .reg [
   I 2 (.mov (.c (.slice none 0 0)))] [0]) (
 .seq (
 .seq (
 .reg [
   I 3 (.mov (.t 0)),
   I 4 (.isNil .ptr false (.t 3))] [0, 4]) (
 .cond (.t 4) (
  .seq (
  .reg [
    I 2 (.mov (.c (.slice none 0 0)))] [2]) (
  .ret)) (
  .skip))) (
 .seq (
 .reg [
   I 5 (.buildSlice 5 #[.int .i64 0, .int .i64 0, .int .i64 0, .int .u64 0, .int .u64 0] 0 []),
   I 6 (.mov (.t 0)),
   I 7 (.nilChk (.t 6)),
   I 8 (.fieldAddr 16 (.t 7)),
   I 9 (.load none (.t 8)),
   I 10 (.append 5 40 (.t 5) (.t 9)),
   I 2 (.mov (.t 10))] [2]) (
 .ret))))⟩

/- (*sakia/guard.Handle[uint64]).Ready -/
def c40 : AFn := ⟨1, [.tmp 2], (
 .seq (
 .reg [
   I 2 (.mov (.c (.int .i64 0)))] [0]) (
 .seq (
 .seq (
 .reg [
   I 3 (.mov (.t 0)),
   I 4 (.isNil .ptr false (.t 3))] [0, 4]) (
 .cond (.t 4) (
  .seq (
  .reg [
    I 2 (.mov (.c (.int .i64 0)))] [2]) (
  .ret)) (
  .skip))) (
 .seq (
 .regd [0, 1, 2, 4, 5, 6, 3, 7, 8, 9] [
   I 5 (.mov (.t 0)),
   I 6 (.nilChk (.t 5)),
   I 7 (.fieldAddr 6 (.t 6)),
   I 9 (.mov (.t 0)),
   I 10 (.nilChk (.t 9)),
   I 11 (.fieldAddr 5 (.t 10)),
   I 8 (.load none (.t 7)),
   I 12 (.load none (.t 11)),
   I 13 (.callE 1 70 [(.t 8), (.t 12)]),
   I 2 (.mov (.t 13))] [2]) (
 .ret))))⟩

/- (*sakia/board.Board[uint64]).Peek -/
def c41 : AFn := ⟨2, [.tmp 4], (
 .seq (
 .reg [
   I 4 (.mov (.c (.int .u64 0)))] [0, 1]) (
 .seq (
 .seq (
 .reg [
   I 5 (.mov (.t 0)),
   I 6 (.isNil .ptr false (.t 5)),
   I 7 (.mov (.t 6)),
   IG (some 8) (7, false) (.mov (.t 0)),
   IG (some 9) (7, false) (.nilChk (.t 8)),
   IG (some 10) (7, false) (.fieldAddr 0 (.t 9)),
   IG (some 11) (7, false) (.load (some 14) (.t 10)),
   IG (some 12) (7, false) (.mov (.t 1)),
   IG (some 13) (7, false) (.callQ 71 [(.t 11), (.t 12)]),
   IG (some 14) (7, false) (.bin .eql (.t 13) (.c (.int .i64 0))),
   I 15 (.pick (.t 7) (.c (.bool true)) (.t 14))] [0, 1, 15]) (
 .cond (.t 15) (
  .seq (
  .reg [
    I 4 (.mov (.c (.int .u64 0)))] [4]) (
  .ret)) (
  .skip))) (
 .seq (
 .seq (
 .reg [
   I 16 (.mov (.t 1)),
   I 17 (.mov (.t 0)),
   I 18 (.nilChk (.t 17)),
   I 19 (.fieldAddr 14 (.t 18)),
   I 20 (.load none (.t 19)),
   I 21 (.len false (.t 20)),
   I 22 (.bin .lss (.t 16) (.t 21))] [0, 1, 22]) (
 .cond (.t 22) (
  .seq (
  .reg [
    I 23 (.mov (.t 0)),
    I 24 (.nilChk (.t 23)),
    I 25 (.fieldAddr 14 (.t 24)),
    I 26 (.load none (.t 25)),
    I 27 (.mov (.t 1)),
    I 28 (.indexAddr none 1 (.t 26) (.t 27)),
    I 29 (.load none (.t 28)),
    I 30 (.callE 1 59 [(.t 29)]),
    I 4 (.mov (.t 30))] [4]) (
  .ret)) (
  .skip))) (
 .seq (
 .regd [0, 1, 2, 4, 5, 6, 7, 3, 8, 9, 10, 11, 12, 13, 14] [
   I 31 (.mov (.t 0)),
   I 32 (.nilChk (.t 31)),
   I 33 (.fieldAddr 15 (.t 32)),
   I 35 (.mov (.t 1)),
   I 36 (.mov (.t 0)),
   I 37 (.nilChk (.t 36)),
   I 38 (.fieldAddr 14 (.t 37)),
   I 34 (.load none (.t 33)),
   I 39 (.load none (.t 38)),
   I 40 (.len false (.t 39)),
   I 41 (.bin .sub (.t 35) (.t 40)),
   I 42 (.indexAddr none 1 (.t 34) (.t 41)),
   I 43 (.load none (.t 42)),
   I 44 (.conv .u64 (.t 43)),
   I 4 (.mov (.t 44))] [4]) (
 .ret)))))⟩

/- sakia/engine.New[uint32] -/
def c42 : AFn := ⟨1, [.tmp 2, .tmp 3], (
 .seq (
 .reg [
   I 1 (.box (.t 0)),
   I 2 (.mov (.c (.pointer none))),
   I 3 (.mov (.c (.int .i64 0)))] [1]) (
 .seq (
 .reg [
   I 11 (.load (some 6) (.t 1)),
   I 12 (.call 72 [(.t 11)]),
   I 10 (.mov (.t 12)),
   I 13 (.extract (.t 10) 0),
   I 14 (.extract (.t 10) 1),
   I 4 (.alloc [.int .i64 0, .int .i64 0, .int .i64 0, .int .i64 0, .int .u64 0, .slice none 0 0, .int .i64 0, .int .i64 0, .int .i64 0, .int .i64 0, .int .i64 0, .int .i64 0, .int .i64 0, .int .i64 0]),
   I0 (.store 14 (.t 4) (.t 13)),
   I 5 (.mov (.t 14))] [1, 4, 5]) (
 .seq (
 .seq (
 .reg [
   I 15 (.mov (.t 5)),
   I 16 (.bin .neq (.t 15) (.c (.int .i64 0)))] [1, 4, 5, 16]) (
 .cond (.t 16) (
  .seq (
  .reg [
    I 17 (.mov (.t 5)),
    I 2 (.mov (.c (.pointer none))),
    I 3 (.mov (.t 17))] [2, 3]) (
  .ret)) (
  .skip))) (
 .seq (
 .seq (
 .regd [0, 2, 1, 3] [
   I 18 (.fieldAddr 1 (.t 1)),
   I 20 (.callE 1 73 []),
   I 19 (.load none (.t 18)),
   I 21 (.bin .neq (.t 19) (.t 20))] [1, 4, 21]) (
 .cond (.t 21) (
  .seq (
  .reg [
    I 2 (.mov (.c (.pointer none))),
    I 3 (.mov (.c (.int .i64 3)))] [2, 3]) (
  .ret)) (
  .skip))) (
 .seq (
 .regd [0, 1, 2, 3, 4, 5, 6, 7] [
   I 22 (.fieldAddr 0 (.t 4)),
   I 23 (.load (some 6) (.t 22)),
   I 24 (.load (some 14) (.t 4)),
   I 25 (.hold [((some 6), (.t 22))] (.call 74 [(.t 24)])),
   I 26 (.hold [((some 6), (.t 22))] (.call 75 [])),
   I 27 (.build #[.int .i64 0, .int .i64 0, .int .i64 0, .int .i64 0, .int .u64 0, .slice none 0 0, .pointer none, .pointer none, .nilIface, .pointer none, .slice none 0 0] [((0, 6), (.t 23)), ((6, 1), (.t 25)), ((7, 1), (.t 26))]),
   I 28 (.box (.t 27)),
   I 6 (.mov (.t 28))] [1, 6]) (
 .seq (
 .regd [0, 1, 2, 3, 5, 6, 7, 4, 8, 9, 10, 11, 12] [
   I 29 (.mov (.t 6)),
   I 30 (.mov (.t 6)),
   I 31 (.nilChk (.t 30)),
   I 32 (.fieldAddr 6 (.t 31)),
   I 34 (.mov (.t 6)),
   I 35 (.nilChk (.t 34)),
   I 36 (.fieldAddr 7 (.t 35)),
   I 33 (.load none (.t 32)),
   I 37 (.load none (.t 36)),
   I 38 (.call 76 [(.t 33), (.t 37)]),
   I 39 (.nilChk (.t 29)),
   I 40 (.fieldAddr 8 (.t 39)),
   I0 (.store 1 (.t 40) (.t 38))] [1, 6]) (
 .seq (
 .regd [0, 1, 2, 3, 5, 6, 7, 9, 10, 11, 4, 8, 12, 13, 14, 15, 16] [
   I 41 (.mov (.t 6)),
   I 42 (.mov (.t 6)),
   I 43 (.nilChk (.t 42)),
   I 44 (.fieldAddr 6 (.t 43)),
   I 46 (.mov (.t 6)),
   I 47 (.nilChk (.t 46)),
   I 48 (.fieldAddr 7 (.t 47)),
   I 50 (.mov (.t 6)),
   I 51 (.nilChk (.t 50)),
   I 52 (.fieldAddr 8 (.t 51)),
   I 45 (.load none (.t 44)),
   I 49 (.load none (.t 48)),
   I 53 (.load none (.t 52)),
   I 54 (.call 77 [(.t 45), (.t 49), (.t 53)]),
   I 55 (.nilChk (.t 41)),
   I 56 (.fieldAddr 9 (.t 55)),
   I0 (.store 1 (.t 56) (.t 54))] [1, 6]) (
 .seq (
 .reg [
   I 57 (.load (some 6) (.t 1)),
   I 58 (.callQ 79 [(.t 57)]),
   I 59 (.callE 1 78 [(.t 58)]),
   I 7 (.mov (.t 59))] [1, 6, 7]) (
 .seq (
 .seq (
 .reg [
   I 60 (.load (some 6) (.t 1)),
   I 61 (.callQ 80 [(.t 60)]),
   I 62 (.mov (.c (.int .i64 0)))] [1, 6, 7, 61, 62]) (
 .block 0 (
  .loop (
   .seq (
   .reg [
     I 63 (.bin .lss (.t 62) (.t 61))] [1, 6, 7, 61, 62, 63]) (
   .seq (
   .cond (.t 63) (
    .skip) (
    .exit 0)) (
   .seq (
   .block 1 (
    .seq (
    .reg [
      I 64 (.mov (.t 62)),
      I 8 (.mov (.t 64))] [1, 6, 7, 8, 61, 62]) (
    .seq (
    .reg [
      I 65 (.fieldAddr 2 (.t 1)),
      I 66 (.load none (.t 65)),
      I 67 (.call 81 [(.t 66)]),
      I 9 (.mov (.t 67))] [1, 6, 7, 8, 9, 61, 62]) (
    .seq (
    .seq (
    .reg [
      I 68 (.mov (.t 8)),
      I 69 (.fieldAddr 3 (.t 1)),
      I 70 (.load none (.t 69)),
      I 71 (.bin .geq (.t 68) (.t 70))] [1, 6, 7, 9, 61, 62, 71]) (
    .cond (.t 71) (
     .reg [
       I 72 (.fieldAddr 2 (.t 1)),
       I 73 (.load none (.t 72)),
       I 74 (.mov (.t 7)),
       I 75 (.call 82 [(.t 73), (.t 74)]),
       I 9 (.mov (.t 75))] [1, 6, 7, 9, 61, 62]) (
     .skip))) (
    .reg [
      I 76 (.mov (.t 6)),
      I 77 (.mov (.t 6)),
      I 78 (.nilChk (.t 77)),
      I 79 (.fieldAddr 10 (.t 78)),
      I 80 (.load none (.t 79)),
      I 81 (.mov (.t 9)),
      I 82 (.build #[.pointer none, .bool false, .int .i64 0, .int .i64 0, .slice none 0 0, .int .i64 0, .int .i64 0, .int .i64 0, .int .i64 0, .int .i64 0, .int .i64 0, .int .u32 0, .int .u32 0, .int .u32 0, .int .u32 0, .slice none 0 0] [((0, 1), (.t 81))]),
      I 83 (.box (.t 82)),
      I 84 (.buildSlice 1 #[.pointer none] 1 [(0, (.t 83))]),
      I 85 (.append 1 8 (.t 80) (.t 84)),
      I 86 (.nilChk (.t 76)),
      I 87 (.fieldAddr 10 (.t 86)),
      I0 (.store 1 (.t 87) (.t 85))] [1, 6, 7, 61, 62]))))) (
   .reg [
     I 88 (.bin .add (.t 62) (.c (.int .i64 1))),
     I 62 (.mov (.t 88))] [1, 6, 7, 61, 62]))))))) (
 .seq (
 .reg [
   I 89 (.mov (.t 6)),
   I 2 (.mov (.t 89)),
   I 3 (.mov (.c (.int .i64 0)))] [2, 3]) (
 .ret)))))))))))⟩

/- sakia/sakialaw10.Plain -/
def c43 : AFn := ⟨0, [.cell 0 (some 6)], (
 .seq (
 .reg [
   I 0 (.alloc [.int .i64 0, .int .i64 0, .int .i64 0, .int .i64 0, .int .u64 0, .slice none 0 0])] [0]) (
 .seq (
 .reg [
   I 1 (.buildSlice 1 #[.slice none 0 0] 1 [(0, (.c (.slice none 0 0)))]),
   I 2 (.build #[.int .i64 0, .int .i64 0, .int .i64 0, .int .i64 0, .int .u64 0, .slice none 0 0] [((0, 1), (.c (.int .i64 2))), ((1, 1), (.c (.int .i64 32))), ((2, 1), (.c (.int .i64 4))), ((3, 1), (.c (.int .i64 1))), ((4, 1), (.c (.int .u64 4294967294))), ((5, 1), (.t 1))]),
   I0 (.store 6 (.t 0) (.t 2))] [0]) (
 .ret)))⟩

/- (*sakia/engine.Engine[uint32]).Invoke -/
def c44 : AFn := ⟨3, [.tmp 6], (
 .seq (
 .reg [
   I 5 (.box (.t 2)),
   I 6 (.mov (.c (.int .i64 0)))] [0, 1, 5]) (
 .seq (
 .seq (
 .reg [
   I 9 (.mov (.t 0)),
   I 10 (.isNil .ptr false (.t 9))] [0, 1, 5, 10]) (
 .cond (.t 10) (
  .seq (
  .reg [
    I 6 (.mov (.c (.int .i64 22)))] [6]) (
  .ret)) (
  .skip))) (
 .seq (
 .reg [
   I 11 (.mov (.t 0)),
   I 12 (.mov (.t 1)),
   I 13 (.call 83 [(.t 11), (.t 12)]),
   I 7 (.mov (.t 13))] [0, 1, 5, 7]) (
 .seq (
 .block 0 (
  .seq (
  .reg [
    I 15 (.mov (.t 7)),
    I 16 (.isNil .ptr false (.t 15)),
    I 14 (.mov (.t 16))] [0, 1, 5, 7, 14]) (
  .cond (.t 14) (
   .seq (
   .reg [
     I 6 (.mov (.c (.int .i64 11)))] [6]) (
   .ret)) (
   .seq (
   .reg [
     I 18 (.mov (.t 7)),
     I 19 (.nilChk (.t 18)),
     I 20 (.fieldAddr 1 (.t 19)),
     I 21 (.load none (.t 20)),
     I 17 (.mov (.t 21))] [0, 1, 5, 7, 17]) (
   .cond (.t 17) (
    .seq (
    .reg [
      I 6 (.mov (.c (.int .i64 15)))] [6]) (
    .ret)) (
    .skip)))))) (
 .seq (
 .regd [0, 1, 2, 4, 5, 7, 9, 3, 6, 8, 10, 11, 12] [
   I 22 (.mov (.t 0)),
   I 23 (.nilChk (.t 22)),
   I 24 (.fieldAddr 7 (.t 23)),
   I 26 (.mov (.t 1)),
   I 27 (.fieldAddr 0 (.t 5)),
   I 29 (.fieldAddr 1 (.t 5)),
   I 31 (.fieldAddr 2 (.t 5)),
   I 25 (.load none (.t 24)),
   I 28 (.load none (.t 27)),
   I 30 (.load none (.t 29)),
   I 32 (.load none (.t 31)),
   I 33 (.build #[.int .i64 0, .int .i64 0, .int .i64 0, .int .i64 0, .int .u64 0, .int .i64 0, .slice none 0 0] [((0, 1), (.c (.int .i64 1))), ((1, 1), (.t 26)), ((2, 1), (.t 28)), ((3, 1), (.t 30)), ((6, 1), (.t 32))]),
   I 34 (.call 32 [(.t 25), (.t 33)])] [0, 1, 5, 7]) (
 .seq (
 .seq (
 .regd [0, 1, 2, 3, 4, 5, 6] [
   I 35 (.mov (.t 7)),
   I 36 (.nilChk (.t 35)),
   I 37 (.fieldAddr 0 (.t 36)),
   I 38 (.load none (.t 37)),
   I 39 (.load (some 3) (.t 5)),
   I 40 (.callQ 84 [(.t 38), (.t 39)]),
   I 8 (.mov (.t 40))] [0, 1, 5, 7, 8]) (
 .seq (
 .reg [
   I 41 (.mov (.t 8)),
   I 42 (.bin .neq (.t 41) (.c (.int .i64 0)))] [0, 1, 5, 7, 8, 42]) (
 .cond (.t 42) (
  .seq (
  .regd [0, 1, 2, 4, 5, 7, 3, 6, 8, 9] [
    I 43 (.mov (.t 0)),
    I 44 (.nilChk (.t 43)),
    I 45 (.fieldAddr 7 (.t 44)),
    I 47 (.mov (.t 1)),
    I 48 (.fieldAddr 0 (.t 5)),
    I 50 (.mov (.t 8)),
    I 46 (.load none (.t 45)),
    I 49 (.load none (.t 48)),
    I 51 (.build #[.int .i64 0, .int .i64 0, .int .i64 0, .int .i64 0, .int .u64 0, .int .i64 0, .slice none 0 0] [((0, 1), (.c (.int .i64 2))), ((1, 1), (.t 47)), ((2, 1), (.t 49)), ((5, 1), (.t 50))]),
    I 52 (.call 32 [(.t 46), (.t 51)])] [8]) (
  .seq (
  .reg [
    I 53 (.mov (.t 8)),
    I 6 (.mov (.t 53))] [6]) (
  .ret))) (
  .skip)))) (
 .seq (
 .reg [
   I 54 (.mov (.t 7)),
   I 55 (.mov (.t 7)),
   I 56 (.load (some 3) (.t 5)),
   I 57 (.call 30 [(.t 56)]),
   I 58 (.nilChk (.t 54)),
   I 59 (.fieldAddr 1 (.t 58)),
   I0 (.store 1 (.t 59) (.c (.bool true))),
   I 60 (.nilChk (.t 55)),
   I 61 (.fieldAddr 2 (.t 60)),
   I0 (.store 3 (.t 61) (.t 57))] [7]) (
 .seq (
 .regd [0, 1, 2, 3, 5, 6, 7, 4, 8, 9, 10, 11, 12] [
   I 62 (.mov (.t 7)),
   I 63 (.mov (.t 7)),
   I 64 (.nilChk (.t 63)),
   I 65 (.fieldAddr 0 (.t 64)),
   I 67 (.mov (.t 7)),
   I 68 (.nilChk (.t 67)),
   I 69 (.fieldAddr 2 (.t 68)),
   I 66 (.load none (.t 65)),
   I 70 (.load (some 3) (.t 69)),
   I 71 (.call 85 [(.t 66), (.t 70)]),
   I 72 (.nilChk (.t 62)),
   I 73 (.fieldAddr 5 (.t 72)),
   I0 (.store 11 (.t 73) (.t 71))] []) (
 .seq (
 .reg [
   I 6 (.mov (.c (.int .i64 0)))] [6]) (
 .ret))))))))))⟩

/- (*sakia/engine.Engine[uint32]).Busy -/
def c45 : AFn := ⟨2, [.tmp 4], (
 .seq (
 .reg [
   I 4 (.mov (.c (.bool false)))] [0, 1]) (
 .seq (
 .reg [
   I 6 (.mov (.t 0)),
   I 7 (.mov (.t 1)),
   I 8 (.call 83 [(.t 6), (.t 7)]),
   I 5 (.mov (.t 8))] [5]) (
 .seq (
 .reg [
   I 9 (.mov (.t 5)),
   I 10 (.isNil .ptr true (.t 9)),
   I 11 (.mov (.t 10)),
   IG (some 12) (11, true) (.mov (.t 5)),
   IG (some 13) (11, true) (.nilChk (.t 12)),
   IG (some 14) (11, true) (.fieldAddr 1 (.t 13)),
   IG (some 15) (11, true) (.load none (.t 14)),
   I 16 (.pick (.t 11) (.t 15) (.c (.bool false))),
   I 4 (.mov (.t 16))] [4]) (
 .ret))))⟩

/- (*sakia/engine.Engine[uint32]).Step -/
def c46 : AFn := ⟨2, [.tmp 4], (
 .seq (
 .reg [
   I 4 (.mov (.c (.bool false)))] [0, 1]) (
 .seq (
 .reg [
   I 6 (.mov (.t 0)),
   I 7 (.mov (.t 1)),
   I 8 (.call 83 [(.t 6), (.t 7)]),
   I 5 (.mov (.t 8))] [0, 1, 5]) (
 .seq (
 .seq (
 .reg [
   I 9 (.mov (.t 5)),
   I 10 (.isNil .ptr false (.t 9)),
   I 11 (.mov (.t 10)),
   IG (some 12) (11, false) (.mov (.t 5)),
   IG (some 13) (11, false) (.nilChk (.t 12)),
   IG (some 14) (11, false) (.fieldAddr 1 (.t 13)),
   IG (some 15) (11, false) (.load none (.t 14)),
   IG (some 16) (11, false) (.un .not (.t 15)),
   I 17 (.pick (.t 11) (.c (.bool true)) (.t 16))] [0, 1, 5, 17]) (
 .cond (.t 17) (
  .seq (
  .reg [
    I 4 (.mov (.c (.bool false)))] [4]) (
  .ret)) (
  .skip))) (
 .seq (
 .seq (
 .reg [
   I 18 (.mov (.t 1)),
   I 19 (.mov (.t 0)),
   I 20 (.nilChk (.t 19)),
   I 21 (.fieldAddr 0 (.t 20)),
   I 22 (.fieldAddr 3 (.t 21)),
   I 23 (.load none (.t 22)),
   I 24 (.bin .lss (.t 18) (.t 23))] [0, 1, 5, 24]) (
 .cond (.t 24) (
  .seq (
  .reg [
    I 25 (.mov (.t 0)),
    I 26 (.mov (.t 1)),
    I 27 (.mov (.t 5)),
    I 28 (.call 86 [(.t 25), (.t 26), (.t 27)]),
    I 4 (.mov (.t 28))] [4]) (
  .ret)) (
  .skip))) (
 .seq (
 .reg [
   I 29 (.mov (.t 0)),
   I 30 (.mov (.t 1)),
   I 31 (.mov (.t 5)),
   I 32 (.call 87 [(.t 29), (.t 30), (.t 31)]),
   I 4 (.mov (.t 32))] [4]) (
 .ret))))))⟩

/- (*sakia/engine.Engine[uint32]).Events -/
def c47 : AFn := ⟨2, [.tmp 4], (
 .seq (
 .reg [
   I 4 (.mov (.c (.slice none 0 0)))] [0, 1]) (
 .seq (
 .seq (
 .reg [
   I 5 (.mov (.t 0)),
   I 6 (.isNil .ptr false (.t 5))] [0, 1, 6]) (
 .cond (.t 6) (
  .seq (
  .reg [
    I 4 (.mov (.c (.slice none 0 0)))] [4]) (
  .ret)) (
  .skip))) (
 .seq (
 .reg [
   I 7 (.mov (.t 0)),
   I 8 (.nilChk (.t 7)),
   I 9 (.fieldAddr 7 (.t 8)),
   I 10 (.load none (.t 9)),
   I 11 (.mov (.t 1)),
   I 12 (.call 38 [(.t 10), (.t 11)]),
   I 4 (.mov (.t 12))] [4]) (
 .ret))))⟩

/- sakia/fabric.New -/
def c48 : AFn := ⟨1, [.tmp 2, .tmp 3], (
 .seq (
 .reg [
   I 1 (.box (.t 0)),
   I 2 (.mov (.c (.pointer none))),
   I 3 (.mov (.c (.int .i64 0)))] [1]) (
 .seq (
 .reg [
   I 7 (.load (some 6) (.t 1)),
   I 8 (.call 72 [(.t 7)]),
   I 6 (.mov (.t 8)),
   I 9 (.extract (.t 6) 0),
   I 10 (.extract (.t 6) 1),
   I 4 (.alloc [.int .i64 0, .int .i64 0, .int .i64 0, .int .i64 0, .int .u64 0, .slice none 0 0, .int .i64 0, .int .i64 0, .int .i64 0, .int .i64 0, .int .i64 0, .int .i64 0, .int .i64 0, .int .i64 0]),
   I0 (.store 14 (.t 4) (.t 9)),
   I 5 (.mov (.t 10))] [1, 4, 5]) (
 .seq (
 .seq (
 .reg [
   I 11 (.mov (.t 5)),
   I 12 (.bin .neq (.t 11) (.c (.int .i64 0)))] [1, 4, 5, 12]) (
 .cond (.t 12) (
  .seq (
  .reg [
    I 13 (.mov (.t 5)),
    I 2 (.mov (.c (.pointer none))),
    I 3 (.mov (.t 13))] [2, 3]) (
  .ret)) (
  .skip))) (
 .seq (
 .regd [0, 1, 2, 3, 4, 5, 6, 7] [
   I 14 (.load (some 14) (.t 4)),
   I 15 (.load (some 6) (.t 1)),
   I 16 (.hold [((some 14), (.t 4))] (.call 88 [(.t 15)])),
   I 17 (.build #[.nilIface] [((0, 1), (.t 16))]),
   I 18 (.build #[.int .i64 0, .int .i64 0, .int .i64 0, .int .i64 0, .int .u64 0, .slice none 0 0, .int .i64 0, .int .i64 0, .int .i64 0, .int .i64 0, .int .i64 0, .int .i64 0, .int .i64 0, .int .i64 0, .nilIface] [((0, 14), (.t 14)), ((14, 1), (.t 17))]),
   I 19 (.box (.t 18)),
   I 2 (.mov (.t 19)),
   I 3 (.mov (.c (.int .i64 0)))] [2, 3]) (
 .ret)))))⟩

/- (*sakia/fabric.Fabric).Do -/
def c49 : AFn := ⟨2, [.tmp 4], (
 .seq (
 .reg [
   I 3 (.box (.t 1)),
   I 4 (.mov (.c (.int .i64 0)))] [0, 3]) (
 .seq (
 .block 0 (
  .seq (
  .reg [
    I 6 (.mov (.t 0)),
    I 7 (.isNil .ptr false (.t 6)),
    I 5 (.mov (.t 7))] [0, 3, 5]) (
  .cond (.t 5) (
   .seq (
   .reg [
     I 4 (.mov (.c (.int .i64 22)))] [4]) (
   .ret)) (
   .seq (
   .reg [
     I 9 (.fieldAddr 1 (.t 3)),
     I 10 (.fieldAddr 0 (.t 9)),
     I 11 (.load none (.t 10)),
     I 12 (.bin .neq (.t 11) (.c (.int .i64 0))),
     I 8 (.mov (.t 12))] [0, 3, 8]) (
   .cond (.t 8) (
    .seq (
    .regd [0, 1, 2, 3, 5, 7, 4, 6, 8, 9, 10] [
      I 13 (.mov (.t 0)),
      I 14 (.nilChk (.t 13)),
      I 15 (.fieldAddr 14 (.t 14)),
      I 16 (.fieldAddr 0 (.t 15)),
      I 18 (.fieldAddr 0 (.t 3)),
      I 20 (.fieldAddr 1 (.t 3)),
      I 17 (.load none (.t 16)),
      I 19 (.load none (.t 18)),
      I 21 (.load (some 3) (.t 20)),
      I 22 (.invoke "Invoke" (.t 17) [(.t 19), (.t 21)]),
      I 4 (.mov (.t 22))] [4]) (
    .ret)) (
    .seq (
    .regd [0, 1, 2, 3, 4, 6, 7, 8, 9, 5, 10, 11, 12, 13, 14] [
      I 24 (.fieldAddr 0 (.t 3)),
      I 25 (.load none (.t 24)),
      I 26 (.bin .lss (.t 25) (.c (.int .i64 0))),
      I 27 (.mov (.t 26)),
      IG (some 28) (27, false) (.fieldAddr 0 (.t 3)),
      IG (some 30) (27, false) (.mov (.t 0)),
      IG (some 31) (27, false) (.nilChk (.t 30)),
      IG (some 32) (27, false) (.fieldAddr 14 (.t 31)),
      IG (some 33) (27, false) (.fieldAddr 0 (.t 32)),
      IG (some 29) (27, false) (.load none (.t 28)),
      IG (some 34) (27, false) (.load none (.t 33)),
      IG (some 35) (27, false) (.hold [(none, (.t 28))] (.invoke "Threads" (.t 34) [])),
      IG (some 36) (27, false) (.bin .geq (.t 29) (.t 35)),
      I 37 (.pick (.t 27) (.c (.bool true)) (.t 36)),
      I 23 (.mov (.t 37))] [0, 3, 23]) (
    .cond (.t 23) (
     .seq (
     .reg [
       I 4 (.mov (.c (.int .i64 11)))] [4]) (
     .ret)) (
     .seq (
     .regd [0, 1, 2, 3, 5, 4, 6, 7, 8, 9] [
       I 39 (.mov (.t 0)),
       I 40 (.nilChk (.t 39)),
       I 41 (.fieldAddr 14 (.t 40)),
       I 42 (.fieldAddr 0 (.t 41)),
       I 44 (.fieldAddr 0 (.t 3)),
       I 43 (.load none (.t 42)),
       I 45 (.load none (.t 44)),
       I 46 (.invoke "Step" (.t 43) [(.t 45)]),
       I 47 (.un .not (.t 46)),
       I 38 (.mov (.t 47))] [38]) (
     .cond (.t 38) (
      .seq (
      .reg [
        I 4 (.mov (.c (.int .i64 23)))] [4]) (
      .ret)) (
      .skip)))))))))) (
 .seq (
 .reg [
   I 4 (.mov (.c (.int .i64 0)))] [4]) (
 .ret))))⟩

/- sakia/graph.Copy -/
def c50 : AFn := ⟨1, [.tmp 2], (
 .seq (
 .reg [
   I 2 (.mov (.c (.slice none 0 0)))] [0]) (
 .seq (
 .reg [
   I 3 (.mov (.c (.slice none 0 0)))] [0, 3]) (
 .seq (
 .seq (
 .reg [
   I 6 (.mov (.t 0)),
   I 7 (.len false (.t 6)),
   I 8 (.mov (.c (.int .i64 0)))] [3, 6, 7, 8]) (
 .block 0 (
  .loop (
   .seq (
   .reg [
     I 9 (.bin .lss (.t 8) (.t 7))] [3, 6, 7, 8, 9]) (
   .seq (
   .cond (.t 9) (
    .skip) (
    .exit 0)) (
   .seq (
   .block 1 (
    .seq (
    .reg [
      I 10 (.indexAddr none 1 (.t 6) (.t 8)),
      I 11 (.load none (.t 10)),
      I 5 (.mov (.t 11))] [3, 5, 6, 7, 8]) (
    .reg [
      I 12 (.mov (.t 3)),
      I 13 (.buildSlice 1 #[.int .i64 0] 0 []),
      I 14 (.mov (.t 5)),
      I 15 (.append 1 8 (.t 13) (.t 14)),
      I 16 (.buildSlice 1 #[.slice none 0 0] 1 [(0, (.t 15))]),
      I 17 (.append 1 24 (.t 12) (.t 16)),
      I 3 (.mov (.t 17))] [3, 6, 7, 8]))) (
   .reg [
     I 18 (.bin .add (.t 8) (.c (.int .i64 1))),
     I 8 (.mov (.t 18))] [3, 6, 7, 8]))))))) (
 .seq (
 .reg [
   I 19 (.mov (.t 3)),
   I 2 (.mov (.t 19))] [2]) (
 .ret)))))⟩

/- sakia/event.copied -/
def c51 : AFn := ⟨1, [.cell 2 (some 7)], (
 .seq (
 .reg [
   I 1 (.box (.t 0)),
   I 2 (.alloc [.int .i64 0, .int .i64 0, .int .i64 0, .int .i64 0, .int .u64 0, .int .i64 0, .slice none 0 0])] [1, 2]) (
 .seq (
 .reg [
   I 3 (.buildSlice 1 #[.int .i64 0] 0 []),
   I 4 (.fieldAddr 6 (.t 1)),
   I 5 (.load none (.t 4)),
   I 6 (.append 1 8 (.t 3) (.t 5)),
   I 7 (.fieldAddr 6 (.t 1)),
   I0 (.store 1 (.t 7) (.t 6))] [1, 2]) (
 .seq (
 .reg [
   I 8 (.load (some 7) (.t 1)),
   I0 (.store 7 (.t 2) (.t 8))] [2]) (
 .ret))))⟩

/- (*sakia/guard.Handle[uint64]).free -/
def c52 : AFn := ⟨2, [.tmp 4], (
 .seq (
 .reg [
   I 4 (.mov (.c (.int .i64 0)))] [0, 1]) (
 .seq (
 .seq (
 .reg [
   I 6 (.mov (.t 0)),
   I 7 (.mov (.t 1)),
   I 8 (.callQ 53 [(.t 6), (.t 7)]),
   I 5 (.mov (.t 8))] [0, 5]) (
 .seq (
 .reg [
   I 9 (.mov (.t 5)),
   I 10 (.bin .neq (.t 9) (.c (.int .i64 0)))] [0, 5, 10]) (
 .cond (.t 10) (
  .seq (
  .reg [
    I 11 (.mov (.t 5)),
    I 4 (.mov (.t 11))] [4]) (
  .ret)) (
  .skip)))) (
 .seq (
 .seq (
 .reg [
   I 12 (.mov (.t 0)),
   I 13 (.nilChk (.t 12)),
   I 14 (.fieldAddr 2 (.t 13)),
   I 15 (.load none (.t 14))] [15]) (
 .cond (.t 15) (
  .seq (
  .reg [
    I 4 (.mov (.c (.int .i64 14)))] [4]) (
  .ret)) (
  .skip))) (
 .seq (
 .reg [
   I 4 (.mov (.c (.int .i64 0)))] [4]) (
 .ret)))))⟩

/- (*sakia/guard.Handle[uint64]).size -/
def c53 : AFn := ⟨2, [.tmp 4], (
 .seq (
 .reg [
   I 4 (.mov (.c (.int .i64 0)))] [0, 1]) (
 .seq (
 .seq (
 .reg [
   I 5 (.mov (.t 1)),
   I 6 (.bin .lss (.t 5) (.c (.int .i64 1))),
   I 7 (.mov (.t 6)),
   IG (some 8) (7, false) (.mov (.t 1)),
   IG (some 9) (7, false) (.mov (.t 0)),
   IG (some 10) (7, false) (.nilChk (.t 9)),
   IG (some 11) (7, false) (.fieldAddr 0 (.t 10)),
   IG (some 12) (7, false) (.load none (.t 11)),
   IG (some 13) (7, false) (.bin .gtr (.t 8) (.t 12)),
   I 14 (.pick (.t 7) (.c (.bool true)) (.t 13))] [14]) (
 .cond (.t 14) (
  .seq (
  .reg [
    I 4 (.mov (.c (.int .i64 13)))] [4]) (
  .ret)) (
  .skip))) (
 .seq (
 .reg [
   I 4 (.mov (.c (.int .i64 0)))] [4]) (
 .ret))))⟩

/- (*sakia/guard.Handle[uint64]).Span -/
def c54 : AFn := ⟨1, [.cell 2 (some 2), .tmp 3], (
 .seq (
 .reg [
   I 2 (.alloc [.int .u64 0, .int .i64 0]),
   I 3 (.mov (.c (.bool false)))] [0, 2]) (
 .seq (
 .seq (
 .reg [
   I 4 (.mov (.t 0)),
   I 5 (.isNil .ptr false (.t 4))] [0, 2, 5]) (
 .cond (.t 5) (
  .seq (
  .reg [
    I 6 (.build #[.int .u64 0, .int .i64 0] []),
    I0 (.store 2 (.t 2) (.t 6)),
    I 3 (.mov (.c (.bool false)))] [2, 3]) (
  .ret)) (
  .skip))) (
 .seq (
 .regd [0, 1, 2, 4, 5, 6, 3, 7, 8, 9] [
   I 7 (.mov (.t 0)),
   I 8 (.nilChk (.t 7)),
   I 9 (.fieldAddr 3 (.t 8)),
   I 11 (.mov (.t 0)),
   I 12 (.nilChk (.t 11)),
   I 13 (.fieldAddr 2 (.t 12)),
   I 10 (.load (some 2) (.t 9)),
   I 14 (.load none (.t 13)),
   I0 (.hold [(none, (.t 13))] (.store 2 (.t 2) (.t 10))),
   I 3 (.mov (.t 14))] [2, 3]) (
 .ret))))⟩

/- (*sakia/guard.Handle[uint64]).Upto -/
def c55 : AFn := ⟨1, [.tmp 2], (
 .seq (
 .reg [
   I 2 (.mov (.c (.int .u64 0)))] [0]) (
 .seq (
 .seq (
 .reg [
   I 3 (.mov (.t 0)),
   I 4 (.isNil .ptr false (.t 3))] [0, 4]) (
 .cond (.t 4) (
  .seq (
  .reg [
    I 2 (.mov (.c (.int .u64 0)))] [2]) (
  .ret)) (
  .skip))) (
 .seq (
 .reg [
   I 5 (.mov (.t 0)),
   I 6 (.nilChk (.t 5)),
   I 7 (.fieldAddr 6 (.t 6)),
   I 8 (.load none (.t 7)),
   I 2 (.mov (.t 8))] [2]) (
 .ret))))⟩

/- (*sakia/guard.Handle[uint64]).Gate -/
def c56 : AFn := ⟨1, [.tmp 2], (
 .seq (
 .reg [
   I 2 (.mov (.c (.int .u64 0)))] [0]) (
 .seq (
 .seq (
 .reg [
   I 3 (.mov (.t 0)),
   I 4 (.isNil .ptr false (.t 3))] [0, 4]) (
 .cond (.t 4) (
  .seq (
  .reg [
    I 2 (.mov (.c (.int .u64 0)))] [2]) (
  .ret)) (
  .skip))) (
 .seq (
 .reg [
   I 5 (.mov (.t 0)),
   I 6 (.nilChk (.t 5)),
   I 7 (.fieldAddr 5 (.t 6)),
   I 8 (.load none (.t 7)),
   I 2 (.mov (.t 8))] [2]) (
 .ret))))⟩

/- (*sakia/guard.Handle[uint64]).Claimed -/
def c57 : AFn := ⟨2, [.tmp 4], (
 .seq (
 .reg [
   I 3 (.box (.t 1)),
   I 4 (.mov (.c (.bool false)))] [0, 3]) (
 .seq (
 .seq (
 .reg [
   I 5 (.mov (.t 0)),
   I 6 (.isNil .ptr false (.t 5)),
   I 7 (.mov (.t 6)),
   IG (some 8) (7, false) (.mov (.t 0)),
   IG (some 9) (7, false) (.nilChk (.t 8)),
   IG (some 10) (7, false) (.fieldAddr 1 (.t 9)),
   IG (some 11) (7, false) (.load none (.t 10)),
   IG (some 12) (7, false) (.un .not (.t 11)),
   I 13 (.pick (.t 7) (.c (.bool true)) (.t 12)),
   I 14 (.mov (.t 13)),
   IG (some 15) (14, false) (.mov (.t 0)),
   IG (some 16) (14, false) (.nilChk (.t 15)),
   IG (some 17) (14, false) (.fieldAddr 2 (.t 16)),
   IG (some 18) (14, false) (.load none (.t 17)),
   I 19 (.pick (.t 14) (.c (.bool true)) (.t 18)),
   I 20 (.mov (.t 19)),
   IG (some 21) (20, false) (.mov (.t 0)),
   IG (some 22) (20, false) (.fieldAddr 1 (.t 3)),
   IG (some 23) (20, false) (.load none (.t 22)),
   IG (some 24) (20, false) (.callQ 53 [(.t 21), (.t 23)]),
   IG (some 25) (20, false) (.bin .neq (.t 24) (.c (.int .i64 0))),
   I 26 (.pick (.t 20) (.c (.bool true)) (.t 25))] [0, 3, 26]) (
 .cond (.t 26) (
  .seq (
  .reg [
    I 4 (.mov (.c (.bool false)))] [4]) (
  .ret)) (
  .skip))) (
 .seq (
 .regd [0, 1, 3, 4, 2, 5, 6, 7, 8] [
   I 27 (.mov (.t 0)),
   I 28 (.mov (.t 0)),
   I 30 (.nilChk (.t 27)),
   I 31 (.fieldAddr 2 (.t 30)),
   I 29 (.load (some 2) (.t 3)),
   I0 (.hold [((some 2), (.t 3))] (.store 1 (.t 31) (.c (.bool true)))),
   I 32 (.nilChk (.t 28)),
   I 33 (.fieldAddr 3 (.t 32)),
   I0 (.store 2 (.t 33) (.t 29))] []) (
 .seq (
 .reg [
   I 4 (.mov (.c (.bool true)))] [4]) (
 .ret)))))⟩

/- (*sakia/engine.Engine[uint64]).ends -/
def c58 : AFn := ⟨3, [.tmp 6], (
 .seq (
 .reg [
   I 5 (.box (.t 2)),
   I 6 (.mov (.c (.bool false)))] [0, 1, 5]) (
 .seq (
 .reg [
   I 8 (.mov (.t 0)),
   I 9 (.nilChk (.t 8)),
   I 10 (.fieldAddr 10 (.t 9)),
   I 11 (.load none (.t 10)),
   I 12 (.mov (.t 1)),
   I 13 (.indexAddr none 1 (.t 11) (.t 12)),
   I 14 (.load none (.t 13)),
   I 7 (.mov (.t 14))] [0, 1, 5, 7]) (
 .seq (
 .regd [0, 1, 2, 3, 4, 6, 5, 7, 8, 9, 10, 11] [
   I 15 (.mov (.t 1)),
   I 16 (.mov (.t 7)),
   I 17 (.nilChk (.t 16)),
   I 18 (.fieldAddr 2 (.t 17)),
   I 19 (.fieldAddr 0 (.t 18)),
   I 21 (.fieldAddr 0 (.t 5)),
   I 20 (.load none (.t 19)),
   I0 (.hold [(none, (.t 19))] (.store 1 (.t 21) (.c (.int .i64 2)))),
   I 22 (.fieldAddr 1 (.t 5)),
   I0 (.hold [(none, (.t 19))] (.store 1 (.t 22) (.t 15))),
   I 23 (.fieldAddr 2 (.t 5)),
   I0 (.store 1 (.t 23) (.t 20))] [0, 5, 7]) (
 .seq (
 .regd [0, 1, 2, 3, 4, 5] [
   I 24 (.mov (.t 0)),
   I 25 (.nilChk (.t 24)),
   I 26 (.fieldAddr 7 (.t 25)),
   I 27 (.load none (.t 26)),
   I 28 (.load (some 7) (.t 5)),
   I 29 (.call 32 [(.t 27), (.t 28)])] [7]) (
 .seq (
 .reg [
   I 30 (.mov (.t 7)),
   I 31 (.mov (.t 7)),
   I 32 (.mov (.t 7)),
   I 33 (.build #[.int .i64 0, .int .i64 0, .slice none 0 0] []),
   I 34 (.build #[.int .i64 0, .int .i64 0, .int .i64 0, .int .i64 0, .int .i64 0, .int .i64 0, .int .u64 0, .int .u64 0, .int .u64 0, .int .u64 0, .slice none 0 0] []),
   I 35 (.nilChk (.t 30)),
   I 36 (.fieldAddr 1 (.t 35)),
   I0 (.store 1 (.t 36) (.c (.bool false))),
   I 37 (.nilChk (.t 31)),
   I 38 (.fieldAddr 2 (.t 37)),
   I0 (.store 3 (.t 38) (.t 33)),
   I 39 (.nilChk (.t 32)),
   I 40 (.fieldAddr 5 (.t 39)),
   I0 (.store 11 (.t 40) (.t 34))] []) (
 .seq (
 .reg [
   I 6 (.mov (.c (.bool true)))] [6]) (
 .ret)))))))⟩

/- sakia/wide.Up[uint64] -/
def c59 : AFn := ⟨1, [.tmp 2], (
 .seq (
 .reg [
   I 2 (.mov (.c (.int .u64 0)))] [0]) (
 .seq (
 .reg [
   I 3 (.mov (.t 0)),
   I 2 (.mov (.t 3))] [2]) (
 .ret)))⟩

end Go.Ab
