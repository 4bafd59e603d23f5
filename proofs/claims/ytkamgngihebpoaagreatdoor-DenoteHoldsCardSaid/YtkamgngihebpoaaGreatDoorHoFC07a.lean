import Derived.Test.YtkamgngihebpoaaGreatDoorHoRun
/- The program's functions, part 1. -/
set_option linter.all false
noncomputable section
namespace Go.Aw.C07
open Go Go.Aw

/- 7 waxwork/waxworklaw07.DenoteGreedy -/
def p7_0 : List AOper := [⟨(some 4), .mv (.c (.bool false)), none⟩]
def p7_1 : List AOper := [⟨(some 22), .call 12 [], none⟩,
  ⟨(some 5), .mv (.t 22), none⟩]
def p7_2 : List AOper := [⟨(some 23), .mv (.t 5), none⟩,
  ⟨(some 24), .not (.t 23), none⟩]
def p7_3 : List AOper := [⟨(some 4), .mv (.c (.bool false)), none⟩]
def p7_4 : List AOper := [⟨(some 25), .mv (.t 0), none⟩,
  ⟨(some 26), .bin .rem .n (.t 25) (.c (.int .u8 12)), none⟩,
  ⟨(some 27), .cvi .i64 (.t 26), none⟩,
  ⟨(some 6), .mv (.t 27), none⟩]
def p7_5 : List AOper := [⟨(some 28), .mv (.t 1), none⟩,
  ⟨(some 29), .bin .rem .n (.t 28) (.c (.int .u8 4)), none⟩,
  ⟨(some 30), .cvi .i64 (.t 29), none⟩,
  ⟨(some 7), .mv (.t 30), none⟩]
def p7_6 : List AOper := [⟨(some 8), .mv (.c (.str [])), none⟩]
def p7_7 : List AOper := [⟨(some 9), .mv (.c (.int .i64 0)), none⟩]
def p7_8 : List AOper := [⟨(some 31), .mv (.t 9), none⟩,
  ⟨(some 32), .mv (.t 6), none⟩,
  ⟨(some 33), .bin .lss .n (.t 31) (.t 32), none⟩]
def p7_10 : List AOper := [⟨(some 36), .mv (.t 8), none⟩,
  ⟨(some 37), .bin .add .n (.t 36) (.c (.str [97])), none⟩,
  ⟨(some 8), .mv (.t 37), none⟩]
def p7_9 : List AOper := [⟨(some 34), .mv (.t 9), none⟩,
  ⟨(some 35), .bin .add .n (.t 34) (.c (.int .i64 1)), none⟩,
  ⟨(some 9), .mv (.t 35), none⟩]
def p7_11 : List AOper := [⟨(some 38), .mv (.t 8), none⟩,
  ⟨(some 10), .mv (.t 38), none⟩]
def p7_12 : List AOper := [⟨(some 11), .mv (.c (.int .i64 0)), none⟩]
def p7_13 : List AOper := [⟨(some 39), .mv (.t 11), none⟩,
  ⟨(some 40), .mv (.t 7), none⟩,
  ⟨(some 41), .bin .lss .n (.t 39) (.t 40), none⟩]
def p7_15 : List AOper := [⟨(some 44), .mv (.t 10), none⟩,
  ⟨(some 45), .bin .add .n (.t 44) (.c (.str [98])), none⟩,
  ⟨(some 10), .mv (.t 45), none⟩]
def p7_14 : List AOper := [⟨(some 42), .mv (.t 11), none⟩,
  ⟨(some 43), .bin .add .n (.t 42) (.c (.int .i64 1)), none⟩,
  ⟨(some 11), .mv (.t 43), none⟩]
def p7_16 : List AOper := [⟨(some 47), .call 23 [.c (.str [40, 97, 42, 41])], none⟩,
  ⟨(some 48), .mv (.t 10), none⟩,
  ⟨(some 49), .call 19 [.t 47, .t 48], none⟩,
  ⟨(some 46), .mv (.t 49), none⟩,
  ⟨(some 50), .ext (.t 46) 0, none⟩,
  ⟨(some 51), .ext (.t 46) 1, none⟩,
  ⟨(some 12), .mv (.t 50), none⟩,
  ⟨(some 13), .mv (.t 51), none⟩]
def p7_17 : List AOper := [⟨(some 53), .call 23 [.c (.str [40, 97, 42, 63, 41])], none⟩,
  ⟨(some 54), .mv (.t 10), none⟩,
  ⟨(some 55), .call 19 [.t 53, .t 54], none⟩,
  ⟨(some 52), .mv (.t 55), none⟩,
  ⟨(some 56), .ext (.t 52) 0, none⟩,
  ⟨(some 57), .ext (.t 52) 1, none⟩,
  ⟨(some 14), .mv (.t 56), none⟩,
  ⟨(some 15), .mv (.t 57), none⟩]
def p7_18 : List AOper := [⟨(some 59), .call 23 [.c (.str [94, 40, 97, 42, 41, 40, 97, 42, 63, 41, 40, 98, 42, 41, 36])], none⟩,
  ⟨(some 60), .mv (.t 10), none⟩,
  ⟨(some 61), .call 19 [.t 59, .t 60], none⟩,
  ⟨(some 58), .mv (.t 61), none⟩,
  ⟨(some 62), .ext (.t 58) 0, none⟩,
  ⟨(some 63), .ext (.t 58) 1, none⟩,
  ⟨(some 16), .mv (.t 62), none⟩,
  ⟨(some 17), .mv (.t 63), none⟩]
def p7_19 : List AOper := [⟨(some 65), .call 23 [.c (.str [94, 40, 97, 42, 63, 41, 40, 97, 42, 41, 40, 98, 42, 63, 41, 36])], none⟩,
  ⟨(some 66), .mv (.t 10), none⟩,
  ⟨(some 67), .call 19 [.t 65, .t 66], none⟩,
  ⟨(some 64), .mv (.t 67), none⟩,
  ⟨(some 68), .ext (.t 64) 0, none⟩,
  ⟨(some 69), .ext (.t 64) 1, none⟩,
  ⟨(some 18), .mv (.t 68), none⟩,
  ⟨(some 19), .mv (.t 69), none⟩]
def p7_20 : List AOper := [⟨(some 70), .mv (.t 12), none⟩,
  ⟨(some 71), .mv (.t 6), none⟩,
  ⟨(some 72), .mv (.t 6), none⟩,
  ⟨(some 73), .bslice 1 4 [.int .i64 0, .int .i64 0, .int .i64 0, .int .i64 0] [(0, 1, .c (.int .i64 0)), (1, 1, .t 71), (2, 1, .c (.int .i64 0)), (3, 1, .t 72)], none⟩,
  ⟨(some 74), .call 18 [.t 70, .t 73], none⟩,
  ⟨(some 75), .mv (.t 74), none⟩,
  ⟨(some 76), .mv (.t 14), (some (75, true))⟩,
  ⟨(some 77), .bslice 1 4 [.int .i64 0, .int .i64 0, .int .i64 0, .int .i64 0] [(0, 1, .c (.int .i64 0)), (1, 1, .c (.int .i64 0)), (2, 1, .c (.int .i64 0)), (3, 1, .c (.int .i64 0))], (some (75, true))⟩,
  ⟨(some 78), .call 18 [.t 76, .t 77], (some (75, true))⟩,
  ⟨(some 79), .pick (.t 75) (.t 78) (.c (.bool false)), none⟩,
  ⟨(some 20), .mv (.t 79), none⟩]
def p7_21 : List AOper := [⟨(some 80), .mv (.t 16), none⟩,
  ⟨(some 81), .mv (.t 6), none⟩,
  ⟨(some 82), .mv (.t 7), none⟩,
  ⟨(some 83), .bin .add .n (.t 81) (.t 82), none⟩,
  ⟨(some 84), .mv (.t 6), none⟩,
  ⟨(some 85), .mv (.t 6), none⟩,
  ⟨(some 86), .mv (.t 6), none⟩,
  ⟨(some 87), .mv (.t 6), none⟩,
  ⟨(some 88), .mv (.t 6), none⟩,
  ⟨(some 89), .mv (.t 7), none⟩,
  ⟨(some 90), .bin .add .n (.t 88) (.t 89), none⟩,
  ⟨(some 91), .bslice 1 8 [.int .i64 0, .int .i64 0, .int .i64 0, .int .i64 0, .int .i64 0, .int .i64 0, .int .i64 0, .int .i64 0] [(0, 1, .c (.int .i64 0)), (1, 1, .t 83), (2, 1, .c (.int .i64 0)), (3, 1, .t 84), (4, 1, .t 85), (5, 1, .t 86), (6, 1, .t 87), (7, 1, .t 90)], none⟩,
  ⟨(some 92), .call 18 [.t 80, .t 91], none⟩,
  ⟨(some 93), .mv (.t 92), none⟩,
  ⟨(some 94), .mv (.t 18), (some (93, true))⟩,
  ⟨(some 95), .mv (.t 6), (some (93, true))⟩,
  ⟨(some 96), .mv (.t 7), (some (93, true))⟩,
  ⟨(some 97), .bin .add .n (.t 95) (.t 96), (some (93, true))⟩,
  ⟨(some 98), .mv (.t 6), (some (93, true))⟩,
  ⟨(some 99), .mv (.t 6), (some (93, true))⟩,
  ⟨(some 100), .mv (.t 6), (some (93, true))⟩,
  ⟨(some 101), .mv (.t 7), (some (93, true))⟩,
  ⟨(some 102), .bin .add .n (.t 100) (.t 101), (some (93, true))⟩,
  ⟨(some 103), .bslice 1 8 [.int .i64 0, .int .i64 0, .int .i64 0, .int .i64 0, .int .i64 0, .int .i64 0, .int .i64 0, .int .i64 0] [(0, 1, .c (.int .i64 0)), (1, 1, .t 97), (2, 1, .c (.int .i64 0)), (3, 1, .c (.int .i64 0)), (4, 1, .c (.int .i64 0)), (5, 1, .t 98), (6, 1, .t 99), (7, 1, .t 102)], (some (93, true))⟩,
  ⟨(some 104), .call 18 [.t 94, .t 103], (some (93, true))⟩,
  ⟨(some 105), .pick (.t 93) (.t 104) (.c (.bool false)), none⟩,
  ⟨(some 21), .mv (.t 105), none⟩]
def p7_22 : List AOper := [⟨(some 106), .mv (.t 5), none⟩,
  ⟨(some 107), .mv (.t 106), none⟩,
  ⟨(some 108), .mv (.t 13), (some (107, true))⟩,
  ⟨(some 109), .pick (.t 107) (.t 108) (.c (.bool false)), none⟩,
  ⟨(some 110), .mv (.t 109), none⟩,
  ⟨(some 111), .mv (.t 15), (some (110, true))⟩,
  ⟨(some 112), .pick (.t 110) (.t 111) (.c (.bool false)), none⟩,
  ⟨(some 113), .mv (.t 112), none⟩,
  ⟨(some 114), .mv (.t 17), (some (113, true))⟩,
  ⟨(some 115), .pick (.t 113) (.t 114) (.c (.bool false)), none⟩,
  ⟨(some 116), .mv (.t 115), none⟩,
  ⟨(some 117), .mv (.t 19), (some (116, true))⟩,
  ⟨(some 118), .pick (.t 116) (.t 117) (.c (.bool false)), none⟩,
  ⟨(some 119), .mv (.t 118), none⟩,
  ⟨(some 120), .mv (.t 20), (some (119, true))⟩,
  ⟨(some 121), .pick (.t 119) (.t 120) (.c (.bool false)), none⟩,
  ⟨(some 122), .mv (.t 121), none⟩,
  ⟨(some 123), .mv (.t 21), (some (122, true))⟩,
  ⟨(some 124), .pick (.t 122) (.t 123) (.c (.bool false)), none⟩,
  ⟨(some 4), .mv (.t 124), none⟩]
def p7 : AFun := ⟨125, .seq (.region p7_0) (.seq (.region p7_1) (.seq (.seq (.region p7_2) (.cond (.t 24) (.seq (.region p7_3) (.ret)) (.skip))) (.seq (.region p7_4) (.seq (.region p7_5) (.seq (.region p7_6) (.seq (.seq (.region p7_7) (.block 0 (.loop (.seq (.seq (.region p7_8) (.cond (.t 33) (.skip) (.exit 0))) (.seq (.block 1 (.region p7_10)) (.region p7_9)))))) (.seq (.region p7_11) (.seq (.seq (.region p7_12) (.block 2 (.loop (.seq (.seq (.region p7_13) (.cond (.t 41) (.skip) (.exit 2))) (.seq (.block 3 (.region p7_15)) (.region p7_14)))))) (.seq (.region p7_16) (.seq (.region p7_17) (.seq (.region p7_18) (.seq (.region p7_19) (.seq (.region p7_20) (.seq (.region p7_21) (.seq (.region p7_22) (.ret)))))))))))))))),
  [.mv (.t 4)]⟩

/- 11 waxwork/waxworklaw07.DenoteHolds -/
def p11_0 : List AOper := [⟨(some 6), .mv (.c (.bool false)), none⟩]
def p11_1 : List AOper := [⟨(some 15), .call 12 [], none⟩,
  ⟨(some 7), .mv (.t 15), none⟩]
def p11_2 : List AOper := [⟨(some 16), .mv (.t 7), none⟩,
  ⟨(some 17), .not (.t 16), none⟩]
def p11_3 : List AOper := [⟨(some 6), .mv (.c (.bool false)), none⟩]
def p11_4 : List AOper := [⟨(some 18), .mv (.t 0), none⟩,
  ⟨(some 19), .call 14 [.t 18, .c (.int .i64 10)], none⟩,
  ⟨(some 8), .mv (.t 19), none⟩]
def p11_5 : List AOper := [⟨(some 20), .mv (.t 1), none⟩,
  ⟨(some 21), .cvi .i64 (.t 20), none⟩,
  ⟨(some 22), .mv (.t 8), none⟩,
  ⟨(some 23), .lens (.t 22), none⟩,
  ⟨(some 24), .bin .add .n (.t 23) (.c (.int .i64 1)), none⟩,
  ⟨(some 25), .bin .rem .n (.t 21) (.t 24), none⟩,
  ⟨(some 9), .mv (.t 25), none⟩]
def p11_6 : List AOper := [⟨(some 26), .mv (.t 9), none⟩,
  ⟨(some 27), .bin .eql .n (.t 26) (.c (.int .i64 0)), none⟩,
  ⟨(some 28), .mv (.t 27), none⟩,
  ⟨(some 29), .mv (.t 9), (some (28, false))⟩,
  ⟨(some 30), .mv (.t 8), (some (28, false))⟩,
  ⟨(some 31), .lens (.t 30), (some (28, false))⟩,
  ⟨(some 32), .bin .eql .n (.t 29) (.t 31), (some (28, false))⟩,
  ⟨(some 33), .pick (.t 28) (.c (.bool true)) (.t 32), none⟩,
  ⟨(some 10), .mv (.t 33), none⟩]
def p11_7 : List AOper := [⟨(some 34), .mv (.t 8), none⟩,
  ⟨(some 35), .rng (.t 34), none⟩]
def p11_8 : List AOper := [⟨(some 36), .nxt (.t 35), none⟩,
  ⟨(some 37), .ext (.t 36) 0, none⟩]
def p11_9 : List AOper := [⟨(some 38), .ext (.t 36) 1, none⟩,
  ⟨(some 11), .mv (.t 38), none⟩]
def p11_10 : List AOper := [⟨(some 39), .mv (.t 10), none⟩,
  ⟨(some 40), .mv (.t 39), none⟩,
  ⟨(some 41), .mv (.t 11), (some (40, false))⟩,
  ⟨(some 42), .mv (.t 9), (some (40, false))⟩,
  ⟨(some 43), .bin .eql .n (.t 41) (.t 42), (some (40, false))⟩,
  ⟨(some 44), .pick (.t 40) (.c (.bool true)) (.t 43), none⟩,
  ⟨(some 10), .mv (.t 44), none⟩]
def p11_11 : List AOper := [⟨(some 45), .mv (.t 8), none⟩,
  ⟨(some 46), .mv (.t 9), none⟩,
  ⟨(some 47), .call 21 [.c (.int .i64 4), .t 45, .t 46], none⟩,
  ⟨(some 12), .mv (.t 47), none⟩]
def p11_12 : List AOper := [⟨(some 48), .mv (.t 8), none⟩,
  ⟨(some 49), .mv (.t 9), none⟩,
  ⟨(some 50), .call 21 [.c (.int .i64 5), .t 48, .t 49], none⟩,
  ⟨(some 13), .mv (.t 50), none⟩]
def p11_13 : List AOper := [⟨(some 51), .mv (.t 2), none⟩,
  ⟨(some 52), .bin .geq .n (.t 51) (.c (.int .i64 2)), none⟩,
  ⟨(some 53), .mv (.t 52), none⟩,
  ⟨(some 54), .mv (.t 2), (some (53, true))⟩,
  ⟨(some 55), .bin .leq .n (.t 54) (.c (.int .i64 5)), (some (53, true))⟩,
  ⟨(some 56), .pick (.t 53) (.t 55) (.c (.bool false)), none⟩,
  ⟨(some 14), .mv (.t 56), none⟩]
def p11_14 : List AOper := [⟨(some 57), .mv (.t 7), none⟩,
  ⟨(some 58), .mv (.t 57), none⟩,
  ⟨(some 59), .mv (.t 8), (some (58, true))⟩,
  ⟨(some 60), .mv (.t 9), (some (58, true))⟩,
  ⟨(some 61), .call 21 [.c (.int .i64 2), .t 59, .t 60], (some (58, true))⟩,
  ⟨(some 62), .mv (.t 9), (some (58, true))⟩,
  ⟨(some 63), .bin .eql .n (.t 62) (.c (.int .i64 0)), (some (58, true))⟩,
  ⟨(some 64), .bin .eql .b (.t 61) (.t 63), (some (58, true))⟩,
  ⟨(some 65), .pick (.t 58) (.t 64) (.c (.bool false)), none⟩,
  ⟨(some 66), .mv (.t 65), none⟩,
  ⟨(some 67), .mv (.t 8), (some (66, true))⟩,
  ⟨(some 68), .mv (.t 9), (some (66, true))⟩,
  ⟨(some 69), .call 21 [.c (.int .i64 3), .t 67, .t 68], (some (66, true))⟩,
  ⟨(some 70), .mv (.t 9), (some (66, true))⟩,
  ⟨(some 71), .mv (.t 8), (some (66, true))⟩,
  ⟨(some 72), .lens (.t 71), (some (66, true))⟩,
  ⟨(some 73), .bin .eql .n (.t 70) (.t 72), (some (66, true))⟩,
  ⟨(some 74), .bin .eql .b (.t 69) (.t 73), (some (66, true))⟩,
  ⟨(some 75), .pick (.t 66) (.t 74) (.c (.bool false)), none⟩,
  ⟨(some 76), .mv (.t 75), none⟩,
  ⟨(some 77), .mv (.t 12), (some (76, true))⟩,
  ⟨(some 78), .mv (.t 13), (some (76, true))⟩,
  ⟨(some 79), .bin .neq .b (.t 77) (.t 78), (some (76, true))⟩,
  ⟨(some 80), .mv (.t 10), (some (76, true))⟩,
  ⟨(some 81), .bin .eql .b (.t 79) (.t 80), (some (76, true))⟩,
  ⟨(some 82), .pick (.t 76) (.t 81) (.c (.bool false)), none⟩,
  ⟨(some 83), .mv (.t 82), none⟩,
  ⟨(some 84), .mv (.t 10), (some (83, true))⟩,
  ⟨(some 85), .mv (.t 84), (some (83, true))⟩,
  ⟨(some 86), .mv (.t 12), (some (85, false))⟩,
  ⟨(some 87), .not (.t 86), (some (85, false))⟩,
  ⟨(some 88), .mv (.t 87), (some (85, false))⟩,
  ⟨(some 89), .mv (.t 13), (some (88, true))⟩,
  ⟨(some 90), .not (.t 89), (some (88, true))⟩,
  ⟨(some 91), .pick (.t 88) (.t 90) (.c (.bool false)), (some (85, false))⟩,
  ⟨(some 92), .pick (.t 85) (.c (.bool true)) (.t 91), (some (83, true))⟩,
  ⟨(some 93), .pick (.t 83) (.t 92) (.c (.bool false)), none⟩,
  ⟨(some 94), .mv (.t 93), none⟩,
  ⟨(some 95), .mv (.t 14), (some (94, true))⟩,
  ⟨(some 96), .mv (.t 95), (some (94, true))⟩,
  ⟨(some 97), .mv (.t 2), (some (96, false))⟩,
  ⟨(some 98), .mv (.t 8), (some (96, false))⟩,
  ⟨(some 99), .mv (.t 9), (some (96, false))⟩,
  ⟨(some 100), .call 21 [.t 97, .t 98, .t 99], (some (96, false))⟩,
  ⟨(some 101), .not (.t 100), (some (96, false))⟩,
  ⟨(some 102), .pick (.t 96) (.c (.bool true)) (.t 101), (some (94, true))⟩,
  ⟨(some 103), .pick (.t 94) (.t 102) (.c (.bool false)), none⟩,
  ⟨(some 104), .mv (.t 103), none⟩,
  ⟨(some 105), .mv (.t 2), (some (104, true))⟩,
  ⟨(some 106), .mv (.t 8), (some (104, true))⟩,
  ⟨(some 107), .call 21 [.t 105, .t 106, .c (.int .i64 (-1))], (some (104, true))⟩,
  ⟨(some 108), .not (.t 107), (some (104, true))⟩,
  ⟨(some 109), .pick (.t 104) (.t 108) (.c (.bool false)), none⟩,
  ⟨(some 110), .mv (.t 109), none⟩,
  ⟨(some 111), .mv (.t 2), (some (110, true))⟩,
  ⟨(some 112), .mv (.t 8), (some (110, true))⟩,
  ⟨(some 113), .mv (.t 8), (some (110, true))⟩,
  ⟨(some 114), .lens (.t 113), (some (110, true))⟩,
  ⟨(some 115), .bin .add .n (.t 114) (.c (.int .i64 1)), (some (110, true))⟩,
  ⟨(some 116), .call 21 [.t 111, .t 112, .t 115], (some (110, true))⟩,
  ⟨(some 117), .not (.t 116), (some (110, true))⟩,
  ⟨(some 118), .pick (.t 110) (.t 117) (.c (.bool false)), none⟩,
  ⟨(some 6), .mv (.t 118), none⟩]
def p11 : AFun := ⟨119, .seq (.region p11_0) (.seq (.region p11_1) (.seq (.seq (.region p11_2) (.cond (.t 17) (.seq (.region p11_3) (.ret)) (.skip))) (.seq (.region p11_4) (.seq (.region p11_5) (.seq (.region p11_6) (.seq (.seq (.region p11_7) (.block 0 (.loop (.seq (.region p11_8) (.seq (.cond (.t 37) (.skip) (.exit 0)) (.block 1 (.seq (.region p11_9) (.region p11_10)))))))) (.seq (.region p11_11) (.seq (.region p11_12) (.seq (.region p11_13) (.seq (.region p11_14) (.ret))))))))))),
  [.mv (.t 6)]⟩

/- 12 waxwork/waxworklaw07.examples -/
def p12_0 : List AOper := [⟨(some 0), .mv (.c (.bool false)), none⟩]
def p12_1 : List AOper := [⟨(some 16), .call 23 [.c (.str [40, 97, 42, 41, 40, 98, 41])], none⟩,
  ⟨(some 17), .call 19 [.t 16, .c (.str [99, 97, 97, 98])], none⟩,
  ⟨(some 15), .mv (.t 17), none⟩,
  ⟨(some 18), .ext (.t 15) 0, none⟩,
  ⟨(some 19), .ext (.t 15) 1, none⟩,
  ⟨(some 1), .mv (.t 18), none⟩,
  ⟨(some 2), .mv (.t 19), none⟩]
def p12_2 : List AOper := [⟨(some 21), .call 23 [.c (.str [97, 43, 63])], none⟩,
  ⟨(some 22), .call 19 [.t 21, .c (.str [97, 97])], none⟩,
  ⟨(some 20), .mv (.t 22), none⟩,
  ⟨(some 23), .ext (.t 20) 0, none⟩,
  ⟨(some 24), .ext (.t 20) 1, none⟩,
  ⟨(some 3), .mv (.t 23), none⟩,
  ⟨(some 4), .mv (.t 24), none⟩]
def p12_3 : List AOper := [⟨(some 26), .call 23 [.c (.str [97, 124, 97, 98, 124, 97])], none⟩,
  ⟨(some 27), .call 15 [.t 26, .c (.str [97, 98]), .c (.int .i64 0)], none⟩,
  ⟨(some 25), .mv (.t 27), none⟩,
  ⟨(some 28), .ext (.t 25) 0, none⟩,
  ⟨(some 29), .ext (.t 25) 1, none⟩,
  ⟨(some 5), .mv (.t 28), none⟩,
  ⟨(some 6), .mv (.t 29), none⟩]
def p12_4 : List AOper := [⟨(some 31), .call 23 [.c (.str [97])], none⟩,
  ⟨(some 32), .call 15 [.t 31, .c (.str [195, 169]), .c (.int .i64 1)], none⟩,
  ⟨(some 30), .mv (.t 32), none⟩,
  ⟨(some 33), .ext (.t 30) 0, none⟩,
  ⟨(some 34), .ext (.t 30) 1, none⟩,
  ⟨(some 7), .mv (.t 33), none⟩,
  ⟨(some 8), .mv (.t 34), none⟩]
def p12_5 : List AOper := [⟨(some 36), .call 23 [.c (.str [120])], none⟩,
  ⟨(some 37), .call 19 [.t 36, .c (.str [97, 98, 99])], none⟩,
  ⟨(some 35), .mv (.t 37), none⟩,
  ⟨(some 38), .ext (.t 35) 0, none⟩,
  ⟨(some 39), .ext (.t 35) 1, none⟩,
  ⟨(some 9), .mv (.t 38), none⟩,
  ⟨(some 10), .mv (.t 39), none⟩]
def p12_6 : List AOper := [⟨(some 41), .call 23 [.c (.str [40, 97, 42, 41, 42])], none⟩,
  ⟨(some 42), .call 19 [.t 41, .c (.str [98])], none⟩,
  ⟨(some 40), .mv (.t 42), none⟩,
  ⟨(some 43), .ext (.t 40) 0, none⟩,
  ⟨(some 44), .ext (.t 40) 1, none⟩,
  ⟨(some 11), .mv (.t 43), none⟩,
  ⟨(some 12), .mv (.t 44), none⟩]
def p12_7 : List AOper := [⟨(some 45), .mv (.t 1), none⟩,
  ⟨(some 46), .bslice 1 6 [.int .i64 0, .int .i64 0, .int .i64 0, .int .i64 0, .int .i64 0, .int .i64 0] [(0, 1, .c (.int .i64 1)), (1, 1, .c (.int .i64 4)), (2, 1, .c (.int .i64 1)), (3, 1, .c (.int .i64 3)), (4, 1, .c (.int .i64 3)), (5, 1, .c (.int .i64 4))], none⟩,
  ⟨(some 47), .call 18 [.t 45, .t 46], none⟩,
  ⟨(some 13), .mv (.t 47), none⟩]
def p12_8 : List AOper := [⟨(some 48), .mv (.t 3), none⟩,
  ⟨(some 49), .bslice 1 2 [.int .i64 0, .int .i64 0] [(0, 1, .c (.int .i64 0)), (1, 1, .c (.int .i64 1))], none⟩,
  ⟨(some 50), .call 18 [.t 48, .t 49], none⟩,
  ⟨(some 51), .mv (.t 50), none⟩,
  ⟨(some 52), .mv (.t 11), (some (51, true))⟩,
  ⟨(some 53), .bslice 1 4 [.int .i64 0, .int .i64 0, .int .i64 0, .int .i64 0] [(0, 1, .c (.int .i64 0)), (1, 1, .c (.int .i64 0)), (2, 1, .c (.int .i64 (-1))), (3, 1, .c (.int .i64 (-1)))], (some (51, true))⟩,
  ⟨(some 54), .call 18 [.t 52, .t 53], (some (51, true))⟩,
  ⟨(some 55), .pick (.t 51) (.t 54) (.c (.bool false)), none⟩,
  ⟨(some 14), .mv (.t 55), none⟩]
def p12_9 : List AOper := [⟨(some 56), .mv (.t 2), none⟩,
  ⟨(some 57), .mv (.t 56), none⟩,
  ⟨(some 58), .mv (.t 13), (some (57, true))⟩,
  ⟨(some 59), .pick (.t 57) (.t 58) (.c (.bool false)), none⟩,
  ⟨(some 60), .mv (.t 59), none⟩,
  ⟨(some 61), .mv (.t 4), (some (60, true))⟩,
  ⟨(some 62), .pick (.t 60) (.t 61) (.c (.bool false)), none⟩,
  ⟨(some 63), .mv (.t 62), none⟩,
  ⟨(some 64), .mv (.t 14), (some (63, true))⟩,
  ⟨(some 65), .pick (.t 63) (.t 64) (.c (.bool false)), none⟩,
  ⟨(some 66), .mv (.t 65), none⟩,
  ⟨(some 67), .mv (.t 6), (some (66, true))⟩,
  ⟨(some 68), .bin .eql .n (.t 67) (.c (.int .i64 0)), (some (66, true))⟩,
  ⟨(some 69), .pick (.t 66) (.t 68) (.c (.bool false)), none⟩,
  ⟨(some 70), .mv (.t 69), none⟩,
  ⟨(some 71), .mv (.t 5), (some (70, true))⟩,
  ⟨(some 72), .lensl (.t 71), (some (70, true))⟩,
  ⟨(some 73), .bin .eql .n (.t 72) (.c (.int .i64 2)), (some (70, true))⟩,
  ⟨(some 74), .pick (.t 70) (.t 73) (.c (.bool false)), none⟩,
  ⟨(some 75), .mv (.t 74), none⟩,
  ⟨(some 76), .mv (.t 5), (some (75, true))⟩,
  ⟨(some 77), .iad 2 (.t 76) (.c (.int .i64 0)), (some (75, true))⟩,
  ⟨(some 78), .fad 0 (.t 77), (some (75, true))⟩,
  ⟨(some 79), .ld (.t 78), (some (75, true))⟩,
  ⟨(some 80), .bin .eql .n (.t 79) (.c (.int .i64 1)), (some (75, true))⟩,
  ⟨(some 81), .pick (.t 75) (.t 80) (.c (.bool false)), none⟩,
  ⟨(some 82), .mv (.t 81), none⟩,
  ⟨(some 83), .mv (.t 5), (some (82, true))⟩,
  ⟨(some 84), .iad 2 (.t 83) (.c (.int .i64 1)), (some (82, true))⟩,
  ⟨(some 85), .fad 0 (.t 84), (some (82, true))⟩,
  ⟨(some 86), .ld (.t 85), (some (82, true))⟩,
  ⟨(some 87), .bin .eql .n (.t 86) (.c (.int .i64 2)), (some (82, true))⟩,
  ⟨(some 88), .pick (.t 82) (.t 87) (.c (.bool false)), none⟩,
  ⟨(some 89), .mv (.t 88), none⟩,
  ⟨(some 90), .mv (.t 8), (some (89, true))⟩,
  ⟨(some 91), .bin .eql .n (.t 90) (.c (.int .i64 1)), (some (89, true))⟩,
  ⟨(some 92), .pick (.t 89) (.t 91) (.c (.bool false)), none⟩,
  ⟨(some 93), .mv (.t 92), none⟩,
  ⟨(some 94), .mv (.t 10), (some (93, true))⟩,
  ⟨(some 95), .not (.t 94), (some (93, true))⟩,
  ⟨(some 96), .pick (.t 93) (.t 95) (.c (.bool false)), none⟩,
  ⟨(some 97), .mv (.t 96), none⟩,
  ⟨(some 98), .mv (.t 12), (some (97, true))⟩,
  ⟨(some 99), .pick (.t 97) (.t 98) (.c (.bool false)), none⟩,
  ⟨(some 100), .mv (.t 99), none⟩,
  ⟨(some 101), .call 21 [.c (.int .i64 4), .c (.str [97, 32, 98]), .c (.int .i64 1)], (some (100, true))⟩,
  ⟨(some 102), .pick (.t 100) (.t 101) (.c (.bool false)), none⟩,
  ⟨(some 103), .mv (.t 102), none⟩,
  ⟨(some 104), .call 21 [.c (.int .i64 5), .c (.str [97, 32, 98]), .c (.int .i64 1)], (some (103, true))⟩,
  ⟨(some 105), .not (.t 104), (some (103, true))⟩,
  ⟨(some 106), .pick (.t 103) (.t 105) (.c (.bool false)), none⟩,
  ⟨(some 107), .mv (.t 106), none⟩,
  ⟨(some 108), .call 21 [.c (.int .i64 3), .c (.str []), .c (.int .i64 0)], (some (107, true))⟩,
  ⟨(some 109), .pick (.t 107) (.t 108) (.c (.bool false)), none⟩,
  ⟨(some 0), .mv (.t 109), none⟩]
def p12 : AFun := ⟨110, .seq (.region p12_0) (.seq (.region p12_1) (.seq (.region p12_2) (.seq (.region p12_3) (.seq (.region p12_4) (.seq (.region p12_5) (.seq (.region p12_6) (.seq (.region p12_7) (.seq (.region p12_8) (.seq (.region p12_9) (.ret)))))))))),
  [.mv (.t 0)]⟩

/- 14 waxwork/waxworklaw07.text -/
def p14_0 : List AOper := [⟨(some 4), .mv (.c (.str [])), none⟩]
def p14_1 : List AOper := [⟨(some 5), .mv (.c (.str [])), none⟩]
def p14_2 : List AOper := [⟨(some 6), .mv (.c (.int .i64 0)), none⟩]
def p14_3 : List AOper := [⟨(some 7), .mv (.t 6), none⟩,
  ⟨(some 8), .mv (.t 0), none⟩,
  ⟨(some 9), .lensl (.t 8), none⟩,
  ⟨(some 10), .bin .lss .n (.t 7) (.t 9), none⟩,
  ⟨(some 11), .mv (.t 10), none⟩,
  ⟨(some 12), .mv (.t 6), (some (11, true))⟩,
  ⟨(some 13), .mv (.t 1), (some (11, true))⟩,
  ⟨(some 14), .bin .lss .n (.t 12) (.t 13), (some (11, true))⟩,
  ⟨(some 15), .pick (.t 11) (.t 14) (.c (.bool false)), none⟩]
def p14_5 : List AOper := [⟨(some 18), .mv (.t 5), none⟩,
  ⟨(some 19), .bslice 1 8 [.str [], .str [], .str [], .str [], .str [], .str [], .str [], .str []] [(0, 1, .c (.str [97])), (1, 1, .c (.str [98])), (2, 1, .c (.str [99])), (3, 1, .c (.str [97])), (4, 1, .c (.str [98])), (5, 1, .c (.str [32])), (6, 1, .c (.str [195, 169])), (7, 1, .c (.str [255]))], none⟩,
  ⟨(some 20), .mv (.t 0), none⟩,
  ⟨(some 21), .mv (.t 6), none⟩,
  ⟨(some 22), .iad 1 (.t 20) (.t 21), none⟩,
  ⟨(some 23), .ld (.t 22), none⟩,
  ⟨(some 24), .bin .rem .n (.t 23) (.c (.int .u8 8)), none⟩,
  ⟨(some 25), .iad 1 (.t 19) (.t 24), none⟩,
  ⟨(some 26), .ld (.t 25), none⟩,
  ⟨(some 27), .bin .add .n (.t 18) (.t 26), none⟩,
  ⟨(some 5), .mv (.t 27), none⟩]
def p14_4 : List AOper := [⟨(some 16), .mv (.t 6), none⟩,
  ⟨(some 17), .bin .add .n (.t 16) (.c (.int .i64 1)), none⟩,
  ⟨(some 6), .mv (.t 17), none⟩]
def p14_6 : List AOper := [⟨(some 28), .mv (.t 5), none⟩,
  ⟨(some 4), .mv (.t 28), none⟩]
def p14 : AFun := ⟨29, .seq (.region p14_0) (.seq (.region p14_1) (.seq (.seq (.region p14_2) (.block 0 (.loop (.seq (.seq (.region p14_3) (.cond (.t 15) (.skip) (.exit 0))) (.seq (.block 1 (.region p14_5)) (.region p14_4)))))) (.seq (.region p14_6) (.ret)))),
  [.mv (.t 4)]⟩

/- 15 waxwork/denote.Ways -/
def p15_0 : List AOper := [⟨(some 3), .box (.t 0), none⟩,
  ⟨(some 6), .alloc [.nils], none⟩,
  ⟨(some 7), .mv (.c (.int .i64 0)), none⟩]
def p15_1 : List AOper := [⟨(some 10), .ldn 7 (.t 3), none⟩,
  ⟨(some 11), .call 30 [.t 10], none⟩,
  ⟨(some 12), .not (.t 11), none⟩,
  ⟨(some 13), .mv (.t 12), none⟩,
  ⟨(some 14), .mv (.t 1), (some (13, false))⟩,
  ⟨(some 15), .mv (.t 2), (some (13, false))⟩,
  ⟨(some 16), .call 31 [.t 14, .t 15], (some (13, false))⟩,
  ⟨(some 17), .not (.t 16), (some (13, false))⟩,
  ⟨(some 18), .pick (.t 13) (.c (.bool true)) (.t 17), none⟩]
def p15_2 : List AOper := [⟨none, .st 1 (.t 6) (.c (.nils)), none⟩,
  ⟨(some 7), .mv (.c (.int .i64 1)), none⟩]
def p15_3 : List AOper := [⟨(some 19), .mkfn 34 [.t 6], none⟩,
  ⟨(some 20), .call 33 [.c (.int .i64 1), .t 19], none⟩,
  ⟨(some 21), .call 32 [.t 20], none⟩,
  ⟨(some 8), .mv (.t 21), none⟩]
def p15_4 : List AOper := [⟨(some 22), .bslice 1 1 [.int .i64 0] [(0, 1, .c (.int .i64 (-1)))], none⟩,
  ⟨(some 23), .ldn 7 (.t 3), none⟩,
  ⟨(some 24), .call 26 [.t 23], none⟩,
  ⟨(some 25), .bin .add .n (.t 24) (.c (.int .i64 1)), none⟩,
  ⟨(some 26), .bin .mul .n (.c (.int .i64 2)) (.t 25), none⟩,
  ⟨(some 27), .call 35 [.t 22, .t 26], none⟩,
  ⟨(some 9), .mv (.t 27), none⟩]
def p15_5 : List AOper := [⟨(some 28), .mv (.t 1), none⟩,
  ⟨(some 29), .build [.str []] [(0, 1, .t 28)], none⟩,
  ⟨(some 30), .ldn 7 (.t 3), none⟩,
  ⟨(some 31), .mv (.t 8), none⟩,
  ⟨(some 32), .call 36 [.t 29, .t 30, .t 31], none⟩,
  ⟨(some 33), .call 33 [.c (.int .i64 0), .t 32], none⟩,
  ⟨(some 34), .mv (.t 2), none⟩,
  ⟨(some 35), .mv (.t 9), none⟩,
  ⟨(some 36), .callv (.t 33) [.t 34, .t 35], none⟩]
def p15_6 : List AOper := [⟨(some 37), .ld (.t 6), none⟩,
  ⟨none, .st 1 (.t 6) (.t 37), none⟩,
  ⟨(some 7), .mv (.c (.int .i64 0)), none⟩]
def p15 : AFun := ⟨38, .seq (.region p15_0) (.seq (.seq (.region p15_1) (.cond (.t 18) (.seq (.region p15_2) (.ret)) (.skip))) (.seq (.region p15_3) (.seq (.region p15_4) (.seq (.region p15_5) (.seq (.region p15_6) (.ret)))))),
  [.ld (.t 6), .mv (.t 7)]⟩

/- 18 waxwork/waxworklaw07.same -/
def p18_0 : List AOper := [⟨(some 4), .mv (.c (.bool false)), none⟩]
def p18_1 : List AOper := [⟨(some 6), .mv (.t 0), none⟩,
  ⟨(some 7), .lensl (.t 6), none⟩,
  ⟨(some 8), .mv (.t 1), none⟩,
  ⟨(some 9), .lensl (.t 8), none⟩,
  ⟨(some 10), .bin .neq .n (.t 7) (.t 9), none⟩]
def p18_2 : List AOper := [⟨(some 4), .mv (.c (.bool false)), none⟩]
def p18_3 : List AOper := [⟨(some 5), .mv (.c (.int .i64 0)), none⟩]
def p18_4 : List AOper := [⟨(some 11), .mv (.t 5), none⟩,
  ⟨(some 12), .mv (.t 0), none⟩,
  ⟨(some 13), .lensl (.t 12), none⟩,
  ⟨(some 14), .bin .lss .n (.t 11) (.t 13), none⟩]
def p18_6 : List DOp := [⟨0, ⟨(some 17), .mv (.t 0), none⟩, [], .pure⟩,
  ⟨1, ⟨(some 18), .mv (.t 5), none⟩, [], .pure⟩,
  ⟨2, ⟨(some 19), .iad 1 (.t 17) (.t 18), none⟩, [0, 1], .pure⟩,
  ⟨3, ⟨(some 20), .ld (.t 19), none⟩, [0, 1, 2], .read⟩,
  ⟨4, ⟨(some 21), .mv (.t 1), none⟩, [], .pure⟩,
  ⟨5, ⟨(some 22), .mv (.t 5), none⟩, [], .pure⟩,
  ⟨6, ⟨(some 23), .iad 1 (.t 21) (.t 22), none⟩, [4, 5], .pure⟩,
  ⟨7, ⟨(some 24), .ld (.t 23), none⟩, [4, 5, 6], .read⟩,
  ⟨8, ⟨(some 25), .bin .neq .n (.t 20) (.t 24), none⟩, [0, 1, 2, 3, 4, 5, 6, 7], .pure⟩]
def p18_7 : List AOper := [⟨(some 4), .mv (.c (.bool false)), none⟩]
def p18_5 : List AOper := [⟨(some 15), .mv (.t 5), none⟩,
  ⟨(some 16), .bin .add .n (.t 15) (.c (.int .i64 1)), none⟩,
  ⟨(some 5), .mv (.t 16), none⟩]
def p18_8 : List AOper := [⟨(some 4), .mv (.c (.bool true)), none⟩]
def p18 : AFun := ⟨26, .seq (.region p18_0) (.seq (.seq (.region p18_1) (.cond (.t 10) (.seq (.region p18_2) (.ret)) (.skip))) (.seq (.seq (.region p18_3) (.block 0 (.loop (.seq (.seq (.region p18_4) (.cond (.t 14) (.skip) (.exit 0))) (.seq (.block 1 (.seq (.draw 0 p18_6) (.cond (.t 25) (.seq (.region p18_7) (.ret)) (.skip)))) (.region p18_5)))))) (.seq (.region p18_8) (.ret)))),
  [.mv (.t 4)]⟩

/- 19 waxwork/denote.Find -/
def p19_0 : List AOper := [⟨(some 2), .box (.t 0), none⟩,
  ⟨(some 4), .mv (.c (.nils)), none⟩,
  ⟨(some 5), .mv (.c (.bool false)), none⟩]
def p19_1 : List AOper := [⟨(some 9), .ldn 7 (.t 2), none⟩,
  ⟨(some 10), .call 30 [.t 9], none⟩,
  ⟨(some 11), .not (.t 10), none⟩]
def p19_2 : List AOper := [⟨(some 4), .mv (.c (.nils)), none⟩,
  ⟨(some 5), .mv (.c (.bool false)), none⟩]
def p19_3 : List AOper := [⟨(some 12), .mv (.t 1), none⟩,
  ⟨(some 13), .lens (.t 12), none⟩,
  ⟨(some 14), .bin .add .n (.t 13) (.c (.int .i64 1)), none⟩,
  ⟨(some 15), .mv (.c (.int .i64 0)), none⟩]
def p19_4 : List AOper := [⟨(some 16), .bin .lss .n (.t 15) (.t 14), none⟩]
def p19_5 : List AOper := [⟨(some 17), .mv (.t 15), none⟩,
  ⟨(some 6), .mv (.t 17), none⟩]
def p19_6 : List AOper := [⟨(some 19), .ldn 7 (.t 2), none⟩,
  ⟨(some 20), .mv (.t 1), none⟩,
  ⟨(some 21), .mv (.t 6), none⟩,
  ⟨(some 22), .call 15 [.t 19, .t 20, .t 21], none⟩,
  ⟨(some 18), .mv (.t 22), none⟩,
  ⟨(some 23), .ext (.t 18) 0, none⟩,
  ⟨(some 24), .ext (.t 18) 1, none⟩,
  ⟨(some 7), .mv (.t 23), none⟩,
  ⟨(some 8), .mv (.t 24), none⟩]
def p19_7 : List AOper := [⟨(some 25), .mv (.t 8), none⟩,
  ⟨(some 26), .bin .eql .n (.t 25) (.c (.int .i64 0)), none⟩,
  ⟨(some 27), .mv (.t 26), none⟩,
  ⟨(some 28), .mv (.t 7), (some (27, true))⟩,
  ⟨(some 29), .lensl (.t 28), (some (27, true))⟩,
  ⟨(some 30), .bin .gtr .n (.t 29) (.c (.int .i64 0)), (some (27, true))⟩,
  ⟨(some 31), .pick (.t 27) (.t 30) (.c (.bool false)), none⟩]
def p19_8 : List AOper := [⟨(some 32), .mv (.t 7), none⟩,
  ⟨(some 33), .iad 2 (.t 32) (.c (.int .i64 0)), none⟩,
  ⟨(some 34), .fad 1 (.t 33), none⟩,
  ⟨(some 35), .ld (.t 34), none⟩,
  ⟨(some 4), .mv (.t 35), none⟩,
  ⟨(some 5), .mv (.c (.bool true)), none⟩]
def p19_9 : List AOper := [⟨(some 36), .bin .add .n (.t 15) (.c (.int .i64 1)), none⟩,
  ⟨(some 15), .mv (.t 36), none⟩]
def p19_10 : List AOper := [⟨(some 4), .mv (.c (.nils)), none⟩,
  ⟨(some 5), .mv (.c (.bool false)), none⟩]
def p19 : AFun := ⟨37, .seq (.region p19_0) (.seq (.seq (.region p19_1) (.cond (.t 11) (.seq (.region p19_2) (.ret)) (.skip))) (.seq (.seq (.region p19_3) (.block 0 (.loop (.seq (.region p19_4) (.seq (.cond (.t 16) (.skip) (.exit 0)) (.seq (.block 1 (.seq (.region p19_5) (.seq (.region p19_6) (.seq (.region p19_7) (.cond (.t 31) (.seq (.region p19_8) (.ret)) (.skip)))))) (.region p19_9))))))) (.seq (.region p19_10) (.ret)))),
  [.mv (.t 4), .mv (.t 5)]⟩

/- 21 waxwork/denote.Holds -/
def p21_0 : List AOper := [⟨(some 6), .mv (.c (.bool false)), none⟩]
def p21_1 : List AOper := [⟨(some 7), .mv (.t 1), none⟩,
  ⟨(some 8), .mv (.t 2), none⟩,
  ⟨(some 9), .call 31 [.t 7, .t 8], none⟩,
  ⟨(some 10), .not (.t 9), none⟩]
def p21_2 : List AOper := [⟨(some 6), .mv (.c (.bool false)), none⟩]
def p21_3 : List AOper := [⟨(some 11), .mv (.t 0), none⟩]
def p21_4 : List AOper := [⟨(some 13), .bin .eql .n (.t 11) (.c (.int .i64 2)), none⟩,
  ⟨(some 12), .mv (.t 13), none⟩]
def p21_5 : List AOper := [⟨(some 14), .mv (.t 2), none⟩,
  ⟨(some 15), .bin .eql .n (.t 14) (.c (.int .i64 0)), none⟩,
  ⟨(some 6), .mv (.t 15), none⟩]
def p21_6 : List AOper := [⟨(some 17), .bin .eql .n (.t 11) (.c (.int .i64 3)), none⟩,
  ⟨(some 16), .mv (.t 17), none⟩]
def p21_7 : List AOper := [⟨(some 18), .mv (.t 2), none⟩,
  ⟨(some 19), .mv (.t 1), none⟩,
  ⟨(some 20), .lens (.t 19), none⟩,
  ⟨(some 21), .bin .eql .n (.t 18) (.t 20), none⟩,
  ⟨(some 6), .mv (.t 21), none⟩]
def p21_8 : List AOper := [⟨(some 23), .bin .eql .n (.t 11) (.c (.int .i64 4)), none⟩,
  ⟨(some 22), .mv (.t 23), none⟩]
def p21_9 : List AOper := [⟨(some 24), .bin .eql .n (.t 11) (.c (.int .i64 5)), none⟩,
  ⟨(some 22), .mv (.t 24), none⟩]
def p21_10 : List AOper := [⟨(some 25), .mv (.t 1), none⟩,
  ⟨(some 26), .mv (.t 2), none⟩,
  ⟨(some 27), .call 45 [.t 25, .t 26], none⟩,
  ⟨(some 28), .mv (.t 0), none⟩,
  ⟨(some 29), .bin .eql .n (.t 28) (.c (.int .i64 4)), none⟩,
  ⟨(some 30), .bin .eql .b (.t 27) (.t 29), none⟩,
  ⟨(some 6), .mv (.t 30), none⟩]
def p21_11 : List AOper := [⟨(some 6), .mv (.c (.bool false)), none⟩]
def p21 : AFun := ⟨31, .seq (.region p21_0) (.seq (.seq (.region p21_1) (.cond (.t 10) (.seq (.region p21_2) (.ret)) (.skip))) (.seq (.seq (.region p21_3) (.block 0 (.seq (.region p21_4) (.cond (.t 12) (.seq (.region p21_5) (.ret)) (.seq (.region p21_6) (.cond (.t 16) (.seq (.region p21_7) (.ret)) (.seq (.seq (.region p21_8) (.cond (.t 22) (.skip) (.region p21_9))) (.cond (.t 22) (.seq (.region p21_10) (.ret)) (.skip))))))))) (.seq (.region p21_11) (.ret)))),
  [.mv (.t 6)]⟩

/- 23 waxwork/waxworklaw07.made -/
def p23_0 : List AOper := [⟨(some 2), .alloc [.int .i64 0, .nils, .int .i64 0, .int .i64 0, .bool false, .int .i64 0, .nils], none⟩]
def p23_1 : List AOper := [⟨(some 9), .mv (.t 0), none⟩,
  ⟨(some 10), .call 47 [.t 9], none⟩,
  ⟨(some 8), .mv (.t 10), none⟩,
  ⟨(some 11), .ext (.t 8) 0, none⟩,
  ⟨(some 12), .ext (.t 8) 1, none⟩,
  ⟨(some 13), .ext (.t 8) 2, none⟩,
  ⟨(some 3), .alloc [.int .i64 0, .nils, .int .i64 0, .int .i64 0, .bool false, .int .i64 0, .nils], none⟩,
  ⟨none, .st 7 (.t 3) (.t 11), none⟩,
  ⟨(some 4), .mv (.t 12), none⟩,
  ⟨(some 5), .mv (.t 13), none⟩]
def p23_2 : List AOper := [⟨(some 15), .ldn 7 (.t 3), none⟩,
  ⟨(some 16), .call 48 [.t 15], none⟩,
  ⟨(some 14), .mv (.t 16), none⟩,
  ⟨(some 17), .ext (.t 14) 0, none⟩,
  ⟨(some 18), .ext (.t 14) 1, none⟩,
  ⟨(some 6), .alloc [.int .i64 0, .nils, .int .i64 0, .int .i64 0, .bool false, .int .i64 0, .nils], none⟩,
  ⟨none, .st 7 (.t 6) (.t 17), none⟩,
  ⟨(some 7), .mv (.t 18), none⟩]
def p23_3 : List AOper := [⟨(some 19), .ldn 7 (.t 6), none⟩,
  ⟨none, .st 7 (.t 2) (.t 19), none⟩]
def p23 : AFun := ⟨20, .seq (.region p23_0) (.seq (.region p23_1) (.seq (.region p23_2) (.seq (.region p23_3) (.ret)))),
  [.ldn 7 (.t 2)]⟩

/- 26 waxwork/syntax.Groups -/
def p26_0 : List AOper := [⟨(some 1), .box (.t 0), none⟩,
  ⟨(some 2), .mv (.c (.int .i64 0)), none⟩]
def p26_1 : List AOper := [⟨(some 6), .fad 5 (.t 1), none⟩,
  ⟨(some 7), .ld (.t 6), none⟩,
  ⟨(some 8), .mx [.t 7, .c (.int .i64 0)], none⟩,
  ⟨(some 3), .mv (.t 8), none⟩]
def p26_2 : List AOper := [⟨(some 9), .fad 6 (.t 1), none⟩,
  ⟨(some 10), .ld (.t 9), none⟩,
  ⟨(some 11), .lensl (.t 10), none⟩,
  ⟨(some 12), .mv (.c (.int .i64 0)), none⟩]
def p26_3 : List AOper := [⟨(some 13), .bin .lss .n (.t 12) (.t 11), none⟩]
def p26_4 : List AOper := [⟨(some 14), .iad 7 (.t 10) (.t 12), none⟩,
  ⟨(some 15), .ldn 7 (.t 14), none⟩,
  ⟨(some 5), .alloc [.int .i64 0, .nils, .int .i64 0, .int .i64 0, .bool false, .int .i64 0, .nils], none⟩,
  ⟨none, .st 7 (.t 5) (.t 15), none⟩]
def p26_5 : List AOper := [⟨(some 16), .mv (.t 3), none⟩,
  ⟨(some 17), .ldn 7 (.t 5), none⟩,
  ⟨(some 18), .call 26 [.t 17], none⟩,
  ⟨(some 19), .mx [.t 16, .t 18], none⟩,
  ⟨(some 3), .mv (.t 19), none⟩]
def p26_6 : List AOper := [⟨(some 20), .bin .add .n (.t 12) (.c (.int .i64 1)), none⟩,
  ⟨(some 12), .mv (.t 20), none⟩]
def p26_7 : List AOper := [⟨(some 21), .mv (.t 3), none⟩,
  ⟨(some 2), .mv (.t 21), none⟩]
def p26 : AFun := ⟨22, .seq (.region p26_0) (.seq (.region p26_1) (.seq (.seq (.region p26_2) (.block 0 (.loop (.seq (.region p26_3) (.seq (.cond (.t 13) (.skip) (.exit 0)) (.seq (.block 1 (.seq (.region p26_4) (.region p26_5))) (.region p26_6))))))) (.seq (.region p26_7) (.ret)))),
  [.mv (.t 2)]⟩

/- 30 waxwork/simple.Is -/
def p30_0 : List AOper := [⟨(some 1), .box (.t 0), none⟩,
  ⟨(some 2), .mv (.c (.bool false)), none⟩]
def p30_1 : List AOper := [⟨(some 3), .ldn 7 (.t 1), none⟩,
  ⟨(some 4), .call 51 [.t 3], none⟩,
  ⟨(some 5), .mv (.t 4), none⟩,
  ⟨(some 6), .ldn 7 (.t 1), (some (5, true))⟩,
  ⟨(some 7), .call 52 [.t 6], (some (5, true))⟩,
  ⟨(some 8), .pick (.t 5) (.t 7) (.c (.bool false)), none⟩,
  ⟨(some 2), .mv (.t 8), none⟩]
def p30 : AFun := ⟨9, .seq (.region p30_0) (.seq (.region p30_1) (.ret)),
  [.mv (.t 2)]⟩

/- 31 waxwork/runes.Place -/
def p31_0 : List AOper := [⟨(some 4), .mv (.c (.bool false)), none⟩]
def p31_1 : List AOper := [⟨(some 8), .mv (.t 0), none⟩,
  ⟨(some 9), .mv (.t 1), none⟩,
  ⟨(some 10), .call 53 [.t 8, .t 9], none⟩,
  ⟨(some 7), .mv (.t 10), none⟩,
  ⟨(some 11), .ext (.t 7) 0, none⟩,
  ⟨(some 12), .ext (.t 7) 1, none⟩,
  ⟨(some 5), .alloc [.int .i32 0, .int .i64 0, .int .i64 0], none⟩,
  ⟨none, .st 3 (.t 5) (.t 11), none⟩,
  ⟨(some 6), .mv (.t 12), none⟩]
def p31_2 : List AOper := [⟨(some 13), .mv (.t 6), none⟩,
  ⟨(some 14), .mv (.t 13), none⟩,
  ⟨(some 15), .mv (.t 1), (some (14, false))⟩,
  ⟨(some 16), .bin .eql .n (.t 15) (.c (.int .i64 0)), (some (14, false))⟩,
  ⟨(some 17), .pick (.t 14) (.c (.bool true)) (.t 16), none⟩,
  ⟨(some 4), .mv (.t 17), none⟩]
def p31 : AFun := ⟨18, .seq (.region p31_0) (.seq (.region p31_1) (.seq (.region p31_2) (.ret))),
  [.mv (.t 4)]⟩

/- 32 waxwork/denote.once -/
def p32_0 : List AOper := [⟨(some 1), .box (.t 0), none⟩,
  ⟨(some 2), .mv (.c (.nilf)), none⟩]
def p32_1 : List AOper := [⟨(some 4), .mkmap, none⟩,
  ⟨(some 3), .alloc [.nilm], none⟩,
  ⟨none, .st 1 (.t 3) (.t 4), none⟩]
def p32_2 : List AOper := [⟨(some 5), .mkfn 54 [.t 3, .t 1], none⟩,
  ⟨(some 2), .mv (.t 5), none⟩]
def p32 : AFun := ⟨6, .seq (.region p32_0) (.seq (.region p32_1) (.seq (.region p32_2) (.ret))),
  [.mv (.t 2)]⟩

/- 33 waxwork/denote.set -/
def p33_0 : List AOper := [⟨(some 2), .box (.t 0), none⟩,
  ⟨(some 3), .box (.t 1), none⟩,
  ⟨(some 4), .mv (.c (.nilf)), none⟩]
def p33_1 : List AOper := [⟨(some 5), .mkfn 55 [.t 2, .t 3], none⟩,
  ⟨(some 4), .mv (.t 5), none⟩]
def p33 : AFun := ⟨6, .seq (.region p33_0) (.seq (.region p33_1) (.ret)),
  [.mv (.t 4)]⟩

/- 34 waxwork/denote.Ways$1 -/
def p34_0 : List AOper := [⟨(some 5), .ld (.t 2), none⟩,
  ⟨(some 6), .mv (.t 0), none⟩,
  ⟨(some 7), .mv (.t 1), none⟩,
  ⟨(some 8), .build [.int .i64 0, .nils] [(0, 1, .t 6), (1, 1, .t 7)], none⟩,
  ⟨(some 9), .bslice 2 1 [.int .i64 0, .nils] [(0, 2, .t 8)], none⟩,
  ⟨(some 10), .app 2 (.t 5) (.t 9), none⟩,
  ⟨none, .st 1 (.t 2) (.t 10), none⟩]
def p34 : AFun := ⟨11, .region p34_0,
  []⟩

/- 35 slices.Repeat[[]int,int] -/
def p35_0 : List AOper := [⟨(some 4), .mv (.c (.nils)), none⟩]
def p35_1 : List AOper := [⟨(some 9), .mv (.t 1), none⟩,
  ⟨(some 10), .bin .lss .n (.t 9) (.c (.int .i64 0)), none⟩]
def p35_2 : List AOper := [⟨(some 11), .mkif 9 (.c (.str [99, 97, 110, 110, 111, 116, 32, 98, 101, 32, 110, 101, 103, 97, 116, 105, 118, 101])), none⟩,
  ⟨none, .pan (.t 11), none⟩]
def p35_3 : List AOper := [⟨(some 13), .mv (.t 0), none⟩,
  ⟨(some 14), .lensl (.t 13), none⟩,
  ⟨(some 15), .cvi .u64 (.t 14), none⟩,
  ⟨(some 16), .mv (.t 1), none⟩,
  ⟨(some 17), .cvi .u64 (.t 16), none⟩,
  ⟨(some 18), .call 57 [.t 15, .t 17], none⟩,
  ⟨(some 12), .mv (.t 18), none⟩,
  ⟨(some 19), .ext (.t 12) 0, none⟩,
  ⟨(some 20), .ext (.t 12) 1, none⟩,
  ⟨(some 5), .mv (.t 19), none⟩,
  ⟨(some 6), .mv (.t 20), none⟩]
def p35_4 : List AOper := [⟨(some 21), .mv (.t 5), none⟩,
  ⟨(some 22), .bin .gtr .n (.t 21) (.c (.int .u64 0)), none⟩,
  ⟨(some 23), .mv (.t 22), none⟩,
  ⟨(some 24), .mv (.t 6), (some (23, false))⟩,
  ⟨(some 25), .bin .gtr .n (.t 24) (.c (.int .u64 9223372036854775807)), (some (23, false))⟩,
  ⟨(some 26), .pick (.t 23) (.c (.bool true)) (.t 25), none⟩]
def p35_5 : List AOper := [⟨(some 27), .mkif 9 (.c (.str [116, 104, 101, 32, 114, 101, 115, 117, 108, 116, 32, 111, 102, 32, 40, 108, 101, 110, 40, 120, 41, 32, 42, 32, 99, 111, 117, 110, 116, 41, 32, 111, 118, 101, 114, 102, 108, 111, 119, 115])), none⟩,
  ⟨none, .pan (.t 27), none⟩]
def p35_6 : List AOper := [⟨(some 28), .mv (.t 6), none⟩,
  ⟨(some 29), .cvi .i64 (.t 28), none⟩,
  ⟨(some 30), .mksl 1 [.int .i64 0] (.t 29) (.t 29), none⟩,
  ⟨(some 7), .mv (.t 30), none⟩]
def p35_7 : List AOper := [⟨(some 31), .mv (.t 7), none⟩,
  ⟨(some 32), .mv (.t 0), none⟩,
  ⟨(some 33), .cpy 1 (.t 31) (.t 32), none⟩,
  ⟨(some 8), .mv (.t 33), none⟩]
def p35_8 : List AOper := [⟨(some 34), .mv (.t 8), none⟩,
  ⟨(some 35), .mv (.t 7), none⟩,
  ⟨(some 36), .lensl (.t 35), none⟩,
  ⟨(some 37), .bin .lss .n (.t 34) (.t 36), none⟩]
def p35_9 : List DOp := [⟨0, ⟨(some 38), .mv (.t 8), none⟩, [], .pure⟩,
  ⟨1, ⟨(some 39), .mv (.t 7), none⟩, [], .pure⟩,
  ⟨2, ⟨(some 40), .mv (.t 8), none⟩, [], .pure⟩,
  ⟨3, ⟨(some 41), .slc 1 (.t 39) (some (.t 40)) none, none⟩, [1, 2], .pure⟩,
  ⟨4, ⟨(some 42), .mv (.t 7), none⟩, [], .pure⟩,
  ⟨5, ⟨(some 43), .mv (.t 8), none⟩, [], .pure⟩,
  ⟨6, ⟨(some 44), .slc 1 (.t 42) none (some (.t 43)), none⟩, [4, 5], .pure⟩,
  ⟨7, ⟨(some 45), .cpy 1 (.t 41) (.t 44), none⟩, [1, 2, 3, 4, 5, 6], .eff⟩,
  ⟨8, ⟨(some 46), .bin .add .n (.t 38) (.t 45), none⟩, [0, 1, 2, 3, 4, 5, 6, 7], .pure⟩,
  ⟨9, ⟨(some 8), .mv (.t 46), none⟩, [0, 1, 2, 3, 4, 5, 6, 7, 8], .pure⟩]
def p35_10 : List AOper := [⟨(some 47), .mv (.t 7), none⟩,
  ⟨(some 4), .mv (.t 47), none⟩]
def p35 : AFun := ⟨48, .seq (.region p35_0) (.seq (.seq (.region p35_1) (.cond (.t 10) (.region p35_2) (.skip))) (.seq (.region p35_3) (.seq (.seq (.region p35_4) (.cond (.t 26) (.region p35_5) (.skip))) (.seq (.region p35_6) (.seq (.region p35_7) (.seq (.block 0 (.loop (.seq (.seq (.region p35_8) (.cond (.t 37) (.skip) (.exit 0))) (.block 1 (.draw 0 p35_9))))) (.seq (.region p35_10) (.ret)))))))),
  [.mv (.t 4)]⟩

/- 36 (waxwork/denote.asking).node -/
def p36_0 : List AOper := [⟨(some 3), .box (.t 0), none⟩,
  ⟨(some 4), .box (.t 1), none⟩,
  ⟨(some 5), .box (.t 2), none⟩,
  ⟨(some 6), .mv (.c (.nilf)), none⟩]
def p36_1 : List AOper := [⟨(some 12), .fad 0 (.t 4), none⟩,
  ⟨(some 13), .ld (.t 12), none⟩]
def p36_3 : List AOper := [⟨(some 19), .bin .eql .n (.t 13) (.c (.int .i64 6)), none⟩,
  ⟨(some 18), .mv (.t 19), none⟩]
def p36_4 : List AOper := [⟨(some 20), .fad 6 (.t 4), none⟩,
  ⟨(some 21), .ld (.t 20), none⟩,
  ⟨(some 22), .call 58 [.t 21], none⟩]
def p36_5 : List AOper := [⟨(some 8), .alloc [.int .i64 0, .nils, .int .i64 0, .int .i64 0, .bool false, .int .i64 0, .nils], none⟩,
  ⟨none, .st 7 (.t 8) (.t 24), none⟩]
def p36_6 : List AOper := [⟨(some 25), .ldn 1 (.t 3), none⟩,
  ⟨(some 26), .ldn 7 (.t 8), none⟩,
  ⟨(some 27), .ld (.t 5), none⟩,
  ⟨(some 28), .call 36 [.t 25, .t 26, .t 27], none⟩,
  ⟨none, .st 1 (.t 5) (.t 28), none⟩]
def p36_7 : List AOper := [⟨(some 30), .bin .eql .n (.t 13) (.c (.int .i64 7)), none⟩,
  ⟨(some 29), .mv (.t 30), none⟩]
def p36_8 : List AOper := [⟨(some 9), .alloc [.nils], none⟩]
def p36_9 : List AOper := [⟨(some 31), .fad 6 (.t 4), none⟩,
  ⟨(some 32), .ld (.t 31), none⟩,
  ⟨(some 33), .lensl (.t 32), none⟩,
  ⟨(some 34), .mv (.c (.int .i64 0)), none⟩]
def p36_10 : List AOper := [⟨(some 35), .bin .lss .n (.t 34) (.t 33), none⟩]
def p36_11 : List AOper := [⟨(some 36), .iad 7 (.t 32) (.t 34), none⟩,
  ⟨(some 37), .ldn 7 (.t 36), none⟩,
  ⟨(some 11), .alloc [.int .i64 0, .nils, .int .i64 0, .int .i64 0, .bool false, .int .i64 0, .nils], none⟩,
  ⟨none, .st 7 (.t 11) (.t 37), none⟩]
def p36_12 : List DOp := [⟨0, ⟨(some 38), .ld (.t 9), none⟩, [], .read⟩,
  ⟨1, ⟨(some 39), .ldn 1 (.t 3), none⟩, [], .read⟩,
  ⟨2, ⟨(some 40), .ldn 7 (.t 11), none⟩, [], .read⟩,
  ⟨3, ⟨(some 41), .ld (.t 5), none⟩, [], .read⟩,
  ⟨4, ⟨(some 42), .call 36 [.t 39, .t 40, .t 41], none⟩, [1, 2, 3], .eff⟩,
  ⟨5, ⟨(some 43), .bslice 1 1 [.nilf] [(0, 1, .t 42)], none⟩, [1, 2, 3, 4], (.alloc 0)⟩,
  ⟨6, ⟨(some 44), .app 1 (.t 38) (.t 43), none⟩, [0, 1, 2, 3, 4, 5], .eff⟩,
  ⟨7, ⟨none, .st 1 (.t 9) (.t 44), none⟩, [0, 1, 2, 3, 4, 5, 6], .eff⟩]
def p36_13 : List AOper := [⟨(some 45), .bin .add .n (.t 34) (.c (.int .i64 1)), none⟩,
  ⟨(some 34), .mv (.t 45), none⟩]
def p36_14 : List AOper := [⟨(some 46), .mkfn 59 [.t 9], none⟩,
  ⟨none, .st 1 (.t 5) (.t 46), none⟩]
def p36_15 : List AOper := [⟨(some 48), .bin .eql .n (.t 13) (.c (.int .i64 8)), none⟩,
  ⟨(some 47), .mv (.t 48), none⟩]
def p36_16 : List AOper := [⟨(some 49), .ldn 1 (.t 3), none⟩,
  ⟨(some 50), .ldn 7 (.t 4), none⟩,
  ⟨(some 51), .ld (.t 5), none⟩,
  ⟨(some 52), .call 60 [.t 49, .t 50, .t 51], none⟩,
  ⟨none, .st 1 (.t 5) (.t 52), none⟩]
def p36_17 : List AOper := [⟨(some 54), .bin .eql .n (.t 13) (.c (.int .i64 9)), none⟩,
  ⟨(some 53), .mv (.t 54), none⟩]
def p36_18 : List DOp := [⟨0, ⟨(some 55), .fad 5 (.t 4), none⟩, [], .pure⟩,
  ⟨1, ⟨(some 56), .ld (.t 55), none⟩, [0], .read⟩,
  ⟨2, ⟨(some 57), .bin .mul .n (.c (.int .i64 2)) (.t 56), none⟩, [0, 1], .pure⟩,
  ⟨3, ⟨(some 58), .ldn 1 (.t 3), none⟩, [], .read⟩,
  ⟨4, ⟨(some 59), .fad 6 (.t 4), none⟩, [], .pure⟩,
  ⟨5, ⟨(some 60), .ld (.t 59), none⟩, [4], .read⟩,
  ⟨6, ⟨(some 61), .iad 7 (.t 60) (.c (.int .i64 0)), none⟩, [4, 5], .pure⟩,
  ⟨7, ⟨(some 62), .ldn 7 (.t 61), none⟩, [4, 5, 6], .read⟩,
  ⟨8, ⟨(some 63), .fad 5 (.t 4), none⟩, [], .pure⟩,
  ⟨9, ⟨(some 64), .ld (.t 63), none⟩, [8], .read⟩,
  ⟨10, ⟨(some 65), .bin .mul .n (.c (.int .i64 2)) (.t 64), none⟩, [8, 9], .pure⟩,
  ⟨11, ⟨(some 66), .bin .add .n (.t 65) (.c (.int .i64 1)), none⟩, [8, 9, 10], .pure⟩,
  ⟨12, ⟨(some 67), .ld (.t 5), none⟩, [], .read⟩,
  ⟨13, ⟨(some 68), .call 33 [.t 66, .t 67], none⟩, [8, 9, 10, 11, 12], .eff⟩,
  ⟨14, ⟨(some 69), .call 32 [.t 68], none⟩, [8, 9, 10, 11, 12, 13], .eff⟩,
  ⟨15, ⟨(some 70), .call 36 [.t 58, .t 62, .t 69], none⟩, [3, 4, 5, 6, 7, 8, 9, 10, 11, 12, 13, 14], .eff⟩,
  ⟨16, ⟨(some 71), .call 33 [.t 57, .t 70], none⟩, [0, 1, 2, 3, 4, 5, 6, 7, 8, 9, 10, 11, 12, 13, 14, 15], .eff⟩,
  ⟨17, ⟨none, .st 1 (.t 5) (.t 71), none⟩, [0, 1, 2, 3, 4, 5, 6, 7, 8, 9, 10, 11, 12, 13, 14, 15, 16], .eff⟩]
def p36_2 : List AOper := [⟨(some 14), .ldn 1 (.t 3), none⟩,
  ⟨(some 15), .ldn 7 (.t 4), none⟩,
  ⟨(some 16), .ld (.t 5), none⟩,
  ⟨(some 17), .call 61 [.t 14, .t 15, .t 16], none⟩,
  ⟨none, .st 1 (.t 5) (.t 17), none⟩]
def p36_19 : List AOper := [⟨(some 72), .ld (.t 5), none⟩,
  ⟨(some 73), .call 32 [.t 72], none⟩,
  ⟨(some 6), .mv (.t 73), none⟩]
def p36 : AFun := ⟨74, .seq (.region p36_0) (.seq (.seq (.region p36_1) (.block 0 (.seq (.region p36_3) (.cond (.t 18) (.seq (.region p36_4) (.block 1 (.rfun (.t 22) [23, 24] (.region p36_5) (.block 2 (.region p36_6))))) (.seq (.region p36_7) (.cond (.t 29) (.seq (.region p36_8) (.seq (.seq (.region p36_9) (.block 3 (.loop (.seq (.region p36_10) (.seq (.cond (.t 35) (.skip) (.exit 3)) (.seq (.block 4 (.seq (.region p36_11) (.draw 1 p36_12))) (.region p36_13))))))) (.region p36_14))) (.seq (.region p36_15) (.cond (.t 47) (.region p36_16) (.seq (.region p36_17) (.cond (.t 53) (.draw 0 p36_18) (.region p36_2))))))))))) (.seq (.region p36_19) (.ret))),
  [.mv (.t 6)]⟩

/- 45 waxwork/runes.Edge -/
def p45_0 : List AOper := [⟨(some 4), .mv (.c (.bool false)), none⟩]
def p45_1 : List AOper := [⟨(some 10), .mv (.t 0), none⟩,
  ⟨(some 11), .mv (.t 1), none⟩,
  ⟨(some 12), .call 53 [.t 10, .t 11], none⟩,
  ⟨(some 9), .mv (.t 12), none⟩,
  ⟨(some 13), .ext (.t 9) 0, none⟩,
  ⟨(some 14), .ext (.t 9) 1, none⟩,
  ⟨(some 5), .alloc [.int .i32 0, .int .i64 0, .int .i64 0], none⟩,
  ⟨none, .st 3 (.t 5) (.t 13), none⟩,
  ⟨(some 6), .mv (.t 14), none⟩]
def p45_2 : List AOper := [⟨(some 16), .mv (.t 0), none⟩,
  ⟨(some 17), .mv (.t 1), none⟩,
  ⟨(some 18), .call 66 [.t 16, .t 17], none⟩,
  ⟨(some 15), .mv (.t 18), none⟩,
  ⟨(some 19), .ext (.t 15) 0, none⟩,
  ⟨(some 20), .ext (.t 15) 1, none⟩,
  ⟨(some 7), .alloc [.int .i32 0, .int .i64 0, .int .i64 0], none⟩,
  ⟨none, .st 3 (.t 7) (.t 19), none⟩,
  ⟨(some 8), .mv (.t 20), none⟩]
def p45_3 : List AOper := [⟨(some 21), .mv (.t 6), none⟩,
  ⟨(some 22), .mv (.t 21), none⟩,
  ⟨(some 23), .fad 0 (.t 5), (some (22, true))⟩,
  ⟨(some 24), .ld (.t 23), (some (22, true))⟩,
  ⟨(some 25), .call 67 [.t 24], (some (22, true))⟩,
  ⟨(some 26), .pick (.t 22) (.t 25) (.c (.bool false)), none⟩,
  ⟨(some 27), .mv (.t 8), none⟩,
  ⟨(some 28), .mv (.t 27), none⟩,
  ⟨(some 29), .fad 0 (.t 7), (some (28, true))⟩,
  ⟨(some 30), .ld (.t 29), (some (28, true))⟩,
  ⟨(some 31), .call 67 [.t 30], (some (28, true))⟩,
  ⟨(some 32), .pick (.t 28) (.t 31) (.c (.bool false)), none⟩,
  ⟨(some 33), .bin .neq .b (.t 26) (.t 32), none⟩,
  ⟨(some 4), .mv (.t 33), none⟩]
def p45 : AFun := ⟨34, .seq (.region p45_0) (.seq (.region p45_1) (.seq (.region p45_2) (.seq (.region p45_3) (.ret)))),
  [.mv (.t 4)]⟩

/- 47 waxwork/syntax.Parse -/
def p47_0 : List AOper := [⟨(some 2), .alloc [.int .i64 0, .nils, .int .i64 0, .int .i64 0, .bool false, .int .i64 0, .nils], none⟩,
  ⟨(some 3), .alloc [.int .i64 0], none⟩,
  ⟨(some 4), .alloc [.int .i64 0], none⟩]
def p47_1 : List AOper := [⟨(some 6), .mv (.t 0), none⟩,
  ⟨(some 7), .lens (.t 6), none⟩,
  ⟨(some 8), .bin .gtr .n (.t 7) (.c (.int .i64 200)), none⟩]
def p47_2 : List AOper := [⟨(some 9), .build [.int .i64 0, .nils, .int .i64 0, .int .i64 0, .bool false, .int .i64 0, .nils] [], none⟩,
  ⟨none, .st 7 (.t 2) (.t 9), none⟩,
  ⟨none, .st 1 (.t 3) (.c (.int .i64 200)), none⟩,
  ⟨none, .st 1 (.t 4) (.c (.int .i64 3)), none⟩]
def p47_3 : List AOper := [⟨(some 10), .mkfn 70 [.t 2, .t 3, .t 4], none⟩,
  ⟨none, .dfr (.t 10), none⟩]
def p47_4 : List AOper := [⟨(some 11), .mv (.t 0), none⟩,
  ⟨(some 12), .call 71 [.t 11], none⟩,
  ⟨(some 13), .mv (.t 0), none⟩,
  ⟨(some 14), .lens (.t 13), none⟩,
  ⟨(some 15), .build [.nils, .int .i64 0, .int .i64 0] [(0, 1, .t 12), (1, 1, .t 14)], none⟩,
  ⟨(some 16), .box (.t 15), none⟩,
  ⟨(some 5), .mv (.t 16), none⟩]
def p47_5 : List AOper := [⟨(some 17), .mv (.t 5), none⟩,
  ⟨(some 18), .call 72 [.t 17], none⟩,
  ⟨none, .st 7 (.t 2) (.t 18), none⟩]
def p47_6 : List DOp := [⟨0, ⟨(some 19), .mv (.t 5), none⟩, [], .pure⟩,
  ⟨1, ⟨(some 20), .nilchk (.t 19), none⟩, [0], .pure⟩,
  ⟨2, ⟨(some 21), .fad 0 (.t 20), none⟩, [0, 1], .pure⟩,
  ⟨3, ⟨(some 22), .ld (.t 21), none⟩, [0, 1, 2], .read⟩,
  ⟨4, ⟨(some 23), .lensl (.t 22), none⟩, [0, 1, 2, 3], .pure⟩,
  ⟨5, ⟨(some 24), .bin .eql .n (.t 23) (.c (.int .i64 0)), none⟩, [0, 1, 2, 3, 4], .pure⟩,
  ⟨6, ⟨(some 25), .mv (.t 5), none⟩, [], .pure⟩,
  ⟨7, ⟨(some 26), .call 74 [.t 25], none⟩, [6], .eff⟩,
  ⟨8, ⟨(some 27), .call 73 [.t 24, .t 26], none⟩, [0, 1, 2, 3, 4, 5, 6, 7], .eff⟩]
def p47_7 : List AOper := [⟨(some 28), .ldn 7 (.t 2), none⟩,
  ⟨(some 29), .mv (.t 0), none⟩,
  ⟨(some 30), .lens (.t 29), none⟩,
  ⟨none, .st 7 (.t 2) (.t 28), none⟩,
  ⟨none, .st 1 (.t 3) (.t 30), none⟩,
  ⟨none, .st 1 (.t 4) (.c (.int .i64 0)), none⟩]
def p47 : AFun := ⟨31, .seq (.region p47_0) (.seq (.seq (.region p47_1) (.cond (.t 8) (.seq (.region p47_2) (.ret)) (.skip))) (.seq (.region p47_3) (.seq (.region p47_4) (.seq (.region p47_5) (.seq (.draw 0 p47_6) (.seq (.region p47_7) (.ret))))))),
  [.ldn 7 (.t 2), .ld (.t 3), .ld (.t 4)]⟩

/- 48 waxwork/simple.Of -/
def p48_0 : List AOper := [⟨(some 1), .box (.t 0), none⟩,
  ⟨(some 2), .alloc [.int .i64 0, .nils, .int .i64 0, .int .i64 0, .bool false, .int .i64 0, .nils], none⟩,
  ⟨(some 3), .mv (.c (.int .i64 0)), none⟩]
def p48_1 : List AOper := [⟨(some 4), .ldn 7 (.t 1), none⟩,
  ⟨(some 5), .call 51 [.t 4], none⟩,
  ⟨(some 6), .not (.t 5), none⟩]
def p48_2 : List AOper := [⟨(some 7), .build [.int .i64 0, .nils, .int .i64 0, .int .i64 0, .bool false, .int .i64 0, .nils] [], none⟩,
  ⟨none, .st 7 (.t 2) (.t 7), none⟩,
  ⟨(some 3), .mv (.c (.int .i64 1)), none⟩]
def p48_3 : List AOper := [⟨(some 8), .ldn 7 (.t 1), none⟩,
  ⟨(some 9), .call 75 [.t 8], none⟩,
  ⟨(some 10), .ext (.t 9) 0, none⟩,
  ⟨(some 11), .ext (.t 9) 1, none⟩,
  ⟨none, .st 7 (.t 2) (.t 10), none⟩,
  ⟨(some 3), .mv (.t 11), none⟩]
def p48 : AFun := ⟨12, .seq (.region p48_0) (.seq (.seq (.region p48_1) (.cond (.t 6) (.seq (.region p48_2) (.ret)) (.skip))) (.seq (.region p48_3) (.ret))),
  [.ldn 7 (.t 2), .mv (.t 3)]⟩

/- 50 waxwork/class.Not -/
def p50_0 : List AOper := [⟨(some 2), .mv (.c (.nils)), none⟩]
def p50_1 : List AOper := [⟨(some 3), .mv (.c (.nils)), none⟩]
def p50_2 : List AOper := [⟨(some 4), .mv (.c (.int .i32 0)), none⟩]
def p50_3 : List AOper := [⟨(some 7), .mv (.t 0), none⟩,
  ⟨(some 8), .call 77 [.t 7], none⟩,
  ⟨(some 9), .lensl (.t 8), none⟩,
  ⟨(some 10), .mv (.c (.int .i64 0)), none⟩]
def p50_4 : List AOper := [⟨(some 11), .bin .lss .n (.t 10) (.t 9), none⟩]
def p50_5 : List AOper := [⟨(some 12), .iad 2 (.t 8) (.t 10), none⟩,
  ⟨(some 13), .ldn 2 (.t 12), none⟩,
  ⟨(some 6), .alloc [.int .i32 0, .int .i32 0], none⟩,
  ⟨none, .st 2 (.t 6) (.t 13), none⟩]
def p50_6 : List AOper := [⟨(some 14), .mv (.t 3), none⟩,
  ⟨(some 15), .mv (.t 4), none⟩,
  ⟨(some 16), .fad 0 (.t 6), none⟩,
  ⟨(some 17), .ld (.t 16), none⟩,
  ⟨(some 18), .bin .sub .n (.t 17) (.c (.int .i32 1)), none⟩,
  ⟨(some 19), .build [.int .i32 0, .int .i32 0] [(0, 1, .t 15), (1, 1, .t 18)], none⟩,
  ⟨(some 20), .bslice 2 1 [.int .i32 0, .int .i32 0] [(0, 2, .t 19)], none⟩,
  ⟨(some 21), .app 2 (.t 14) (.t 20), none⟩,
  ⟨(some 3), .mv (.t 21), none⟩]
def p50_7 : List AOper := [⟨(some 22), .fad 1 (.t 6), none⟩,
  ⟨(some 23), .ld (.t 22), none⟩,
  ⟨(some 24), .bin .add .n (.t 23) (.c (.int .i32 1)), none⟩,
  ⟨(some 4), .mv (.t 24), none⟩]
def p50_8 : List AOper := [⟨(some 25), .bin .add .n (.t 10) (.c (.int .i64 1)), none⟩,
  ⟨(some 10), .mv (.t 25), none⟩]
def p50_9 : List AOper := [⟨(some 26), .mv (.t 3), none⟩,
  ⟨(some 27), .mv (.t 4), none⟩,
  ⟨(some 28), .build [.int .i32 0, .int .i32 0] [(0, 1, .t 27), (1, 1, .c (.int .i32 1114111))], none⟩,
  ⟨(some 29), .bslice 2 1 [.int .i32 0, .int .i32 0] [(0, 2, .t 28)], none⟩,
  ⟨(some 30), .app 2 (.t 26) (.t 29), none⟩,
  ⟨(some 31), .call 77 [.t 30], none⟩,
  ⟨(some 2), .mv (.t 31), none⟩]
def p50 : AFun := ⟨32, .seq (.region p50_0) (.seq (.region p50_1) (.seq (.region p50_2) (.seq (.seq (.region p50_3) (.block 0 (.loop (.seq (.region p50_4) (.seq (.cond (.t 11) (.skip) (.exit 0)) (.seq (.block 1 (.seq (.region p50_5) (.seq (.region p50_6) (.region p50_7)))) (.region p50_8))))))) (.seq (.region p50_9) (.ret))))),
  [.mv (.t 2)]⟩

/- 51 waxwork/syntax.Right -/
def p51_0 : List AOper := [⟨(some 1), .box (.t 0), none⟩,
  ⟨(some 2), .mv (.c (.bool false)), none⟩]
def p51_1 : List AOper := [⟨(some 4), .fad 6 (.t 1), none⟩,
  ⟨(some 5), .ld (.t 4), none⟩,
  ⟨(some 6), .call 78 [.t 5, .f 79], none⟩,
  ⟨(some 7), .mv (.t 6), none⟩,
  ⟨(some 8), .fad 1 (.t 1), (some (7, false))⟩,
  ⟨(some 9), .ld (.t 8), (some (7, false))⟩,
  ⟨(some 10), .call 80 [.t 9], (some (7, false))⟩,
  ⟨(some 11), .not (.t 10), (some (7, false))⟩,
  ⟨(some 12), .pick (.t 7) (.c (.bool true)) (.t 11), none⟩,
  ⟨(some 13), .mv (.t 12), none⟩,
  ⟨(some 14), .fad 0 (.t 1), (some (13, false))⟩,
  ⟨(some 15), .ld (.t 14), (some (13, false))⟩,
  ⟨(some 16), .bin .eql .n (.t 15) (.c (.int .i64 1)), (some (13, false))⟩,
  ⟨(some 17), .fad 1 (.t 1), (some (13, false))⟩,
  ⟨(some 18), .ld (.t 17), (some (13, false))⟩,
  ⟨(some 19), .lensl (.t 18), (some (13, false))⟩,
  ⟨(some 20), .bin .gtr .n (.t 19) (.c (.int .i64 0)), (some (13, false))⟩,
  ⟨(some 21), .bin .neq .b (.t 16) (.t 20), (some (13, false))⟩,
  ⟨(some 22), .pick (.t 13) (.c (.bool true)) (.t 21), none⟩]
def p51_2 : List AOper := [⟨(some 2), .mv (.c (.bool false)), none⟩]
def p51_3 : List AOper := [⟨(some 23), .fad 2 (.t 1), none⟩,
  ⟨(some 24), .ld (.t 23), none⟩,
  ⟨(some 25), .bin .eql .n (.t 24) (.c (.int .i64 0)), none⟩,
  ⟨(some 26), .mv (.t 25), none⟩,
  ⟨(some 27), .fad 3 (.t 1), (some (26, true))⟩,
  ⟨(some 28), .ld (.t 27), (some (26, true))⟩,
  ⟨(some 29), .bin .eql .n (.t 28) (.c (.int .i64 0)), (some (26, true))⟩,
  ⟨(some 30), .pick (.t 26) (.t 29) (.c (.bool false)), none⟩,
  ⟨(some 31), .mv (.t 30), none⟩,
  ⟨(some 32), .fad 4 (.t 1), (some (31, true))⟩,
  ⟨(some 33), .ld (.t 32), (some (31, true))⟩,
  ⟨(some 34), .not (.t 33), (some (31, true))⟩,
  ⟨(some 35), .pick (.t 31) (.t 34) (.c (.bool false)), none⟩,
  ⟨(some 3), .mv (.t 35), none⟩]
def p51_4 : List AOper := [⟨(some 36), .fad 0 (.t 1), none⟩,
  ⟨(some 37), .ld (.t 36), none⟩]
def p51_5 : List AOper := [⟨(some 39), .bin .eql .n (.t 37) (.c (.int .i64 0)), none⟩,
  ⟨(some 38), .mv (.t 39), none⟩]
def p51_6 : List AOper := [⟨(some 40), .bin .eql .n (.t 37) (.c (.int .i64 1)), none⟩,
  ⟨(some 38), .mv (.t 40), none⟩]
def p51_7 : List AOper := [⟨(some 41), .bin .eql .n (.t 37) (.c (.int .i64 2)), none⟩,
  ⟨(some 38), .mv (.t 41), none⟩]
def p51_8 : List AOper := [⟨(some 42), .bin .eql .n (.t 37) (.c (.int .i64 3)), none⟩,
  ⟨(some 38), .mv (.t 42), none⟩]
def p51_9 : List AOper := [⟨(some 43), .bin .eql .n (.t 37) (.c (.int .i64 4)), none⟩,
  ⟨(some 38), .mv (.t 43), none⟩]
def p51_10 : List AOper := [⟨(some 44), .bin .eql .n (.t 37) (.c (.int .i64 5)), none⟩,
  ⟨(some 38), .mv (.t 44), none⟩]
def p51_11 : List AOper := [⟨(some 45), .mv (.t 3), none⟩,
  ⟨(some 46), .mv (.t 45), none⟩,
  ⟨(some 47), .fad 5 (.t 1), (some (46, true))⟩,
  ⟨(some 48), .ld (.t 47), (some (46, true))⟩,
  ⟨(some 49), .bin .eql .n (.t 48) (.c (.int .i64 0)), (some (46, true))⟩,
  ⟨(some 50), .pick (.t 46) (.t 49) (.c (.bool false)), none⟩,
  ⟨(some 51), .mv (.t 50), none⟩,
  ⟨(some 52), .fad 6 (.t 1), (some (51, true))⟩,
  ⟨(some 53), .ld (.t 52), (some (51, true))⟩,
  ⟨(some 54), .lensl (.t 53), (some (51, true))⟩,
  ⟨(some 55), .bin .eql .n (.t 54) (.c (.int .i64 0)), (some (51, true))⟩,
  ⟨(some 56), .pick (.t 51) (.t 55) (.c (.bool false)), none⟩,
  ⟨(some 2), .mv (.t 56), none⟩]
def p51_12 : List AOper := [⟨(some 58), .bin .eql .n (.t 37) (.c (.int .i64 6)), none⟩,
  ⟨(some 57), .mv (.t 58), none⟩]
def p51_13 : List AOper := [⟨(some 59), .bin .eql .n (.t 37) (.c (.int .i64 7)), none⟩,
  ⟨(some 57), .mv (.t 59), none⟩]
def p51_14 : List AOper := [⟨(some 60), .mv (.t 3), none⟩,
  ⟨(some 61), .mv (.t 60), none⟩,
  ⟨(some 62), .fad 5 (.t 1), (some (61, true))⟩,
  ⟨(some 63), .ld (.t 62), (some (61, true))⟩,
  ⟨(some 64), .bin .eql .n (.t 63) (.c (.int .i64 0)), (some (61, true))⟩,
  ⟨(some 65), .pick (.t 61) (.t 64) (.c (.bool false)), none⟩,
  ⟨(some 66), .mv (.t 65), none⟩,
  ⟨(some 67), .fad 6 (.t 1), (some (66, true))⟩,
  ⟨(some 68), .ld (.t 67), (some (66, true))⟩,
  ⟨(some 69), .lensl (.t 68), (some (66, true))⟩,
  ⟨(some 70), .bin .gtr .n (.t 69) (.c (.int .i64 1)), (some (66, true))⟩,
  ⟨(some 71), .pick (.t 66) (.t 70) (.c (.bool false)), none⟩,
  ⟨(some 2), .mv (.t 71), none⟩]
def p51_15 : List AOper := [⟨(some 73), .bin .eql .n (.t 37) (.c (.int .i64 8)), none⟩,
  ⟨(some 72), .mv (.t 73), none⟩]
def p51_16 : List AOper := [⟨(some 74), .fad 5 (.t 1), none⟩,
  ⟨(some 75), .ld (.t 74), none⟩,
  ⟨(some 76), .bin .eql .n (.t 75) (.c (.int .i64 0)), none⟩,
  ⟨(some 77), .mv (.t 76), none⟩,
  ⟨(some 78), .fad 6 (.t 1), (some (77, true))⟩,
  ⟨(some 79), .ld (.t 78), (some (77, true))⟩,
  ⟨(some 80), .lensl (.t 79), (some (77, true))⟩,
  ⟨(some 81), .bin .eql .n (.t 80) (.c (.int .i64 1)), (some (77, true))⟩,
  ⟨(some 82), .pick (.t 77) (.t 81) (.c (.bool false)), none⟩,
  ⟨(some 83), .mv (.t 82), none⟩,
  ⟨(some 84), .fad 2 (.t 1), (some (83, true))⟩,
  ⟨(some 85), .ld (.t 84), (some (83, true))⟩,
  ⟨(some 86), .bin .geq .n (.t 85) (.c (.int .i64 0)), (some (83, true))⟩,
  ⟨(some 87), .pick (.t 83) (.t 86) (.c (.bool false)), none⟩,
  ⟨(some 88), .mv (.t 87), none⟩,
  ⟨(some 89), .fad 2 (.t 1), (some (88, true))⟩,
  ⟨(some 90), .ld (.t 89), (some (88, true))⟩,
  ⟨(some 91), .bin .leq .n (.t 90) (.c (.int .i64 20)), (some (88, true))⟩,
  ⟨(some 92), .pick (.t 88) (.t 91) (.c (.bool false)), none⟩,
  ⟨(some 93), .mv (.t 92), none⟩,
  ⟨(some 94), .fad 3 (.t 1), (some (93, true))⟩,
  ⟨(some 95), .ld (.t 94), (some (93, true))⟩,
  ⟨(some 96), .bin .eql .n (.t 95) (.c (.int .i64 (-1))), (some (93, true))⟩,
  ⟨(some 97), .mv (.t 96), (some (93, true))⟩,
  ⟨(some 98), .fad 3 (.t 1), (some (97, false))⟩,
  ⟨(some 99), .ld (.t 98), (some (97, false))⟩,
  ⟨(some 100), .fad 2 (.t 1), (some (97, false))⟩,
  ⟨(some 101), .ld (.t 100), (some (97, false))⟩,
  ⟨(some 102), .bin .geq .n (.t 99) (.t 101), (some (97, false))⟩,
  ⟨(some 103), .mv (.t 102), (some (97, false))⟩,
  ⟨(some 104), .fad 3 (.t 1), (some (103, true))⟩,
  ⟨(some 105), .ld (.t 104), (some (103, true))⟩,
  ⟨(some 106), .bin .leq .n (.t 105) (.c (.int .i64 20)), (some (103, true))⟩,
  ⟨(some 107), .pick (.t 103) (.t 106) (.c (.bool false)), (some (97, false))⟩,
  ⟨(some 108), .pick (.t 97) (.c (.bool true)) (.t 107), (some (93, true))⟩,
  ⟨(some 109), .pick (.t 93) (.t 108) (.c (.bool false)), none⟩,
  ⟨(some 2), .mv (.t 109), none⟩]
def p51_17 : List AOper := [⟨(some 111), .bin .eql .n (.t 37) (.c (.int .i64 9)), none⟩,
  ⟨(some 110), .mv (.t 111), none⟩]
def p51_18 : List AOper := [⟨(some 112), .mv (.t 3), none⟩,
  ⟨(some 113), .mv (.t 112), none⟩,
  ⟨(some 114), .fad 6 (.t 1), (some (113, true))⟩,
  ⟨(some 115), .ld (.t 114), (some (113, true))⟩,
  ⟨(some 116), .lensl (.t 115), (some (113, true))⟩,
  ⟨(some 117), .bin .eql .n (.t 116) (.c (.int .i64 1)), (some (113, true))⟩,
  ⟨(some 118), .pick (.t 113) (.t 117) (.c (.bool false)), none⟩,
  ⟨(some 119), .mv (.t 118), none⟩,
  ⟨(some 120), .fad 5 (.t 1), (some (119, true))⟩,
  ⟨(some 121), .ld (.t 120), (some (119, true))⟩,
  ⟨(some 122), .bin .gtr .n (.t 121) (.c (.int .i64 0)), (some (119, true))⟩,
  ⟨(some 123), .pick (.t 119) (.t 122) (.c (.bool false)), none⟩,
  ⟨(some 124), .mv (.t 123), none⟩,
  ⟨(some 125), .fad 5 (.t 1), (some (124, true))⟩,
  ⟨(some 126), .ld (.t 125), (some (124, true))⟩,
  ⟨(some 127), .bin .leq .n (.t 126) (.c (.int .i64 8)), (some (124, true))⟩,
  ⟨(some 128), .pick (.t 124) (.t 127) (.c (.bool false)), none⟩,
  ⟨(some 2), .mv (.t 128), none⟩]
def p51_19 : List AOper := [⟨(some 2), .mv (.c (.bool false)), none⟩]
def p51 : AFun := ⟨129, .seq (.region p51_0) (.seq (.seq (.region p51_1) (.cond (.t 22) (.seq (.region p51_2) (.ret)) (.skip))) (.seq (.region p51_3) (.seq (.seq (.region p51_4) (.block 0 (.seq (.seq (.region p51_5) (.cond (.t 38) (.skip) (.seq (.region p51_6) (.cond (.t 38) (.skip) (.seq (.region p51_7) (.cond (.t 38) (.skip) (.seq (.region p51_8) (.cond (.t 38) (.skip) (.seq (.region p51_9) (.cond (.t 38) (.skip) (.region p51_10))))))))))) (.cond (.t 38) (.seq (.region p51_11) (.ret)) (.seq (.seq (.region p51_12) (.cond (.t 57) (.skip) (.region p51_13))) (.cond (.t 57) (.seq (.region p51_14) (.ret)) (.seq (.region p51_15) (.cond (.t 72) (.seq (.region p51_16) (.ret)) (.seq (.region p51_17) (.cond (.t 110) (.seq (.region p51_18) (.ret)) (.skip))))))))))) (.seq (.region p51_19) (.ret))))),
  [.mv (.t 2)]⟩

/- 52 waxwork/simple.forms -/
def p52_0 : List AOper := [⟨(some 1), .box (.t 0), none⟩,
  ⟨(some 2), .mv (.c (.bool false)), none⟩]
def p52_1 : List AOper := [⟨(some 3), .mv (.f 81), none⟩]
def p52_2 : List AOper := [⟨(some 4), .fad 0 (.t 1), none⟩,
  ⟨(some 5), .ld (.t 4), none⟩,
  ⟨(some 6), .bin .neq .n (.t 5) (.c (.int .i64 8)), none⟩,
  ⟨(some 7), .mv (.t 6), none⟩,
  ⟨(some 8), .ldn 7 (.t 1), (some (7, false))⟩,
  ⟨(some 9), .call 82 [.t 8], (some (7, false))⟩,
  ⟨(some 10), .pick (.t 7) (.c (.bool true)) (.t 9), none⟩,
  ⟨(some 11), .mv (.t 10), none⟩,
  ⟨(some 12), .fad 6 (.t 1), (some (11, true))⟩,
  ⟨(some 13), .ld (.t 12), (some (11, true))⟩,
  ⟨(some 14), .mv (.t 3), (some (11, true))⟩,
  ⟨(some 15), .call 78 [.t 13, .t 14], (some (11, true))⟩,
  ⟨(some 16), .not (.t 15), (some (11, true))⟩,
  ⟨(some 17), .pick (.t 11) (.t 16) (.c (.bool false)), none⟩,
  ⟨(some 2), .mv (.t 17), none⟩]
def p52 : AFun := ⟨18, .seq (.region p52_0) (.seq (.region p52_1) (.seq (.region p52_2) (.ret))),
  [.mv (.t 2)]⟩

/- 53 waxwork/runes.Ahead -/
def p53_0 : List AOper := [⟨(some 3), .box (.t 1), none⟩,
  ⟨(some 4), .alloc [.int .i32 0, .int .i64 0, .int .i64 0], none⟩,
  ⟨(some 5), .mv (.c (.bool false)), none⟩]
def p53_1 : List AOper := [⟨(some 6), .mv (.t 0), none⟩,
  ⟨(some 7), .mkfn 84 [.t 3], none⟩,
  ⟨(some 8), .call 83 [.t 6, .t 7], none⟩,
  ⟨(some 9), .ext (.t 8) 0, none⟩,
  ⟨(some 10), .ext (.t 8) 1, none⟩,
  ⟨none, .st 3 (.t 4) (.t 9), none⟩,
  ⟨(some 5), .mv (.t 10), none⟩]
def p53 : AFun := ⟨11, .seq (.region p53_0) (.seq (.region p53_1) (.ret)),
  [.ldn 3 (.t 4), .mv (.t 5)]⟩

/- 54 waxwork/denote.once$1 -/
def p54_0 : List AOper := [⟨(some 9), .ld (.t 2), none⟩,
  ⟨(some 10), .mv (.t 0), none⟩,
  ⟨(some 11), .lkp none (.agg []) true (.t 9) (.t 10), none⟩,
  ⟨(some 8), .mv (.t 11), none⟩,
  ⟨(some 12), .ext (.t 8) 0, none⟩,
  ⟨(some 13), .ext (.t 8) 1, none⟩,
  ⟨(some 6), .alloc [], none⟩,
  ⟨none, .st 0 (.t 6) (.t 12), none⟩,
  ⟨(some 7), .mv (.t 13), none⟩]
def p54_1 : List AOper := [⟨(some 14), .mv (.t 7), none⟩,
  ⟨(some 15), .not (.t 14), none⟩]
def p54_2 : List AOper := [⟨(some 16), .ld (.t 2), none⟩,
  ⟨(some 17), .mv (.t 0), none⟩,
  ⟨(some 18), .build [] [], none⟩,
  ⟨none, .mput none (.t 16) (.t 17) (.t 18), none⟩]
def p54_3 : List AOper := [⟨(some 19), .ld (.t 3), none⟩,
  ⟨(some 20), .mv (.t 0), none⟩,
  ⟨(some 21), .mv (.t 1), none⟩,
  ⟨(some 22), .callv (.t 19) [.t 20, .t 21], none⟩]
def p54 : AFun := ⟨23, .seq (.region p54_0) (.seq (.region p54_1) (.cond (.t 15) (.seq (.region p54_2) (.region p54_3)) (.skip))),
  []⟩

/- 55 waxwork/denote.set$1 -/
def p55_0 : List AOper := [⟨(some 6), .mv (.t 1), none⟩,
  ⟨(some 7), .call 56 [.t 6], none⟩,
  ⟨(some 1), .mv (.t 7), none⟩]
def p55_1 : List AOper := [⟨(some 8), .mv (.t 1), none⟩,
  ⟨(some 9), .ld (.t 2), none⟩,
  ⟨(some 10), .mv (.t 0), none⟩,
  ⟨(some 11), .iad 1 (.t 8) (.t 9), none⟩,
  ⟨none, .st 1 (.t 11) (.t 10), none⟩]
def p55_2 : List AOper := [⟨(some 12), .ld (.t 3), none⟩,
  ⟨(some 13), .mv (.t 0), none⟩,
  ⟨(some 14), .mv (.t 1), none⟩,
  ⟨(some 15), .callv (.t 12) [.t 13, .t 14], none⟩]
def p55 : AFun := ⟨16, .seq (.region p55_0) (.seq (.region p55_1) (.region p55_2)),
  []⟩

/- 56 slices.Clone[[]int,int] -/
def p56_0 : List AOper := [⟨(some 2), .mv (.c (.nils)), none⟩]
def p56_1 : List AOper := [⟨(some 3), .mv (.t 0), none⟩,
  ⟨(some 4), .bin .eql .s (.t 3) (.c (.nils)), none⟩]
def p56_2 : List AOper := [⟨(some 2), .mv (.c (.nils)), none⟩]
def p56_3 : List AOper := [⟨(some 5), .bslice 1 0 [] [], none⟩,
  ⟨(some 6), .mv (.t 0), none⟩,
  ⟨(some 7), .app 1 (.t 5) (.t 6), none⟩,
  ⟨(some 2), .mv (.t 7), none⟩]
def p56 : AFun := ⟨8, .seq (.region p56_0) (.seq (.seq (.region p56_1) (.cond (.t 4) (.seq (.region p56_2) (.ret)) (.skip))) (.seq (.region p56_3) (.ret))),
  [.mv (.t 2)]⟩

/- 57 math/bits.Mul -/
def p57_0 : List AOper := [⟨(some 4), .mv (.c (.int .u64 0)), none⟩,
  ⟨(some 5), .mv (.c (.int .u64 0)), none⟩]
def p57_1 : List AOper := [⟨(some 11), .mv (.t 0), none⟩,
  ⟨(some 12), .cvi .u32 (.t 11), none⟩,
  ⟨(some 13), .mv (.t 1), none⟩,
  ⟨(some 14), .cvi .u32 (.t 13), none⟩,
  ⟨(some 15), .call 85 [.t 12, .t 14], none⟩,
  ⟨(some 10), .mv (.t 15), none⟩,
  ⟨(some 16), .ext (.t 10) 0, none⟩,
  ⟨(some 17), .ext (.t 10) 1, none⟩,
  ⟨(some 6), .mv (.t 16), none⟩,
  ⟨(some 7), .mv (.t 17), none⟩]
def p57_2 : List AOper := [⟨(some 18), .mv (.t 6), none⟩,
  ⟨(some 19), .cvi .u64 (.t 18), none⟩,
  ⟨(some 20), .mv (.t 7), none⟩,
  ⟨(some 21), .cvi .u64 (.t 20), none⟩,
  ⟨(some 4), .mv (.t 19), none⟩,
  ⟨(some 5), .mv (.t 21), none⟩]
def p57_3 : List AOper := [⟨(some 23), .mv (.t 0), none⟩,
  ⟨(some 24), .mv (.t 1), none⟩,
  ⟨(some 25), .call 86 [.t 23, .t 24], none⟩,
  ⟨(some 22), .mv (.t 25), none⟩,
  ⟨(some 26), .ext (.t 22) 0, none⟩,
  ⟨(some 27), .ext (.t 22) 1, none⟩,
  ⟨(some 8), .mv (.t 26), none⟩,
  ⟨(some 9), .mv (.t 27), none⟩]
def p57_4 : List AOper := [⟨(some 28), .mv (.t 8), none⟩,
  ⟨(some 29), .mv (.t 9), none⟩,
  ⟨(some 4), .mv (.t 28), none⟩,
  ⟨(some 5), .mv (.t 29), none⟩]
def p57 : AFun := ⟨30, .seq (.region p57_0) (.seq (.cond (.c (.bool false)) (.seq (.region p57_1) (.seq (.region p57_2) (.ret))) (.skip)) (.seq (.region p57_3) (.seq (.region p57_4) (.ret)))),
  [.mv (.t 4), .mv (.t 5)]⟩

/- 58 slices.Backward[[]waxwork/syntax.Node,waxwork/syntax.Node] -/
def p58_0 : List AOper := [⟨(some 1), .box (.t 0), none⟩,
  ⟨(some 2), .mv (.c (.nilf)), none⟩]
def p58_1 : List AOper := [⟨(some 3), .mkfn 87 [.t 1], none⟩,
  ⟨(some 2), .mv (.t 3), none⟩]
def p58 : AFun := ⟨4, .seq (.region p58_0) (.seq (.region p58_1) (.ret)),
  [.mv (.t 2)]⟩

/- 59 (waxwork/denote.asking).node$1 -/
def p59_0 : List AOper := [⟨(some 7), .ld (.t 2), none⟩,
  ⟨(some 8), .lensl (.t 7), none⟩,
  ⟨(some 9), .mv (.c (.int .i64 0)), none⟩]
def p59_1 : List AOper := [⟨(some 10), .bin .lss .n (.t 9) (.t 8), none⟩]
def p59_2 : List AOper := [⟨(some 11), .iad 1 (.t 7) (.t 9), none⟩,
  ⟨(some 12), .ld (.t 11), none⟩,
  ⟨(some 6), .mv (.t 12), none⟩]
def p59_3 : List AOper := [⟨(some 13), .mv (.t 6), none⟩,
  ⟨(some 14), .mv (.t 0), none⟩,
  ⟨(some 15), .mv (.t 1), none⟩,
  ⟨(some 16), .callv (.t 13) [.t 14, .t 15], none⟩]
def p59_4 : List AOper := [⟨(some 17), .bin .add .n (.t 9) (.c (.int .i64 1)), none⟩,
  ⟨(some 9), .mv (.t 17), none⟩]
def p59 : AFun := ⟨18, .seq (.region p59_0) (.block 0 (.loop (.seq (.region p59_1) (.seq (.cond (.t 10) (.skip) (.exit 0)) (.seq (.block 1 (.seq (.region p59_2) (.region p59_3))) (.region p59_4)))))),
  []⟩

/- 60 (waxwork/denote.asking).repeat -/
def p60_0 : List AOper := [⟨(some 3), .box (.t 0), none⟩,
  ⟨(some 4), .box (.t 1), none⟩,
  ⟨(some 6), .mv (.c (.nilf)), none⟩]
def p60_1 : List AOper := [⟨(some 10), .fad 6 (.t 4), none⟩,
  ⟨(some 11), .ld (.t 10), none⟩,
  ⟨(some 12), .iad 7 (.t 11) (.c (.int .i64 0)), none⟩,
  ⟨(some 13), .ldn 7 (.t 12), none⟩,
  ⟨(some 7), .alloc [.int .i64 0, .nils, .int .i64 0, .int .i64 0, .bool false, .int .i64 0, .nils], none⟩,
  ⟨none, .st 7 (.t 7) (.t 13), none⟩]
def p60_2 : List AOper := [⟨(some 14), .fad 3 (.t 4), none⟩,
  ⟨(some 15), .ld (.t 14), none⟩,
  ⟨(some 16), .bin .eql .n (.t 15) (.c (.int .i64 1)), none⟩]
def p60_3 : List DOp := [⟨0, ⟨(some 17), .fad 4 (.t 4), none⟩, [], .pure⟩,
  ⟨1, ⟨(some 18), .ld (.t 17), none⟩, [0], .read⟩,
  ⟨2, ⟨(some 19), .ldn 1 (.t 3), none⟩, [], .read⟩,
  ⟨3, ⟨(some 20), .ldn 7 (.t 7), none⟩, [], .read⟩,
  ⟨4, ⟨(some 21), .mv (.t 2), none⟩, [], .pure⟩,
  ⟨6, ⟨(some 23), .mv (.t 2), none⟩, [], .pure⟩,
  ⟨5, ⟨(some 22), .call 36 [.t 19, .t 20, .t 21], none⟩, [2, 3, 4], .eff⟩,
  ⟨7, ⟨(some 24), .call 88 [.t 18, .t 22, .t 23], none⟩, [0, 1, 2, 3, 4, 5, 6], .eff⟩,
  ⟨8, ⟨(some 6), .mv (.t 24), none⟩, [0, 1, 2, 3, 4, 5, 6, 7], .pure⟩]
def p60_4 : List AOper := [⟨(some 8), .alloc [.nilf], none⟩]
def p60_5 : List AOper := [⟨(some 25), .ldn 1 (.t 3), none⟩,
  ⟨(some 26), .ldn 7 (.t 7), none⟩,
  ⟨(some 27), .mkfn 89 [.t 8], none⟩,
  ⟨(some 28), .call 36 [.t 25, .t 26, .t 27], none⟩,
  ⟨(some 9), .mv (.t 28), none⟩]
def p60_6 : List AOper := [⟨(some 29), .fad 4 (.t 4), none⟩,
  ⟨(some 30), .ld (.t 29), none⟩,
  ⟨(some 31), .mv (.t 9), none⟩,
  ⟨(some 32), .mv (.t 2), none⟩,
  ⟨(some 33), .call 88 [.t 30, .t 31, .t 32], none⟩,
  ⟨(some 34), .call 32 [.t 33], none⟩,
  ⟨none, .st 1 (.t 8) (.t 34), none⟩]
def p60_7 : List AOper := [⟨(some 35), .fad 2 (.t 4), none⟩,
  ⟨(some 36), .ld (.t 35), none⟩,
  ⟨(some 37), .bin .eql .n (.t 36) (.c (.int .i64 1)), none⟩]
def p60_8 : List AOper := [⟨(some 38), .mv (.t 9), none⟩,
  ⟨(some 6), .mv (.t 38), none⟩]
def p60_9 : List AOper := [⟨(some 39), .ld (.t 8), none⟩,
  ⟨(some 6), .mv (.t 39), none⟩]
def p60 : AFun := ⟨40, .seq (.region p60_0) (.seq (.region p60_1) (.seq (.seq (.region p60_2) (.cond (.t 16) (.seq (.draw 0 p60_3) (.ret)) (.skip))) (.seq (.region p60_4) (.seq (.region p60_5) (.seq (.region p60_6) (.seq (.seq (.region p60_7) (.cond (.t 37) (.seq (.region p60_8) (.ret)) (.skip))) (.seq (.region p60_9) (.ret)))))))),
  [.mv (.t 6)]⟩

/- 61 (waxwork/denote.asking).leaf -/
def p61_0 : List AOper := [⟨(some 3), .box (.t 0), none⟩,
  ⟨(some 4), .box (.t 1), none⟩,
  ⟨(some 5), .box (.t 2), none⟩,
  ⟨(some 6), .mv (.c (.nilf)), none⟩]
def p61_1 : List AOper := [⟨(some 7), .fad 0 (.t 4), none⟩,
  ⟨(some 8), .ld (.t 7), none⟩]
def p61_2 : List AOper := [⟨(some 10), .bin .eql .n (.t 8) (.c (.int .i64 1)), none⟩,
  ⟨(some 9), .mv (.t 10), none⟩]
def p61_3 : List AOper := [⟨(some 11), .mkfn 90 [.t 3, .t 4, .t 5], none⟩,
  ⟨(some 6), .mv (.t 11), none⟩]
def p61_4 : List AOper := [⟨(some 13), .bin .eql .n (.t 8) (.c (.int .i64 0)), none⟩,
  ⟨(some 12), .mv (.t 13), none⟩]
def p61_5 : List AOper := [⟨(some 14), .ld (.t 5), none⟩,
  ⟨(some 6), .mv (.t 14), none⟩]
def p61_6 : List AOper := [⟨(some 15), .mkfn 92 [.t 4, .t 3, .t 5], none⟩,
  ⟨(some 6), .mv (.t 15), none⟩]
def p61 : AFun := ⟨16, .seq (.region p61_0) (.seq (.seq (.region p61_1) (.block 0 (.seq (.region p61_2) (.cond (.t 9) (.seq (.region p61_3) (.ret)) (.seq (.region p61_4) (.cond (.t 12) (.seq (.region p61_5) (.ret)) (.skip))))))) (.seq (.region p61_6) (.ret))),
  [.mv (.t 6)]⟩

/- 66 waxwork/runes.At -/
def p66_0 : List AOper := [⟨(some 3), .box (.t 1), none⟩,
  ⟨(some 4), .alloc [.int .i32 0, .int .i64 0, .int .i64 0], none⟩,
  ⟨(some 5), .mv (.c (.bool false)), none⟩]
def p66_1 : List AOper := [⟨(some 6), .mv (.t 0), none⟩,
  ⟨(some 7), .mkfn 96 [.t 3], none⟩,
  ⟨(some 8), .call 83 [.t 6, .t 7], none⟩,
  ⟨(some 9), .ext (.t 8) 0, none⟩,
  ⟨(some 10), .ext (.t 8) 1, none⟩,
  ⟨none, .st 3 (.t 4) (.t 9), none⟩,
  ⟨(some 5), .mv (.t 10), none⟩]
def p66 : AFun := ⟨11, .seq (.region p66_0) (.seq (.region p66_1) (.ret)),
  [.ldn 3 (.t 4), .mv (.t 5)]⟩

/- 67 waxwork/runes.Word -/
def p67_0 : List AOper := [⟨(some 2), .mv (.c (.bool false)), none⟩]
def p67_1 : List AOper := [⟨(some 4), .mv (.t 0), none⟩,
  ⟨(some 5), .bin .geq .n (.t 4) (.c (.int .i32 48)), none⟩,
  ⟨(some 6), .mv (.t 5), none⟩,
  ⟨(some 7), .mv (.t 0), (some (6, true))⟩,
  ⟨(some 8), .bin .leq .n (.t 7) (.c (.int .i32 57)), (some (6, true))⟩,
  ⟨(some 9), .pick (.t 6) (.t 8) (.c (.bool false)), none⟩,
  ⟨(some 3), .mv (.t 9), none⟩]
def p67_2 : List AOper := [⟨(some 10), .mv (.t 0), none⟩,
  ⟨(some 11), .bin .geq .n (.t 10) (.c (.int .i32 65)), none⟩,
  ⟨(some 12), .mv (.t 11), none⟩,
  ⟨(some 13), .mv (.t 0), (some (12, true))⟩,
  ⟨(some 14), .bin .leq .n (.t 13) (.c (.int .i32 90)), (some (12, true))⟩,
  ⟨(some 15), .pick (.t 12) (.t 14) (.c (.bool false)), none⟩,
  ⟨(some 3), .mv (.t 15), none⟩]
def p67_3 : List AOper := [⟨(some 16), .mv (.t 0), none⟩,
  ⟨(some 17), .bin .geq .n (.t 16) (.c (.int .i32 97)), none⟩,
  ⟨(some 18), .mv (.t 17), none⟩,
  ⟨(some 19), .mv (.t 0), (some (18, true))⟩,
  ⟨(some 20), .bin .leq .n (.t 19) (.c (.int .i32 122)), (some (18, true))⟩,
  ⟨(some 21), .pick (.t 18) (.t 20) (.c (.bool false)), none⟩,
  ⟨(some 3), .mv (.t 21), none⟩]
def p67_4 : List AOper := [⟨(some 22), .mv (.t 0), none⟩,
  ⟨(some 23), .bin .eql .n (.t 22) (.c (.int .i32 95)), none⟩,
  ⟨(some 3), .mv (.t 23), none⟩]
def p67_5 : List AOper := [⟨(some 2), .mv (.c (.bool true)), none⟩]
def p67_6 : List AOper := [⟨(some 2), .mv (.c (.bool false)), none⟩]
def p67 : AFun := ⟨24, .seq (.region p67_0) (.seq (.block 0 (.seq (.seq (.region p67_1) (.cond (.t 3) (.skip) (.seq (.region p67_2) (.cond (.t 3) (.skip) (.seq (.region p67_3) (.cond (.t 3) (.skip) (.region p67_4))))))) (.cond (.t 3) (.seq (.region p67_5) (.ret)) (.skip)))) (.seq (.region p67_6) (.ret))),
  [.mv (.t 2)]⟩

/- 70 waxwork/syntax.Parse$1 -/
def p70_0 : List AOper := [⟨(some 7), .tas 128 (.agg [.int .i64 0, .int .i64 0]) (.t 6), none⟩,
  ⟨(some 5), .mv (.t 7), none⟩,
  ⟨(some 8), .ext (.t 5) 0, none⟩,
  ⟨(some 9), .ext (.t 5) 1, none⟩,
  ⟨(some 3), .alloc [.int .i64 0, .int .i64 0], none⟩,
  ⟨none, .st 2 (.t 3) (.t 8), none⟩,
  ⟨(some 4), .mv (.t 9), none⟩]
def p70_1 : List AOper := [⟨(some 10), .mv (.t 4), none⟩]
def p70_2 : List DOp := [⟨0, ⟨(some 11), .build [.int .i64 0, .nils, .int .i64 0, .int .i64 0, .bool false, .int .i64 0, .nils] [], none⟩, [], .pure⟩,
  ⟨1, ⟨(some 12), .fad 1 (.t 3), none⟩, [], .pure⟩,
  ⟨2, ⟨(some 13), .ld (.t 12), none⟩, [1], .read⟩,
  ⟨3, ⟨(some 14), .fad 0 (.t 3), none⟩, [], .pure⟩,
  ⟨4, ⟨(some 15), .ld (.t 14), none⟩, [3], .read⟩,
  ⟨5, ⟨none, .st 7 (.t 0) (.t 11), none⟩, [0], .eff⟩,
  ⟨6, ⟨none, .st 1 (.t 1) (.t 13), none⟩, [0, 1, 2, 5], .eff⟩,
  ⟨7, ⟨none, .st 1 (.t 2) (.t 15), none⟩, [0, 1, 2, 3, 4, 5, 6], .eff⟩]
def p70 : AFun := ⟨16, .seq (.rcv (some 6) p70_0) (.seq (.region p70_1) (.cond (.t 10) (.draw 0 p70_2) (.skip))),
  []⟩

/- 71 waxwork/syntax.chars -/
def p71_0 : List AOper := [⟨(some 2), .mv (.c (.nils)), none⟩]
def p71_1 : List AOper := [⟨(some 3), .mv (.c (.nils)), none⟩]
def p71_2 : List AOper := [⟨(some 6), .mv (.t 0), none⟩,
  ⟨(some 7), .rng (.t 6), none⟩]
def p71_3 : List AOper := [⟨(some 8), .nxt (.t 7), none⟩,
  ⟨(some 9), .ext (.t 8) 0, none⟩]
def p71_4 : List AOper := [⟨(some 10), .ext (.t 8) 1, none⟩,
  ⟨(some 11), .ext (.t 8) 2, none⟩,
  ⟨(some 4), .mv (.t 10), none⟩,
  ⟨(some 5), .mv (.t 11), none⟩]
def p71_5 : List AOper := [⟨(some 12), .mv (.t 5), none⟩,
  ⟨(some 13), .bin .eql .n (.t 12) (.c (.int .i32 65533)), none⟩,
  ⟨(some 14), .mv (.t 13), none⟩,
  ⟨(some 15), .mv (.t 0), (some (14, true))⟩,
  ⟨(some 16), .mv (.t 4), (some (14, true))⟩,
  ⟨(some 17), .slcs (.t 15) (some (.t 16)) none, (some (14, true))⟩,
  ⟨(some 18), .mv (.t 5), (some (14, true))⟩,
  ⟨(some 19), .cvis (.t 18), (some (14, true))⟩,
  ⟨(some 20), .call 97 [.t 17, .t 19], (some (14, true))⟩,
  ⟨(some 21), .not (.t 20), (some (14, true))⟩,
  ⟨(some 22), .pick (.t 14) (.t 21) (.c (.bool false)), none⟩]
def p71_6 : List AOper := [⟨(some 5), .mv (.c (.int .i32 (-1))), none⟩]
def p71_7 : List AOper := [⟨(some 23), .mv (.t 3), none⟩,
  ⟨(some 24), .mv (.t 5), none⟩,
  ⟨(some 25), .mv (.t 4), none⟩,
  ⟨(some 26), .build [.int .i32 0, .int .i64 0] [(0, 1, .t 24), (1, 1, .t 25)], none⟩,
  ⟨(some 27), .bslice 2 1 [.int .i32 0, .int .i64 0] [(0, 2, .t 26)], none⟩,
  ⟨(some 28), .app 2 (.t 23) (.t 27), none⟩,
  ⟨(some 3), .mv (.t 28), none⟩]
def p71_8 : List AOper := [⟨(some 29), .mv (.t 3), none⟩,
  ⟨(some 2), .mv (.t 29), none⟩]
def p71 : AFun := ⟨30, .seq (.region p71_0) (.seq (.region p71_1) (.seq (.seq (.region p71_2) (.block 0 (.loop (.seq (.region p71_3) (.seq (.cond (.t 9) (.skip) (.exit 0)) (.block 1 (.seq (.region p71_4) (.seq (.seq (.region p71_5) (.cond (.t 22) (.region p71_6) (.skip))) (.region p71_7))))))))) (.seq (.region p71_8) (.ret)))),
  [.mv (.t 2)]⟩

/- 72 (*waxwork/syntax.parser).expression -/
def p72_0 : List AOper := [⟨(some 2), .alloc [.int .i64 0, .nils, .int .i64 0, .int .i64 0, .bool false, .int .i64 0, .nils], none⟩]
def p72_1 : List AOper := [⟨(some 3), .mv (.c (.nils)), none⟩,
  ⟨(some 4), .mv (.c (.nils)), none⟩]
def p72_2 : List AOper := [⟨(some 5), .mv (.t 0), none⟩,
  ⟨(some 6), .nilchk (.t 5), none⟩,
  ⟨(some 7), .fad 0 (.t 6), none⟩,
  ⟨(some 8), .ld (.t 7), none⟩,
  ⟨(some 9), .lensl (.t 8), none⟩,
  ⟨(some 10), .bin .gtr .n (.t 9) (.c (.int .i64 0)), none⟩,
  ⟨(some 11), .mv (.t 10), none⟩,
  ⟨(some 12), .mv (.t 0), (some (11, true))⟩,
  ⟨(some 13), .call 98 [.t 12], (some (11, true))⟩,
  ⟨(some 14), .bin .neq .n (.t 13) (.c (.int .i32 41)), (some (11, true))⟩,
  ⟨(some 15), .pick (.t 11) (.t 14) (.c (.bool false)), none⟩]
def p72_3 : List AOper := [⟨(some 16), .mv (.t 0), none⟩,
  ⟨(some 17), .call 99 [.t 16, .c (.str [124])], none⟩]
def p72_4 : List AOper := [⟨(some 18), .mv (.t 3), none⟩,
  ⟨(some 19), .mv (.t 4), none⟩,
  ⟨(some 20), .call 100 [.t 19], none⟩,
  ⟨(some 21), .bslice 7 1 [.int .i64 0, .nils, .int .i64 0, .int .i64 0, .bool false, .int .i64 0, .nils] [(0, 7, .t 20)], none⟩,
  ⟨(some 22), .app 7 (.t 18) (.t 21), none⟩,
  ⟨(some 3), .mv (.t 22), none⟩,
  ⟨(some 4), .mv (.c (.nils)), none⟩]
def p72_5 : List AOper := [⟨(some 23), .mv (.t 4), none⟩,
  ⟨(some 24), .mv (.t 0), none⟩,
  ⟨(some 25), .call 101 [.t 24], none⟩,
  ⟨(some 26), .bslice 7 1 [.int .i64 0, .nils, .int .i64 0, .int .i64 0, .bool false, .int .i64 0, .nils] [(0, 7, .t 25)], none⟩,
  ⟨(some 27), .app 7 (.t 23) (.t 26), none⟩,
  ⟨(some 4), .mv (.t 27), none⟩]
def p72_6 : List AOper := [⟨(some 28), .mv (.t 3), none⟩,
  ⟨(some 29), .mv (.t 4), none⟩,
  ⟨(some 30), .call 100 [.t 29], none⟩,
  ⟨(some 31), .bslice 7 1 [.int .i64 0, .nils, .int .i64 0, .int .i64 0, .bool false, .int .i64 0, .nils] [(0, 7, .t 30)], none⟩,
  ⟨(some 32), .app 7 (.t 28) (.t 31), none⟩,
  ⟨(some 3), .mv (.t 32), none⟩]
def p72_7 : List AOper := [⟨(some 33), .mv (.t 3), none⟩,
  ⟨(some 34), .lensl (.t 33), none⟩,
  ⟨(some 35), .bin .eql .n (.t 34) (.c (.int .i64 1)), none⟩]
def p72_8 : List AOper := [⟨(some 36), .mv (.t 3), none⟩,
  ⟨(some 37), .iad 7 (.t 36) (.c (.int .i64 0)), none⟩,
  ⟨(some 38), .ldn 7 (.t 37), none⟩,
  ⟨none, .st 7 (.t 2) (.t 38), none⟩]
def p72_9 : List AOper := [⟨(some 39), .mv (.t 3), none⟩,
  ⟨(some 40), .call 102 [.c (.int .i64 7), .t 39], none⟩,
  ⟨(some 41), .build [.int .i64 0, .nils, .int .i64 0, .int .i64 0, .bool false, .int .i64 0, .nils] [(0, 1, .c (.int .i64 7)), (6, 1, .t 40)], none⟩,
  ⟨none, .st 7 (.t 2) (.t 41), none⟩]
def p72 : AFun := ⟨42, .seq (.region p72_0) (.seq (.region p72_1) (.seq (.block 0 (.loop (.seq (.seq (.region p72_2) (.cond (.t 15) (.skip) (.exit 0))) (.block 1 (.seq (.region p72_3) (.cond (.t 17) (.region p72_4) (.region p72_5))))))) (.seq (.seq (.region p72_6) (.seq (.region p72_7) (.cond (.t 35) (.seq (.region p72_8) (.ret)) (.skip)))) (.seq (.region p72_9) (.ret))))),
  [.ldn 7 (.t 2)]⟩

/- 73 waxwork/syntax.must -/
def p73_0 : List AOper := [⟨(some 4), .mv (.t 0), none⟩,
  ⟨(some 5), .not (.t 4), none⟩]
def p73_1 : List AOper := [⟨(some 6), .mv (.t 1), none⟩,
  ⟨(some 7), .build [.int .i64 0, .int .i64 0] [(0, 1, .c (.int .i64 2)), (1, 1, .t 6)], none⟩,
  ⟨(some 8), .mkif 128 (.t 7), none⟩,
  ⟨none, .pan (.t 8), none⟩]
def p73 : AFun := ⟨9, .seq (.region p73_0) (.cond (.t 5) (.region p73_1) (.skip)),
  []⟩

/- 74 (*waxwork/syntax.parser).at -/
def p74_0 : List AOper := [⟨(some 2), .mv (.c (.int .i64 0)), none⟩]
def p74_1 : List AOper := [⟨(some 3), .mv (.t 0), none⟩,
  ⟨(some 4), .nilchk (.t 3), none⟩,
  ⟨(some 5), .fad 0 (.t 4), none⟩,
  ⟨(some 6), .ld (.t 5), none⟩,
  ⟨(some 7), .lensl (.t 6), none⟩,
  ⟨(some 8), .bin .eql .n (.t 7) (.c (.int .i64 0)), none⟩]
def p74_2 : List AOper := [⟨(some 9), .mv (.t 0), none⟩,
  ⟨(some 10), .nilchk (.t 9), none⟩,
  ⟨(some 11), .fad 1 (.t 10), none⟩,
  ⟨(some 12), .ld (.t 11), none⟩,
  ⟨(some 2), .mv (.t 12), none⟩]
def p74_3 : List AOper := [⟨(some 13), .mv (.t 0), none⟩,
  ⟨(some 14), .nilchk (.t 13), none⟩,
  ⟨(some 15), .fad 0 (.t 14), none⟩,
  ⟨(some 16), .ld (.t 15), none⟩,
  ⟨(some 17), .iad 2 (.t 16) (.c (.int .i64 0)), none⟩,
  ⟨(some 18), .fad 1 (.t 17), none⟩,
  ⟨(some 19), .ld (.t 18), none⟩,
  ⟨(some 2), .mv (.t 19), none⟩]
def p74 : AFun := ⟨20, .seq (.region p74_0) (.seq (.seq (.region p74_1) (.cond (.t 8) (.seq (.region p74_2) (.ret)) (.skip))) (.seq (.region p74_3) (.ret))),
  [.mv (.t 2)]⟩

/- 75 waxwork/simple.of -/
def p75_0 : List AOper := [⟨(some 1), .box (.t 0), none⟩,
  ⟨(some 2), .alloc [.int .i64 0, .nils, .int .i64 0, .int .i64 0, .bool false, .int .i64 0, .nils], none⟩,
  ⟨(some 3), .mv (.c (.int .i64 0)), none⟩]
def p75_1 : List AOper := [⟨(some 4), .mv (.c (.nils)), none⟩]
def p75_2 : List AOper := [⟨(some 9), .fad 6 (.t 1), none⟩,
  ⟨(some 10), .ld (.t 9), none⟩,
  ⟨(some 11), .lensl (.t 10), none⟩,
  ⟨(some 12), .mv (.c (.int .i64 0)), none⟩]
def p75_3 : List AOper := [⟨(some 13), .bin .lss .n (.t 12) (.t 11), none⟩]
def p75_4 : List AOper := [⟨(some 14), .iad 7 (.t 10) (.t 12), none⟩,
  ⟨(some 15), .ldn 7 (.t 14), none⟩,
  ⟨(some 6), .alloc [.int .i64 0, .nils, .int .i64 0, .int .i64 0, .bool false, .int .i64 0, .nils], none⟩,
  ⟨none, .st 7 (.t 6) (.t 15), none⟩]
def p75_5 : List AOper := [⟨(some 17), .ldn 7 (.t 6), none⟩,
  ⟨(some 18), .call 75 [.t 17], none⟩,
  ⟨(some 16), .mv (.t 18), none⟩,
  ⟨(some 19), .ext (.t 16) 0, none⟩,
  ⟨(some 20), .ext (.t 16) 1, none⟩,
  ⟨(some 7), .alloc [.int .i64 0, .nils, .int .i64 0, .int .i64 0, .bool false, .int .i64 0, .nils], none⟩,
  ⟨none, .st 7 (.t 7) (.t 19), none⟩,
  ⟨(some 8), .mv (.t 20), none⟩]
def p75_6 : List AOper := [⟨(some 21), .mv (.t 8), none⟩,
  ⟨(some 22), .bin .neq .n (.t 21) (.c (.int .i64 0)), none⟩]
def p75_7 : List AOper := [⟨(some 23), .build [.int .i64 0, .nils, .int .i64 0, .int .i64 0, .bool false, .int .i64 0, .nils] [], none⟩,
  ⟨(some 24), .mv (.t 8), none⟩,
  ⟨none, .st 7 (.t 2) (.t 23), none⟩,
  ⟨(some 3), .mv (.t 24), none⟩]
def p75_8 : List AOper := [⟨(some 25), .mv (.t 4), none⟩,
  ⟨(some 26), .ldn 7 (.t 7), none⟩,
  ⟨(some 27), .bslice 7 1 [.int .i64 0, .nils, .int .i64 0, .int .i64 0, .bool false, .int .i64 0, .nils] [(0, 7, .t 26)], none⟩,
  ⟨(some 28), .app 7 (.t 25) (.t 27), none⟩,
  ⟨(some 4), .mv (.t 28), none⟩]
def p75_9 : List AOper := [⟨(some 29), .bin .add .n (.t 12) (.c (.int .i64 1)), none⟩,
  ⟨(some 12), .mv (.t 29), none⟩]
def p75_10 : List AOper := [⟨(some 30), .fad 0 (.t 1), none⟩,
  ⟨(some 31), .ld (.t 30), none⟩]
def p75_13 : List AOper := [⟨(some 40), .bin .eql .n (.t 31) (.c (.int .i64 6)), none⟩,
  ⟨(some 39), .mv (.t 40), none⟩]
def p75_14 : List AOper := [⟨(some 41), .mv (.t 4), none⟩,
  ⟨(some 42), .call 103 [.t 41], none⟩,
  ⟨none, .st 7 (.t 2) (.t 42), none⟩]
def p75_15 : List AOper := [⟨(some 44), .bin .eql .n (.t 31) (.c (.int .i64 7)), none⟩,
  ⟨(some 43), .mv (.t 44), none⟩]
def p75_16 : List AOper := [⟨(some 45), .mv (.t 4), none⟩,
  ⟨(some 46), .call 104 [.t 45], none⟩,
  ⟨none, .st 7 (.t 2) (.t 46), none⟩]
def p75_17 : List AOper := [⟨(some 48), .bin .eql .n (.t 31) (.c (.int .i64 8)), none⟩,
  ⟨(some 47), .mv (.t 48), none⟩]
def p75_18 : List DOp := [⟨0, ⟨(some 49), .ldn 7 (.t 1), none⟩, [], .read⟩,
  ⟨1, ⟨(some 50), .mv (.t 4), none⟩, [], .pure⟩,
  ⟨2, ⟨(some 51), .iad 7 (.t 50) (.c (.int .i64 0)), none⟩, [1], .pure⟩,
  ⟨3, ⟨(some 52), .ldn 7 (.t 51), none⟩, [1, 2], .read⟩,
  ⟨4, ⟨(some 53), .call 105 [.t 49, .t 52], none⟩, [0, 1, 2, 3], .eff⟩,
  ⟨5, ⟨none, .st 7 (.t 2) (.t 53), none⟩, [0, 1, 2, 3, 4], .eff⟩]
def p75_11 : List AOper := [⟨(some 32), .ldn 7 (.t 1), none⟩,
  ⟨none, .st 7 (.t 2) (.t 32), none⟩]
def p75_12 : List AOper := [⟨(some 33), .fad 1 (.t 1), none⟩,
  ⟨(some 34), .ld (.t 33), none⟩,
  ⟨(some 35), .call 106 [.t 34], none⟩,
  ⟨(some 36), .mv (.t 4), none⟩,
  ⟨(some 37), .fad 1 (.t 2), none⟩,
  ⟨none, .st 1 (.t 37) (.t 35), none⟩,
  ⟨(some 38), .fad 6 (.t 2), none⟩,
  ⟨none, .st 1 (.t 38) (.t 36), none⟩]
def p75_19 : List AOper := [⟨(some 54), .ldn 7 (.t 2), none⟩,
  ⟨(some 55), .call 107 [.t 54], none⟩,
  ⟨(some 56), .bin .gtr .n (.t 55) (.c (.int .i64 400)), none⟩]
def p75_20 : List AOper := [⟨(some 57), .build [.int .i64 0, .nils, .int .i64 0, .int .i64 0, .bool false, .int .i64 0, .nils] [], none⟩,
  ⟨none, .st 7 (.t 2) (.t 57), none⟩,
  ⟨(some 3), .mv (.c (.int .i64 3)), none⟩]
def p75_21 : List AOper := [⟨(some 58), .ldn 7 (.t 2), none⟩,
  ⟨none, .st 7 (.t 2) (.t 58), none⟩,
  ⟨(some 3), .mv (.c (.int .i64 0)), none⟩]
def p75 : AFun := ⟨59, .seq (.region p75_0) (.seq (.region p75_1) (.seq (.seq (.region p75_2) (.block 0 (.loop (.seq (.region p75_3) (.seq (.cond (.t 13) (.skip) (.exit 0)) (.seq (.block 1 (.seq (.region p75_4) (.seq (.region p75_5) (.seq (.seq (.region p75_6) (.cond (.t 22) (.seq (.region p75_7) (.ret)) (.skip))) (.region p75_8))))) (.region p75_9))))))) (.seq (.seq (.region p75_10) (.block 2 (.seq (.region p75_13) (.cond (.t 39) (.region p75_14) (.seq (.region p75_15) (.cond (.t 43) (.region p75_16) (.seq (.region p75_17) (.cond (.t 47) (.draw 0 p75_18) (.seq (.region p75_11) (.region p75_12)))))))))) (.seq (.seq (.region p75_19) (.cond (.t 56) (.seq (.region p75_20) (.ret)) (.skip))) (.seq (.region p75_21) (.ret)))))),
  [.ldn 7 (.t 2), .mv (.t 3)]⟩

/- 77 waxwork/class.Of -/
def p77_0 : List AOper := [⟨(some 2), .mv (.c (.nils)), none⟩]
def p77_1 : List AOper := [⟨(some 8), .mv (.t 0), none⟩,
  ⟨(some 9), .call 109 [.t 8], none⟩,
  ⟨(some 10), .call 108 [.t 9, .f 110], none⟩,
  ⟨(some 3), .mv (.t 10), none⟩]
def p77_2 : List AOper := [⟨(some 11), .mv (.t 3), none⟩,
  ⟨(some 12), .call 112 [.t 11, .f 113], none⟩]
def p77_3 : List AOper := [⟨(some 4), .mv (.c (.nils)), none⟩]
def p77_4 : List AOper := [⟨(some 13), .mv (.t 3), none⟩,
  ⟨(some 14), .lensl (.t 13), none⟩,
  ⟨(some 15), .mv (.c (.int .i64 0)), none⟩]
def p77_5 : List AOper := [⟨(some 16), .bin .lss .n (.t 15) (.t 14), none⟩]
def p77_6 : List AOper := [⟨(some 17), .iad 2 (.t 13) (.t 15), none⟩,
  ⟨(some 18), .ldn 2 (.t 17), none⟩,
  ⟨(some 6), .alloc [.int .i32 0, .int .i32 0], none⟩,
  ⟨none, .st 2 (.t 6) (.t 18), none⟩]
def p77_7 : List AOper := [⟨(some 19), .mv (.t 4), none⟩,
  ⟨(some 20), .lensl (.t 19), none⟩,
  ⟨(some 7), .mv (.t 20), none⟩]
def p77_8 : List DOp := [⟨0, ⟨(some 21), .mv (.t 7), none⟩, [], .pure⟩,
  ⟨1, ⟨(some 22), .bin .gtr .n (.t 21) (.c (.int .i64 0)), none⟩, [0], .pure⟩,
  ⟨2, ⟨(some 23), .mv (.t 22), none⟩, [0, 1], .pure⟩,
  ⟨3, ⟨(some 24), .fad 0 (.t 6), (some (23, true))⟩, [0, 1, 2], .pure⟩,
  ⟨4, ⟨(some 25), .ld (.t 24), (some (23, true))⟩, [0, 1, 2, 3], .read⟩,
  ⟨5, ⟨(some 26), .mv (.t 4), (some (23, true))⟩, [0, 1, 2], .pure⟩,
  ⟨6, ⟨(some 27), .mv (.t 7), (some (23, true))⟩, [0, 1, 2], .pure⟩,
  ⟨7, ⟨(some 28), .bin .sub .n (.t 27) (.c (.int .i64 1)), (some (23, true))⟩, [0, 1, 2, 6], .pure⟩,
  ⟨8, ⟨(some 29), .iad 2 (.t 26) (.t 28), (some (23, true))⟩, [0, 1, 2, 5, 6, 7], .pure⟩,
  ⟨9, ⟨(some 30), .fad 1 (.t 29), (some (23, true))⟩, [0, 1, 2, 5, 6, 7, 8], .pure⟩,
  ⟨10, ⟨(some 31), .ld (.t 30), (some (23, true))⟩, [0, 1, 2, 5, 6, 7, 8, 9], .read⟩,
  ⟨11, ⟨(some 32), .bin .add .n (.t 31) (.c (.int .i32 1)), (some (23, true))⟩, [0, 1, 2, 5, 6, 7, 8, 9, 10], .pure⟩,
  ⟨12, ⟨(some 33), .bin .leq .n (.t 25) (.t 32), (some (23, true))⟩, [0, 1, 2, 3, 4, 5, 6, 7, 8, 9, 10, 11], .pure⟩,
  ⟨13, ⟨(some 34), .pick (.t 23) (.t 33) (.c (.bool false)), none⟩, [0, 1, 2, 3, 4, 5, 6, 7, 8, 9, 10, 11, 12], .pure⟩]
def p77_9 : List DOp := [⟨0, ⟨(some 35), .mv (.t 4), none⟩, [], .pure⟩,
  ⟨1, ⟨(some 36), .mv (.t 7), none⟩, [], .pure⟩,
  ⟨2, ⟨(some 37), .bin .sub .n (.t 36) (.c (.int .i64 1)), none⟩, [1], .pure⟩,
  ⟨3, ⟨(some 38), .mv (.t 4), none⟩, [], .pure⟩,
  ⟨4, ⟨(some 39), .mv (.t 7), none⟩, [], .pure⟩,
  ⟨5, ⟨(some 40), .bin .sub .n (.t 39) (.c (.int .i64 1)), none⟩, [4], .pure⟩,
  ⟨6, ⟨(some 41), .iad 2 (.t 38) (.t 40), none⟩, [3, 4, 5], .pure⟩,
  ⟨7, ⟨(some 42), .fad 1 (.t 41), none⟩, [3, 4, 5, 6], .pure⟩,
  ⟨8, ⟨(some 43), .ld (.t 42), none⟩, [3, 4, 5, 6, 7], .read⟩,
  ⟨9, ⟨(some 44), .fad 1 (.t 6), none⟩, [], .pure⟩,
  ⟨10, ⟨(some 45), .ld (.t 44), none⟩, [9], .read⟩,
  ⟨11, ⟨(some 46), .mx [.t 43, .t 45], none⟩, [3, 4, 5, 6, 7, 8, 9, 10], .pure⟩,
  ⟨12, ⟨(some 47), .iad 2 (.t 35) (.t 37), none⟩, [0, 1, 2, 3, 4, 5, 6, 7, 8, 9, 10, 11], .pure⟩,
  ⟨13, ⟨(some 48), .fad 1 (.t 47), none⟩, [0, 1, 2, 3, 4, 5, 6, 7, 8, 9, 10, 11, 12], .pure⟩,
  ⟨14, ⟨none, .st 1 (.t 48) (.t 46), none⟩, [0, 1, 2, 3, 4, 5, 6, 7, 8, 9, 10, 11, 12, 13], .eff⟩]
def p77_10 : List AOper := [⟨(some 49), .mv (.t 4), none⟩,
  ⟨(some 50), .ldn 2 (.t 6), none⟩,
  ⟨(some 51), .bslice 2 1 [.int .i32 0, .int .i32 0] [(0, 2, .t 50)], none⟩,
  ⟨(some 52), .app 2 (.t 49) (.t 51), none⟩,
  ⟨(some 4), .mv (.t 52), none⟩]
def p77_11 : List AOper := [⟨(some 53), .bin .add .n (.t 15) (.c (.int .i64 1)), none⟩,
  ⟨(some 15), .mv (.t 53), none⟩]
def p77_12 : List AOper := [⟨(some 54), .mv (.t 4), none⟩,
  ⟨(some 2), .mv (.t 54), none⟩]
def p77 : AFun := ⟨55, .seq (.region p77_0) (.seq (.region p77_1) (.seq (.region p77_2) (.seq (.region p77_3) (.seq (.seq (.region p77_4) (.block 0 (.loop (.seq (.region p77_5) (.seq (.cond (.t 16) (.skip) (.exit 0)) (.seq (.block 1 (.seq (.region p77_6) (.seq (.region p77_7) (.seq (.draw 0 p77_8) (.cond (.t 34) (.draw 0 p77_9) (.region p77_10)))))) (.region p77_11))))))) (.seq (.region p77_12) (.ret)))))),
  [.mv (.t 2)]⟩

/- 78 slices.ContainsFunc[[]waxwork/syntax.Node,waxwork/syntax.Node] -/
def p78_0 : List AOper := [⟨(some 4), .mv (.c (.bool false)), none⟩]
def p78_1 : List AOper := [⟨(some 5), .mv (.t 0), none⟩,
  ⟨(some 6), .mv (.t 1), none⟩,
  ⟨(some 7), .call 115 [.t 5, .t 6], none⟩,
  ⟨(some 8), .bin .geq .n (.t 7) (.c (.int .i64 0)), none⟩,
  ⟨(some 4), .mv (.t 8), none⟩]
def p78 : AFun := ⟨9, .seq (.region p78_0) (.seq (.region p78_1) (.ret)),
  [.mv (.t 4)]⟩

/- 79 waxwork/syntax.Right$1 -/
def p79_0 : List AOper := [⟨(some 1), .box (.t 0), none⟩,
  ⟨(some 2), .mv (.c (.bool false)), none⟩]
def p79_1 : List AOper := [⟨(some 3), .ldn 7 (.t 1), none⟩,
  ⟨(some 4), .call 51 [.t 3], none⟩,
  ⟨(some 5), .not (.t 4), none⟩,
  ⟨(some 2), .mv (.t 5), none⟩]
def p79 : AFun := ⟨6, .seq (.region p79_0) (.seq (.region p79_1) (.ret)),
  [.mv (.t 2)]⟩

/- 80 waxwork/class.Right -/
def p80_0 : List AOper := [⟨(some 2), .mv (.c (.bool false)), none⟩]
def p80_1 : List AOper := [⟨(some 5), .mv (.t 0), none⟩,
  ⟨(some 6), .lensl (.t 5), none⟩,
  ⟨(some 7), .mv (.c (.int .i64 0)), none⟩]
def p80_2 : List AOper := [⟨(some 8), .bin .lss .n (.t 7) (.t 6), none⟩]
def p80_3 : List AOper := [⟨(some 9), .mv (.t 7), none⟩,
  ⟨(some 10), .iad 2 (.t 5) (.t 7), none⟩,
  ⟨(some 11), .ldn 2 (.t 10), none⟩,
  ⟨(some 4), .alloc [.int .i32 0, .int .i32 0], none⟩,
  ⟨(some 3), .mv (.t 9), none⟩,
  ⟨none, .st 2 (.t 4) (.t 11), none⟩]
def p80_4 : List DOp := [⟨0, ⟨(some 12), .ldn 2 (.t 4), none⟩, [], .read⟩,
  ⟨1, ⟨(some 13), .call 111 [.t 12], none⟩, [0], .eff⟩,
  ⟨2, ⟨(some 14), .not (.t 13), none⟩, [0, 1], .pure⟩,
  ⟨3, ⟨(some 15), .mv (.t 14), none⟩, [0, 1, 2], .pure⟩,
  ⟨4, ⟨(some 16), .mv (.t 3), (some (15, false))⟩, [0, 1, 2, 3], .pure⟩,
  ⟨5, ⟨(some 17), .bin .gtr .n (.t 16) (.c (.int .i64 0)), (some (15, false))⟩, [0, 1, 2, 3, 4], .pure⟩,
  ⟨6, ⟨(some 18), .mv (.t 17), (some (15, false))⟩, [0, 1, 2, 3, 4, 5], .pure⟩,
  ⟨7, ⟨(some 19), .fad 0 (.t 4), (some (18, true))⟩, [0, 1, 2, 3, 4, 5, 6], .pure⟩,
  ⟨8, ⟨(some 20), .ld (.t 19), (some (18, true))⟩, [0, 1, 2, 3, 4, 5, 6, 7], .read⟩,
  ⟨9, ⟨(some 21), .mv (.t 0), (some (18, true))⟩, [0, 1, 2, 3, 4, 5, 6], .pure⟩,
  ⟨10, ⟨(some 22), .mv (.t 3), (some (18, true))⟩, [0, 1, 2, 3, 4, 5, 6], .pure⟩,
  ⟨11, ⟨(some 23), .bin .sub .n (.t 22) (.c (.int .i64 1)), (some (18, true))⟩, [0, 1, 2, 3, 4, 5, 6, 10], .pure⟩,
  ⟨12, ⟨(some 24), .iad 2 (.t 21) (.t 23), (some (18, true))⟩, [0, 1, 2, 3, 4, 5, 6, 9, 10, 11], .pure⟩,
  ⟨13, ⟨(some 25), .fad 1 (.t 24), (some (18, true))⟩, [0, 1, 2, 3, 4, 5, 6, 9, 10, 11, 12], .pure⟩,
  ⟨14, ⟨(some 26), .ld (.t 25), (some (18, true))⟩, [0, 1, 2, 3, 4, 5, 6, 9, 10, 11, 12, 13], .read⟩,
  ⟨15, ⟨(some 27), .bin .add .n (.t 26) (.c (.int .i32 1)), (some (18, true))⟩, [0, 1, 2, 3, 4, 5, 6, 9, 10, 11, 12, 13, 14], .pure⟩,
  ⟨16, ⟨(some 28), .bin .leq .n (.t 20) (.t 27), (some (18, true))⟩, [0, 1, 2, 3, 4, 5, 6, 7, 8, 9, 10, 11, 12, 13, 14, 15], .pure⟩,
  ⟨17, ⟨(some 29), .pick (.t 18) (.t 28) (.c (.bool false)), (some (15, false))⟩, [0, 1, 2, 3, 4, 5, 6, 7, 8, 9, 10, 11, 12, 13, 14, 15, 16], .pure⟩,
  ⟨18, ⟨(some 30), .pick (.t 15) (.c (.bool true)) (.t 29), none⟩, [0, 1, 2, 3, 4, 5, 6, 7, 8, 9, 10, 11, 12, 13, 14, 15, 16, 17], .pure⟩]
def p80_5 : List AOper := [⟨(some 2), .mv (.c (.bool false)), none⟩]
def p80_6 : List AOper := [⟨(some 31), .bin .add .n (.t 7) (.c (.int .i64 1)), none⟩,
  ⟨(some 7), .mv (.t 31), none⟩]
def p80_7 : List AOper := [⟨(some 32), .mv (.t 0), none⟩,
  ⟨(some 33), .lensl (.t 32), none⟩,
  ⟨(some 34), .bin .leq .n (.t 33) (.c (.int .i64 64)), none⟩,
  ⟨(some 2), .mv (.t 34), none⟩]
def p80 : AFun := ⟨35, .seq (.region p80_0) (.seq (.seq (.region p80_1) (.block 0 (.loop (.seq (.region p80_2) (.seq (.cond (.t 8) (.skip) (.exit 0)) (.seq (.block 1 (.seq (.region p80_3) (.seq (.draw 0 p80_4) (.cond (.t 30) (.seq (.region p80_5) (.ret)) (.skip))))) (.region p80_6))))))) (.seq (.region p80_7) (.ret))),
  [.mv (.t 2)]⟩

/- 81 waxwork/simple.forms$1 -/
def p81_0 : List AOper := [⟨(some 1), .box (.t 0), none⟩,
  ⟨(some 2), .mv (.c (.bool false)), none⟩]
def p81_1 : List AOper := [⟨(some 3), .ldn 7 (.t 1), none⟩,
  ⟨(some 4), .call 52 [.t 3], none⟩,
  ⟨(some 5), .not (.t 4), none⟩,
  ⟨(some 2), .mv (.t 5), none⟩]
def p81 : AFun := ⟨6, .seq (.region p81_0) (.seq (.region p81_1) (.ret)),
  [.mv (.t 2)]⟩

/- 82 waxwork/simple.form -/
def p82_0 : List AOper := [⟨(some 1), .box (.t 0), none⟩,
  ⟨(some 2), .mv (.c (.bool false)), none⟩]
def p82_1 : List AOper := [⟨(some 3), .fad 2 (.t 1), none⟩,
  ⟨(some 4), .ld (.t 3), none⟩,
  ⟨(some 5), .bin .eql .n (.t 4) (.c (.int .i64 0)), none⟩,
  ⟨(some 6), .mv (.t 5), none⟩,
  ⟨(some 7), .fad 3 (.t 1), (some (6, true))⟩,
  ⟨(some 8), .ld (.t 7), (some (6, true))⟩,
  ⟨(some 9), .bin .eql .n (.t 8) (.c (.int .i64 1)), (some (6, true))⟩,
  ⟨(some 10), .pick (.t 6) (.t 9) (.c (.bool false)), none⟩,
  ⟨(some 11), .mv (.t 10), none⟩,
  ⟨(some 12), .fad 3 (.t 1), (some (11, false))⟩,
  ⟨(some 13), .ld (.t 12), (some (11, false))⟩,
  ⟨(some 14), .bin .eql .n (.t 13) (.c (.int .i64 (-1))), (some (11, false))⟩,
  ⟨(some 15), .mv (.t 14), (some (11, false))⟩,
  ⟨(some 16), .fad 2 (.t 1), (some (15, true))⟩,
  ⟨(some 17), .ld (.t 16), (some (15, true))⟩,
  ⟨(some 18), .bin .eql .n (.t 17) (.c (.int .i64 0)), (some (15, true))⟩,
  ⟨(some 19), .mv (.t 18), (some (15, true))⟩,
  ⟨(some 20), .fad 2 (.t 1), (some (19, false))⟩,
  ⟨(some 21), .ld (.t 20), (some (19, false))⟩,
  ⟨(some 22), .bin .eql .n (.t 21) (.c (.int .i64 1)), (some (19, false))⟩,
  ⟨(some 23), .pick (.t 19) (.c (.bool true)) (.t 22), (some (15, true))⟩,
  ⟨(some 24), .pick (.t 15) (.t 23) (.c (.bool false)), (some (11, false))⟩,
  ⟨(some 25), .pick (.t 11) (.c (.bool true)) (.t 24), none⟩,
  ⟨(some 2), .mv (.t 25), none⟩]
def p82 : AFun := ⟨26, .seq (.region p82_0) (.seq (.region p82_1) (.ret)),
  [.mv (.t 2)]⟩

/- 83 waxwork/runes.find -/
def p83_0 : List AOper := [⟨(some 4), .alloc [.int .i32 0, .int .i64 0, .int .i64 0], none⟩,
  ⟨(some 5), .mv (.c (.bool false)), none⟩]
def p83_1 : List AOper := [⟨(some 9), .mv (.t 0), none⟩,
  ⟨(some 10), .rng (.t 9), none⟩]
def p83_2 : List AOper := [⟨(some 11), .nxt (.t 10), none⟩,
  ⟨(some 12), .ext (.t 11) 0, none⟩]
def p83_3 : List AOper := [⟨(some 13), .ext (.t 11) 1, none⟩,
  ⟨(some 14), .ext (.t 11) 2, none⟩,
  ⟨(some 6), .mv (.t 13), none⟩,
  ⟨(some 7), .mv (.t 14), none⟩]
def p83_4 : List AOper := [⟨(some 15), .mv (.t 7), none⟩,
  ⟨(some 16), .mv (.t 6), none⟩,
  ⟨(some 17), .mv (.t 0), none⟩,
  ⟨(some 18), .mv (.t 6), none⟩,
  ⟨(some 19), .slcs (.t 17) (some (.t 18)) none, none⟩,
  ⟨(some 20), .mv (.t 7), none⟩,
  ⟨(some 21), .call 116 [.t 19, .t 20], none⟩,
  ⟨(some 22), .build [.int .i32 0, .int .i64 0, .int .i64 0] [(0, 1, .t 15), (1, 1, .t 16), (2, 1, .t 21)], none⟩,
  ⟨(some 8), .alloc [.int .i32 0, .int .i64 0, .int .i64 0], none⟩,
  ⟨none, .st 3 (.t 8) (.t 22), none⟩]
def p83_5 : List AOper := [⟨(some 23), .mv (.t 1), none⟩,
  ⟨(some 24), .ldn 3 (.t 8), none⟩,
  ⟨(some 25), .callv (.t 23) [.t 24], none⟩]
def p83_6 : List AOper := [⟨(some 26), .ldn 3 (.t 8), none⟩,
  ⟨none, .st 3 (.t 4) (.t 26), none⟩,
  ⟨(some 5), .mv (.c (.bool true)), none⟩]
def p83_7 : List AOper := [⟨(some 27), .build [.int .i32 0, .int .i64 0, .int .i64 0] [], none⟩,
  ⟨none, .st 3 (.t 4) (.t 27), none⟩,
  ⟨(some 5), .mv (.c (.bool false)), none⟩]
def p83 : AFun := ⟨28, .seq (.region p83_0) (.seq (.seq (.region p83_1) (.block 0 (.loop (.seq (.region p83_2) (.seq (.cond (.t 12) (.skip) (.exit 0)) (.block 1 (.seq (.region p83_3) (.seq (.region p83_4) (.seq (.region p83_5) (.cond (.t 25) (.seq (.region p83_6) (.ret)) (.skip))))))))))) (.seq (.region p83_7) (.ret))),
  [.ldn 3 (.t 4), .mv (.t 5)]⟩

/- 84 waxwork/runes.Ahead$1 -/
def p84_0 : List AOper := [⟨(some 2), .box (.t 0), none⟩,
  ⟨(some 3), .mv (.c (.bool false)), none⟩]
def p84_1 : List AOper := [⟨(some 4), .fad 1 (.t 2), none⟩,
  ⟨(some 5), .ld (.t 4), none⟩,
  ⟨(some 6), .fad 2 (.t 2), none⟩,
  ⟨(some 7), .ld (.t 6), none⟩,
  ⟨(some 8), .bin .add .n (.t 5) (.t 7), none⟩,
  ⟨(some 9), .ld (.t 1), none⟩,
  ⟨(some 10), .bin .eql .n (.t 8) (.t 9), none⟩,
  ⟨(some 3), .mv (.t 10), none⟩]
def p84 : AFun := ⟨11, .seq (.region p84_0) (.seq (.region p84_1) (.ret)),
  [.mv (.t 3)]⟩

/- 85 math/bits.Mul32 -/
def p85_0 : List AOper := [⟨(some 4), .mv (.c (.int .u32 0)), none⟩,
  ⟨(some 5), .mv (.c (.int .u32 0)), none⟩]
def p85_1 : List AOper := [⟨(some 7), .mv (.t 0), none⟩,
  ⟨(some 8), .cvi .u64 (.t 7), none⟩,
  ⟨(some 9), .mv (.t 1), none⟩,
  ⟨(some 10), .cvi .u64 (.t 9), none⟩,
  ⟨(some 11), .bin .mul .n (.t 8) (.t 10), none⟩,
  ⟨(some 6), .mv (.t 11), none⟩]
def p85_2 : List AOper := [⟨(some 12), .mv (.t 6), none⟩,
  ⟨(some 13), .bin .shr .n (.t 12) (.c (.int .u64 32)), none⟩,
  ⟨(some 14), .cvi .u32 (.t 13), none⟩,
  ⟨(some 15), .mv (.t 6), none⟩,
  ⟨(some 16), .cvi .u32 (.t 15), none⟩,
  ⟨(some 4), .mv (.t 14), none⟩,
  ⟨(some 5), .mv (.t 16), none⟩]
def p85 : AFun := ⟨17, .seq (.region p85_0) (.seq (.region p85_1) (.seq (.region p85_2) (.ret))),
  [.mv (.t 4), .mv (.t 5)]⟩

/- 86 math/bits.Mul64 -/
def p86_0 : List AOper := [⟨(some 4), .mv (.c (.int .u64 0)), none⟩,
  ⟨(some 5), .mv (.c (.int .u64 0)), none⟩]
def p86_1 : List AOper := [⟨(some 14), .mv (.t 0), none⟩,
  ⟨(some 15), .bin .and .n (.t 14) (.c (.int .u64 4294967295)), none⟩,
  ⟨(some 6), .mv (.t 15), none⟩]
def p86_2 : List AOper := [⟨(some 16), .mv (.t 0), none⟩,
  ⟨(some 17), .bin .shr .n (.t 16) (.c (.int .u64 32)), none⟩,
  ⟨(some 7), .mv (.t 17), none⟩]
def p86_3 : List AOper := [⟨(some 18), .mv (.t 1), none⟩,
  ⟨(some 19), .bin .and .n (.t 18) (.c (.int .u64 4294967295)), none⟩,
  ⟨(some 8), .mv (.t 19), none⟩]
def p86_4 : List AOper := [⟨(some 20), .mv (.t 1), none⟩,
  ⟨(some 21), .bin .shr .n (.t 20) (.c (.int .u64 32)), none⟩,
  ⟨(some 9), .mv (.t 21), none⟩]
def p86_5 : List AOper := [⟨(some 22), .mv (.t 6), none⟩,
  ⟨(some 23), .mv (.t 8), none⟩,
  ⟨(some 24), .bin .mul .n (.t 22) (.t 23), none⟩,
  ⟨(some 10), .mv (.t 24), none⟩]
def p86_6 : List AOper := [⟨(some 25), .mv (.t 7), none⟩,
  ⟨(some 26), .mv (.t 8), none⟩,
  ⟨(some 27), .bin .mul .n (.t 25) (.t 26), none⟩,
  ⟨(some 28), .mv (.t 10), none⟩,
  ⟨(some 29), .bin .shr .n (.t 28) (.c (.int .u64 32)), none⟩,
  ⟨(some 30), .bin .add .n (.t 27) (.t 29), none⟩,
  ⟨(some 11), .mv (.t 30), none⟩]
def p86_7 : List AOper := [⟨(some 31), .mv (.t 11), none⟩,
  ⟨(some 32), .bin .and .n (.t 31) (.c (.int .u64 4294967295)), none⟩,
  ⟨(some 12), .mv (.t 32), none⟩]
def p86_8 : List AOper := [⟨(some 33), .mv (.t 11), none⟩,
  ⟨(some 34), .bin .shr .n (.t 33) (.c (.int .u64 32)), none⟩,
  ⟨(some 13), .mv (.t 34), none⟩]
def p86_9 : List AOper := [⟨(some 35), .mv (.t 12), none⟩,
  ⟨(some 36), .mv (.t 6), none⟩,
  ⟨(some 37), .mv (.t 9), none⟩,
  ⟨(some 38), .bin .mul .n (.t 36) (.t 37), none⟩,
  ⟨(some 39), .bin .add .n (.t 35) (.t 38), none⟩,
  ⟨(some 12), .mv (.t 39), none⟩]
def p86_10 : List AOper := [⟨(some 40), .mv (.t 7), none⟩,
  ⟨(some 41), .mv (.t 9), none⟩,
  ⟨(some 42), .bin .mul .n (.t 40) (.t 41), none⟩,
  ⟨(some 43), .mv (.t 13), none⟩,
  ⟨(some 44), .bin .add .n (.t 42) (.t 43), none⟩,
  ⟨(some 45), .mv (.t 12), none⟩,
  ⟨(some 46), .bin .shr .n (.t 45) (.c (.int .u64 32)), none⟩,
  ⟨(some 47), .bin .add .n (.t 44) (.t 46), none⟩,
  ⟨(some 4), .mv (.t 47), none⟩]
def p86_11 : List AOper := [⟨(some 48), .mv (.t 0), none⟩,
  ⟨(some 49), .mv (.t 1), none⟩,
  ⟨(some 50), .bin .mul .n (.t 48) (.t 49), none⟩,
  ⟨(some 5), .mv (.t 50), none⟩]
def p86 : AFun := ⟨51, .seq (.region p86_0) (.seq (.region p86_1) (.seq (.region p86_2) (.seq (.region p86_3) (.seq (.region p86_4) (.seq (.region p86_5) (.seq (.region p86_6) (.seq (.region p86_7) (.seq (.region p86_8) (.seq (.region p86_9) (.seq (.region p86_10) (.seq (.region p86_11) (.ret)))))))))))),
  [.mv (.t 4), .mv (.t 5)]⟩

/- 87 slices.Backward[[]waxwork/syntax.Node,waxwork/syntax.Node]$1 -/
def p87_0 : List AOper := [⟨(some 4), .ld (.t 1), none⟩,
  ⟨(some 5), .lensl (.t 4), none⟩,
  ⟨(some 6), .bin .sub .n (.t 5) (.c (.int .i64 1)), none⟩,
  ⟨(some 3), .mv (.t 6), none⟩]
def p87_1 : List AOper := [⟨(some 7), .mv (.t 3), none⟩,
  ⟨(some 8), .bin .geq .n (.t 7) (.c (.int .i64 0)), none⟩]
def p87_3 : List AOper := [⟨(some 11), .mv (.t 0), none⟩,
  ⟨(some 12), .mv (.t 3), none⟩,
  ⟨(some 13), .ld (.t 1), none⟩,
  ⟨(some 14), .mv (.t 3), none⟩,
  ⟨(some 15), .iad 7 (.t 13) (.t 14), none⟩,
  ⟨(some 16), .ldn 7 (.t 15), none⟩,
  ⟨(some 17), .callv (.t 11) [.t 12, .t 16], none⟩,
  ⟨(some 18), .not (.t 17), none⟩]
def p87_2 : List AOper := [⟨(some 9), .mv (.t 3), none⟩,
  ⟨(some 10), .bin .sub .n (.t 9) (.c (.int .i64 1)), none⟩,
  ⟨(some 3), .mv (.t 10), none⟩]
def p87 : AFun := ⟨19, .seq (.region p87_0) (.block 0 (.loop (.seq (.seq (.region p87_1) (.cond (.t 8) (.skip) (.exit 0))) (.seq (.block 1 (.seq (.region p87_3) (.cond (.t 18) (.ret) (.skip)))) (.region p87_2))))),
  []⟩

/- 88 waxwork/denote.both -/
def p88_0 : List AOper := [⟨(some 4), .box (.t 1), none⟩,
  ⟨(some 5), .box (.t 2), none⟩,
  ⟨(some 6), .mv (.c (.nilf)), none⟩]
def p88_1 : List AOper := [⟨(some 7), .mv (.t 0), none⟩]
def p88_2 : List AOper := [⟨(some 8), .ld (.t 5), none⟩,
  ⟨(some 9), .ld (.t 4), none⟩,
  ⟨none, .st 1 (.t 4) (.t 8), none⟩,
  ⟨none, .st 1 (.t 5) (.t 9), none⟩]
def p88_3 : List AOper := [⟨(some 10), .mkfn 117 [.t 4, .t 5], none⟩,
  ⟨(some 6), .mv (.t 10), none⟩]
def p88 : AFun := ⟨11, .seq (.region p88_0) (.seq (.seq (.region p88_1) (.cond (.t 7) (.region p88_2) (.skip))) (.seq (.region p88_3) (.ret))),
  [.mv (.t 6)]⟩

/- 89 (waxwork/denote.asking).repeat$1 -/
def p89_0 : List AOper := [⟨(some 5), .ld (.t 2), none⟩,
  ⟨(some 6), .mv (.t 0), none⟩,
  ⟨(some 7), .mv (.t 1), none⟩,
  ⟨(some 8), .callv (.t 5) [.t 6, .t 7], none⟩]
def p89 : AFun := ⟨9, .region p89_0,
  []⟩

/- 90 (waxwork/denote.asking).leaf$1 -/
def p90_0 : List AOper := [⟨(some 10), .fad 0 (.t 2), none⟩,
  ⟨(some 11), .ld (.t 10), none⟩,
  ⟨(some 12), .mv (.t 0), none⟩,
  ⟨(some 13), .call 66 [.t 11, .t 12], none⟩,
  ⟨(some 9), .mv (.t 13), none⟩,
  ⟨(some 14), .ext (.t 9) 0, none⟩,
  ⟨(some 15), .ext (.t 9) 1, none⟩,
  ⟨(some 7), .alloc [.int .i32 0, .int .i64 0, .int .i64 0], none⟩,
  ⟨none, .st 3 (.t 7) (.t 14), none⟩,
  ⟨(some 8), .mv (.t 15), none⟩]
def p90_1 : List AOper := [⟨(some 16), .mv (.t 8), none⟩,
  ⟨(some 17), .mv (.t 16), none⟩,
  ⟨(some 18), .fad 1 (.t 3), (some (17, true))⟩,
  ⟨(some 19), .ld (.t 18), (some (17, true))⟩,
  ⟨(some 20), .fad 0 (.t 7), (some (17, true))⟩,
  ⟨(some 21), .ld (.t 20), (some (17, true))⟩,
  ⟨(some 22), .call 91 [.t 19, .t 21], (some (17, true))⟩,
  ⟨(some 23), .pick (.t 17) (.t 22) (.c (.bool false)), none⟩]
def p90_2 : List AOper := [⟨(some 24), .ld (.t 4), none⟩,
  ⟨(some 25), .mv (.t 0), none⟩,
  ⟨(some 26), .fad 2 (.t 7), none⟩,
  ⟨(some 27), .ld (.t 26), none⟩,
  ⟨(some 28), .bin .add .n (.t 25) (.t 27), none⟩,
  ⟨(some 29), .mv (.t 1), none⟩,
  ⟨(some 30), .callv (.t 24) [.t 28, .t 29], none⟩]
def p90 : AFun := ⟨31, .seq (.region p90_0) (.seq (.region p90_1) (.cond (.t 23) (.region p90_2) (.skip))),
  []⟩

/- 91 (waxwork/class.Class).Has -/
def p91_0 : List AOper := [⟨(some 3), .box (.t 1), none⟩,
  ⟨(some 4), .mv (.c (.bool false)), none⟩]
def p91_1 : List AOper := [⟨(some 5), .mv (.t 0), none⟩,
  ⟨(some 6), .mkfn 119 [.t 3], none⟩,
  ⟨(some 7), .call 118 [.t 5, .t 6], none⟩,
  ⟨(some 4), .mv (.t 7), none⟩]
def p91 : AFun := ⟨8, .seq (.region p91_0) (.seq (.region p91_1) (.ret)),
  [.mv (.t 4)]⟩

/- 92 (waxwork/denote.asking).leaf$2 -/
def p92_0 : List AOper := [⟨(some 7), .fad 0 (.t 2), none⟩,
  ⟨(some 8), .ld (.t 7), none⟩,
  ⟨(some 9), .fad 0 (.t 3), none⟩,
  ⟨(some 10), .ld (.t 9), none⟩,
  ⟨(some 11), .mv (.t 0), none⟩,
  ⟨(some 12), .call 21 [.t 8, .t 10, .t 11], none⟩]
def p92_1 : List AOper := [⟨(some 13), .ld (.t 4), none⟩,
  ⟨(some 14), .mv (.t 0), none⟩,
  ⟨(some 15), .mv (.t 1), none⟩,
  ⟨(some 16), .callv (.t 13) [.t 14, .t 15], none⟩]
def p92 : AFun := ⟨17, .seq (.region p92_0) (.cond (.t 12) (.region p92_1) (.skip)),
  []⟩

/- 96 waxwork/runes.At$1 -/
def p96_0 : List AOper := [⟨(some 2), .box (.t 0), none⟩,
  ⟨(some 3), .mv (.c (.bool false)), none⟩]
def p96_1 : List AOper := [⟨(some 4), .fad 1 (.t 2), none⟩,
  ⟨(some 5), .ld (.t 4), none⟩,
  ⟨(some 6), .ld (.t 1), none⟩,
  ⟨(some 7), .bin .eql .n (.t 5) (.t 6), none⟩,
  ⟨(some 3), .mv (.t 7), none⟩]
def p96 : AFun := ⟨8, .seq (.region p96_0) (.seq (.region p96_1) (.ret)),
  [.mv (.t 3)]⟩

/- 97 strings.HasPrefix -/
def p97_0 : List AOper := [⟨(some 4), .mv (.c (.bool false)), none⟩]
def p97_1 : List AOper := [⟨(some 5), .mv (.t 0), none⟩,
  ⟨(some 6), .mv (.t 1), none⟩,
  ⟨(some 7), .call 121 [.t 5, .t 6], none⟩,
  ⟨(some 4), .mv (.t 7), none⟩]
def p97 : AFun := ⟨8, .seq (.region p97_0) (.seq (.region p97_1) (.ret)),
  [.mv (.t 4)]⟩

/- 98 (*waxwork/syntax.parser).peek -/
def p98_0 : List AOper := [⟨(some 2), .mv (.c (.int .i32 0)), none⟩]
def p98_1 : List AOper := [⟨(some 3), .mv (.t 0), none⟩,
  ⟨(some 4), .nilchk (.t 3), none⟩,
  ⟨(some 5), .fad 0 (.t 4), none⟩,
  ⟨(some 6), .ld (.t 5), none⟩,
  ⟨(some 7), .lensl (.t 6), none⟩,
  ⟨(some 8), .bin .eql .n (.t 7) (.c (.int .i64 0)), none⟩]
def p98_2 : List AOper := [⟨(some 2), .mv (.c (.int .i32 (-1))), none⟩]
def p98_3 : List AOper := [⟨(some 9), .mv (.t 0), none⟩,
  ⟨(some 10), .nilchk (.t 9), none⟩,
  ⟨(some 11), .fad 0 (.t 10), none⟩,
  ⟨(some 12), .ld (.t 11), none⟩,
  ⟨(some 13), .iad 2 (.t 12) (.c (.int .i64 0)), none⟩,
  ⟨(some 14), .fad 0 (.t 13), none⟩,
  ⟨(some 15), .ld (.t 14), none⟩,
  ⟨(some 2), .mv (.t 15), none⟩]
def p98 : AFun := ⟨16, .seq (.region p98_0) (.seq (.seq (.region p98_1) (.cond (.t 8) (.seq (.region p98_2) (.ret)) (.skip))) (.seq (.region p98_3) (.ret))),
  [.mv (.t 2)]⟩

/- 99 (*waxwork/syntax.parser).eat -/
def p99_0 : List AOper := [⟨(some 4), .mv (.c (.bool false)), none⟩]
def p99_1 : List AOper := [⟨(some 8), .mv (.t 0), none⟩,
  ⟨(some 9), .nilchk (.t 8), none⟩,
  ⟨(some 10), .fad 0 (.t 9), none⟩,
  ⟨(some 11), .ld (.t 10), none⟩,
  ⟨(some 5), .mv (.t 11), none⟩]
def p99_2 : List AOper := [⟨(some 12), .mv (.t 1), none⟩,
  ⟨(some 13), .rng (.t 12), none⟩]
def p99_3 : List AOper := [⟨(some 14), .nxt (.t 13), none⟩,
  ⟨(some 15), .ext (.t 14) 0, none⟩]
def p99_4 : List AOper := [⟨(some 16), .ext (.t 14) 2, none⟩,
  ⟨(some 7), .mv (.t 16), none⟩]
def p99_5 : List AOper := [⟨(some 17), .mv (.t 5), none⟩,
  ⟨(some 18), .lensl (.t 17), none⟩,
  ⟨(some 19), .bin .eql .n (.t 18) (.c (.int .i64 0)), none⟩,
  ⟨(some 20), .mv (.t 19), none⟩,
  ⟨(some 21), .mv (.t 5), (some (20, false))⟩,
  ⟨(some 22), .iad 2 (.t 21) (.c (.int .i64 0)), (some (20, false))⟩,
  ⟨(some 23), .fad 0 (.t 22), (some (20, false))⟩,
  ⟨(some 24), .ld (.t 23), (some (20, false))⟩,
  ⟨(some 25), .mv (.t 7), (some (20, false))⟩,
  ⟨(some 26), .bin .neq .n (.t 24) (.t 25), (some (20, false))⟩,
  ⟨(some 27), .pick (.t 20) (.c (.bool true)) (.t 26), none⟩]
def p99_6 : List AOper := [⟨(some 4), .mv (.c (.bool false)), none⟩]
def p99_7 : List AOper := [⟨(some 28), .mv (.t 5), none⟩,
  ⟨(some 29), .slc 2 (.t 28) (some (.c (.int .i64 1))) none, none⟩,
  ⟨(some 5), .mv (.t 29), none⟩]
def p99_8 : List AOper := [⟨(some 30), .mv (.t 0), none⟩,
  ⟨(some 31), .mv (.t 5), none⟩,
  ⟨(some 32), .nilchk (.t 30), none⟩,
  ⟨(some 33), .fad 0 (.t 32), none⟩,
  ⟨none, .st 1 (.t 33) (.t 31), none⟩]
def p99_9 : List AOper := [⟨(some 4), .mv (.c (.bool true)), none⟩]
def p99 : AFun := ⟨34, .seq (.region p99_0) (.seq (.region p99_1) (.seq (.seq (.region p99_2) (.block 0 (.loop (.seq (.region p99_3) (.seq (.cond (.t 15) (.skip) (.exit 0)) (.block 1 (.seq (.region p99_4) (.seq (.seq (.region p99_5) (.cond (.t 27) (.seq (.region p99_6) (.ret)) (.skip))) (.region p99_7))))))))) (.seq (.region p99_8) (.seq (.region p99_9) (.ret))))),
  [.mv (.t 4)]⟩

/- 100 waxwork/syntax.cat -/
def p100_0 : List AOper := [⟨(some 2), .alloc [.int .i64 0, .nils, .int .i64 0, .int .i64 0, .bool false, .int .i64 0, .nils], none⟩]
def p100_1 : List AOper := [⟨(some 3), .mv (.t 0), none⟩,
  ⟨(some 4), .call 102 [.c (.int .i64 6), .t 3], none⟩,
  ⟨(some 5), .call 122 [.t 4, .f 123], none⟩,
  ⟨(some 0), .mv (.t 5), none⟩]
def p100_2 : List AOper := [⟨(some 6), .mv (.t 0), none⟩,
  ⟨(some 7), .lensl (.t 6), none⟩]
def p100_3 : List AOper := [⟨(some 9), .bin .eql .n (.t 7) (.c (.int .i64 0)), none⟩,
  ⟨(some 8), .mv (.t 9), none⟩]
def p100_4 : List AOper := [⟨(some 10), .build [.int .i64 0, .nils, .int .i64 0, .int .i64 0, .bool false, .int .i64 0, .nils] [], none⟩,
  ⟨none, .st 7 (.t 2) (.t 10), none⟩]
def p100_5 : List AOper := [⟨(some 12), .bin .eql .n (.t 7) (.c (.int .i64 1)), none⟩,
  ⟨(some 11), .mv (.t 12), none⟩]
def p100_6 : List AOper := [⟨(some 13), .mv (.t 0), none⟩,
  ⟨(some 14), .iad 7 (.t 13) (.c (.int .i64 0)), none⟩,
  ⟨(some 15), .ldn 7 (.t 14), none⟩,
  ⟨none, .st 7 (.t 2) (.t 15), none⟩]
def p100_7 : List AOper := [⟨(some 16), .mv (.t 0), none⟩,
  ⟨(some 17), .build [.int .i64 0, .nils, .int .i64 0, .int .i64 0, .bool false, .int .i64 0, .nils] [(0, 1, .c (.int .i64 6)), (6, 1, .t 16)], none⟩,
  ⟨none, .st 7 (.t 2) (.t 17), none⟩]
def p100 : AFun := ⟨18, .seq (.region p100_0) (.seq (.region p100_1) (.seq (.seq (.region p100_2) (.block 0 (.seq (.region p100_3) (.cond (.t 8) (.seq (.region p100_4) (.ret)) (.seq (.region p100_5) (.cond (.t 11) (.seq (.region p100_6) (.ret)) (.skip))))))) (.seq (.region p100_7) (.ret)))),
  [.ldn 7 (.t 2)]⟩

/- 101 (*waxwork/syntax.parser).piece -/
def p101_0 : List AOper := [⟨(some 2), .alloc [.int .i64 0, .nils, .int .i64 0, .int .i64 0, .bool false, .int .i64 0, .nils], none⟩]
def p101_1 : List AOper := [⟨(some 6), .mv (.t 0), none⟩,
  ⟨(some 7), .call 124 [.t 6], none⟩,
  ⟨(some 3), .alloc [.int .i64 0, .nils, .int .i64 0, .int .i64 0, .bool false, .int .i64 0, .nils], none⟩,
  ⟨none, .st 7 (.t 3) (.t 7), none⟩]
def p101_2 : List AOper := [⟨(some 8), .ldn 7 (.t 3), none⟩,
  ⟨(some 9), .bslice 7 1 [.int .i64 0, .nils, .int .i64 0, .int .i64 0, .bool false, .int .i64 0, .nils] [(0, 7, .t 8)], none⟩,
  ⟨(some 10), .build [.int .i64 0, .nils, .int .i64 0, .int .i64 0, .bool false, .int .i64 0, .nils] [(0, 1, .c (.int .i64 8)), (3, 1, .c (.int .i64 (-1))), (6, 1, .t 9)], none⟩,
  ⟨(some 4), .alloc [.int .i64 0, .nils, .int .i64 0, .int .i64 0, .bool false, .int .i64 0, .nils], none⟩,
  ⟨none, .st 7 (.t 4) (.t 10), none⟩]
def p101_3 : List AOper := [⟨(some 11), .mv (.t 0), none⟩,
  ⟨(some 12), .call 74 [.t 11], none⟩,
  ⟨(some 5), .mv (.t 12), none⟩]
def p101_5 : List AOper := [⟨(some 15), .mv (.t 0), none⟩,
  ⟨(some 16), .call 99 [.t 15, .c (.str [42])], none⟩,
  ⟨(some 14), .mv (.t 16), none⟩]
def p101_6 : List AOper := [⟨(some 18), .mv (.t 0), none⟩,
  ⟨(some 19), .call 99 [.t 18, .c (.str [43])], none⟩,
  ⟨(some 17), .mv (.t 19), none⟩]
def p101_7 : List AOper := [⟨(some 20), .fad 2 (.t 4), none⟩,
  ⟨none, .st 1 (.t 20) (.c (.int .i64 1)), none⟩]
def p101_8 : List AOper := [⟨(some 22), .mv (.t 0), none⟩,
  ⟨(some 23), .call 99 [.t 22, .c (.str [63])], none⟩,
  ⟨(some 21), .mv (.t 23), none⟩]
def p101_9 : List AOper := [⟨(some 24), .fad 3 (.t 4), none⟩,
  ⟨none, .st 1 (.t 24) (.c (.int .i64 1)), none⟩]
def p101_10 : List AOper := [⟨(some 26), .mv (.t 0), none⟩,
  ⟨(some 27), .call 99 [.t 26, .c (.str [123])], none⟩,
  ⟨(some 25), .mv (.t 27), none⟩]
def p101_11 : List AOper := [⟨(some 29), .mv (.t 0), none⟩,
  ⟨(some 30), .mv (.t 5), none⟩,
  ⟨(some 31), .call 125 [.t 29, .t 30], none⟩,
  ⟨(some 28), .mv (.t 31), none⟩,
  ⟨(some 32), .ext (.t 28) 0, none⟩,
  ⟨(some 33), .ext (.t 28) 1, none⟩,
  ⟨(some 34), .fad 2 (.t 4), none⟩,
  ⟨none, .st 1 (.t 34) (.t 32), none⟩,
  ⟨(some 35), .fad 3 (.t 4), none⟩,
  ⟨none, .st 1 (.t 35) (.t 33), none⟩]
def p101_4 : List AOper := [⟨(some 13), .ldn 7 (.t 3), none⟩,
  ⟨none, .st 7 (.t 2) (.t 13), none⟩]
def p101_12 : List AOper := [⟨(some 36), .mv (.t 0), none⟩,
  ⟨(some 37), .call 99 [.t 36, .c (.str [63])], none⟩,
  ⟨(some 38), .fad 4 (.t 4), none⟩,
  ⟨none, .st 1 (.t 38) (.t 37), none⟩]
def p101_13 : List AOper := [⟨(some 39), .ldn 7 (.t 4), none⟩,
  ⟨none, .st 7 (.t 2) (.t 39), none⟩]
def p101 : AFun := ⟨40, .seq (.region p101_0) (.seq (.region p101_1) (.seq (.region p101_2) (.seq (.region p101_3) (.seq (.block 0 (.seq (.region p101_5) (.cond (.t 14) (.skip) (.seq (.region p101_6) (.cond (.t 17) (.region p101_7) (.seq (.region p101_8) (.cond (.t 21) (.region p101_9) (.seq (.region p101_10) (.cond (.t 25) (.region p101_11) (.seq (.region p101_4) (.ret))))))))))) (.seq (.region p101_12) (.seq (.region p101_13) (.ret))))))),
  [.ldn 7 (.t 2)]⟩

/- 102 waxwork/syntax.flat -/
def p102_0 : List AOper := [⟨(some 4), .mv (.c (.nils)), none⟩]
def p102_1 : List AOper := [⟨(some 5), .mv (.c (.nils)), none⟩]
def p102_2 : List AOper := [⟨(some 8), .mv (.t 1), none⟩,
  ⟨(some 9), .lensl (.t 8), none⟩,
  ⟨(some 10), .mv (.c (.int .i64 0)), none⟩]
def p102_3 : List AOper := [⟨(some 11), .bin .lss .n (.t 10) (.t 9), none⟩]
def p102_4 : List AOper := [⟨(some 12), .iad 7 (.t 8) (.t 10), none⟩,
  ⟨(some 13), .ldn 7 (.t 12), none⟩,
  ⟨(some 7), .alloc [.int .i64 0, .nils, .int .i64 0, .int .i64 0, .bool false, .int .i64 0, .nils], none⟩,
  ⟨none, .st 7 (.t 7) (.t 13), none⟩]
def p102_5 : List AOper := [⟨(some 14), .fad 0 (.t 7), none⟩,
  ⟨(some 15), .ld (.t 14), none⟩,
  ⟨(some 16), .mv (.t 0), none⟩,
  ⟨(some 17), .bin .eql .n (.t 15) (.t 16), none⟩]
def p102_6 : List AOper := [⟨(some 18), .mv (.t 5), none⟩,
  ⟨(some 19), .fad 6 (.t 7), none⟩,
  ⟨(some 20), .ld (.t 19), none⟩,
  ⟨(some 21), .app 7 (.t 18) (.t 20), none⟩,
  ⟨(some 5), .mv (.t 21), none⟩]
def p102_7 : List AOper := [⟨(some 22), .mv (.t 5), none⟩,
  ⟨(some 23), .ldn 7 (.t 7), none⟩,
  ⟨(some 24), .bslice 7 1 [.int .i64 0, .nils, .int .i64 0, .int .i64 0, .bool false, .int .i64 0, .nils] [(0, 7, .t 23)], none⟩,
  ⟨(some 25), .app 7 (.t 22) (.t 24), none⟩,
  ⟨(some 5), .mv (.t 25), none⟩]
def p102_8 : List AOper := [⟨(some 26), .bin .add .n (.t 10) (.c (.int .i64 1)), none⟩,
  ⟨(some 10), .mv (.t 26), none⟩]
def p102_9 : List AOper := [⟨(some 27), .mv (.t 5), none⟩,
  ⟨(some 4), .mv (.t 27), none⟩]
def p102 : AFun := ⟨28, .seq (.region p102_0) (.seq (.region p102_1) (.seq (.seq (.region p102_2) (.block 0 (.loop (.seq (.region p102_3) (.seq (.cond (.t 11) (.skip) (.exit 0)) (.seq (.block 1 (.seq (.region p102_4) (.seq (.region p102_5) (.cond (.t 17) (.region p102_6) (.region p102_7))))) (.region p102_8))))))) (.seq (.region p102_9) (.ret)))),
  [.mv (.t 4)]⟩

/- 103 waxwork/simple.Sequence -/
def p103_0 : List AOper := [⟨(some 2), .alloc [.int .i64 0, .nils, .int .i64 0, .int .i64 0, .bool false, .int .i64 0, .nils], none⟩]
def p103_1 : List AOper := [⟨(some 3), .mv (.f 126), none⟩]
def p103_2 : List AOper := [⟨(some 4), .mv (.t 0), none⟩,
  ⟨(some 5), .call 127 [.t 4], none⟩,
  ⟨(some 6), .mv (.t 3), none⟩,
  ⟨(some 7), .call 122 [.t 5, .t 6], none⟩,
  ⟨(some 0), .mv (.t 7), none⟩]
def p103_3 : List AOper := [⟨(some 8), .mv (.t 0), none⟩,
  ⟨(some 9), .call 129 [.c (.int .i64 6), .t 8], none⟩,
  ⟨(some 10), .call 128 [.c (.int .i64 6), .t 9], none⟩,
  ⟨none, .st 7 (.t 2) (.t 10), none⟩]
def p103 : AFun := ⟨11, .seq (.region p103_0) (.seq (.region p103_1) (.seq (.region p103_2) (.seq (.region p103_3) (.ret)))),
  [.ldn 7 (.t 2)]⟩

/- 104 waxwork/simple.Choice -/
def p104_0 : List AOper := [⟨(some 2), .alloc [.int .i64 0, .nils, .int .i64 0, .int .i64 0, .bool false, .int .i64 0, .nils], none⟩]
def p104_1 : List AOper := [⟨(some 3), .mv (.t 0), none⟩,
  ⟨(some 4), .lensl (.t 3), none⟩,
  ⟨(some 5), .bin .lss .n (.t 4) (.c (.int .i64 2)), none⟩]
def p104_2 : List AOper := [⟨(some 6), .mv (.t 0), none⟩,
  ⟨(some 7), .call 128 [.c (.int .i64 7), .t 6], none⟩,
  ⟨none, .st 7 (.t 2) (.t 7), none⟩]
def p104_3 : List AOper := [⟨(some 8), .mv (.t 0), none⟩,
  ⟨(some 9), .call 129 [.c (.int .i64 7), .t 8], none⟩,
  ⟨(some 10), .build [.int .i64 0, .nils, .int .i64 0, .int .i64 0, .bool false, .int .i64 0, .nils] [(0, 1, .c (.int .i64 7)), (6, 1, .t 9)], none⟩,
  ⟨none, .st 7 (.t 2) (.t 10), none⟩]
def p104 : AFun := ⟨11, .seq (.region p104_0) (.seq (.seq (.region p104_1) (.cond (.t 5) (.seq (.region p104_2) (.ret)) (.skip))) (.seq (.region p104_3) (.ret))),
  [.ldn 7 (.t 2)]⟩

/- 105 waxwork/simple.times -/
def p105_0 : List AOper := [⟨(some 2), .box (.t 0), none⟩,
  ⟨(some 3), .box (.t 1), none⟩,
  ⟨(some 4), .alloc [.int .i64 0, .nils, .int .i64 0, .int .i64 0, .bool false, .int .i64 0, .nils], none⟩]
def p105_1 : List AOper := [⟨(some 7), .mkfn 130 [.t 2], none⟩,
  ⟨(some 5), .mv (.t 7), none⟩]
def p105_2 : List AOper := [⟨(some 9), .ldn 7 (.t 2), none⟩,
  ⟨(some 10), .call 82 [.t 9], none⟩,
  ⟨(some 8), .mv (.t 10), none⟩]
def p105_3 : List AOper := [⟨(some 11), .mv (.t 5), none⟩,
  ⟨(some 12), .fad 2 (.t 2), none⟩,
  ⟨(some 13), .ld (.t 12), none⟩,
  ⟨(some 14), .fad 3 (.t 2), none⟩,
  ⟨(some 15), .ld (.t 14), none⟩,
  ⟨(some 16), .ldn 7 (.t 3), none⟩,
  ⟨(some 17), .callv (.t 11) [.t 13, .t 15, .t 16], none⟩,
  ⟨none, .st 7 (.t 4) (.t 17), none⟩]
def p105_4 : List AOper := [⟨(some 19), .fad 3 (.t 2), none⟩,
  ⟨(some 20), .ld (.t 19), none⟩,
  ⟨(some 21), .bin .eql .n (.t 20) (.c (.int .i64 (-1))), none⟩,
  ⟨(some 18), .mv (.t 21), none⟩]
def p105_5 : List DOp := [⟨0, ⟨(some 22), .ldn 7 (.t 3), none⟩, [], .read⟩,
  ⟨1, ⟨(some 23), .bslice 7 1 [.int .i64 0, .nils, .int .i64 0, .int .i64 0, .bool false, .int .i64 0, .nils] [(0, 7, .t 22)], none⟩, [0], (.alloc 0)⟩,
  ⟨2, ⟨(some 24), .fad 2 (.t 2), none⟩, [], .pure⟩,
  ⟨3, ⟨(some 25), .ld (.t 24), none⟩, [2], .read⟩,
  ⟨4, ⟨(some 26), .bin .sub .n (.t 25) (.c (.int .i64 1)), none⟩, [2, 3], .pure⟩,
  ⟨6, ⟨(some 28), .mv (.t 5), none⟩, [], .pure⟩,
  ⟨7, ⟨(some 29), .ldn 7 (.t 3), none⟩, [], .read⟩,
  ⟨5, ⟨(some 27), .call 131 [.t 23, .t 26], none⟩, [0, 1, 2, 3, 4], .eff⟩,
  ⟨8, ⟨(some 30), .callv (.t 28) [.c (.int .i64 1), .c (.int .i64 (-1)), .t 29], none⟩, [0, 1, 2, 3, 4, 5, 6, 7], .eff⟩,
  ⟨9, ⟨(some 31), .bslice 7 1 [.int .i64 0, .nils, .int .i64 0, .int .i64 0, .bool false, .int .i64 0, .nils] [(0, 7, .t 30)], none⟩, [0, 1, 2, 3, 4, 5, 6, 7, 8], (.alloc 1)⟩,
  ⟨10, ⟨(some 32), .app 7 (.t 27) (.t 31), none⟩, [0, 1, 2, 3, 4, 5, 6, 7, 8, 9], .eff⟩,
  ⟨11, ⟨(some 33), .call 103 [.t 32], none⟩, [0, 1, 2, 3, 4, 5, 6, 7, 8, 9, 10], .eff⟩,
  ⟨12, ⟨none, .st 7 (.t 4) (.t 33), none⟩, [0, 1, 2, 3, 4, 5, 6, 7, 8, 9, 10, 11], .eff⟩]
def p105_6 : List AOper := [⟨(some 6), .alloc [.int .i64 0, .nils, .int .i64 0, .int .i64 0, .bool false, .int .i64 0, .nils], none⟩]
def p105_7 : List AOper := [⟨(some 34), .fad 3 (.t 2), none⟩,
  ⟨(some 35), .ld (.t 34), none⟩,
  ⟨(some 36), .fad 2 (.t 2), none⟩,
  ⟨(some 37), .ld (.t 36), none⟩,
  ⟨(some 38), .bin .sub .n (.t 35) (.t 37), none⟩,
  ⟨(some 39), .mv (.c (.int .i64 0)), none⟩]
def p105_8 : List AOper := [⟨(some 40), .bin .lss .n (.t 39) (.t 38), none⟩]
def p105_9 : List AOper := [⟨(some 41), .mv (.t 5), none⟩,
  ⟨(some 42), .ldn 7 (.t 3), none⟩,
  ⟨(some 43), .ldn 7 (.t 6), none⟩,
  ⟨(some 44), .bslice 7 2 [.int .i64 0, .nils, .int .i64 0, .int .i64 0, .bool false, .int .i64 0, .nils, .int .i64 0, .nils, .int .i64 0, .int .i64 0, .bool false, .int .i64 0, .nils] [(0, 7, .t 42), (7, 7, .t 43)], none⟩,
  ⟨(some 45), .call 103 [.t 44], none⟩,
  ⟨(some 46), .callv (.t 41) [.c (.int .i64 0), .c (.int .i64 1), .t 45], none⟩,
  ⟨none, .st 7 (.t 6) (.t 46), none⟩]
def p105_10 : List AOper := [⟨(some 47), .bin .add .n (.t 39) (.c (.int .i64 1)), none⟩,
  ⟨(some 39), .mv (.t 47), none⟩]
def p105_11 : List DOp := [⟨0, ⟨(some 48), .ldn 7 (.t 3), none⟩, [], .read⟩,
  ⟨1, ⟨(some 49), .bslice 7 1 [.int .i64 0, .nils, .int .i64 0, .int .i64 0, .bool false, .int .i64 0, .nils] [(0, 7, .t 48)], none⟩, [0], (.alloc 0)⟩,
  ⟨2, ⟨(some 50), .fad 2 (.t 2), none⟩, [], .pure⟩,
  ⟨3, ⟨(some 51), .ld (.t 50), none⟩, [2], .read⟩,
  ⟨5, ⟨(some 53), .ldn 7 (.t 6), none⟩, [], .read⟩,
  ⟨6, ⟨(some 54), .bslice 7 1 [.int .i64 0, .nils, .int .i64 0, .int .i64 0, .bool false, .int .i64 0, .nils] [(0, 7, .t 53)], none⟩, [5], (.alloc 1)⟩,
  ⟨4, ⟨(some 52), .call 131 [.t 49, .t 51], none⟩, [0, 1, 2, 3], .eff⟩,
  ⟨7, ⟨(some 55), .app 7 (.t 52) (.t 54), none⟩, [0, 1, 2, 3, 4, 5, 6], .eff⟩,
  ⟨8, ⟨(some 56), .call 103 [.t 55], none⟩, [0, 1, 2, 3, 4, 5, 6, 7], .eff⟩,
  ⟨9, ⟨none, .st 7 (.t 4) (.t 56), none⟩, [0, 1, 2, 3, 4, 5, 6, 7, 8], .eff⟩]
def p105 : AFun := ⟨57, .seq (.region p105_0) (.seq (.region p105_1) (.seq (.block 0 (.seq (.region p105_2) (.cond (.t 8) (.seq (.region p105_3) (.ret)) (.seq (.region p105_4) (.cond (.t 18) (.seq (.draw 2 p105_5) (.ret)) (.skip)))))) (.seq (.region p105_6) (.seq (.seq (.region p105_7) (.block 1 (.loop (.seq (.region p105_8) (.seq (.cond (.t 40) (.skip) (.exit 1)) (.seq (.block 2 (.region p105_9)) (.region p105_10))))))) (.seq (.draw 2 p105_11) (.ret)))))),
  [.ldn 7 (.t 4)]⟩

/- 106 slices.Clone[waxwork/class.Class,waxwork/class.Range] -/
def p106_0 : List AOper := [⟨(some 2), .mv (.c (.nils)), none⟩]
def p106_1 : List AOper := [⟨(some 3), .mv (.t 0), none⟩,
  ⟨(some 4), .bin .eql .s (.t 3) (.c (.nils)), none⟩]
def p106_2 : List AOper := [⟨(some 2), .mv (.c (.nils)), none⟩]
def p106_3 : List AOper := [⟨(some 5), .bslice 2 0 [] [], none⟩,
  ⟨(some 6), .mv (.t 0), none⟩,
  ⟨(some 7), .app 2 (.t 5) (.t 6), none⟩,
  ⟨(some 2), .mv (.t 7), none⟩]
def p106 : AFun := ⟨8, .seq (.region p106_0) (.seq (.seq (.region p106_1) (.cond (.t 4) (.seq (.region p106_2) (.ret)) (.skip))) (.seq (.region p106_3) (.ret))),
  [.mv (.t 2)]⟩

/- 107 waxwork/syntax.Size -/
def p107_0 : List AOper := [⟨(some 1), .box (.t 0), none⟩,
  ⟨(some 2), .mv (.c (.int .i64 0)), none⟩]
def p107_1 : List AOper := [⟨(some 3), .mv (.c (.int .i64 1)), none⟩]
def p107_2 : List AOper := [⟨(some 6), .fad 6 (.t 1), none⟩,
  ⟨(some 7), .ld (.t 6), none⟩,
  ⟨(some 8), .lensl (.t 7), none⟩,
  ⟨(some 9), .mv (.c (.int .i64 0)), none⟩]
def p107_3 : List AOper := [⟨(some 10), .bin .lss .n (.t 9) (.t 8), none⟩]
def p107_4 : List AOper := [⟨(some 11), .iad 7 (.t 7) (.t 9), none⟩,
  ⟨(some 12), .ldn 7 (.t 11), none⟩,
  ⟨(some 5), .alloc [.int .i64 0, .nils, .int .i64 0, .int .i64 0, .bool false, .int .i64 0, .nils], none⟩,
  ⟨none, .st 7 (.t 5) (.t 12), none⟩]
def p107_5 : List AOper := [⟨(some 13), .mv (.t 3), none⟩,
  ⟨(some 14), .ldn 7 (.t 5), none⟩,
  ⟨(some 15), .call 107 [.t 14], none⟩,
  ⟨(some 16), .bin .add .n (.t 13) (.t 15), none⟩,
  ⟨(some 3), .mv (.t 16), none⟩]
def p107_6 : List AOper := [⟨(some 17), .bin .add .n (.t 9) (.c (.int .i64 1)), none⟩,
  ⟨(some 9), .mv (.t 17), none⟩]
def p107_7 : List AOper := [⟨(some 18), .mv (.t 3), none⟩,
  ⟨(some 2), .mv (.t 18), none⟩]
def p107 : AFun := ⟨19, .seq (.region p107_0) (.seq (.region p107_1) (.seq (.seq (.region p107_2) (.block 0 (.loop (.seq (.region p107_3) (.seq (.cond (.t 10) (.skip) (.exit 0)) (.seq (.block 1 (.seq (.region p107_4) (.region p107_5))) (.region p107_6))))))) (.seq (.region p107_7) (.ret)))),
  [.mv (.t 2)]⟩

/- 108 slices.DeleteFunc[[]waxwork/class.Range,waxwork/class.Range] -/
def p108_0 : List AOper := [⟨(some 4), .mv (.c (.nils)), none⟩]
def p108_1 : List AOper := [⟨(some 8), .mv (.t 0), none⟩,
  ⟨(some 9), .mv (.t 1), none⟩,
  ⟨(some 10), .call 132 [.t 8, .t 9], none⟩,
  ⟨(some 5), .mv (.t 10), none⟩]
def p108_2 : List AOper := [⟨(some 11), .mv (.t 5), none⟩,
  ⟨(some 12), .bin .eql .n (.t 11) (.c (.int .i64 (-1))), none⟩]
def p108_3 : List AOper := [⟨(some 13), .mv (.t 0), none⟩,
  ⟨(some 4), .mv (.t 13), none⟩]
def p108_4 : List AOper := [⟨(some 14), .mv (.t 5), none⟩,
  ⟨(some 15), .bin .add .n (.t 14) (.c (.int .i64 1)), none⟩,
  ⟨(some 6), .mv (.t 15), none⟩]
def p108_5 : List AOper := [⟨(some 16), .mv (.t 6), none⟩,
  ⟨(some 17), .mv (.t 0), none⟩,
  ⟨(some 18), .lensl (.t 17), none⟩,
  ⟨(some 19), .bin .lss .n (.t 16) (.t 18), none⟩]
def p108_7 : List AOper := [⟨(some 22), .mv (.t 0), none⟩,
  ⟨(some 23), .mv (.t 6), none⟩,
  ⟨(some 24), .iad 2 (.t 22) (.t 23), none⟩,
  ⟨(some 25), .ldn 2 (.t 24), none⟩,
  ⟨(some 7), .alloc [.int .i32 0, .int .i32 0], none⟩,
  ⟨none, .st 2 (.t 7) (.t 25), none⟩]
def p108_8 : List AOper := [⟨(some 26), .mv (.t 1), none⟩,
  ⟨(some 27), .ldn 2 (.t 7), none⟩,
  ⟨(some 28), .callv (.t 26) [.t 27], none⟩,
  ⟨(some 29), .not (.t 28), none⟩]
def p108_9 : List AOper := [⟨(some 30), .mv (.t 0), none⟩,
  ⟨(some 31), .mv (.t 5), none⟩,
  ⟨(some 32), .ldn 2 (.t 7), none⟩,
  ⟨(some 33), .iad 2 (.t 30) (.t 31), none⟩,
  ⟨none, .st 2 (.t 33) (.t 32), none⟩]
def p108_10 : List AOper := [⟨(some 34), .mv (.t 5), none⟩,
  ⟨(some 35), .bin .add .n (.t 34) (.c (.int .i64 1)), none⟩,
  ⟨(some 5), .mv (.t 35), none⟩]
def p108_6 : List AOper := [⟨(some 20), .mv (.t 6), none⟩,
  ⟨(some 21), .bin .add .n (.t 20) (.c (.int .i64 1)), none⟩,
  ⟨(some 6), .mv (.t 21), none⟩]
def p108_11 : List AOper := [⟨(some 36), .mv (.t 0), none⟩,
  ⟨(some 37), .mv (.t 5), none⟩,
  ⟨(some 38), .slc 2 (.t 36) (some (.t 37)) none, none⟩,
  ⟨none, .clr [.int .i32 0, .int .i32 0] (.t 38), none⟩]
def p108_12 : List AOper := [⟨(some 39), .mv (.t 0), none⟩,
  ⟨(some 40), .mv (.t 5), none⟩,
  ⟨(some 41), .slc 2 (.t 39) none (some (.t 40)), none⟩,
  ⟨(some 4), .mv (.t 41), none⟩]
def p108 : AFun := ⟨42, .seq (.region p108_0) (.seq (.region p108_1) (.seq (.seq (.region p108_2) (.cond (.t 12) (.seq (.region p108_3) (.ret)) (.skip))) (.seq (.seq (.region p108_4) (.block 0 (.loop (.seq (.seq (.region p108_5) (.cond (.t 19) (.skip) (.exit 0))) (.seq (.block 1 (.seq (.region p108_7) (.seq (.region p108_8) (.cond (.t 29) (.seq (.region p108_9) (.region p108_10)) (.skip))))) (.region p108_6)))))) (.seq (.region p108_11) (.seq (.region p108_12) (.ret)))))),
  [.mv (.t 4)]⟩

/- 109 slices.Clone[[]waxwork/class.Range,waxwork/class.Range] -/
def p109_0 : List AOper := [⟨(some 2), .mv (.c (.nils)), none⟩]
def p109_1 : List AOper := [⟨(some 3), .mv (.t 0), none⟩,
  ⟨(some 4), .bin .eql .s (.t 3) (.c (.nils)), none⟩]
def p109_2 : List AOper := [⟨(some 2), .mv (.c (.nils)), none⟩]
def p109_3 : List AOper := [⟨(some 5), .bslice 2 0 [] [], none⟩,
  ⟨(some 6), .mv (.t 0), none⟩,
  ⟨(some 7), .app 2 (.t 5) (.t 6), none⟩,
  ⟨(some 2), .mv (.t 7), none⟩]
def p109 : AFun := ⟨8, .seq (.region p109_0) (.seq (.seq (.region p109_1) (.cond (.t 4) (.seq (.region p109_2) (.ret)) (.skip))) (.seq (.region p109_3) (.ret))),
  [.mv (.t 2)]⟩

/- 110 waxwork/class.Of$1 -/
def p110_0 : List AOper := [⟨(some 1), .box (.t 0), none⟩,
  ⟨(some 2), .mv (.c (.bool false)), none⟩]
def p110_1 : List AOper := [⟨(some 3), .ldn 2 (.t 1), none⟩,
  ⟨(some 4), .call 111 [.t 3], none⟩,
  ⟨(some 5), .not (.t 4), none⟩,
  ⟨(some 2), .mv (.t 5), none⟩]
def p110 : AFun := ⟨6, .seq (.region p110_0) (.seq (.region p110_1) (.ret)),
  [.mv (.t 2)]⟩

/- 111 (waxwork/class.Range).may -/
def p111_0 : List AOper := [⟨(some 1), .box (.t 0), none⟩,
  ⟨(some 2), .mv (.c (.bool false)), none⟩]
def p111_1 : List AOper := [⟨(some 3), .fad 0 (.t 1), none⟩,
  ⟨(some 4), .ld (.t 3), none⟩,
  ⟨(some 5), .bin .geq .n (.t 4) (.c (.int .i32 0)), none⟩,
  ⟨(some 6), .mv (.t 5), none⟩,
  ⟨(some 7), .fad 1 (.t 1), (some (6, true))⟩,
  ⟨(some 8), .ld (.t 7), (some (6, true))⟩,
  ⟨(some 9), .bin .leq .n (.t 8) (.c (.int .i32 1114111)), (some (6, true))⟩,
  ⟨(some 10), .pick (.t 6) (.t 9) (.c (.bool false)), none⟩,
  ⟨(some 11), .mv (.t 10), none⟩,
  ⟨(some 12), .fad 0 (.t 1), (some (11, true))⟩,
  ⟨(some 13), .ld (.t 12), (some (11, true))⟩,
  ⟨(some 14), .fad 1 (.t 1), (some (11, true))⟩,
  ⟨(some 15), .ld (.t 14), (some (11, true))⟩,
  ⟨(some 16), .bin .leq .n (.t 13) (.t 15), (some (11, true))⟩,
  ⟨(some 17), .pick (.t 11) (.t 16) (.c (.bool false)), none⟩,
  ⟨(some 2), .mv (.t 17), none⟩]
def p111 : AFun := ⟨18, .seq (.region p111_0) (.seq (.region p111_1) (.ret)),
  [.mv (.t 2)]⟩

/- 112 slices.SortFunc[[]waxwork/class.Range,waxwork/class.Range] -/
def p112_0 : List AOper := [⟨(some 5), .mv (.t 0), none⟩,
  ⟨(some 6), .lensl (.t 5), none⟩,
  ⟨(some 4), .mv (.t 6), none⟩]
def p112_1 : List AOper := [⟨(some 7), .mv (.t 0), none⟩,
  ⟨(some 8), .mv (.t 4), none⟩,
  ⟨(some 9), .mv (.t 4), none⟩,
  ⟨(some 10), .cvi .u64 (.t 9), none⟩,
  ⟨(some 11), .call 134 [.t 10], none⟩,
  ⟨(some 12), .mv (.t 1), none⟩,
  ⟨(some 13), .call 133 [.t 7, .c (.int .i64 0), .t 8, .t 11, .t 12], none⟩]
def p112 : AFun := ⟨14, .seq (.region p112_0) (.region p112_1),
  []⟩

/- 113 waxwork/class.Of$2 -/
def p113_0 : List AOper := [⟨(some 2), .box (.t 0), none⟩,
  ⟨(some 3), .box (.t 1), none⟩,
  ⟨(some 4), .mv (.c (.int .i64 0)), none⟩]
def p113_1 : List AOper := [⟨(some 5), .fad 0 (.t 2), none⟩,
  ⟨(some 6), .ld (.t 5), none⟩,
  ⟨(some 7), .fad 0 (.t 3), none⟩,
  ⟨(some 8), .ld (.t 7), none⟩,
  ⟨(some 9), .call 114 [.t 6, .t 8], none⟩,
  ⟨(some 4), .mv (.t 9), none⟩]
def p113 : AFun := ⟨10, .seq (.region p113_0) (.seq (.region p113_1) (.ret)),
  [.mv (.t 4)]⟩

/- 114 cmp.Compare[rune] -/
def p114_0 : List AOper := [⟨(some 4), .mv (.c (.int .i64 0)), none⟩]
def p114_1 : List AOper := [⟨(some 7), .mv (.t 0), none⟩,
  ⟨(some 8), .call 135 [.t 7], none⟩,
  ⟨(some 5), .mv (.t 8), none⟩]
def p114_2 : List AOper := [⟨(some 9), .mv (.t 1), none⟩,
  ⟨(some 10), .call 135 [.t 9], none⟩,
  ⟨(some 6), .mv (.t 10), none⟩]
def p114_3 : List AOper := [⟨(some 11), .mv (.t 5), none⟩]
def p114_4 : List AOper := [⟨(some 12), .mv (.t 6), none⟩]
def p114_5 : List AOper := [⟨(some 4), .mv (.c (.int .i64 0)), none⟩]
def p114_6 : List AOper := [⟨(some 4), .mv (.c (.int .i64 (-1))), none⟩]
def p114_7 : List AOper := [⟨(some 13), .mv (.t 6), none⟩]
def p114_8 : List AOper := [⟨(some 4), .mv (.c (.int .i64 1)), none⟩]
def p114_9 : List AOper := [⟨(some 14), .mv (.t 0), none⟩,
  ⟨(some 15), .mv (.t 1), none⟩,
  ⟨(some 16), .bin .lss .n (.t 14) (.t 15), none⟩]
def p114_10 : List AOper := [⟨(some 4), .mv (.c (.int .i64 (-1))), none⟩]
def p114_11 : List AOper := [⟨(some 17), .mv (.t 0), none⟩,
  ⟨(some 18), .mv (.t 1), none⟩,
  ⟨(some 19), .bin .gtr .n (.t 17) (.t 18), none⟩]
def p114_12 : List AOper := [⟨(some 4), .mv (.c (.int .i64 1)), none⟩]
def p114_13 : List AOper := [⟨(some 4), .mv (.c (.int .i64 0)), none⟩]
def p114 : AFun := ⟨20, .seq (.region p114_0) (.seq (.region p114_1) (.seq (.region p114_2) (.seq (.seq (.region p114_3) (.cond (.t 11) (.seq (.seq (.region p114_4) (.cond (.t 12) (.seq (.region p114_5) (.ret)) (.skip))) (.seq (.region p114_6) (.ret))) (.skip))) (.seq (.seq (.region p114_7) (.cond (.t 13) (.seq (.region p114_8) (.ret)) (.skip))) (.seq (.seq (.region p114_9) (.cond (.t 16) (.seq (.region p114_10) (.ret)) (.skip))) (.seq (.seq (.region p114_11) (.cond (.t 19) (.seq (.region p114_12) (.ret)) (.skip))) (.seq (.region p114_13) (.ret)))))))),
  [.mv (.t 4)]⟩

/- 115 slices.IndexFunc[[]waxwork/syntax.Node,waxwork/syntax.Node] -/
def p115_0 : List AOper := [⟨(some 4), .mv (.c (.int .i64 0)), none⟩]
def p115_1 : List AOper := [⟨(some 6), .mv (.t 0), none⟩,
  ⟨(some 7), .lensl (.t 6), none⟩,
  ⟨(some 8), .mv (.c (.int .i64 0)), none⟩]
def p115_2 : List AOper := [⟨(some 9), .bin .lss .n (.t 8) (.t 7), none⟩]
def p115_3 : List AOper := [⟨(some 10), .mv (.t 8), none⟩,
  ⟨(some 5), .mv (.t 10), none⟩]
def p115_4 : List AOper := [⟨(some 11), .mv (.t 1), none⟩,
  ⟨(some 12), .mv (.t 0), none⟩,
  ⟨(some 13), .mv (.t 5), none⟩,
  ⟨(some 14), .iad 7 (.t 12) (.t 13), none⟩,
  ⟨(some 15), .ldn 7 (.t 14), none⟩,
  ⟨(some 16), .callv (.t 11) [.t 15], none⟩]
def p115_5 : List AOper := [⟨(some 17), .mv (.t 5), none⟩,
  ⟨(some 4), .mv (.t 17), none⟩]
def p115_6 : List AOper := [⟨(some 18), .bin .add .n (.t 8) (.c (.int .i64 1)), none⟩,
  ⟨(some 8), .mv (.t 18), none⟩]
def p115_7 : List AOper := [⟨(some 4), .mv (.c (.int .i64 (-1))), none⟩]
def p115 : AFun := ⟨19, .seq (.region p115_0) (.seq (.seq (.region p115_1) (.block 0 (.loop (.seq (.region p115_2) (.seq (.cond (.t 9) (.skip) (.exit 0)) (.seq (.block 1 (.seq (.region p115_3) (.seq (.region p115_4) (.cond (.t 16) (.seq (.region p115_5) (.ret)) (.skip))))) (.region p115_6))))))) (.seq (.region p115_7) (.ret))),
  [.mv (.t 4)]⟩

/- 116 waxwork/runes.size -/
def p116_0 : List AOper := [⟨(some 4), .mv (.c (.int .i64 0)), none⟩]
def p116_1 : List AOper := [⟨(some 7), .mv (.t 1), none⟩,
  ⟨(some 8), .bin .eql .n (.t 7) (.c (.int .i32 65533)), none⟩]
def p116_2 : List AOper := [⟨(some 10), .mv (.t 0), none⟩,
  ⟨(some 11), .call 136 [.t 10], none⟩,
  ⟨(some 9), .mv (.t 11), none⟩,
  ⟨(some 12), .ext (.t 9) 0, none⟩,
  ⟨(some 13), .ext (.t 9) 1, none⟩,
  ⟨(some 5), .mv (.t 12), none⟩,
  ⟨(some 6), .mv (.t 13), none⟩]
def p116_3 : List AOper := [⟨(some 14), .mv (.t 6), none⟩,
  ⟨(some 4), .mv (.t 14), none⟩]
def p116_4 : List AOper := [⟨(some 15), .mv (.t 1), none⟩,
  ⟨(some 16), .call 137 [.t 15], none⟩,
  ⟨(some 4), .mv (.t 16), none⟩]
def p116 : AFun := ⟨17, .seq (.region p116_0) (.seq (.seq (.region p116_1) (.cond (.t 8) (.seq (.region p116_2) (.seq (.region p116_3) (.ret))) (.skip))) (.seq (.region p116_4) (.ret))),
  [.mv (.t 4)]⟩

/- 117 waxwork/denote.both$1 -/
def p117_0 : List AOper := [⟨(some 6), .ld (.t 2), none⟩,
  ⟨(some 7), .mv (.t 0), none⟩,
  ⟨(some 8), .mv (.t 1), none⟩,
  ⟨(some 9), .callv (.t 6) [.t 7, .t 8], none⟩]
def p117_1 : List AOper := [⟨(some 10), .ld (.t 3), none⟩,
  ⟨(some 11), .mv (.t 0), none⟩,
  ⟨(some 12), .mv (.t 1), none⟩,
  ⟨(some 13), .callv (.t 10) [.t 11, .t 12], none⟩]
def p117 : AFun := ⟨14, .seq (.region p117_0) (.region p117_1),
  []⟩

/- 118 slices.ContainsFunc[waxwork/class.Class,waxwork/class.Range] -/
def p118_0 : List AOper := [⟨(some 4), .mv (.c (.bool false)), none⟩]
def p118_1 : List AOper := [⟨(some 5), .mv (.t 0), none⟩,
  ⟨(some 6), .mv (.t 1), none⟩,
  ⟨(some 7), .call 138 [.t 5, .t 6], none⟩,
  ⟨(some 8), .bin .geq .n (.t 7) (.c (.int .i64 0)), none⟩,
  ⟨(some 4), .mv (.t 8), none⟩]
def p118 : AFun := ⟨9, .seq (.region p118_0) (.seq (.region p118_1) (.ret)),
  [.mv (.t 4)]⟩

/- 119 (waxwork/class.Class).Has$1 -/
def p119_0 : List AOper := [⟨(some 2), .box (.t 0), none⟩,
  ⟨(some 3), .mv (.c (.bool false)), none⟩]
def p119_1 : List AOper := [⟨(some 4), .ld (.t 1), none⟩,
  ⟨(some 5), .fad 0 (.t 2), none⟩,
  ⟨(some 6), .ld (.t 5), none⟩,
  ⟨(some 7), .bin .geq .n (.t 4) (.t 6), none⟩,
  ⟨(some 8), .mv (.t 7), none⟩,
  ⟨(some 9), .ld (.t 1), (some (8, true))⟩,
  ⟨(some 10), .fad 1 (.t 2), (some (8, true))⟩,
  ⟨(some 11), .ld (.t 10), (some (8, true))⟩,
  ⟨(some 12), .bin .leq .n (.t 9) (.t 11), (some (8, true))⟩,
  ⟨(some 13), .pick (.t 8) (.t 12) (.c (.bool false)), none⟩,
  ⟨(some 3), .mv (.t 13), none⟩]
def p119 : AFun := ⟨14, .seq (.region p119_0) (.seq (.region p119_1) (.ret)),
  [.mv (.t 3)]⟩

/- 121 internal/stringslite.HasPrefix -/
def p121_0 : List AOper := [⟨(some 4), .mv (.c (.bool false)), none⟩]
def p121_1 : List AOper := [⟨(some 5), .mv (.t 0), none⟩,
  ⟨(some 6), .lens (.t 5), none⟩,
  ⟨(some 7), .mv (.t 1), none⟩,
  ⟨(some 8), .lens (.t 7), none⟩,
  ⟨(some 9), .bin .geq .n (.t 6) (.t 8), none⟩,
  ⟨(some 10), .mv (.t 9), none⟩,
  ⟨(some 11), .mv (.t 0), (some (10, true))⟩,
  ⟨(some 12), .mv (.t 1), (some (10, true))⟩,
  ⟨(some 13), .lens (.t 12), (some (10, true))⟩,
  ⟨(some 14), .slcs (.t 11) none (some (.t 13)), (some (10, true))⟩,
  ⟨(some 15), .mv (.t 1), (some (10, true))⟩,
  ⟨(some 16), .bin .eql .n (.t 14) (.t 15), (some (10, true))⟩,
  ⟨(some 17), .pick (.t 10) (.t 16) (.c (.bool false)), none⟩,
  ⟨(some 4), .mv (.t 17), none⟩]
def p121 : AFun := ⟨18, .seq (.region p121_0) (.seq (.region p121_1) (.ret)),
  [.mv (.t 4)]⟩

/- 122 slices.DeleteFunc[[]waxwork/syntax.Node,waxwork/syntax.Node] -/
def p122_0 : List AOper := [⟨(some 4), .mv (.c (.nils)), none⟩]
def p122_1 : List AOper := [⟨(some 8), .mv (.t 0), none⟩,
  ⟨(some 9), .mv (.t 1), none⟩,
  ⟨(some 10), .call 115 [.t 8, .t 9], none⟩,
  ⟨(some 5), .mv (.t 10), none⟩]
def p122_2 : List AOper := [⟨(some 11), .mv (.t 5), none⟩,
  ⟨(some 12), .bin .eql .n (.t 11) (.c (.int .i64 (-1))), none⟩]
def p122_3 : List AOper := [⟨(some 13), .mv (.t 0), none⟩,
  ⟨(some 4), .mv (.t 13), none⟩]
def p122_4 : List AOper := [⟨(some 14), .mv (.t 5), none⟩,
  ⟨(some 15), .bin .add .n (.t 14) (.c (.int .i64 1)), none⟩,
  ⟨(some 6), .mv (.t 15), none⟩]
def p122_5 : List AOper := [⟨(some 16), .mv (.t 6), none⟩,
  ⟨(some 17), .mv (.t 0), none⟩,
  ⟨(some 18), .lensl (.t 17), none⟩,
  ⟨(some 19), .bin .lss .n (.t 16) (.t 18), none⟩]
def p122_7 : List AOper := [⟨(some 22), .mv (.t 0), none⟩,
  ⟨(some 23), .mv (.t 6), none⟩,
  ⟨(some 24), .iad 7 (.t 22) (.t 23), none⟩,
  ⟨(some 25), .ldn 7 (.t 24), none⟩,
  ⟨(some 7), .alloc [.int .i64 0, .nils, .int .i64 0, .int .i64 0, .bool false, .int .i64 0, .nils], none⟩,
  ⟨none, .st 7 (.t 7) (.t 25), none⟩]
def p122_8 : List AOper := [⟨(some 26), .mv (.t 1), none⟩,
  ⟨(some 27), .ldn 7 (.t 7), none⟩,
  ⟨(some 28), .callv (.t 26) [.t 27], none⟩,
  ⟨(some 29), .not (.t 28), none⟩]
def p122_9 : List AOper := [⟨(some 30), .mv (.t 0), none⟩,
  ⟨(some 31), .mv (.t 5), none⟩,
  ⟨(some 32), .ldn 7 (.t 7), none⟩,
  ⟨(some 33), .iad 7 (.t 30) (.t 31), none⟩,
  ⟨none, .st 7 (.t 33) (.t 32), none⟩]
def p122_10 : List AOper := [⟨(some 34), .mv (.t 5), none⟩,
  ⟨(some 35), .bin .add .n (.t 34) (.c (.int .i64 1)), none⟩,
  ⟨(some 5), .mv (.t 35), none⟩]
def p122_6 : List AOper := [⟨(some 20), .mv (.t 6), none⟩,
  ⟨(some 21), .bin .add .n (.t 20) (.c (.int .i64 1)), none⟩,
  ⟨(some 6), .mv (.t 21), none⟩]
def p122_11 : List AOper := [⟨(some 36), .mv (.t 0), none⟩,
  ⟨(some 37), .mv (.t 5), none⟩,
  ⟨(some 38), .slc 7 (.t 36) (some (.t 37)) none, none⟩,
  ⟨none, .clr [.int .i64 0, .nils, .int .i64 0, .int .i64 0, .bool false, .int .i64 0, .nils] (.t 38), none⟩]
def p122_12 : List AOper := [⟨(some 39), .mv (.t 0), none⟩,
  ⟨(some 40), .mv (.t 5), none⟩,
  ⟨(some 41), .slc 7 (.t 39) none (some (.t 40)), none⟩,
  ⟨(some 4), .mv (.t 41), none⟩]
def p122 : AFun := ⟨42, .seq (.region p122_0) (.seq (.region p122_1) (.seq (.seq (.region p122_2) (.cond (.t 12) (.seq (.region p122_3) (.ret)) (.skip))) (.seq (.seq (.region p122_4) (.block 0 (.loop (.seq (.seq (.region p122_5) (.cond (.t 19) (.skip) (.exit 0))) (.seq (.block 1 (.seq (.region p122_7) (.seq (.region p122_8) (.cond (.t 29) (.seq (.region p122_9) (.region p122_10)) (.skip))))) (.region p122_6)))))) (.seq (.region p122_11) (.seq (.region p122_12) (.ret)))))),
  [.mv (.t 4)]⟩

/- 123 waxwork/syntax.cat$1 -/
def p123_0 : List AOper := [⟨(some 1), .box (.t 0), none⟩,
  ⟨(some 2), .mv (.c (.bool false)), none⟩]
def p123_1 : List AOper := [⟨(some 3), .fad 0 (.t 1), none⟩,
  ⟨(some 4), .ld (.t 3), none⟩,
  ⟨(some 5), .bin .eql .n (.t 4) (.c (.int .i64 0)), none⟩,
  ⟨(some 2), .mv (.t 5), none⟩]
def p123 : AFun := ⟨6, .seq (.region p123_0) (.seq (.region p123_1) (.ret)),
  [.mv (.t 2)]⟩

/- 124 (*waxwork/syntax.parser).atom -/
def p124_0 : List AOper := [⟨(some 2), .alloc [.int .i64 0, .nils, .int .i64 0, .int .i64 0, .bool false, .int .i64 0, .nils], none⟩]
def p124_1 : List AOper := [⟨(some 5), .mv (.t 0), none⟩,
  ⟨(some 6), .call 74 [.t 5], none⟩,
  ⟨(some 3), .mv (.t 6), none⟩]
def p124_2 : List AOper := [⟨(some 7), .mv (.t 0), none⟩,
  ⟨(some 8), .call 141 [.t 7], none⟩,
  ⟨(some 4), .mv (.t 8), none⟩]
def p124_3 : List AOper := [⟨(some 9), .mv (.t 4), none⟩]
def p124_6 : List AOper := [⟨(some 26), .bin .eql .n (.t 9) (.c (.int .i32 40)), none⟩,
  ⟨(some 25), .mv (.t 26), none⟩]
def p124_7 : List AOper := [⟨(some 27), .mv (.t 0), none⟩,
  ⟨(some 28), .mv (.t 3), none⟩,
  ⟨(some 29), .call 142 [.t 27, .t 28], none⟩,
  ⟨none, .st 7 (.t 2) (.t 29), none⟩]
def p124_8 : List AOper := [⟨(some 31), .bin .eql .n (.t 9) (.c (.int .i32 46)), none⟩,
  ⟨(some 30), .mv (.t 31), none⟩]
def p124_9 : List AOper := [⟨(some 32), .call 143 [], none⟩,
  ⟨(some 33), .build [.int .i64 0, .nils, .int .i64 0, .int .i64 0, .bool false, .int .i64 0, .nils] [(0, 1, .c (.int .i64 1)), (1, 1, .t 32)], none⟩,
  ⟨none, .st 7 (.t 2) (.t 33), none⟩]
def p124_10 : List AOper := [⟨(some 35), .bin .eql .n (.t 9) (.c (.int .i32 94)), none⟩,
  ⟨(some 34), .mv (.t 35), none⟩]
def p124_11 : List AOper := [⟨(some 36), .build [.int .i64 0, .nils, .int .i64 0, .int .i64 0, .bool false, .int .i64 0, .nils] [(0, 1, .c (.int .i64 2))], none⟩,
  ⟨none, .st 7 (.t 2) (.t 36), none⟩]
def p124_12 : List AOper := [⟨(some 38), .bin .eql .n (.t 9) (.c (.int .i32 36)), none⟩,
  ⟨(some 37), .mv (.t 38), none⟩]
def p124_13 : List AOper := [⟨(some 39), .build [.int .i64 0, .nils, .int .i64 0, .int .i64 0, .bool false, .int .i64 0, .nils] [(0, 1, .c (.int .i64 3))], none⟩,
  ⟨none, .st 7 (.t 2) (.t 39), none⟩]
def p124_14 : List AOper := [⟨(some 41), .bin .eql .n (.t 9) (.c (.int .i32 92)), none⟩,
  ⟨(some 40), .mv (.t 41), none⟩]
def p124_15 : List AOper := [⟨(some 42), .mv (.t 0), none⟩,
  ⟨(some 43), .mv (.t 3), none⟩,
  ⟨(some 44), .call 144 [.t 42, .t 43], none⟩,
  ⟨none, .st 7 (.t 2) (.t 44), none⟩]
def p124_16 : List AOper := [⟨(some 46), .bin .eql .n (.t 9) (.c (.int .i32 91)), none⟩,
  ⟨(some 45), .mv (.t 46), none⟩]
def p124_17 : List AOper := [⟨(some 47), .mv (.t 0), none⟩,
  ⟨(some 48), .mv (.t 3), none⟩,
  ⟨(some 49), .call 145 [.t 47, .t 48], none⟩,
  ⟨none, .st 7 (.t 2) (.t 49), none⟩]
def p124_4 : List AOper := [⟨(some 10), .mv (.t 4), none⟩,
  ⟨(some 11), .bin .geq .n (.t 10) (.c (.int .i32 0)), none⟩,
  ⟨(some 12), .mv (.t 11), none⟩,
  ⟨(some 13), .mv (.t 4), (some (12, true))⟩,
  ⟨(some 14), .call 146 [.t 13, .c (.str [92, 46, 91, 93, 40, 41, 42, 43, 63, 123, 125, 124, 94, 36])], (some (12, true))⟩,
  ⟨(some 15), .not (.t 14), (some (12, true))⟩,
  ⟨(some 16), .pick (.t 12) (.t 15) (.c (.bool false)), none⟩,
  ⟨(some 17), .mv (.t 3), none⟩,
  ⟨(some 18), .call 73 [.t 16, .t 17], none⟩]
def p124_5 : List AOper := [⟨(some 19), .mv (.t 4), none⟩,
  ⟨(some 20), .mv (.t 4), none⟩,
  ⟨(some 21), .call 147 [.t 19, .t 20], none⟩,
  ⟨(some 22), .bslice 2 1 [.int .i32 0, .int .i32 0] [(0, 2, .t 21)], none⟩,
  ⟨(some 23), .call 77 [.t 22], none⟩,
  ⟨(some 24), .build [.int .i64 0, .nils, .int .i64 0, .int .i64 0, .bool false, .int .i64 0, .nils] [(0, 1, .c (.int .i64 1)), (1, 1, .t 23)], none⟩,
  ⟨none, .st 7 (.t 2) (.t 24), none⟩]
def p124 : AFun := ⟨50, .seq (.region p124_0) (.seq (.region p124_1) (.seq (.region p124_2) (.seq (.region p124_3) (.block 0 (.seq (.region p124_6) (.cond (.t 25) (.seq (.region p124_7) (.ret)) (.seq (.region p124_8) (.cond (.t 30) (.seq (.region p124_9) (.ret)) (.seq (.region p124_10) (.cond (.t 34) (.seq (.region p124_11) (.ret)) (.seq (.region p124_12) (.cond (.t 37) (.seq (.region p124_13) (.ret)) (.seq (.region p124_14) (.cond (.t 40) (.seq (.region p124_15) (.ret)) (.seq (.region p124_16) (.cond (.t 45) (.seq (.region p124_17) (.ret)) (.seq (.region p124_4) (.seq (.region p124_5) (.ret))))))))))))))))))),
  [.ldn 7 (.t 2)]⟩

/- 125 (*waxwork/syntax.parser).braces -/
def p125_0 : List AOper := [⟨(some 4), .mv (.c (.int .i64 0)), none⟩,
  ⟨(some 5), .mv (.c (.int .i64 0)), none⟩]
def p125_1 : List AOper := [⟨(some 6), .mv (.t 0), none⟩,
  ⟨(some 7), .mv (.t 1), none⟩,
  ⟨(some 8), .call 148 [.t 6, .t 7], none⟩,
  ⟨(some 4), .mv (.t 8), none⟩]
def p125_2 : List AOper := [⟨(some 9), .mv (.t 0), none⟩,
  ⟨(some 10), .call 99 [.t 9, .c (.str [125])], none⟩]
def p125_3 : List AOper := [⟨(some 11), .mv (.t 4), none⟩,
  ⟨(some 12), .mv (.t 4), none⟩,
  ⟨(some 4), .mv (.t 11), none⟩,
  ⟨(some 5), .mv (.t 12), none⟩]
def p125_4 : List AOper := [⟨(some 13), .mv (.t 0), none⟩,
  ⟨(some 14), .call 99 [.t 13, .c (.str [44])], none⟩,
  ⟨(some 15), .mv (.t 1), none⟩,
  ⟨(some 16), .call 73 [.t 14, .t 15], none⟩]
def p125_5 : List AOper := [⟨(some 17), .mv (.t 0), none⟩,
  ⟨(some 18), .call 99 [.t 17, .c (.str [125])], none⟩]
def p125_6 : List AOper := [⟨(some 19), .mv (.t 4), none⟩,
  ⟨(some 4), .mv (.t 19), none⟩,
  ⟨(some 5), .mv (.c (.int .i64 (-1))), none⟩]
def p125_7 : List AOper := [⟨(some 20), .mv (.t 0), none⟩,
  ⟨(some 21), .mv (.t 1), none⟩,
  ⟨(some 22), .call 148 [.t 20, .t 21], none⟩,
  ⟨(some 5), .mv (.t 22), none⟩]
def p125_8 : List AOper := [⟨(some 23), .mv (.t 0), none⟩,
  ⟨(some 24), .call 99 [.t 23, .c (.str [125])], none⟩,
  ⟨(some 25), .mv (.t 24), none⟩,
  ⟨(some 26), .mv (.t 4), (some (25, true))⟩,
  ⟨(some 27), .mv (.t 5), (some (25, true))⟩,
  ⟨(some 28), .bin .leq .n (.t 26) (.t 27), (some (25, true))⟩,
  ⟨(some 29), .pick (.t 25) (.t 28) (.c (.bool false)), none⟩,
  ⟨(some 30), .mv (.t 1), none⟩,
  ⟨(some 31), .call 73 [.t 29, .t 30], none⟩]
def p125_9 : List AOper := [⟨(some 32), .mv (.t 4), none⟩,
  ⟨(some 33), .mv (.t 5), none⟩,
  ⟨(some 4), .mv (.t 32), none⟩,
  ⟨(some 5), .mv (.t 33), none⟩]
def p125 : AFun := ⟨34, .seq (.region p125_0) (.seq (.region p125_1) (.seq (.seq (.region p125_2) (.cond (.t 10) (.seq (.region p125_3) (.ret)) (.skip))) (.seq (.region p125_4) (.seq (.seq (.region p125_5) (.cond (.t 18) (.seq (.region p125_6) (.ret)) (.skip))) (.seq (.region p125_7) (.seq (.region p125_8) (.seq (.region p125_9) (.ret)))))))),
  [.mv (.t 4), .mv (.t 5)]⟩

/- 126 waxwork/simple.Sequence$1 -/
def p126_0 : List AOper := [⟨(some 1), .box (.t 0), none⟩,
  ⟨(some 2), .mv (.c (.bool false)), none⟩]
def p126_1 : List AOper := [⟨(some 3), .fad 0 (.t 1), none⟩,
  ⟨(some 4), .ld (.t 3), none⟩,
  ⟨(some 5), .bin .eql .n (.t 4) (.c (.int .i64 0)), none⟩,
  ⟨(some 2), .mv (.t 5), none⟩]
def p126 : AFun := ⟨6, .seq (.region p126_0) (.seq (.region p126_1) (.ret)),
  [.mv (.t 2)]⟩

/- 127 slices.Clone[[]waxwork/syntax.Node,waxwork/syntax.Node] -/
def p127_0 : List AOper := [⟨(some 2), .mv (.c (.nils)), none⟩]
def p127_1 : List AOper := [⟨(some 3), .mv (.t 0), none⟩,
  ⟨(some 4), .bin .eql .s (.t 3) (.c (.nils)), none⟩]
def p127_2 : List AOper := [⟨(some 2), .mv (.c (.nils)), none⟩]
def p127_3 : List AOper := [⟨(some 5), .bslice 7 0 [] [], none⟩,
  ⟨(some 6), .mv (.t 0), none⟩,
  ⟨(some 7), .app 7 (.t 5) (.t 6), none⟩,
  ⟨(some 2), .mv (.t 7), none⟩]
def p127 : AFun := ⟨8, .seq (.region p127_0) (.seq (.seq (.region p127_1) (.cond (.t 4) (.seq (.region p127_2) (.ret)) (.skip))) (.seq (.region p127_3) (.ret))),
  [.mv (.t 2)]⟩

/- 128 waxwork/simple.whole -/
def p128_0 : List AOper := [⟨(some 4), .alloc [.int .i64 0, .nils, .int .i64 0, .int .i64 0, .bool false, .int .i64 0, .nils], none⟩]
def p128_1 : List AOper := [⟨(some 5), .mv (.t 1), none⟩,
  ⟨(some 6), .lensl (.t 5), none⟩]
def p128_2 : List AOper := [⟨(some 8), .bin .eql .n (.t 6) (.c (.int .i64 0)), none⟩,
  ⟨(some 7), .mv (.t 8), none⟩]
def p128_3 : List AOper := [⟨(some 9), .build [.int .i64 0, .nils, .int .i64 0, .int .i64 0, .bool false, .int .i64 0, .nils] [], none⟩,
  ⟨none, .st 7 (.t 4) (.t 9), none⟩]
def p128_4 : List AOper := [⟨(some 11), .bin .eql .n (.t 6) (.c (.int .i64 1)), none⟩,
  ⟨(some 10), .mv (.t 11), none⟩]
def p128_5 : List AOper := [⟨(some 12), .mv (.t 1), none⟩,
  ⟨(some 13), .iad 7 (.t 12) (.c (.int .i64 0)), none⟩,
  ⟨(some 14), .ldn 7 (.t 13), none⟩,
  ⟨none, .st 7 (.t 4) (.t 14), none⟩]
def p128_6 : List AOper := [⟨(some 15), .mv (.t 0), none⟩,
  ⟨(some 16), .mv (.t 1), none⟩,
  ⟨(some 17), .build [.int .i64 0, .nils, .int .i64 0, .int .i64 0, .bool false, .int .i64 0, .nils] [(0, 1, .t 15), (6, 1, .t 16)], none⟩,
  ⟨none, .st 7 (.t 4) (.t 17), none⟩]
def p128 : AFun := ⟨18, .seq (.region p128_0) (.seq (.seq (.region p128_1) (.block 0 (.seq (.region p128_2) (.cond (.t 7) (.seq (.region p128_3) (.ret)) (.seq (.region p128_4) (.cond (.t 10) (.seq (.region p128_5) (.ret)) (.skip))))))) (.seq (.region p128_6) (.ret))),
  [.ldn 7 (.t 4)]⟩

/- 129 waxwork/simple.flat -/
def p129_0 : List AOper := [⟨(some 4), .mv (.c (.nils)), none⟩]
def p129_1 : List AOper := [⟨(some 5), .mv (.c (.nils)), none⟩]
def p129_2 : List AOper := [⟨(some 8), .mv (.t 1), none⟩,
  ⟨(some 9), .lensl (.t 8), none⟩,
  ⟨(some 10), .mv (.c (.int .i64 0)), none⟩]
def p129_3 : List AOper := [⟨(some 11), .bin .lss .n (.t 10) (.t 9), none⟩]
def p129_4 : List AOper := [⟨(some 12), .iad 7 (.t 8) (.t 10), none⟩,
  ⟨(some 13), .ldn 7 (.t 12), none⟩,
  ⟨(some 7), .alloc [.int .i64 0, .nils, .int .i64 0, .int .i64 0, .bool false, .int .i64 0, .nils], none⟩,
  ⟨none, .st 7 (.t 7) (.t 13), none⟩]
def p129_5 : List AOper := [⟨(some 14), .fad 0 (.t 7), none⟩,
  ⟨(some 15), .ld (.t 14), none⟩,
  ⟨(some 16), .mv (.t 0), none⟩,
  ⟨(some 17), .bin .eql .n (.t 15) (.t 16), none⟩]
def p129_6 : List AOper := [⟨(some 18), .mv (.t 5), none⟩,
  ⟨(some 19), .fad 6 (.t 7), none⟩,
  ⟨(some 20), .ld (.t 19), none⟩,
  ⟨(some 21), .app 7 (.t 18) (.t 20), none⟩,
  ⟨(some 5), .mv (.t 21), none⟩]
def p129_7 : List AOper := [⟨(some 22), .mv (.t 5), none⟩,
  ⟨(some 23), .ldn 7 (.t 7), none⟩,
  ⟨(some 24), .bslice 7 1 [.int .i64 0, .nils, .int .i64 0, .int .i64 0, .bool false, .int .i64 0, .nils] [(0, 7, .t 23)], none⟩,
  ⟨(some 25), .app 7 (.t 22) (.t 24), none⟩,
  ⟨(some 5), .mv (.t 25), none⟩]
def p129_8 : List AOper := [⟨(some 26), .bin .add .n (.t 10) (.c (.int .i64 1)), none⟩,
  ⟨(some 10), .mv (.t 26), none⟩]
def p129_9 : List AOper := [⟨(some 27), .mv (.t 5), none⟩,
  ⟨(some 4), .mv (.t 27), none⟩]
def p129 : AFun := ⟨28, .seq (.region p129_0) (.seq (.region p129_1) (.seq (.seq (.region p129_2) (.block 0 (.loop (.seq (.region p129_3) (.seq (.cond (.t 11) (.skip) (.exit 0)) (.seq (.block 1 (.seq (.region p129_4) (.seq (.region p129_5) (.cond (.t 17) (.region p129_6) (.region p129_7))))) (.region p129_8))))))) (.seq (.region p129_9) (.ret)))),
  [.mv (.t 4)]⟩

/- 130 waxwork/simple.times$1 -/
def p130_0 : List AOper := [⟨(some 6), .box (.t 2), none⟩,
  ⟨(some 7), .alloc [.int .i64 0, .nils, .int .i64 0, .int .i64 0, .bool false, .int .i64 0, .nils], none⟩]
def p130_1 : List AOper := [⟨(some 8), .mv (.t 0), none⟩,
  ⟨(some 9), .mv (.t 1), none⟩,
  ⟨(some 10), .fad 4 (.t 3), none⟩,
  ⟨(some 11), .ld (.t 10), none⟩,
  ⟨(some 12), .ldn 7 (.t 6), none⟩,
  ⟨(some 13), .bslice 7 1 [.int .i64 0, .nils, .int .i64 0, .int .i64 0, .bool false, .int .i64 0, .nils] [(0, 7, .t 12)], none⟩,
  ⟨(some 14), .build [.int .i64 0, .nils, .int .i64 0, .int .i64 0, .bool false, .int .i64 0, .nils] [(0, 1, .c (.int .i64 8)), (2, 1, .t 8), (3, 1, .t 9), (4, 1, .t 11), (6, 1, .t 13)], none⟩,
  ⟨none, .st 7 (.t 7) (.t 14), none⟩]
def p130 : AFun := ⟨15, .seq (.region p130_0) (.seq (.region p130_1) (.ret)),
  [.ldn 7 (.t 7)]⟩

/- 131 slices.Repeat[[]waxwork/syntax.Node,waxwork/syntax.Node] -/
def p131_0 : List AOper := [⟨(some 4), .mv (.c (.nils)), none⟩]
def p131_1 : List AOper := [⟨(some 9), .mv (.t 1), none⟩,
  ⟨(some 10), .bin .lss .n (.t 9) (.c (.int .i64 0)), none⟩]
def p131_2 : List AOper := [⟨(some 11), .mkif 9 (.c (.str [99, 97, 110, 110, 111, 116, 32, 98, 101, 32, 110, 101, 103, 97, 116, 105, 118, 101])), none⟩,
  ⟨none, .pan (.t 11), none⟩]
def p131_3 : List AOper := [⟨(some 13), .mv (.t 0), none⟩,
  ⟨(some 14), .lensl (.t 13), none⟩,
  ⟨(some 15), .cvi .u64 (.t 14), none⟩,
  ⟨(some 16), .mv (.t 1), none⟩,
  ⟨(some 17), .cvi .u64 (.t 16), none⟩,
  ⟨(some 18), .call 57 [.t 15, .t 17], none⟩,
  ⟨(some 12), .mv (.t 18), none⟩,
  ⟨(some 19), .ext (.t 12) 0, none⟩,
  ⟨(some 20), .ext (.t 12) 1, none⟩,
  ⟨(some 5), .mv (.t 19), none⟩,
  ⟨(some 6), .mv (.t 20), none⟩]
def p131_4 : List AOper := [⟨(some 21), .mv (.t 5), none⟩,
  ⟨(some 22), .bin .gtr .n (.t 21) (.c (.int .u64 0)), none⟩,
  ⟨(some 23), .mv (.t 22), none⟩,
  ⟨(some 24), .mv (.t 6), (some (23, false))⟩,
  ⟨(some 25), .bin .gtr .n (.t 24) (.c (.int .u64 9223372036854775807)), (some (23, false))⟩,
  ⟨(some 26), .pick (.t 23) (.c (.bool true)) (.t 25), none⟩]
def p131_5 : List AOper := [⟨(some 27), .mkif 9 (.c (.str [116, 104, 101, 32, 114, 101, 115, 117, 108, 116, 32, 111, 102, 32, 40, 108, 101, 110, 40, 120, 41, 32, 42, 32, 99, 111, 117, 110, 116, 41, 32, 111, 118, 101, 114, 102, 108, 111, 119, 115])), none⟩,
  ⟨none, .pan (.t 27), none⟩]
def p131_6 : List AOper := [⟨(some 28), .mv (.t 6), none⟩,
  ⟨(some 29), .cvi .i64 (.t 28), none⟩,
  ⟨(some 30), .mksl 7 [.int .i64 0, .nils, .int .i64 0, .int .i64 0, .bool false, .int .i64 0, .nils] (.t 29) (.t 29), none⟩,
  ⟨(some 7), .mv (.t 30), none⟩]
def p131_7 : List AOper := [⟨(some 31), .mv (.t 7), none⟩,
  ⟨(some 32), .mv (.t 0), none⟩,
  ⟨(some 33), .cpy 7 (.t 31) (.t 32), none⟩,
  ⟨(some 8), .mv (.t 33), none⟩]
def p131_8 : List AOper := [⟨(some 34), .mv (.t 8), none⟩,
  ⟨(some 35), .mv (.t 7), none⟩,
  ⟨(some 36), .lensl (.t 35), none⟩,
  ⟨(some 37), .bin .lss .n (.t 34) (.t 36), none⟩]
def p131_9 : List DOp := [⟨0, ⟨(some 38), .mv (.t 8), none⟩, [], .pure⟩,
  ⟨1, ⟨(some 39), .mv (.t 7), none⟩, [], .pure⟩,
  ⟨2, ⟨(some 40), .mv (.t 8), none⟩, [], .pure⟩,
  ⟨3, ⟨(some 41), .slc 7 (.t 39) (some (.t 40)) none, none⟩, [1, 2], .pure⟩,
  ⟨4, ⟨(some 42), .mv (.t 7), none⟩, [], .pure⟩,
  ⟨5, ⟨(some 43), .mv (.t 8), none⟩, [], .pure⟩,
  ⟨6, ⟨(some 44), .slc 7 (.t 42) none (some (.t 43)), none⟩, [4, 5], .pure⟩,
  ⟨7, ⟨(some 45), .cpy 7 (.t 41) (.t 44), none⟩, [1, 2, 3, 4, 5, 6], .eff⟩,
  ⟨8, ⟨(some 46), .bin .add .n (.t 38) (.t 45), none⟩, [0, 1, 2, 3, 4, 5, 6, 7], .pure⟩,
  ⟨9, ⟨(some 8), .mv (.t 46), none⟩, [0, 1, 2, 3, 4, 5, 6, 7, 8], .pure⟩]
def p131_10 : List AOper := [⟨(some 47), .mv (.t 7), none⟩,
  ⟨(some 4), .mv (.t 47), none⟩]
def p131 : AFun := ⟨48, .seq (.region p131_0) (.seq (.seq (.region p131_1) (.cond (.t 10) (.region p131_2) (.skip))) (.seq (.region p131_3) (.seq (.seq (.region p131_4) (.cond (.t 26) (.region p131_5) (.skip))) (.seq (.region p131_6) (.seq (.region p131_7) (.seq (.block 0 (.loop (.seq (.seq (.region p131_8) (.cond (.t 37) (.skip) (.exit 0))) (.block 1 (.draw 0 p131_9))))) (.seq (.region p131_10) (.ret)))))))),
  [.mv (.t 4)]⟩

/- 132 slices.IndexFunc[[]waxwork/class.Range,waxwork/class.Range] -/
def p132_0 : List AOper := [⟨(some 4), .mv (.c (.int .i64 0)), none⟩]
def p132_1 : List AOper := [⟨(some 6), .mv (.t 0), none⟩,
  ⟨(some 7), .lensl (.t 6), none⟩,
  ⟨(some 8), .mv (.c (.int .i64 0)), none⟩]
def p132_2 : List AOper := [⟨(some 9), .bin .lss .n (.t 8) (.t 7), none⟩]
def p132_3 : List AOper := [⟨(some 10), .mv (.t 8), none⟩,
  ⟨(some 5), .mv (.t 10), none⟩]
def p132_4 : List AOper := [⟨(some 11), .mv (.t 1), none⟩,
  ⟨(some 12), .mv (.t 0), none⟩,
  ⟨(some 13), .mv (.t 5), none⟩,
  ⟨(some 14), .iad 2 (.t 12) (.t 13), none⟩,
  ⟨(some 15), .ldn 2 (.t 14), none⟩,
  ⟨(some 16), .callv (.t 11) [.t 15], none⟩]
def p132_5 : List AOper := [⟨(some 17), .mv (.t 5), none⟩,
  ⟨(some 4), .mv (.t 17), none⟩]
def p132_6 : List AOper := [⟨(some 18), .bin .add .n (.t 8) (.c (.int .i64 1)), none⟩,
  ⟨(some 8), .mv (.t 18), none⟩]
def p132_7 : List AOper := [⟨(some 4), .mv (.c (.int .i64 (-1))), none⟩]
def p132 : AFun := ⟨19, .seq (.region p132_0) (.seq (.seq (.region p132_1) (.block 0 (.loop (.seq (.region p132_2) (.seq (.cond (.t 9) (.skip) (.exit 0)) (.seq (.block 1 (.seq (.region p132_3) (.seq (.region p132_4) (.cond (.t 16) (.seq (.region p132_5) (.ret)) (.skip))))) (.region p132_6))))))) (.seq (.region p132_7) (.ret))),
  [.mv (.t 4)]⟩

/- 133 slices.pdqsortCmpFunc[waxwork/class.Range] -/
def p133_0 : List AOper := [⟨(some 10), .mv (.c (.bool true)), none⟩]
def p133_1 : List AOper := [⟨(some 11), .mv (.c (.bool true)), none⟩]
def p133_2 : List AOper := [⟨(some 21), .mv (.t 2), none⟩,
  ⟨(some 22), .mv (.t 1), none⟩,
  ⟨(some 23), .bin .sub .n (.t 21) (.t 22), none⟩,
  ⟨(some 12), .mv (.t 23), none⟩]
def p133_3 : List AOper := [⟨(some 24), .mv (.t 12), none⟩,
  ⟨(some 25), .bin .leq .n (.t 24) (.c (.int .i64 12)), none⟩]
def p133_4 : List AOper := [⟨(some 26), .mv (.t 0), none⟩,
  ⟨(some 27), .mv (.t 1), none⟩,
  ⟨(some 28), .mv (.t 2), none⟩,
  ⟨(some 29), .mv (.t 4), none⟩,
  ⟨(some 30), .call 149 [.t 26, .t 27, .t 28, .t 29], none⟩]
def p133_5 : List AOper := [⟨(some 31), .mv (.t 3), none⟩,
  ⟨(some 32), .bin .eql .n (.t 31) (.c (.int .i64 0)), none⟩]
def p133_6 : List AOper := [⟨(some 33), .mv (.t 0), none⟩,
  ⟨(some 34), .mv (.t 1), none⟩,
  ⟨(some 35), .mv (.t 2), none⟩,
  ⟨(some 36), .mv (.t 4), none⟩,
  ⟨(some 37), .call 150 [.t 33, .t 34, .t 35, .t 36], none⟩]
def p133_7 : List AOper := [⟨(some 38), .mv (.t 10), none⟩,
  ⟨(some 39), .not (.t 38), none⟩]
def p133_8 : List AOper := [⟨(some 40), .mv (.t 0), none⟩,
  ⟨(some 41), .mv (.t 1), none⟩,
  ⟨(some 42), .mv (.t 2), none⟩,
  ⟨(some 43), .mv (.t 4), none⟩,
  ⟨(some 44), .call 151 [.t 40, .t 41, .t 42, .t 43], none⟩]
def p133_9 : List AOper := [⟨(some 45), .mv (.t 3), none⟩,
  ⟨(some 46), .bin .sub .n (.t 45) (.c (.int .i64 1)), none⟩,
  ⟨(some 3), .mv (.t 46), none⟩]
def p133_10 : List AOper := [⟨(some 48), .mv (.t 0), none⟩,
  ⟨(some 49), .mv (.t 1), none⟩,
  ⟨(some 50), .mv (.t 2), none⟩,
  ⟨(some 51), .mv (.t 4), none⟩,
  ⟨(some 52), .call 152 [.t 48, .t 49, .t 50, .t 51], none⟩,
  ⟨(some 47), .mv (.t 52), none⟩,
  ⟨(some 53), .ext (.t 47) 0, none⟩,
  ⟨(some 54), .ext (.t 47) 1, none⟩,
  ⟨(some 13), .mv (.t 53), none⟩,
  ⟨(some 14), .mv (.t 54), none⟩]
def p133_11 : List AOper := [⟨(some 55), .mv (.t 14), none⟩,
  ⟨(some 56), .bin .eql .n (.t 55) (.c (.int .i64 2)), none⟩]
def p133_12 : List AOper := [⟨(some 57), .mv (.t 0), none⟩,
  ⟨(some 58), .mv (.t 1), none⟩,
  ⟨(some 59), .mv (.t 2), none⟩,
  ⟨(some 60), .mv (.t 4), none⟩,
  ⟨(some 61), .call 153 [.t 57, .t 58, .t 59, .t 60], none⟩]
def p133_13 : List AOper := [⟨(some 62), .mv (.t 2), none⟩,
  ⟨(some 63), .bin .sub .n (.t 62) (.c (.int .i64 1)), none⟩,
  ⟨(some 64), .mv (.t 13), none⟩,
  ⟨(some 65), .mv (.t 1), none⟩,
  ⟨(some 66), .bin .sub .n (.t 64) (.t 65), none⟩,
  ⟨(some 67), .bin .sub .n (.t 63) (.t 66), none⟩,
  ⟨(some 13), .mv (.t 67), none⟩]
def p133_14 : List AOper := [⟨(some 14), .mv (.c (.int .i64 1)), none⟩]
def p133_15 : List AOper := [⟨(some 68), .mv (.t 10), none⟩,
  ⟨(some 69), .mv (.t 68), none⟩,
  ⟨(some 70), .mv (.t 11), (some (69, true))⟩,
  ⟨(some 71), .pick (.t 69) (.t 70) (.c (.bool false)), none⟩,
  ⟨(some 72), .mv (.t 71), none⟩,
  ⟨(some 73), .mv (.t 14), (some (72, true))⟩,
  ⟨(some 74), .bin .eql .n (.t 73) (.c (.int .i64 1)), (some (72, true))⟩,
  ⟨(some 75), .pick (.t 72) (.t 74) (.c (.bool false)), none⟩]
def p133_16 : List AOper := [⟨(some 76), .mv (.t 0), none⟩,
  ⟨(some 77), .mv (.t 1), none⟩,
  ⟨(some 78), .mv (.t 2), none⟩,
  ⟨(some 79), .mv (.t 4), none⟩,
  ⟨(some 80), .call 154 [.t 76, .t 77, .t 78, .t 79], none⟩]
def p133_17 : List DOp := [⟨0, ⟨(some 81), .mv (.t 1), none⟩, [], .pure⟩,
  ⟨1, ⟨(some 82), .bin .gtr .n (.t 81) (.c (.int .i64 0)), none⟩, [0], .pure⟩,
  ⟨2, ⟨(some 83), .mv (.t 82), none⟩, [0, 1], .pure⟩,
  ⟨3, ⟨(some 84), .mv (.t 4), (some (83, true))⟩, [0, 1, 2], .pure⟩,
  ⟨4, ⟨(some 85), .mv (.t 0), (some (83, true))⟩, [0, 1, 2], .pure⟩,
  ⟨5, ⟨(some 86), .mv (.t 1), (some (83, true))⟩, [0, 1, 2], .pure⟩,
  ⟨6, ⟨(some 87), .bin .sub .n (.t 86) (.c (.int .i64 1)), (some (83, true))⟩, [0, 1, 2, 5], .pure⟩,
  ⟨7, ⟨(some 88), .iad 2 (.t 85) (.t 87), (some (83, true))⟩, [0, 1, 2, 4, 5, 6], .pure⟩,
  ⟨8, ⟨(some 89), .ldn 2 (.t 88), (some (83, true))⟩, [0, 1, 2, 4, 5, 6, 7], .read⟩,
  ⟨9, ⟨(some 90), .mv (.t 0), (some (83, true))⟩, [0, 1, 2], .pure⟩,
  ⟨10, ⟨(some 91), .mv (.t 13), (some (83, true))⟩, [0, 1, 2], .pure⟩,
  ⟨11, ⟨(some 92), .iad 2 (.t 90) (.t 91), (some (83, true))⟩, [0, 1, 2, 9, 10], .pure⟩,
  ⟨12, ⟨(some 93), .ldn 2 (.t 92), (some (83, true))⟩, [0, 1, 2, 9, 10, 11], .read⟩,
  ⟨13, ⟨(some 94), .callv (.t 84) [.t 89, .t 93], (some (83, true))⟩, [0, 1, 2, 3, 4, 5, 6, 7, 8, 9, 10, 11, 12], .eff⟩,
  ⟨14, ⟨(some 95), .bin .lss .n (.t 94) (.c (.int .i64 0)), (some (83, true))⟩, [0, 1, 2, 3, 4, 5, 6, 7, 8, 9, 10, 11, 12, 13], .pure⟩,
  ⟨15, ⟨(some 96), .not (.t 95), (some (83, true))⟩, [0, 1, 2, 3, 4, 5, 6, 7, 8, 9, 10, 11, 12, 13, 14], .pure⟩,
  ⟨16, ⟨(some 97), .pick (.t 83) (.t 96) (.c (.bool false)), none⟩, [0, 1, 2, 3, 4, 5, 6, 7, 8, 9, 10, 11, 12, 13, 14, 15], .pure⟩]
def p133_18 : List AOper := [⟨(some 98), .mv (.t 0), none⟩,
  ⟨(some 99), .mv (.t 1), none⟩,
  ⟨(some 100), .mv (.t 2), none⟩,
  ⟨(some 101), .mv (.t 13), none⟩,
  ⟨(some 102), .mv (.t 4), none⟩,
  ⟨(some 103), .call 155 [.t 98, .t 99, .t 100, .t 101, .t 102], none⟩,
  ⟨(some 15), .mv (.t 103), none⟩]
def p133_19 : List AOper := [⟨(some 104), .mv (.t 15), none⟩,
  ⟨(some 1), .mv (.t 104), none⟩]
def p133_20 : List AOper := [⟨(some 106), .mv (.t 0), none⟩,
  ⟨(some 107), .mv (.t 1), none⟩,
  ⟨(some 108), .mv (.t 2), none⟩,
  ⟨(some 109), .mv (.t 13), none⟩,
  ⟨(some 110), .mv (.t 4), none⟩,
  ⟨(some 111), .call 156 [.t 106, .t 107, .t 108, .t 109, .t 110], none⟩,
  ⟨(some 105), .mv (.t 111), none⟩,
  ⟨(some 112), .ext (.t 105) 0, none⟩,
  ⟨(some 113), .ext (.t 105) 1, none⟩,
  ⟨(some 16), .mv (.t 112), none⟩,
  ⟨(some 17), .mv (.t 113), none⟩]
def p133_21 : List AOper := [⟨(some 114), .mv (.t 17), none⟩,
  ⟨(some 11), .mv (.t 114), none⟩]
def p133_22 : List AOper := [⟨(some 115), .mv (.t 16), none⟩,
  ⟨(some 116), .mv (.t 1), none⟩,
  ⟨(some 117), .bin .sub .n (.t 115) (.t 116), none⟩,
  ⟨(some 118), .mv (.t 2), none⟩,
  ⟨(some 119), .mv (.t 16), none⟩,
  ⟨(some 120), .bin .sub .n (.t 118) (.t 119), none⟩,
  ⟨(some 18), .mv (.t 117), none⟩,
  ⟨(some 19), .mv (.t 120), none⟩]
def p133_23 : List AOper := [⟨(some 121), .mv (.t 12), none⟩,
  ⟨(some 122), .bin .quo .n (.t 121) (.c (.int .i64 8)), none⟩,
  ⟨(some 20), .mv (.t 122), none⟩]
def p133_24 : List AOper := [⟨(some 123), .mv (.t 18), none⟩,
  ⟨(some 124), .mv (.t 19), none⟩,
  ⟨(some 125), .bin .lss .n (.t 123) (.t 124), none⟩]
def p133_25 : List AOper := [⟨(some 126), .mv (.t 18), none⟩,
  ⟨(some 127), .mv (.t 20), none⟩,
  ⟨(some 128), .bin .geq .n (.t 126) (.t 127), none⟩,
  ⟨(some 10), .mv (.t 128), none⟩]
def p133_26 : List AOper := [⟨(some 129), .mv (.t 0), none⟩,
  ⟨(some 130), .mv (.t 1), none⟩,
  ⟨(some 131), .mv (.t 16), none⟩,
  ⟨(some 132), .mv (.t 3), none⟩,
  ⟨(some 133), .mv (.t 4), none⟩,
  ⟨(some 134), .call 133 [.t 129, .t 130, .t 131, .t 132, .t 133], none⟩]
def p133_27 : List AOper := [⟨(some 135), .mv (.t 16), none⟩,
  ⟨(some 136), .bin .add .n (.t 135) (.c (.int .i64 1)), none⟩,
  ⟨(some 1), .mv (.t 136), none⟩]
def p133_28 : List AOper := [⟨(some 137), .mv (.t 19), none⟩,
  ⟨(some 138), .mv (.t 20), none⟩,
  ⟨(some 139), .bin .geq .n (.t 137) (.t 138), none⟩,
  ⟨(some 10), .mv (.t 139), none⟩]
def p133_29 : List AOper := [⟨(some 140), .mv (.t 0), none⟩,
  ⟨(some 141), .mv (.t 16), none⟩,
  ⟨(some 142), .bin .add .n (.t 141) (.c (.int .i64 1)), none⟩,
  ⟨(some 143), .mv (.t 2), none⟩,
  ⟨(some 144), .mv (.t 3), none⟩,
  ⟨(some 145), .mv (.t 4), none⟩,
  ⟨(some 146), .call 133 [.t 140, .t 142, .t 143, .t 144, .t 145], none⟩]
def p133_30 : List AOper := [⟨(some 147), .mv (.t 16), none⟩,
  ⟨(some 2), .mv (.t 147), none⟩]
def p133 : AFun := ⟨148, .seq (.region p133_0) (.seq (.region p133_1) (.block 0 (.loop (.block 1 (.seq (.region p133_2) (.seq (.seq (.region p133_3) (.cond (.t 25) (.seq (.region p133_4) (.ret)) (.skip))) (.seq (.seq (.region p133_5) (.cond (.t 32) (.seq (.region p133_6) (.ret)) (.skip))) (.seq (.seq (.region p133_7) (.cond (.t 39) (.seq (.region p133_8) (.region p133_9)) (.skip))) (.seq (.region p133_10) (.seq (.seq (.region p133_11) (.cond (.t 56) (.seq (.region p133_12) (.seq (.region p133_13) (.region p133_14))) (.skip))) (.seq (.seq (.region p133_15) (.cond (.t 75) (.seq (.region p133_16) (.cond (.t 80) (.ret) (.skip))) (.skip))) (.seq (.seq (.draw 0 p133_17) (.cond (.t 97) (.seq (.region p133_18) (.seq (.region p133_19) (.exit 1))) (.skip))) (.seq (.region p133_20) (.seq (.region p133_21) (.seq (.region p133_22) (.seq (.region p133_23) (.seq (.region p133_24) (.cond (.t 125) (.seq (.region p133_25) (.seq (.region p133_26) (.region p133_27))) (.seq (.region p133_28) (.seq (.region p133_29) (.region p133_30))))))))))))))))))))),
  []⟩

/- 134 math/bits.Len -/
def p134_0 : List AOper := [⟨(some 2), .mv (.c (.int .i64 0)), none⟩]
def p134_1 : List AOper := [⟨(some 3), .mv (.t 0), none⟩,
  ⟨(some 4), .cvi .u32 (.t 3), none⟩,
  ⟨(some 5), .call 157 [.t 4], none⟩,
  ⟨(some 2), .mv (.t 5), none⟩]
def p134_2 : List AOper := [⟨(some 6), .mv (.t 0), none⟩,
  ⟨(some 7), .call 158 [.t 6], none⟩,
  ⟨(some 2), .mv (.t 7), none⟩]
def p134 : AFun := ⟨8, .seq (.region p134_0) (.seq (.cond (.c (.bool false)) (.seq (.region p134_1) (.ret)) (.skip)) (.seq (.region p134_2) (.ret))),
  [.mv (.t 2)]⟩

/- 135 cmp.isNaN[rune] -/
def p135_0 : List AOper := [⟨(some 2), .mv (.c (.bool false)), none⟩]
def p135_1 : List AOper := [⟨(some 3), .mv (.t 0), none⟩,
  ⟨(some 4), .mv (.t 0), none⟩,
  ⟨(some 5), .bin .neq .n (.t 3) (.t 4), none⟩,
  ⟨(some 2), .mv (.t 5), none⟩]
def p135 : AFun := ⟨6, .seq (.region p135_0) (.seq (.region p135_1) (.ret)),
  [.mv (.t 2)]⟩

/- 136 unicode/utf8.DecodeRuneInString -/
def p136_0 : List AOper := [⟨(some 2), .mv (.c (.int .i32 0)), none⟩,
  ⟨(some 3), .mv (.c (.int .i64 0)), none⟩]
def p136_1 : List AOper := [⟨(some 4), .mv (.t 0), none⟩,
  ⟨(some 5), .bin .neq .n (.t 4) (.c (.str [])), none⟩,
  ⟨(some 6), .mv (.t 5), none⟩,
  ⟨(some 7), .mv (.t 0), (some (6, true))⟩,
  ⟨(some 8), .idxs (.t 7) (.c (.int .i64 0)), (some (6, true))⟩,
  ⟨(some 9), .bin .lss .n (.t 8) (.c (.int .u8 128)), (some (6, true))⟩,
  ⟨(some 10), .pick (.t 6) (.t 9) (.c (.bool false)), none⟩]
def p136_2 : List AOper := [⟨(some 11), .mv (.t 0), none⟩,
  ⟨(some 12), .idxs (.t 11) (.c (.int .i64 0)), none⟩,
  ⟨(some 13), .cvi .i32 (.t 12), none⟩,
  ⟨(some 2), .mv (.t 13), none⟩,
  ⟨(some 3), .mv (.c (.int .i64 1)), none⟩]
def p136_3 : List AOper := [⟨(some 15), .mv (.t 0), none⟩,
  ⟨(some 16), .call 159 [.t 15], none⟩,
  ⟨(some 14), .mv (.t 16), none⟩,
  ⟨(some 17), .ext (.t 14) 0, none⟩,
  ⟨(some 18), .ext (.t 14) 1, none⟩,
  ⟨(some 2), .mv (.t 17), none⟩,
  ⟨(some 3), .mv (.t 18), none⟩]
def p136 : AFun := ⟨19, .seq (.region p136_0) (.seq (.seq (.region p136_1) (.cond (.t 10) (.seq (.region p136_2) (.ret)) (.region p136_3))) (.ret)),
  [.mv (.t 2), .mv (.t 3)]⟩


end Go.Aw.C07
