import Derived.Test.YtkamgngihebpoaaGreatDoorHoRun
import Derived.Test.YtkamgngihebpoaaGreatDoorHoFC07a
/- The program's functions; their table; the table of types. -/
set_option linter.all false
noncomputable section
namespace Go.Aw.C07
open Go Go.Aw
def ttr : TTr TI := .node (.node (.node (.node (.node (.leaf) none (.node (.node (.node (.leaf) (some ⟨.fn, 1, [.nilf], true⟩) (.leaf)) (some ⟨.st [(0, 9)] false, 1, [.str []], true⟩) (.node (.leaf) (some ⟨.iface, 1, [.nili], true⟩) (.leaf))) none (.node (.leaf) (some ⟨.int .u64, 1, [.int .u64 0], true⟩) (.leaf)))) none (.node (.node (.node (.leaf) (some ⟨.fn, 1, [.nilf], true⟩) (.leaf)) none (.leaf)) (some ⟨.sl 102, 1, [.nils], true⟩) (.node (.node (.leaf) none (.node (.leaf) (some ⟨.ptr, 1, [.nilp], true⟩) (.leaf))) none (.leaf)))) (some ⟨.int .i64, 1, [.int .i64 0], true⟩) (.node (.node (.node (.node (.node (.leaf) (some ⟨.sl 157, 1, [.nils], true⟩) (.leaf)) none (.leaf)) none (.node (.leaf) none (.node (.leaf) (some ⟨.int .i64, 1, [.int .i64 0], true⟩) (.leaf)))) none (.node (.node (.node (.leaf) (some ⟨.int .u64, 1, [.int .u64 0], true⟩) (.leaf)) none (.node (.leaf) (some ⟨.int .u64, 1, [.int .u64 0], true⟩) (.leaf))) none (.leaf))) none (.node (.node (.leaf) none (.node (.leaf) (some ⟨.map 3 108, 1, [.nilm], true⟩) (.leaf))) (some ⟨.sl 5, 1, [.nils], true⟩) (.node (.node (.leaf) none (.node (.leaf) (some ⟨.st [(0, 5), (1, 5)] true, 2, [.int .u8 0, .int .u8 0], true⟩) (.leaf))) none (.node (.leaf) none (.node (.leaf) (some ⟨.arr 65 5, 65, (List.replicate 65 (.int .u8 0)), true⟩) (.leaf))))))) none (.node (.node (.node (.node (.node (.leaf) none (.node (.leaf) (some ⟨.int .i64, 1, [.int .i64 0], true⟩) (.leaf))) (some ⟨.sl 48, 1, [.nils], true⟩) (.node (.leaf) none (.node (.leaf) (some ⟨.sl 23, 1, [.nils], true⟩) (.leaf)))) none (.leaf)) (some ⟨.str, 1, [.str []], true⟩) (.node (.leaf) none (.node (.node (.leaf) none (.node (.leaf) (some ⟨.arr 256 5, 256, (List.replicate 256 (.int .u8 0)), true⟩) (.leaf))) none (.leaf)))) (some ⟨.int .u8, 1, [.int .u8 0], true⟩) (.node (.node (.node (.leaf) none (.node (.node (.leaf) (some ⟨.fn, 1, [.nilf], true⟩) (.leaf)) none (.leaf))) (some ⟨.int .i32, 1, [.int .i32 0], true⟩) (.node (.leaf) none (.node (.leaf) (some ⟨.sl 74, 1, [.nils], true⟩) (.node (.leaf) (some ⟨.ptr, 1, [.nilp], true⟩) (.leaf))))) none (.node (.leaf) none (.node (.node (.node (.leaf) (some ⟨.st [(0, 21), (1, 3)] true, 2, [.int .i32 0, .int .i64 0], true⟩) (.leaf)) none (.leaf)) none (.node (.leaf) none (.node (.leaf) (some ⟨.arr 32 5, 32, (List.replicate 32 (.int .u8 0)), true⟩) (.leaf)))))))) none (.node (.node (.node (.node (.node (.node (.node (.leaf) (some ⟨.st [(0, 34), (1, 3)] true, 2, [.int .i64 0, .int .i64 0], true⟩) (.leaf)) none (.leaf)) none (.leaf)) none (.node (.node (.node (.leaf) (some ⟨.int .u32, 1, [.int .u32 0], true⟩) (.leaf)) none (.leaf)) (some ⟨.st [(0, 3), (1, 46)] false, 2, [.int .i64 0, .nils], true⟩) (.node (.leaf) none (.node (.leaf) (some ⟨.arr 24 5, 24, (List.replicate 24 (.int .u8 0)), true⟩) (.leaf))))) none (.node (.node (.leaf) none (.node (.node (.leaf) (some ⟨.fn, 1, [.nilf], true⟩) (.leaf)) (some ⟨.st [(0, 21), (1, 3), (2, 3)] true, 3, [.int .i32 0, .int .i64 0, .int .i64 0], true⟩) (.leaf))) (some ⟨.sl 26, 1, [.nils], true⟩) (.node (.leaf) none (.node (.leaf) none (.node (.leaf) (some ⟨.st [(0, 9)] false, 1, [.str []], true⟩) (.leaf)))))) (some ⟨.bool, 1, [.bool false], true⟩) (.node (.leaf) none (.node (.node (.leaf) none (.node (.leaf) (some ⟨.st [] true, 0, [], true⟩) (.leaf))) none (.node (.node (.leaf) none (.node (.leaf) (some ⟨.arr 16 219, 32, (List.replicate 32 (.int .u8 0)), true⟩) (.leaf))) none (.leaf))))) (some ⟨.int .i64, 1, [.int .i64 0], true⟩) (.node (.node (.node (.node (.node (.node (.leaf) (some ⟨.ptr, 1, [.nilp], true⟩) (.leaf)) (some ⟨.sl 9, 1, [.nils], true⟩) (.leaf)) (some ⟨.int .i64, 1, [.int .i64 0], true⟩) (.leaf)) none (.leaf)) none (.node (.node (.node (.leaf) (some ⟨.fn, 1, [.nilf], true⟩) (.leaf)) none (.leaf)) (some ⟨.st [(0, 3), (1, 23), (2, 3), (3, 3), (4, 4), (5, 3), (6, 24)] false, 7, [.int .i64 0, .nils, .int .i64 0, .int .i64 0, .bool false, .int .i64 0, .nils], true⟩) (.node (.leaf) none (.node (.leaf) none (.node (.leaf) (some ⟨.arr 20 147, 20, (List.replicate 20 (.int .u64 0)), true⟩) (.leaf)))))) none (.node (.node (.node (.node (.node (.leaf) (some ⟨.st [(0, 131), (1, 3), (2, 3)] false, 3, [.nils, .int .i64 0, .int .i64 0], true⟩) (.leaf)) none (.leaf)) none (.node (.leaf) (some ⟨.st [(0, 21), (1, 21)] true, 2, [.int .i32 0, .int .i32 0], true⟩) (.node (.leaf) (some ⟨.ptr, 1, [.nilp], true⟩) (.leaf)))) (some ⟨.sl 102, 1, [.nils], true⟩) (.node (.leaf) none (.node (.leaf) none (.node (.leaf) (some ⟨.ptr, 1, [.nilp], true⟩) (.leaf))))) none (.node (.node (.leaf) (some ⟨.sl 3, 1, [.nils], true⟩) (.node (.leaf) none (.node (.leaf) (some ⟨.st [(0, 9), (1, 9), (2, 207)] false, 3, [.str [], .str [], .nili], true⟩) (.leaf)))) none (.node (.leaf) none (.node (.leaf) none (.node (.leaf) (some ⟨.arr 64 5, 64, (List.replicate 64 (.int .u8 0)), true⟩) (.leaf))))))))

/- 137 unicode/utf8.RuneLen -/
def p137_0 : List AOper := [⟨(some 2), .mv (.c (.int .i64 0)), none⟩]
def p137_1 : List AOper := [⟨(some 4), .mv (.t 0), none⟩,
  ⟨(some 5), .bin .lss .n (.t 4) (.c (.int .i32 0)), none⟩,
  ⟨(some 3), .mv (.t 5), none⟩]
def p137_2 : List AOper := [⟨(some 2), .mv (.c (.int .i64 (-1))), none⟩]
def p137_3 : List AOper := [⟨(some 7), .mv (.t 0), none⟩,
  ⟨(some 8), .bin .leq .n (.t 7) (.c (.int .i32 127)), none⟩,
  ⟨(some 6), .mv (.t 8), none⟩]
def p137_4 : List AOper := [⟨(some 2), .mv (.c (.int .i64 1)), none⟩]
def p137_5 : List AOper := [⟨(some 10), .mv (.t 0), none⟩,
  ⟨(some 11), .bin .leq .n (.t 10) (.c (.int .i32 2047)), none⟩,
  ⟨(some 9), .mv (.t 11), none⟩]
def p137_6 : List AOper := [⟨(some 2), .mv (.c (.int .i64 2)), none⟩]
def p137_7 : List AOper := [⟨(some 13), .mv (.t 0), none⟩,
  ⟨(some 14), .bin .leq .n (.c (.int .i32 55296)) (.t 13), none⟩,
  ⟨(some 15), .mv (.t 14), none⟩,
  ⟨(some 16), .mv (.t 0), (some (15, true))⟩,
  ⟨(some 17), .bin .leq .n (.t 16) (.c (.int .i32 57343)), (some (15, true))⟩,
  ⟨(some 18), .pick (.t 15) (.t 17) (.c (.bool false)), none⟩,
  ⟨(some 12), .mv (.t 18), none⟩]
def p137_8 : List AOper := [⟨(some 2), .mv (.c (.int .i64 (-1))), none⟩]
def p137_9 : List AOper := [⟨(some 20), .mv (.t 0), none⟩,
  ⟨(some 21), .bin .leq .n (.t 20) (.c (.int .i32 65535)), none⟩,
  ⟨(some 19), .mv (.t 21), none⟩]
def p137_10 : List AOper := [⟨(some 2), .mv (.c (.int .i64 3)), none⟩]
def p137_11 : List AOper := [⟨(some 23), .mv (.t 0), none⟩,
  ⟨(some 24), .bin .leq .n (.t 23) (.c (.int .i32 1114111)), none⟩,
  ⟨(some 22), .mv (.t 24), none⟩]
def p137_12 : List AOper := [⟨(some 2), .mv (.c (.int .i64 4)), none⟩]
def p137_13 : List AOper := [⟨(some 2), .mv (.c (.int .i64 (-1))), none⟩]
def p137 : AFun := ⟨25, .seq (.region p137_0) (.seq (.block 0 (.seq (.region p137_1) (.cond (.t 3) (.seq (.region p137_2) (.ret)) (.seq (.region p137_3) (.cond (.t 6) (.seq (.region p137_4) (.ret)) (.seq (.region p137_5) (.cond (.t 9) (.seq (.region p137_6) (.ret)) (.seq (.region p137_7) (.cond (.t 12) (.seq (.region p137_8) (.ret)) (.seq (.region p137_9) (.cond (.t 19) (.seq (.region p137_10) (.ret)) (.seq (.region p137_11) (.cond (.t 22) (.seq (.region p137_12) (.ret)) (.skip)))))))))))))) (.seq (.region p137_13) (.ret))),
  [.mv (.t 2)]⟩

/- 138 slices.IndexFunc[waxwork/class.Class,waxwork/class.Range] -/
def p138_0 : List AOper := [⟨(some 4), .mv (.c (.int .i64 0)), none⟩]
def p138_1 : List AOper := [⟨(some 6), .mv (.t 0), none⟩,
  ⟨(some 7), .lensl (.t 6), none⟩,
  ⟨(some 8), .mv (.c (.int .i64 0)), none⟩]
def p138_2 : List AOper := [⟨(some 9), .bin .lss .n (.t 8) (.t 7), none⟩]
def p138_3 : List AOper := [⟨(some 10), .mv (.t 8), none⟩,
  ⟨(some 5), .mv (.t 10), none⟩]
def p138_4 : List AOper := [⟨(some 11), .mv (.t 1), none⟩,
  ⟨(some 12), .mv (.t 0), none⟩,
  ⟨(some 13), .mv (.t 5), none⟩,
  ⟨(some 14), .iad 2 (.t 12) (.t 13), none⟩,
  ⟨(some 15), .ldn 2 (.t 14), none⟩,
  ⟨(some 16), .callv (.t 11) [.t 15], none⟩]
def p138_5 : List AOper := [⟨(some 17), .mv (.t 5), none⟩,
  ⟨(some 4), .mv (.t 17), none⟩]
def p138_6 : List AOper := [⟨(some 18), .bin .add .n (.t 8) (.c (.int .i64 1)), none⟩,
  ⟨(some 8), .mv (.t 18), none⟩]
def p138_7 : List AOper := [⟨(some 4), .mv (.c (.int .i64 (-1))), none⟩]
def p138 : AFun := ⟨19, .seq (.region p138_0) (.seq (.seq (.region p138_1) (.block 0 (.loop (.seq (.region p138_2) (.seq (.cond (.t 9) (.skip) (.exit 0)) (.seq (.block 1 (.seq (.region p138_3) (.seq (.region p138_4) (.cond (.t 16) (.seq (.region p138_5) (.ret)) (.skip))))) (.region p138_6))))))) (.seq (.region p138_7) (.ret))),
  [.mv (.t 4)]⟩

/- 141 (*waxwork/syntax.parser).next -/
def p141_0 : List AOper := [⟨(some 2), .mv (.c (.int .i32 0)), none⟩]
def p141_1 : List AOper := [⟨(some 4), .mv (.t 0), none⟩,
  ⟨(some 5), .call 98 [.t 4], none⟩,
  ⟨(some 3), .mv (.t 5), none⟩]
def p141_2 : List DOp := [⟨0, ⟨(some 6), .mv (.t 0), none⟩, [], .pure⟩,
  ⟨1, ⟨(some 7), .mv (.t 0), none⟩, [], .pure⟩,
  ⟨2, ⟨(some 8), .nilchk (.t 7), none⟩, [1], .pure⟩,
  ⟨3, ⟨(some 9), .fad 0 (.t 8), none⟩, [1, 2], .pure⟩,
  ⟨4, ⟨(some 10), .ld (.t 9), none⟩, [1, 2, 3], .read⟩,
  ⟨5, ⟨(some 11), .mv (.t 0), none⟩, [], .pure⟩,
  ⟨6, ⟨(some 12), .nilchk (.t 11), none⟩, [5], .pure⟩,
  ⟨7, ⟨(some 13), .fad 0 (.t 12), none⟩, [5, 6], .pure⟩,
  ⟨8, ⟨(some 14), .ld (.t 13), none⟩, [5, 6, 7], .read⟩,
  ⟨9, ⟨(some 15), .lensl (.t 14), none⟩, [5, 6, 7, 8], .pure⟩,
  ⟨10, ⟨(some 16), .mn [.t 15, .c (.int .i64 1)], none⟩, [5, 6, 7, 8, 9], .pure⟩,
  ⟨11, ⟨(some 17), .slc 2 (.t 10) (some (.t 16)) none, none⟩, [1, 2, 3, 4, 5, 6, 7, 8, 9, 10], .pure⟩,
  ⟨12, ⟨(some 18), .nilchk (.t 6), none⟩, [0, 1, 2, 3, 4, 5, 6, 7, 8, 9, 10, 11], .pure⟩,
  ⟨13, ⟨(some 19), .fad 0 (.t 18), none⟩, [0, 1, 2, 3, 4, 5, 6, 7, 8, 9, 10, 11, 12], .pure⟩,
  ⟨14, ⟨none, .st 1 (.t 19) (.t 17), none⟩, [0, 1, 2, 3, 4, 5, 6, 7, 8, 9, 10, 11, 12, 13], .eff⟩]
def p141_3 : List AOper := [⟨(some 20), .mv (.t 3), none⟩,
  ⟨(some 2), .mv (.t 20), none⟩]
def p141 : AFun := ⟨21, .seq (.region p141_0) (.seq (.region p141_1) (.seq (.draw 0 p141_2) (.seq (.region p141_3) (.ret)))),
  [.mv (.t 2)]⟩

/- 142 (*waxwork/syntax.parser).group -/
def p142_0 : List AOper := [⟨(some 4), .alloc [.int .i64 0, .nils, .int .i64 0, .int .i64 0, .bool false, .int .i64 0, .nils], none⟩]
def p142_1 : List AOper := [⟨(some 5), .mv (.c (.int .i64 0)), none⟩]
def p142_2 : List AOper := [⟨(some 7), .mv (.t 0), none⟩,
  ⟨(some 8), .call 99 [.t 7, .c (.str [63, 58])], none⟩,
  ⟨(some 9), .not (.t 8), none⟩]
def p142_3 : List AOper := [⟨(some 10), .mv (.t 0), none⟩,
  ⟨(some 11), .nilchk (.t 10), none⟩,
  ⟨(some 12), .fad 2 (.t 11), none⟩,
  ⟨(some 13), .ld (.t 12), none⟩,
  ⟨(some 14), .bin .add .n (.t 13) (.c (.int .i64 1)), none⟩,
  ⟨(some 15), .nilchk (.t 10), none⟩,
  ⟨(some 16), .fad 2 (.t 15), none⟩,
  ⟨none, .st 1 (.t 16) (.t 14), none⟩]
def p142_4 : List AOper := [⟨(some 17), .mv (.t 0), none⟩,
  ⟨(some 18), .nilchk (.t 17), none⟩,
  ⟨(some 19), .fad 2 (.t 18), none⟩,
  ⟨(some 20), .ld (.t 19), none⟩,
  ⟨(some 5), .mv (.t 20), none⟩]
def p142_5 : List AOper := [⟨(some 21), .mv (.t 5), none⟩,
  ⟨(some 22), .bin .gtr .n (.t 21) (.c (.int .i64 8)), none⟩]
def p142_6 : List AOper := [⟨(some 23), .mv (.t 1), none⟩,
  ⟨(some 24), .build [.int .i64 0, .int .i64 0] [(0, 1, .c (.int .i64 3)), (1, 1, .t 23)], none⟩,
  ⟨(some 25), .mkif 128 (.t 24), none⟩,
  ⟨none, .pan (.t 25), none⟩]
def p142_7 : List AOper := [⟨(some 26), .mv (.t 0), none⟩,
  ⟨(some 27), .call 72 [.t 26], none⟩,
  ⟨(some 6), .alloc [.int .i64 0, .nils, .int .i64 0, .int .i64 0, .bool false, .int .i64 0, .nils], none⟩,
  ⟨none, .st 7 (.t 6) (.t 27), none⟩]
def p142_8 : List DOp := [⟨0, ⟨(some 28), .mv (.t 0), none⟩, [], .pure⟩,
  ⟨2, ⟨(some 30), .mv (.t 0), none⟩, [], .pure⟩,
  ⟨3, ⟨(some 31), .nilchk (.t 30), none⟩, [2], .pure⟩,
  ⟨4, ⟨(some 32), .fad 1 (.t 31), none⟩, [2, 3], .pure⟩,
  ⟨5, ⟨(some 33), .ld (.t 32), none⟩, [2, 3, 4], .read⟩,
  ⟨1, ⟨(some 29), .call 99 [.t 28, .c (.str [41])], none⟩, [0], .eff⟩,
  ⟨6, ⟨(some 34), .call 73 [.t 29, .t 33], none⟩, [0, 1, 2, 3, 4, 5], .eff⟩]
def p142_9 : List AOper := [⟨(some 35), .mv (.t 5), none⟩,
  ⟨(some 36), .bin .gtr .n (.t 35) (.c (.int .i64 0)), none⟩]
def p142_10 : List AOper := [⟨(some 37), .mv (.t 5), none⟩,
  ⟨(some 38), .ldn 7 (.t 6), none⟩,
  ⟨(some 39), .bslice 7 1 [.int .i64 0, .nils, .int .i64 0, .int .i64 0, .bool false, .int .i64 0, .nils] [(0, 7, .t 38)], none⟩,
  ⟨(some 40), .build [.int .i64 0, .nils, .int .i64 0, .int .i64 0, .bool false, .int .i64 0, .nils] [(0, 1, .c (.int .i64 9)), (5, 1, .t 37), (6, 1, .t 39)], none⟩,
  ⟨none, .st 7 (.t 4) (.t 40), none⟩]
def p142_11 : List AOper := [⟨(some 41), .ldn 7 (.t 6), none⟩,
  ⟨none, .st 7 (.t 4) (.t 41), none⟩]
def p142 : AFun := ⟨42, .seq (.region p142_0) (.seq (.region p142_1) (.seq (.seq (.region p142_2) (.cond (.t 9) (.seq (.region p142_3) (.seq (.region p142_4) (.seq (.region p142_5) (.cond (.t 22) (.region p142_6) (.skip))))) (.skip))) (.seq (.region p142_7) (.seq (.draw 0 p142_8) (.seq (.seq (.region p142_9) (.cond (.t 36) (.seq (.region p142_10) (.ret)) (.skip))) (.seq (.region p142_11) (.ret))))))),
  [.ldn 7 (.t 4)]⟩

/- 143 waxwork/syntax.dot -/
def p143_0 : List AOper := [⟨(some 0), .mv (.c (.nils)), none⟩]
def p143_1 : List AOper := [⟨(some 1), .call 147 [.c (.int .i32 10), .c (.int .i32 10)], none⟩,
  ⟨(some 2), .bslice 2 1 [.int .i32 0, .int .i32 0] [(0, 2, .t 1)], none⟩,
  ⟨(some 3), .call 77 [.t 2], none⟩,
  ⟨(some 4), .call 50 [.t 3], none⟩,
  ⟨(some 0), .mv (.t 4), none⟩]
def p143 : AFun := ⟨5, .seq (.region p143_0) (.seq (.region p143_1) (.ret)),
  [.mv (.t 0)]⟩

/- 144 (*waxwork/syntax.parser).escaped -/
def p144_0 : List AOper := [⟨(some 4), .alloc [.int .i64 0, .nils, .int .i64 0, .int .i64 0, .bool false, .int .i64 0, .nils], none⟩]
def p144_1 : List AOper := [⟨(some 7), .mv (.t 0), none⟩,
  ⟨(some 8), .call 141 [.t 7], none⟩,
  ⟨(some 5), .mv (.t 8), none⟩]
def p144_2 : List AOper := [⟨(some 9), .mv (.t 5), none⟩]
def p144_6 : List AOper := [⟨(some 20), .bin .eql .n (.t 9) (.c (.int .i32 98)), none⟩,
  ⟨(some 19), .mv (.t 20), none⟩]
def p144_7 : List AOper := [⟨(some 21), .build [.int .i64 0, .nils, .int .i64 0, .int .i64 0, .bool false, .int .i64 0, .nils] [(0, 1, .c (.int .i64 4))], none⟩,
  ⟨none, .st 7 (.t 4) (.t 21), none⟩]
def p144_8 : List AOper := [⟨(some 23), .bin .eql .n (.t 9) (.c (.int .i32 66)), none⟩,
  ⟨(some 22), .mv (.t 23), none⟩]
def p144_9 : List AOper := [⟨(some 24), .build [.int .i64 0, .nils, .int .i64 0, .int .i64 0, .bool false, .int .i64 0, .nils] [(0, 1, .c (.int .i64 5))], none⟩,
  ⟨none, .st 7 (.t 4) (.t 24), none⟩]
def p144_3 : List AOper := [⟨(some 10), .mv (.t 5), none⟩,
  ⟨(some 11), .call 160 [.t 10], none⟩,
  ⟨(some 6), .mv (.t 11), none⟩]
def p144_4 : List AOper := [⟨(some 12), .mv (.t 6), none⟩,
  ⟨(some 13), .lensl (.t 12), none⟩,
  ⟨(some 14), .bin .gtr .n (.t 13) (.c (.int .i64 0)), none⟩,
  ⟨(some 15), .mv (.t 1), none⟩,
  ⟨(some 16), .call 73 [.t 14, .t 15], none⟩]
def p144_5 : List AOper := [⟨(some 17), .mv (.t 6), none⟩,
  ⟨(some 18), .build [.int .i64 0, .nils, .int .i64 0, .int .i64 0, .bool false, .int .i64 0, .nils] [(0, 1, .c (.int .i64 1)), (1, 1, .t 17)], none⟩,
  ⟨none, .st 7 (.t 4) (.t 18), none⟩]
def p144 : AFun := ⟨25, .seq (.region p144_0) (.seq (.region p144_1) (.seq (.region p144_2) (.block 0 (.seq (.region p144_6) (.cond (.t 19) (.seq (.region p144_7) (.ret)) (.seq (.region p144_8) (.cond (.t 22) (.seq (.region p144_9) (.ret)) (.seq (.region p144_3) (.seq (.region p144_4) (.seq (.region p144_5) (.ret))))))))))),
  [.ldn 7 (.t 4)]⟩

/- 145 (*waxwork/syntax.parser).class -/
def p145_0 : List AOper := [⟨(some 4), .alloc [.int .i64 0, .nils, .int .i64 0, .int .i64 0, .bool false, .int .i64 0, .nils], none⟩]
def p145_1 : List AOper := [⟨(some 7), .mv (.t 0), none⟩,
  ⟨(some 8), .call 99 [.t 7, .c (.str [94])], none⟩,
  ⟨(some 5), .mv (.t 8), none⟩]
def p145_2 : List AOper := [⟨(some 9), .mv (.t 0), none⟩,
  ⟨(some 10), .mv (.t 1), none⟩,
  ⟨(some 11), .call 161 [.t 9, .t 10], none⟩,
  ⟨(some 6), .mv (.t 11), none⟩]
def p145_3 : List AOper := [⟨(some 12), .mv (.t 0), none⟩,
  ⟨(some 13), .call 99 [.t 12, .c (.str [93])], none⟩,
  ⟨(some 14), .not (.t 13), none⟩]
def p145_4 : List AOper := [⟨(some 15), .mv (.t 6), none⟩,
  ⟨(some 16), .mv (.t 0), none⟩,
  ⟨(some 17), .mv (.t 1), none⟩,
  ⟨(some 18), .call 161 [.t 16, .t 17], none⟩,
  ⟨(some 19), .call 162 [.t 15, .t 18], none⟩,
  ⟨(some 6), .mv (.t 19), none⟩]
def p145_5 : List AOper := [⟨(some 20), .mv (.t 5), none⟩]
def p145_6 : List AOper := [⟨(some 21), .mv (.t 6), none⟩,
  ⟨(some 22), .call 50 [.t 21], none⟩,
  ⟨(some 6), .mv (.t 22), none⟩]
def p145_7 : List AOper := [⟨(some 23), .mv (.t 6), none⟩,
  ⟨(some 24), .lensl (.t 23), none⟩,
  ⟨(some 25), .bin .gtr .n (.t 24) (.c (.int .i64 0)), none⟩,
  ⟨(some 26), .mv (.t 25), none⟩,
  ⟨(some 27), .mv (.t 6), (some (26, true))⟩,
  ⟨(some 28), .lensl (.t 27), (some (26, true))⟩,
  ⟨(some 29), .bin .leq .n (.t 28) (.c (.int .i64 64)), (some (26, true))⟩,
  ⟨(some 30), .pick (.t 26) (.t 29) (.c (.bool false)), none⟩,
  ⟨(some 31), .mv (.t 1), none⟩,
  ⟨(some 32), .call 73 [.t 30, .t 31], none⟩]
def p145_8 : List AOper := [⟨(some 33), .mv (.t 6), none⟩,
  ⟨(some 34), .build [.int .i64 0, .nils, .int .i64 0, .int .i64 0, .bool false, .int .i64 0, .nils] [(0, 1, .c (.int .i64 1)), (1, 1, .t 33)], none⟩,
  ⟨none, .st 7 (.t 4) (.t 34), none⟩]
def p145 : AFun := ⟨35, .seq (.region p145_0) (.seq (.region p145_1) (.seq (.region p145_2) (.seq (.block 0 (.loop (.seq (.seq (.region p145_3) (.cond (.t 14) (.skip) (.exit 0))) (.block 1 (.region p145_4))))) (.seq (.seq (.region p145_5) (.cond (.t 20) (.region p145_6) (.skip))) (.seq (.region p145_7) (.seq (.region p145_8) (.ret))))))),
  [.ldn 7 (.t 4)]⟩

/- 146 waxwork/syntax.is -/
def p146_0 : List AOper := [⟨(some 4), .mv (.c (.bool false)), none⟩]
def p146_1 : List AOper := [⟨(some 5), .mv (.t 0), none⟩,
  ⟨(some 6), .bin .geq .n (.t 5) (.c (.int .i32 0)), none⟩,
  ⟨(some 7), .mv (.t 6), none⟩,
  ⟨(some 8), .mv (.t 1), (some (7, true))⟩,
  ⟨(some 9), .mv (.t 0), (some (7, true))⟩,
  ⟨(some 10), .call 163 [.t 8, .t 9], (some (7, true))⟩,
  ⟨(some 11), .pick (.t 7) (.t 10) (.c (.bool false)), none⟩,
  ⟨(some 4), .mv (.t 11), none⟩]
def p146 : AFun := ⟨12, .seq (.region p146_0) (.seq (.region p146_1) (.ret)),
  [.mv (.t 4)]⟩

/- 147 waxwork/syntax.run -/
def p147_0 : List AOper := [⟨(some 4), .alloc [.int .i32 0, .int .i32 0], none⟩]
def p147_1 : List AOper := [⟨(some 5), .mv (.t 0), none⟩,
  ⟨(some 6), .mv (.t 1), none⟩,
  ⟨(some 7), .build [.int .i32 0, .int .i32 0] [(0, 1, .t 5), (1, 1, .t 6)], none⟩,
  ⟨none, .st 2 (.t 4) (.t 7), none⟩]
def p147 : AFun := ⟨8, .seq (.region p147_0) (.seq (.region p147_1) (.ret)),
  [.ldn 2 (.t 4)]⟩

/- 148 (*waxwork/syntax.parser).number -/
def p148_0 : List AOper := [⟨(some 4), .mv (.c (.int .i64 0)), none⟩]
def p148_1 : List AOper := [⟨(some 5), .mv (.c (.nils)), none⟩]
def p148_2 : List AOper := [⟨(some 8), .mv (.t 0), none⟩,
  ⟨(some 9), .call 98 [.t 8], none⟩,
  ⟨(some 10), .call 146 [.t 9, .c (.str [48, 49, 50, 51, 52, 53, 54, 55, 56, 57])], none⟩]
def p148_3 : List AOper := [⟨(some 11), .mv (.t 5), none⟩,
  ⟨(some 12), .mv (.t 0), none⟩,
  ⟨(some 13), .call 141 [.t 12], none⟩,
  ⟨(some 14), .cvi .u8 (.t 13), none⟩,
  ⟨(some 15), .bslice 1 1 [.int .u8 0] [(0, 1, .t 14)], none⟩,
  ⟨(some 16), .app 1 (.t 11) (.t 15), none⟩,
  ⟨(some 5), .mv (.t 16), none⟩]
def p148_4 : List AOper := [⟨(some 18), .mv (.t 5), none⟩,
  ⟨(some 19), .cvbs (.t 18), none⟩,
  ⟨(some 20), .call 164 [.t 19], none⟩,
  ⟨(some 17), .mv (.t 20), none⟩,
  ⟨(some 21), .ext (.t 17) 0, none⟩,
  ⟨(some 22), .ext (.t 17) 1, none⟩,
  ⟨(some 6), .mv (.t 21), none⟩,
  ⟨(some 7), .mv (.t 22), none⟩]
def p148_5 : List DOp := [⟨0, ⟨(some 23), .mv (.t 7), none⟩, [], .pure⟩,
  ⟨1, ⟨(some 24), .bin .eql .i (.t 23) (.c (.nili)), none⟩, [0], .pure⟩,
  ⟨2, ⟨(some 25), .mv (.t 24), none⟩, [0, 1], .pure⟩,
  ⟨3, ⟨(some 26), .mv (.t 6), (some (25, true))⟩, [0, 1, 2], .pure⟩,
  ⟨4, ⟨(some 27), .bin .leq .n (.t 26) (.c (.int .i64 20)), (some (25, true))⟩, [0, 1, 2, 3], .pure⟩,
  ⟨5, ⟨(some 28), .pick (.t 25) (.t 27) (.c (.bool false)), none⟩, [0, 1, 2, 3, 4], .pure⟩,
  ⟨6, ⟨(some 29), .mv (.t 28), none⟩, [0, 1, 2, 3, 4, 5], .pure⟩,
  ⟨7, ⟨(some 30), .mv (.t 6), (some (29, true))⟩, [0, 1, 2, 3, 4, 5, 6], .pure⟩,
  ⟨9, ⟨(some 32), .mv (.t 5), (some (29, true))⟩, [0, 1, 2, 3, 4, 5, 6], .pure⟩,
  ⟨10, ⟨(some 33), .cvbs (.t 32), (some (29, true))⟩, [0, 1, 2, 3, 4, 5, 6, 9], .read⟩,
  ⟨13, ⟨(some 36), .mv (.t 1), none⟩, [], .pure⟩,
  ⟨8, ⟨(some 31), .call 165 [.t 30], (some (29, true))⟩, [0, 1, 2, 3, 4, 5, 6, 7], .eff⟩,
  ⟨11, ⟨(some 34), .bin .eql .n (.t 31) (.t 33), (some (29, true))⟩, [0, 1, 2, 3, 4, 5, 6, 7, 8, 9, 10], .pure⟩,
  ⟨12, ⟨(some 35), .pick (.t 29) (.t 34) (.c (.bool false)), none⟩, [0, 1, 2, 3, 4, 5, 6, 7, 8, 9, 10, 11], .pure⟩,
  ⟨14, ⟨(some 37), .call 73 [.t 35, .t 36], none⟩, [0, 1, 2, 3, 4, 5, 6, 7, 8, 9, 10, 11, 12, 13], .eff⟩]
def p148_6 : List AOper := [⟨(some 38), .mv (.t 6), none⟩,
  ⟨(some 4), .mv (.t 38), none⟩]
def p148 : AFun := ⟨39, .seq (.region p148_0) (.seq (.region p148_1) (.seq (.block 0 (.loop (.seq (.seq (.region p148_2) (.cond (.t 10) (.skip) (.exit 0))) (.block 1 (.region p148_3))))) (.seq (.region p148_4) (.seq (.draw 0 p148_5) (.seq (.region p148_6) (.ret)))))),
  [.mv (.t 4)]⟩

/- 149 slices.insertionSortCmpFunc[waxwork/class.Range] -/
def p149_0 : List AOper := [⟨(some 10), .mv (.t 1), none⟩,
  ⟨(some 11), .bin .add .n (.t 10) (.c (.int .i64 1)), none⟩,
  ⟨(some 8), .mv (.t 11), none⟩]
def p149_1 : List AOper := [⟨(some 12), .mv (.t 8), none⟩,
  ⟨(some 13), .mv (.t 2), none⟩,
  ⟨(some 14), .bin .lss .n (.t 12) (.t 13), none⟩]
def p149_3 : List AOper := [⟨(some 17), .mv (.t 8), none⟩,
  ⟨(some 9), .mv (.t 17), none⟩]
def p149_4 : List DOp := [⟨0, ⟨(some 18), .mv (.t 9), none⟩, [], .pure⟩,
  ⟨1, ⟨(some 19), .mv (.t 1), none⟩, [], .pure⟩,
  ⟨2, ⟨(some 20), .bin .gtr .n (.t 18) (.t 19), none⟩, [0, 1], .pure⟩,
  ⟨3, ⟨(some 21), .mv (.t 20), none⟩, [0, 1, 2], .pure⟩,
  ⟨4, ⟨(some 22), .mv (.t 3), (some (21, true))⟩, [0, 1, 2, 3], .pure⟩,
  ⟨5, ⟨(some 23), .mv (.t 0), (some (21, true))⟩, [0, 1, 2, 3], .pure⟩,
  ⟨6, ⟨(some 24), .mv (.t 9), (some (21, true))⟩, [0, 1, 2, 3], .pure⟩,
  ⟨7, ⟨(some 25), .iad 2 (.t 23) (.t 24), (some (21, true))⟩, [0, 1, 2, 3, 5, 6], .pure⟩,
  ⟨8, ⟨(some 26), .ldn 2 (.t 25), (some (21, true))⟩, [0, 1, 2, 3, 5, 6, 7], .read⟩,
  ⟨9, ⟨(some 27), .mv (.t 0), (some (21, true))⟩, [0, 1, 2, 3], .pure⟩,
  ⟨10, ⟨(some 28), .mv (.t 9), (some (21, true))⟩, [0, 1, 2, 3], .pure⟩,
  ⟨11, ⟨(some 29), .bin .sub .n (.t 28) (.c (.int .i64 1)), (some (21, true))⟩, [0, 1, 2, 3, 10], .pure⟩,
  ⟨12, ⟨(some 30), .iad 2 (.t 27) (.t 29), (some (21, true))⟩, [0, 1, 2, 3, 9, 10, 11], .pure⟩,
  ⟨13, ⟨(some 31), .ldn 2 (.t 30), (some (21, true))⟩, [0, 1, 2, 3, 9, 10, 11, 12], .read⟩,
  ⟨14, ⟨(some 32), .callv (.t 22) [.t 26, .t 31], (some (21, true))⟩, [0, 1, 2, 3, 4, 5, 6, 7, 8, 9, 10, 11, 12, 13], .eff⟩,
  ⟨15, ⟨(some 33), .bin .lss .n (.t 32) (.c (.int .i64 0)), (some (21, true))⟩, [0, 1, 2, 3, 4, 5, 6, 7, 8, 9, 10, 11, 12, 13, 14], .pure⟩,
  ⟨16, ⟨(some 34), .pick (.t 21) (.t 33) (.c (.bool false)), none⟩, [0, 1, 2, 3, 4, 5, 6, 7, 8, 9, 10, 11, 12, 13, 14, 15], .pure⟩]
def p149_6 : List DOp := [⟨0, ⟨(some 37), .mv (.t 0), none⟩, [], .pure⟩,
  ⟨1, ⟨(some 38), .mv (.t 9), none⟩, [], .pure⟩,
  ⟨2, ⟨(some 39), .mv (.t 0), none⟩, [], .pure⟩,
  ⟨3, ⟨(some 40), .mv (.t 9), none⟩, [], .pure⟩,
  ⟨4, ⟨(some 41), .bin .sub .n (.t 40) (.c (.int .i64 1)), none⟩, [3], .pure⟩,
  ⟨5, ⟨(some 42), .mv (.t 0), none⟩, [], .pure⟩,
  ⟨6, ⟨(some 43), .mv (.t 9), none⟩, [], .pure⟩,
  ⟨7, ⟨(some 44), .bin .sub .n (.t 43) (.c (.int .i64 1)), none⟩, [6], .pure⟩,
  ⟨8, ⟨(some 45), .iad 2 (.t 42) (.t 44), none⟩, [5, 6, 7], .pure⟩,
  ⟨9, ⟨(some 46), .ldn 2 (.t 45), none⟩, [5, 6, 7, 8], .read⟩,
  ⟨10, ⟨(some 47), .mv (.t 0), none⟩, [], .pure⟩,
  ⟨11, ⟨(some 48), .mv (.t 9), none⟩, [], .pure⟩,
  ⟨12, ⟨(some 49), .iad 2 (.t 47) (.t 48), none⟩, [10, 11], .pure⟩,
  ⟨13, ⟨(some 50), .ldn 2 (.t 49), none⟩, [10, 11, 12], .read⟩,
  ⟨14, ⟨(some 51), .iad 2 (.t 37) (.t 38), none⟩, [0, 1, 5, 6, 7, 8, 9, 10, 11, 12, 13], .pure⟩,
  ⟨15, ⟨none, .st 2 (.t 51) (.t 46), none⟩, [0, 1, 5, 6, 7, 8, 9, 10, 11, 12, 13, 14], .eff⟩,
  ⟨16, ⟨(some 52), .iad 2 (.t 39) (.t 41), none⟩, [0, 1, 2, 3, 4, 5, 6, 7, 8, 9, 10, 11, 12, 13, 14, 15], .pure⟩,
  ⟨17, ⟨none, .st 2 (.t 52) (.t 50), none⟩, [0, 1, 2, 3, 4, 5, 6, 7, 8, 9, 10, 11, 12, 13, 14, 15, 16], .eff⟩]
def p149_5 : List AOper := [⟨(some 35), .mv (.t 9), none⟩,
  ⟨(some 36), .bin .sub .n (.t 35) (.c (.int .i64 1)), none⟩,
  ⟨(some 9), .mv (.t 36), none⟩]
def p149_2 : List AOper := [⟨(some 15), .mv (.t 8), none⟩,
  ⟨(some 16), .bin .add .n (.t 15) (.c (.int .i64 1)), none⟩,
  ⟨(some 8), .mv (.t 16), none⟩]
def p149 : AFun := ⟨53, .seq (.region p149_0) (.block 0 (.loop (.seq (.seq (.region p149_1) (.cond (.t 14) (.skip) (.exit 0))) (.seq (.block 1 (.seq (.region p149_3) (.block 2 (.loop (.seq (.seq (.draw 0 p149_4) (.cond (.t 34) (.skip) (.exit 2))) (.seq (.block 3 (.draw 0 p149_6)) (.region p149_5))))))) (.region p149_2))))),
  []⟩

/- 150 slices.heapSortCmpFunc[waxwork/class.Range] -/
def p150_0 : List AOper := [⟨(some 13), .mv (.t 1), none⟩,
  ⟨(some 8), .mv (.t 13), none⟩]
def p150_1 : List AOper := [⟨(some 9), .mv (.c (.int .i64 0)), none⟩]
def p150_2 : List AOper := [⟨(some 14), .mv (.t 2), none⟩,
  ⟨(some 15), .mv (.t 1), none⟩,
  ⟨(some 16), .bin .sub .n (.t 14) (.t 15), none⟩,
  ⟨(some 10), .mv (.t 16), none⟩]
def p150_3 : List AOper := [⟨(some 17), .mv (.t 10), none⟩,
  ⟨(some 18), .bin .sub .n (.t 17) (.c (.int .i64 1)), none⟩,
  ⟨(some 19), .bin .quo .n (.t 18) (.c (.int .i64 2)), none⟩,
  ⟨(some 11), .mv (.t 19), none⟩]
def p150_4 : List AOper := [⟨(some 20), .mv (.t 11), none⟩,
  ⟨(some 21), .bin .geq .n (.t 20) (.c (.int .i64 0)), none⟩]
def p150_6 : List AOper := [⟨(some 24), .mv (.t 0), none⟩,
  ⟨(some 25), .mv (.t 11), none⟩,
  ⟨(some 26), .mv (.t 10), none⟩,
  ⟨(some 27), .mv (.t 8), none⟩,
  ⟨(some 28), .mv (.t 3), none⟩,
  ⟨(some 29), .call 166 [.t 24, .t 25, .t 26, .t 27, .t 28], none⟩]
def p150_5 : List AOper := [⟨(some 22), .mv (.t 11), none⟩,
  ⟨(some 23), .bin .sub .n (.t 22) (.c (.int .i64 1)), none⟩,
  ⟨(some 11), .mv (.t 23), none⟩]
def p150_7 : List AOper := [⟨(some 30), .mv (.t 10), none⟩,
  ⟨(some 31), .bin .sub .n (.t 30) (.c (.int .i64 1)), none⟩,
  ⟨(some 12), .mv (.t 31), none⟩]
def p150_8 : List AOper := [⟨(some 32), .mv (.t 12), none⟩,
  ⟨(some 33), .bin .geq .n (.t 32) (.c (.int .i64 0)), none⟩]
def p150_10 : List DOp := [⟨0, ⟨(some 36), .mv (.t 0), none⟩, [], .pure⟩,
  ⟨1, ⟨(some 37), .mv (.t 8), none⟩, [], .pure⟩,
  ⟨2, ⟨(some 38), .mv (.t 0), none⟩, [], .pure⟩,
  ⟨3, ⟨(some 39), .mv (.t 8), none⟩, [], .pure⟩,
  ⟨4, ⟨(some 40), .mv (.t 12), none⟩, [], .pure⟩,
  ⟨5, ⟨(some 41), .bin .add .n (.t 39) (.t 40), none⟩, [3, 4], .pure⟩,
  ⟨6, ⟨(some 42), .mv (.t 0), none⟩, [], .pure⟩,
  ⟨7, ⟨(some 43), .mv (.t 8), none⟩, [], .pure⟩,
  ⟨8, ⟨(some 44), .mv (.t 12), none⟩, [], .pure⟩,
  ⟨9, ⟨(some 45), .bin .add .n (.t 43) (.t 44), none⟩, [7, 8], .pure⟩,
  ⟨10, ⟨(some 46), .iad 2 (.t 42) (.t 45), none⟩, [6, 7, 8, 9], .pure⟩,
  ⟨11, ⟨(some 47), .ldn 2 (.t 46), none⟩, [6, 7, 8, 9, 10], .read⟩,
  ⟨12, ⟨(some 48), .mv (.t 0), none⟩, [], .pure⟩,
  ⟨13, ⟨(some 49), .mv (.t 8), none⟩, [], .pure⟩,
  ⟨14, ⟨(some 50), .iad 2 (.t 48) (.t 49), none⟩, [12, 13], .pure⟩,
  ⟨15, ⟨(some 51), .ldn 2 (.t 50), none⟩, [12, 13, 14], .read⟩,
  ⟨16, ⟨(some 52), .iad 2 (.t 36) (.t 37), none⟩, [0, 1, 6, 7, 8, 9, 10, 11, 12, 13, 14, 15], .pure⟩,
  ⟨17, ⟨none, .st 2 (.t 52) (.t 47), none⟩, [0, 1, 6, 7, 8, 9, 10, 11, 12, 13, 14, 15, 16], .eff⟩,
  ⟨18, ⟨(some 53), .iad 2 (.t 38) (.t 41), none⟩, [0, 1, 2, 3, 4, 5, 6, 7, 8, 9, 10, 11, 12, 13, 14, 15, 16, 17], .pure⟩,
  ⟨19, ⟨none, .st 2 (.t 53) (.t 51), none⟩, [0, 1, 2, 3, 4, 5, 6, 7, 8, 9, 10, 11, 12, 13, 14, 15, 16, 17, 18], .eff⟩]
def p150_11 : List AOper := [⟨(some 54), .mv (.t 0), none⟩,
  ⟨(some 55), .mv (.t 9), none⟩,
  ⟨(some 56), .mv (.t 12), none⟩,
  ⟨(some 57), .mv (.t 8), none⟩,
  ⟨(some 58), .mv (.t 3), none⟩,
  ⟨(some 59), .call 166 [.t 54, .t 55, .t 56, .t 57, .t 58], none⟩]
def p150_9 : List AOper := [⟨(some 34), .mv (.t 12), none⟩,
  ⟨(some 35), .bin .sub .n (.t 34) (.c (.int .i64 1)), none⟩,
  ⟨(some 12), .mv (.t 35), none⟩]
def p150 : AFun := ⟨60, .seq (.region p150_0) (.seq (.region p150_1) (.seq (.region p150_2) (.seq (.seq (.region p150_3) (.block 0 (.loop (.seq (.seq (.region p150_4) (.cond (.t 21) (.skip) (.exit 0))) (.seq (.block 1 (.region p150_6)) (.region p150_5)))))) (.seq (.region p150_7) (.block 2 (.loop (.seq (.seq (.region p150_8) (.cond (.t 33) (.skip) (.exit 2))) (.seq (.block 3 (.seq (.draw 0 p150_10) (.region p150_11))) (.region p150_9))))))))),
  []⟩

/- 151 slices.breakPatternsCmpFunc[waxwork/class.Range] -/
def p151_0 : List AOper := [⟨(some 13), .mv (.t 2), none⟩,
  ⟨(some 14), .mv (.t 1), none⟩,
  ⟨(some 15), .bin .sub .n (.t 13) (.t 14), none⟩,
  ⟨(some 8), .mv (.t 15), none⟩]
def p151_1 : List AOper := [⟨(some 16), .mv (.t 8), none⟩,
  ⟨(some 17), .bin .geq .n (.t 16) (.c (.int .i64 8)), none⟩]
def p151_2 : List AOper := [⟨(some 18), .mv (.t 8), none⟩,
  ⟨(some 19), .cvi .u64 (.t 18), none⟩,
  ⟨(some 9), .alloc [.int .u64 0], none⟩,
  ⟨none, .st 1 (.t 9) (.t 19), none⟩]
def p151_3 : List AOper := [⟨(some 20), .mv (.t 8), none⟩,
  ⟨(some 21), .call 167 [.t 20], none⟩,
  ⟨(some 10), .mv (.t 21), none⟩]
def p151_4 : List AOper := [⟨(some 22), .mv (.t 1), none⟩,
  ⟨(some 23), .mv (.t 8), none⟩,
  ⟨(some 24), .bin .quo .n (.t 23) (.c (.int .i64 4)), none⟩,
  ⟨(some 25), .bin .mul .n (.t 24) (.c (.int .i64 2)), none⟩,
  ⟨(some 26), .bin .add .n (.t 22) (.t 25), none⟩,
  ⟨(some 27), .bin .sub .n (.t 26) (.c (.int .i64 1)), none⟩,
  ⟨(some 11), .mv (.t 27), none⟩]
def p151_5 : List AOper := [⟨(some 28), .mv (.t 11), none⟩,
  ⟨(some 29), .mv (.t 1), none⟩,
  ⟨(some 30), .mv (.t 8), none⟩,
  ⟨(some 31), .bin .quo .n (.t 30) (.c (.int .i64 4)), none⟩,
  ⟨(some 32), .bin .mul .n (.t 31) (.c (.int .i64 2)), none⟩,
  ⟨(some 33), .bin .add .n (.t 29) (.t 32), none⟩,
  ⟨(some 34), .bin .add .n (.t 33) (.c (.int .i64 1)), none⟩,
  ⟨(some 35), .bin .leq .n (.t 28) (.t 34), none⟩]
def p151_7 : List AOper := [⟨(some 38), .call 168 [.t 9], none⟩,
  ⟨(some 39), .mv (.t 10), none⟩,
  ⟨(some 40), .bin .sub .n (.t 39) (.c (.int .u64 1)), none⟩,
  ⟨(some 41), .bin .and .n (.t 38) (.t 40), none⟩,
  ⟨(some 42), .cvi .i64 (.t 41), none⟩,
  ⟨(some 12), .mv (.t 42), none⟩]
def p151_8 : List AOper := [⟨(some 43), .mv (.t 12), none⟩,
  ⟨(some 44), .mv (.t 8), none⟩,
  ⟨(some 45), .bin .geq .n (.t 43) (.t 44), none⟩]
def p151_9 : List AOper := [⟨(some 46), .mv (.t 12), none⟩,
  ⟨(some 47), .mv (.t 8), none⟩,
  ⟨(some 48), .bin .sub .n (.t 46) (.t 47), none⟩,
  ⟨(some 12), .mv (.t 48), none⟩]
def p151_10 : List DOp := [⟨0, ⟨(some 49), .mv (.t 0), none⟩, [], .pure⟩,
  ⟨1, ⟨(some 50), .mv (.t 11), none⟩, [], .pure⟩,
  ⟨2, ⟨(some 51), .mv (.t 0), none⟩, [], .pure⟩,
  ⟨3, ⟨(some 52), .mv (.t 1), none⟩, [], .pure⟩,
  ⟨4, ⟨(some 53), .mv (.t 12), none⟩, [], .pure⟩,
  ⟨5, ⟨(some 54), .bin .add .n (.t 52) (.t 53), none⟩, [3, 4], .pure⟩,
  ⟨6, ⟨(some 55), .mv (.t 0), none⟩, [], .pure⟩,
  ⟨7, ⟨(some 56), .mv (.t 1), none⟩, [], .pure⟩,
  ⟨8, ⟨(some 57), .mv (.t 12), none⟩, [], .pure⟩,
  ⟨9, ⟨(some 58), .bin .add .n (.t 56) (.t 57), none⟩, [7, 8], .pure⟩,
  ⟨10, ⟨(some 59), .iad 2 (.t 55) (.t 58), none⟩, [6, 7, 8, 9], .pure⟩,
  ⟨11, ⟨(some 60), .ldn 2 (.t 59), none⟩, [6, 7, 8, 9, 10], .read⟩,
  ⟨12, ⟨(some 61), .mv (.t 0), none⟩, [], .pure⟩,
  ⟨13, ⟨(some 62), .mv (.t 11), none⟩, [], .pure⟩,
  ⟨14, ⟨(some 63), .iad 2 (.t 61) (.t 62), none⟩, [12, 13], .pure⟩,
  ⟨15, ⟨(some 64), .ldn 2 (.t 63), none⟩, [12, 13, 14], .read⟩,
  ⟨16, ⟨(some 65), .iad 2 (.t 49) (.t 50), none⟩, [0, 1, 6, 7, 8, 9, 10, 11, 12, 13, 14, 15], .pure⟩,
  ⟨17, ⟨none, .st 2 (.t 65) (.t 60), none⟩, [0, 1, 6, 7, 8, 9, 10, 11, 12, 13, 14, 15, 16], .eff⟩,
  ⟨18, ⟨(some 66), .iad 2 (.t 51) (.t 54), none⟩, [0, 1, 2, 3, 4, 5, 6, 7, 8, 9, 10, 11, 12, 13, 14, 15, 16, 17], .pure⟩,
  ⟨19, ⟨none, .st 2 (.t 66) (.t 64), none⟩, [0, 1, 2, 3, 4, 5, 6, 7, 8, 9, 10, 11, 12, 13, 14, 15, 16, 17, 18], .eff⟩]
def p151_6 : List AOper := [⟨(some 36), .mv (.t 11), none⟩,
  ⟨(some 37), .bin .add .n (.t 36) (.c (.int .i64 1)), none⟩,
  ⟨(some 11), .mv (.t 37), none⟩]
def p151 : AFun := ⟨67, .seq (.region p151_0) (.seq (.region p151_1) (.cond (.t 17) (.seq (.region p151_2) (.seq (.region p151_3) (.seq (.region p151_4) (.block 0 (.loop (.seq (.seq (.region p151_5) (.cond (.t 35) (.skip) (.exit 0))) (.seq (.block 1 (.seq (.region p151_7) (.seq (.seq (.region p151_8) (.cond (.t 45) (.region p151_9) (.skip))) (.draw 0 p151_10)))) (.region p151_6)))))))) (.skip))),
  []⟩

/- 152 slices.choosePivotCmpFunc[waxwork/class.Range] -/
def p152_0 : List AOper := [⟨(some 8), .mv (.c (.int .i64 0)), none⟩,
  ⟨(some 9), .mv (.c (.int .i64 0)), none⟩]
def p152_1 : List AOper := [⟨(some 15), .mv (.t 2), none⟩,
  ⟨(some 16), .mv (.t 1), none⟩,
  ⟨(some 17), .bin .sub .n (.t 15) (.t 16), none⟩,
  ⟨(some 10), .mv (.t 17), none⟩]
def p152_2 : List AOper := [⟨(some 11), .alloc [.int .i64 0], none⟩]
def p152_3 : List AOper := [⟨(some 18), .mv (.t 1), none⟩,
  ⟨(some 19), .mv (.t 10), none⟩,
  ⟨(some 20), .bin .quo .n (.t 19) (.c (.int .i64 4)), none⟩,
  ⟨(some 21), .bin .mul .n (.t 20) (.c (.int .i64 1)), none⟩,
  ⟨(some 22), .bin .add .n (.t 18) (.t 21), none⟩,
  ⟨(some 12), .mv (.t 22), none⟩]
def p152_4 : List AOper := [⟨(some 23), .mv (.t 1), none⟩,
  ⟨(some 24), .mv (.t 10), none⟩,
  ⟨(some 25), .bin .quo .n (.t 24) (.c (.int .i64 4)), none⟩,
  ⟨(some 26), .bin .mul .n (.t 25) (.c (.int .i64 2)), none⟩,
  ⟨(some 27), .bin .add .n (.t 23) (.t 26), none⟩,
  ⟨(some 13), .mv (.t 27), none⟩]
def p152_5 : List AOper := [⟨(some 28), .mv (.t 1), none⟩,
  ⟨(some 29), .mv (.t 10), none⟩,
  ⟨(some 30), .bin .quo .n (.t 29) (.c (.int .i64 4)), none⟩,
  ⟨(some 31), .bin .mul .n (.t 30) (.c (.int .i64 3)), none⟩,
  ⟨(some 32), .bin .add .n (.t 28) (.t 31), none⟩,
  ⟨(some 14), .mv (.t 32), none⟩]
def p152_6 : List AOper := [⟨(some 33), .mv (.t 10), none⟩,
  ⟨(some 34), .bin .geq .n (.t 33) (.c (.int .i64 8)), none⟩]
def p152_7 : List AOper := [⟨(some 35), .mv (.t 10), none⟩,
  ⟨(some 36), .bin .geq .n (.t 35) (.c (.int .i64 50)), none⟩]
def p152_8 : List AOper := [⟨(some 37), .mv (.t 0), none⟩,
  ⟨(some 38), .mv (.t 12), none⟩,
  ⟨(some 39), .mv (.t 3), none⟩,
  ⟨(some 40), .call 169 [.t 37, .t 38, .t 11, .t 39], none⟩,
  ⟨(some 12), .mv (.t 40), none⟩]
def p152_9 : List AOper := [⟨(some 41), .mv (.t 0), none⟩,
  ⟨(some 42), .mv (.t 13), none⟩,
  ⟨(some 43), .mv (.t 3), none⟩,
  ⟨(some 44), .call 169 [.t 41, .t 42, .t 11, .t 43], none⟩,
  ⟨(some 13), .mv (.t 44), none⟩]
def p152_10 : List AOper := [⟨(some 45), .mv (.t 0), none⟩,
  ⟨(some 46), .mv (.t 14), none⟩,
  ⟨(some 47), .mv (.t 3), none⟩,
  ⟨(some 48), .call 169 [.t 45, .t 46, .t 11, .t 47], none⟩,
  ⟨(some 14), .mv (.t 48), none⟩]
def p152_11 : List AOper := [⟨(some 49), .mv (.t 0), none⟩,
  ⟨(some 50), .mv (.t 12), none⟩,
  ⟨(some 51), .mv (.t 13), none⟩,
  ⟨(some 52), .mv (.t 14), none⟩,
  ⟨(some 53), .mv (.t 3), none⟩,
  ⟨(some 54), .call 170 [.t 49, .t 50, .t 51, .t 52, .t 11, .t 53], none⟩,
  ⟨(some 13), .mv (.t 54), none⟩]
def p152_12 : List AOper := [⟨(some 55), .ld (.t 11), none⟩]
def p152_14 : List AOper := [⟨(some 58), .bin .eql .n (.t 55) (.c (.int .i64 0)), none⟩,
  ⟨(some 57), .mv (.t 58), none⟩]
def p152_15 : List AOper := [⟨(some 59), .mv (.t 13), none⟩,
  ⟨(some 8), .mv (.t 59), none⟩,
  ⟨(some 9), .mv (.c (.int .i64 1)), none⟩]
def p152_16 : List AOper := [⟨(some 61), .bin .eql .n (.t 55) (.c (.int .i64 12)), none⟩,
  ⟨(some 60), .mv (.t 61), none⟩]
def p152_17 : List AOper := [⟨(some 62), .mv (.t 13), none⟩,
  ⟨(some 8), .mv (.t 62), none⟩,
  ⟨(some 9), .mv (.c (.int .i64 2)), none⟩]
def p152_13 : List AOper := [⟨(some 56), .mv (.t 13), none⟩,
  ⟨(some 8), .mv (.t 56), none⟩,
  ⟨(some 9), .mv (.c (.int .i64 0)), none⟩]
def p152 : AFun := ⟨63, .seq (.region p152_0) (.seq (.region p152_1) (.seq (.region p152_2) (.seq (.region p152_3) (.seq (.region p152_4) (.seq (.region p152_5) (.seq (.seq (.region p152_6) (.cond (.t 34) (.seq (.seq (.region p152_7) (.cond (.t 36) (.seq (.region p152_8) (.seq (.region p152_9) (.region p152_10))) (.skip))) (.region p152_11)) (.skip))) (.seq (.region p152_12) (.block 0 (.seq (.region p152_14) (.cond (.t 57) (.seq (.region p152_15) (.ret)) (.seq (.region p152_16) (.cond (.t 60) (.seq (.region p152_17) (.ret)) (.seq (.region p152_13) (.ret)))))))))))))),
  [.mv (.t 8), .mv (.t 9)]⟩

/- 153 slices.reverseRangeCmpFunc[waxwork/class.Range] -/
def p153_0 : List AOper := [⟨(some 10), .mv (.t 1), none⟩,
  ⟨(some 8), .mv (.t 10), none⟩]
def p153_1 : List AOper := [⟨(some 11), .mv (.t 2), none⟩,
  ⟨(some 12), .bin .sub .n (.t 11) (.c (.int .i64 1)), none⟩,
  ⟨(some 9), .mv (.t 12), none⟩]
def p153_2 : List AOper := [⟨(some 13), .mv (.t 8), none⟩,
  ⟨(some 14), .mv (.t 9), none⟩,
  ⟨(some 15), .bin .lss .n (.t 13) (.t 14), none⟩]
def p153_3 : List DOp := [⟨0, ⟨(some 16), .mv (.t 0), none⟩, [], .pure⟩,
  ⟨1, ⟨(some 17), .mv (.t 8), none⟩, [], .pure⟩,
  ⟨2, ⟨(some 18), .mv (.t 0), none⟩, [], .pure⟩,
  ⟨3, ⟨(some 19), .mv (.t 9), none⟩, [], .pure⟩,
  ⟨4, ⟨(some 20), .mv (.t 0), none⟩, [], .pure⟩,
  ⟨5, ⟨(some 21), .mv (.t 9), none⟩, [], .pure⟩,
  ⟨6, ⟨(some 22), .iad 2 (.t 20) (.t 21), none⟩, [4, 5], .pure⟩,
  ⟨7, ⟨(some 23), .ldn 2 (.t 22), none⟩, [4, 5, 6], .read⟩,
  ⟨8, ⟨(some 24), .mv (.t 0), none⟩, [], .pure⟩,
  ⟨9, ⟨(some 25), .mv (.t 8), none⟩, [], .pure⟩,
  ⟨10, ⟨(some 26), .iad 2 (.t 24) (.t 25), none⟩, [8, 9], .pure⟩,
  ⟨11, ⟨(some 27), .ldn 2 (.t 26), none⟩, [8, 9, 10], .read⟩,
  ⟨12, ⟨(some 28), .iad 2 (.t 16) (.t 17), none⟩, [0, 1, 4, 5, 6, 7, 8, 9, 10, 11], .pure⟩,
  ⟨13, ⟨none, .st 2 (.t 28) (.t 23), none⟩, [0, 1, 4, 5, 6, 7, 8, 9, 10, 11, 12], .eff⟩,
  ⟨14, ⟨(some 29), .iad 2 (.t 18) (.t 19), none⟩, [0, 1, 2, 3, 4, 5, 6, 7, 8, 9, 10, 11, 12, 13], .pure⟩,
  ⟨15, ⟨none, .st 2 (.t 29) (.t 27), none⟩, [0, 1, 2, 3, 4, 5, 6, 7, 8, 9, 10, 11, 12, 13, 14], .eff⟩]
def p153_4 : List AOper := [⟨(some 30), .mv (.t 8), none⟩,
  ⟨(some 31), .bin .add .n (.t 30) (.c (.int .i64 1)), none⟩,
  ⟨(some 8), .mv (.t 31), none⟩]
def p153_5 : List AOper := [⟨(some 32), .mv (.t 9), none⟩,
  ⟨(some 33), .bin .sub .n (.t 32) (.c (.int .i64 1)), none⟩,
  ⟨(some 9), .mv (.t 33), none⟩]
def p153 : AFun := ⟨34, .seq (.region p153_0) (.seq (.region p153_1) (.block 0 (.loop (.seq (.seq (.region p153_2) (.cond (.t 15) (.skip) (.exit 0))) (.block 1 (.seq (.draw 0 p153_3) (.seq (.region p153_4) (.region p153_5)))))))),
  []⟩

/- 154 slices.partialInsertionSortCmpFunc[waxwork/class.Range] -/
def p154_0 : List AOper := [⟨(some 8), .mv (.c (.bool false)), none⟩]
def p154_1 : List AOper := [⟨(some 13), .mv (.t 1), none⟩,
  ⟨(some 14), .bin .add .n (.t 13) (.c (.int .i64 1)), none⟩,
  ⟨(some 9), .mv (.t 14), none⟩]
def p154_2 : List AOper := [⟨(some 10), .mv (.c (.int .i64 0)), none⟩]
def p154_3 : List AOper := [⟨(some 15), .mv (.t 10), none⟩,
  ⟨(some 16), .bin .lss .n (.t 15) (.c (.int .i64 5)), none⟩]
def p154_5 : List DOp := [⟨0, ⟨(some 19), .mv (.t 9), none⟩, [], .pure⟩,
  ⟨1, ⟨(some 20), .mv (.t 2), none⟩, [], .pure⟩,
  ⟨2, ⟨(some 21), .bin .lss .n (.t 19) (.t 20), none⟩, [0, 1], .pure⟩,
  ⟨3, ⟨(some 22), .mv (.t 21), none⟩, [0, 1, 2], .pure⟩,
  ⟨4, ⟨(some 23), .mv (.t 3), (some (22, true))⟩, [0, 1, 2, 3], .pure⟩,
  ⟨5, ⟨(some 24), .mv (.t 0), (some (22, true))⟩, [0, 1, 2, 3], .pure⟩,
  ⟨6, ⟨(some 25), .mv (.t 9), (some (22, true))⟩, [0, 1, 2, 3], .pure⟩,
  ⟨7, ⟨(some 26), .iad 2 (.t 24) (.t 25), (some (22, true))⟩, [0, 1, 2, 3, 5, 6], .pure⟩,
  ⟨8, ⟨(some 27), .ldn 2 (.t 26), (some (22, true))⟩, [0, 1, 2, 3, 5, 6, 7], .read⟩,
  ⟨9, ⟨(some 28), .mv (.t 0), (some (22, true))⟩, [0, 1, 2, 3], .pure⟩,
  ⟨10, ⟨(some 29), .mv (.t 9), (some (22, true))⟩, [0, 1, 2, 3], .pure⟩,
  ⟨11, ⟨(some 30), .bin .sub .n (.t 29) (.c (.int .i64 1)), (some (22, true))⟩, [0, 1, 2, 3, 10], .pure⟩,
  ⟨12, ⟨(some 31), .iad 2 (.t 28) (.t 30), (some (22, true))⟩, [0, 1, 2, 3, 9, 10, 11], .pure⟩,
  ⟨13, ⟨(some 32), .ldn 2 (.t 31), (some (22, true))⟩, [0, 1, 2, 3, 9, 10, 11, 12], .read⟩,
  ⟨14, ⟨(some 33), .callv (.t 23) [.t 27, .t 32], (some (22, true))⟩, [0, 1, 2, 3, 4, 5, 6, 7, 8, 9, 10, 11, 12, 13], .eff⟩,
  ⟨15, ⟨(some 34), .bin .lss .n (.t 33) (.c (.int .i64 0)), (some (22, true))⟩, [0, 1, 2, 3, 4, 5, 6, 7, 8, 9, 10, 11, 12, 13, 14], .pure⟩,
  ⟨16, ⟨(some 35), .not (.t 34), (some (22, true))⟩, [0, 1, 2, 3, 4, 5, 6, 7, 8, 9, 10, 11, 12, 13, 14, 15], .pure⟩,
  ⟨17, ⟨(some 36), .pick (.t 22) (.t 35) (.c (.bool false)), none⟩, [0, 1, 2, 3, 4, 5, 6, 7, 8, 9, 10, 11, 12, 13, 14, 15, 16], .pure⟩]
def p154_6 : List AOper := [⟨(some 37), .mv (.t 9), none⟩,
  ⟨(some 38), .bin .add .n (.t 37) (.c (.int .i64 1)), none⟩,
  ⟨(some 9), .mv (.t 38), none⟩]
def p154_7 : List AOper := [⟨(some 39), .mv (.t 9), none⟩,
  ⟨(some 40), .mv (.t 2), none⟩,
  ⟨(some 41), .bin .eql .n (.t 39) (.t 40), none⟩]
def p154_8 : List AOper := [⟨(some 8), .mv (.c (.bool true)), none⟩]
def p154_9 : List AOper := [⟨(some 42), .mv (.t 2), none⟩,
  ⟨(some 43), .mv (.t 1), none⟩,
  ⟨(some 44), .bin .sub .n (.t 42) (.t 43), none⟩,
  ⟨(some 45), .bin .lss .n (.t 44) (.c (.int .i64 50)), none⟩]
def p154_10 : List AOper := [⟨(some 8), .mv (.c (.bool false)), none⟩]
def p154_11 : List DOp := [⟨0, ⟨(some 46), .mv (.t 0), none⟩, [], .pure⟩,
  ⟨1, ⟨(some 47), .mv (.t 9), none⟩, [], .pure⟩,
  ⟨2, ⟨(some 48), .mv (.t 0), none⟩, [], .pure⟩,
  ⟨3, ⟨(some 49), .mv (.t 9), none⟩, [], .pure⟩,
  ⟨4, ⟨(some 50), .bin .sub .n (.t 49) (.c (.int .i64 1)), none⟩, [3], .pure⟩,
  ⟨5, ⟨(some 51), .mv (.t 0), none⟩, [], .pure⟩,
  ⟨6, ⟨(some 52), .mv (.t 9), none⟩, [], .pure⟩,
  ⟨7, ⟨(some 53), .bin .sub .n (.t 52) (.c (.int .i64 1)), none⟩, [6], .pure⟩,
  ⟨8, ⟨(some 54), .iad 2 (.t 51) (.t 53), none⟩, [5, 6, 7], .pure⟩,
  ⟨9, ⟨(some 55), .ldn 2 (.t 54), none⟩, [5, 6, 7, 8], .read⟩,
  ⟨10, ⟨(some 56), .mv (.t 0), none⟩, [], .pure⟩,
  ⟨11, ⟨(some 57), .mv (.t 9), none⟩, [], .pure⟩,
  ⟨12, ⟨(some 58), .iad 2 (.t 56) (.t 57), none⟩, [10, 11], .pure⟩,
  ⟨13, ⟨(some 59), .ldn 2 (.t 58), none⟩, [10, 11, 12], .read⟩,
  ⟨14, ⟨(some 60), .iad 2 (.t 46) (.t 47), none⟩, [0, 1, 5, 6, 7, 8, 9, 10, 11, 12, 13], .pure⟩,
  ⟨15, ⟨none, .st 2 (.t 60) (.t 55), none⟩, [0, 1, 5, 6, 7, 8, 9, 10, 11, 12, 13, 14], .eff⟩,
  ⟨16, ⟨(some 61), .iad 2 (.t 48) (.t 50), none⟩, [0, 1, 2, 3, 4, 5, 6, 7, 8, 9, 10, 11, 12, 13, 14, 15], .pure⟩,
  ⟨17, ⟨none, .st 2 (.t 61) (.t 59), none⟩, [0, 1, 2, 3, 4, 5, 6, 7, 8, 9, 10, 11, 12, 13, 14, 15, 16], .eff⟩]
def p154_12 : List AOper := [⟨(some 62), .mv (.t 9), none⟩,
  ⟨(some 63), .mv (.t 1), none⟩,
  ⟨(some 64), .bin .sub .n (.t 62) (.t 63), none⟩,
  ⟨(some 65), .bin .geq .n (.t 64) (.c (.int .i64 2)), none⟩]
def p154_13 : List AOper := [⟨(some 66), .mv (.t 9), none⟩,
  ⟨(some 67), .bin .sub .n (.t 66) (.c (.int .i64 1)), none⟩,
  ⟨(some 11), .mv (.t 67), none⟩]
def p154_14 : List AOper := [⟨(some 68), .mv (.t 11), none⟩,
  ⟨(some 69), .bin .geq .n (.t 68) (.c (.int .i64 1)), none⟩]
def p154_16 : List DOp := [⟨0, ⟨(some 72), .mv (.t 3), none⟩, [], .pure⟩,
  ⟨1, ⟨(some 73), .mv (.t 0), none⟩, [], .pure⟩,
  ⟨2, ⟨(some 74), .mv (.t 11), none⟩, [], .pure⟩,
  ⟨3, ⟨(some 75), .iad 2 (.t 73) (.t 74), none⟩, [1, 2], .pure⟩,
  ⟨4, ⟨(some 76), .ldn 2 (.t 75), none⟩, [1, 2, 3], .read⟩,
  ⟨5, ⟨(some 77), .mv (.t 0), none⟩, [], .pure⟩,
  ⟨6, ⟨(some 78), .mv (.t 11), none⟩, [], .pure⟩,
  ⟨7, ⟨(some 79), .bin .sub .n (.t 78) (.c (.int .i64 1)), none⟩, [6], .pure⟩,
  ⟨8, ⟨(some 80), .iad 2 (.t 77) (.t 79), none⟩, [5, 6, 7], .pure⟩,
  ⟨9, ⟨(some 81), .ldn 2 (.t 80), none⟩, [5, 6, 7, 8], .read⟩,
  ⟨10, ⟨(some 82), .callv (.t 72) [.t 76, .t 81], none⟩, [0, 1, 2, 3, 4, 5, 6, 7, 8, 9], .eff⟩,
  ⟨11, ⟨(some 83), .bin .lss .n (.t 82) (.c (.int .i64 0)), none⟩, [0, 1, 2, 3, 4, 5, 6, 7, 8, 9, 10], .pure⟩,
  ⟨12, ⟨(some 84), .not (.t 83), none⟩, [0, 1, 2, 3, 4, 5, 6, 7, 8, 9, 10, 11], .pure⟩]
def p154_17 : List DOp := [⟨0, ⟨(some 85), .mv (.t 0), none⟩, [], .pure⟩,
  ⟨1, ⟨(some 86), .mv (.t 11), none⟩, [], .pure⟩,
  ⟨2, ⟨(some 87), .mv (.t 0), none⟩, [], .pure⟩,
  ⟨3, ⟨(some 88), .mv (.t 11), none⟩, [], .pure⟩,
  ⟨4, ⟨(some 89), .bin .sub .n (.t 88) (.c (.int .i64 1)), none⟩, [3], .pure⟩,
  ⟨5, ⟨(some 90), .mv (.t 0), none⟩, [], .pure⟩,
  ⟨6, ⟨(some 91), .mv (.t 11), none⟩, [], .pure⟩,
  ⟨7, ⟨(some 92), .bin .sub .n (.t 91) (.c (.int .i64 1)), none⟩, [6], .pure⟩,
  ⟨8, ⟨(some 93), .iad 2 (.t 90) (.t 92), none⟩, [5, 6, 7], .pure⟩,
  ⟨9, ⟨(some 94), .ldn 2 (.t 93), none⟩, [5, 6, 7, 8], .read⟩,
  ⟨10, ⟨(some 95), .mv (.t 0), none⟩, [], .pure⟩,
  ⟨11, ⟨(some 96), .mv (.t 11), none⟩, [], .pure⟩,
  ⟨12, ⟨(some 97), .iad 2 (.t 95) (.t 96), none⟩, [10, 11], .pure⟩,
  ⟨13, ⟨(some 98), .ldn 2 (.t 97), none⟩, [10, 11, 12], .read⟩,
  ⟨14, ⟨(some 99), .iad 2 (.t 85) (.t 86), none⟩, [0, 1, 5, 6, 7, 8, 9, 10, 11, 12, 13], .pure⟩,
  ⟨15, ⟨none, .st 2 (.t 99) (.t 94), none⟩, [0, 1, 5, 6, 7, 8, 9, 10, 11, 12, 13, 14], .eff⟩,
  ⟨16, ⟨(some 100), .iad 2 (.t 87) (.t 89), none⟩, [0, 1, 2, 3, 4, 5, 6, 7, 8, 9, 10, 11, 12, 13, 14, 15], .pure⟩,
  ⟨17, ⟨none, .st 2 (.t 100) (.t 98), none⟩, [0, 1, 2, 3, 4, 5, 6, 7, 8, 9, 10, 11, 12, 13, 14, 15, 16], .eff⟩]
def p154_15 : List AOper := [⟨(some 70), .mv (.t 11), none⟩,
  ⟨(some 71), .bin .sub .n (.t 70) (.c (.int .i64 1)), none⟩,
  ⟨(some 11), .mv (.t 71), none⟩]
def p154_18 : List AOper := [⟨(some 101), .mv (.t 2), none⟩,
  ⟨(some 102), .mv (.t 9), none⟩,
  ⟨(some 103), .bin .sub .n (.t 101) (.t 102), none⟩,
  ⟨(some 104), .bin .geq .n (.t 103) (.c (.int .i64 2)), none⟩]
def p154_19 : List AOper := [⟨(some 105), .mv (.t 9), none⟩,
  ⟨(some 106), .bin .add .n (.t 105) (.c (.int .i64 1)), none⟩,
  ⟨(some 12), .mv (.t 106), none⟩]
def p154_20 : List AOper := [⟨(some 107), .mv (.t 12), none⟩,
  ⟨(some 108), .mv (.t 2), none⟩,
  ⟨(some 109), .bin .lss .n (.t 107) (.t 108), none⟩]
def p154_22 : List DOp := [⟨0, ⟨(some 112), .mv (.t 3), none⟩, [], .pure⟩,
  ⟨1, ⟨(some 113), .mv (.t 0), none⟩, [], .pure⟩,
  ⟨2, ⟨(some 114), .mv (.t 12), none⟩, [], .pure⟩,
  ⟨3, ⟨(some 115), .iad 2 (.t 113) (.t 114), none⟩, [1, 2], .pure⟩,
  ⟨4, ⟨(some 116), .ldn 2 (.t 115), none⟩, [1, 2, 3], .read⟩,
  ⟨5, ⟨(some 117), .mv (.t 0), none⟩, [], .pure⟩,
  ⟨6, ⟨(some 118), .mv (.t 12), none⟩, [], .pure⟩,
  ⟨7, ⟨(some 119), .bin .sub .n (.t 118) (.c (.int .i64 1)), none⟩, [6], .pure⟩,
  ⟨8, ⟨(some 120), .iad 2 (.t 117) (.t 119), none⟩, [5, 6, 7], .pure⟩,
  ⟨9, ⟨(some 121), .ldn 2 (.t 120), none⟩, [5, 6, 7, 8], .read⟩,
  ⟨10, ⟨(some 122), .callv (.t 112) [.t 116, .t 121], none⟩, [0, 1, 2, 3, 4, 5, 6, 7, 8, 9], .eff⟩,
  ⟨11, ⟨(some 123), .bin .lss .n (.t 122) (.c (.int .i64 0)), none⟩, [0, 1, 2, 3, 4, 5, 6, 7, 8, 9, 10], .pure⟩,
  ⟨12, ⟨(some 124), .not (.t 123), none⟩, [0, 1, 2, 3, 4, 5, 6, 7, 8, 9, 10, 11], .pure⟩]
def p154_23 : List DOp := [⟨0, ⟨(some 125), .mv (.t 0), none⟩, [], .pure⟩,
  ⟨1, ⟨(some 126), .mv (.t 12), none⟩, [], .pure⟩,
  ⟨2, ⟨(some 127), .mv (.t 0), none⟩, [], .pure⟩,
  ⟨3, ⟨(some 128), .mv (.t 12), none⟩, [], .pure⟩,
  ⟨4, ⟨(some 129), .bin .sub .n (.t 128) (.c (.int .i64 1)), none⟩, [3], .pure⟩,
  ⟨5, ⟨(some 130), .mv (.t 0), none⟩, [], .pure⟩,
  ⟨6, ⟨(some 131), .mv (.t 12), none⟩, [], .pure⟩,
  ⟨7, ⟨(some 132), .bin .sub .n (.t 131) (.c (.int .i64 1)), none⟩, [6], .pure⟩,
  ⟨8, ⟨(some 133), .iad 2 (.t 130) (.t 132), none⟩, [5, 6, 7], .pure⟩,
  ⟨9, ⟨(some 134), .ldn 2 (.t 133), none⟩, [5, 6, 7, 8], .read⟩,
  ⟨10, ⟨(some 135), .mv (.t 0), none⟩, [], .pure⟩,
  ⟨11, ⟨(some 136), .mv (.t 12), none⟩, [], .pure⟩,
  ⟨12, ⟨(some 137), .iad 2 (.t 135) (.t 136), none⟩, [10, 11], .pure⟩,
  ⟨13, ⟨(some 138), .ldn 2 (.t 137), none⟩, [10, 11, 12], .read⟩,
  ⟨14, ⟨(some 139), .iad 2 (.t 125) (.t 126), none⟩, [0, 1, 5, 6, 7, 8, 9, 10, 11, 12, 13], .pure⟩,
  ⟨15, ⟨none, .st 2 (.t 139) (.t 134), none⟩, [0, 1, 5, 6, 7, 8, 9, 10, 11, 12, 13, 14], .eff⟩,
  ⟨16, ⟨(some 140), .iad 2 (.t 127) (.t 129), none⟩, [0, 1, 2, 3, 4, 5, 6, 7, 8, 9, 10, 11, 12, 13, 14, 15], .pure⟩,
  ⟨17, ⟨none, .st 2 (.t 140) (.t 138), none⟩, [0, 1, 2, 3, 4, 5, 6, 7, 8, 9, 10, 11, 12, 13, 14, 15, 16], .eff⟩]
def p154_21 : List AOper := [⟨(some 110), .mv (.t 12), none⟩,
  ⟨(some 111), .bin .add .n (.t 110) (.c (.int .i64 1)), none⟩,
  ⟨(some 12), .mv (.t 111), none⟩]
def p154_4 : List AOper := [⟨(some 17), .mv (.t 10), none⟩,
  ⟨(some 18), .bin .add .n (.t 17) (.c (.int .i64 1)), none⟩,
  ⟨(some 10), .mv (.t 18), none⟩]
def p154_24 : List AOper := [⟨(some 8), .mv (.c (.bool false)), none⟩]
def p154 : AFun := ⟨141, .seq (.region p154_0) (.seq (.region p154_1) (.seq (.seq (.region p154_2) (.block 0 (.loop (.seq (.seq (.region p154_3) (.cond (.t 16) (.skip) (.exit 0))) (.seq (.block 1 (.seq (.block 2 (.loop (.seq (.seq (.draw 0 p154_5) (.cond (.t 36) (.skip) (.exit 2))) (.block 3 (.region p154_6))))) (.seq (.seq (.region p154_7) (.cond (.t 41) (.seq (.region p154_8) (.ret)) (.skip))) (.seq (.seq (.region p154_9) (.cond (.t 45) (.seq (.region p154_10) (.ret)) (.skip))) (.seq (.draw 0 p154_11) (.seq (.seq (.region p154_12) (.cond (.t 65) (.seq (.region p154_13) (.block 4 (.loop (.seq (.seq (.region p154_14) (.cond (.t 69) (.skip) (.exit 4))) (.seq (.block 5 (.seq (.seq (.draw 0 p154_16) (.cond (.t 84) (.exit 4) (.skip))) (.draw 0 p154_17))) (.region p154_15)))))) (.skip))) (.seq (.region p154_18) (.cond (.t 104) (.seq (.region p154_19) (.block 6 (.loop (.seq (.seq (.region p154_20) (.cond (.t 109) (.skip) (.exit 6))) (.seq (.block 7 (.seq (.seq (.draw 0 p154_22) (.cond (.t 124) (.exit 6) (.skip))) (.draw 0 p154_23))) (.region p154_21)))))) (.skip))))))))) (.region p154_4)))))) (.seq (.region p154_24) (.ret)))),
  [.mv (.t 8)]⟩

/- 155 slices.partitionEqualCmpFunc[waxwork/class.Range] -/
def p155_0 : List AOper := [⟨(some 10), .mv (.c (.int .i64 0)), none⟩]
def p155_1 : List DOp := [⟨0, ⟨(some 13), .mv (.t 0), none⟩, [], .pure⟩,
  ⟨1, ⟨(some 14), .mv (.t 1), none⟩, [], .pure⟩,
  ⟨2, ⟨(some 15), .mv (.t 0), none⟩, [], .pure⟩,
  ⟨3, ⟨(some 16), .mv (.t 3), none⟩, [], .pure⟩,
  ⟨4, ⟨(some 17), .mv (.t 0), none⟩, [], .pure⟩,
  ⟨5, ⟨(some 18), .mv (.t 3), none⟩, [], .pure⟩,
  ⟨6, ⟨(some 19), .iad 2 (.t 17) (.t 18), none⟩, [4, 5], .pure⟩,
  ⟨7, ⟨(some 20), .ldn 2 (.t 19), none⟩, [4, 5, 6], .read⟩,
  ⟨8, ⟨(some 21), .mv (.t 0), none⟩, [], .pure⟩,
  ⟨9, ⟨(some 22), .mv (.t 1), none⟩, [], .pure⟩,
  ⟨10, ⟨(some 23), .iad 2 (.t 21) (.t 22), none⟩, [8, 9], .pure⟩,
  ⟨11, ⟨(some 24), .ldn 2 (.t 23), none⟩, [8, 9, 10], .read⟩,
  ⟨12, ⟨(some 25), .iad 2 (.t 13) (.t 14), none⟩, [0, 1, 4, 5, 6, 7, 8, 9, 10, 11], .pure⟩,
  ⟨13, ⟨none, .st 2 (.t 25) (.t 20), none⟩, [0, 1, 4, 5, 6, 7, 8, 9, 10, 11, 12], .eff⟩,
  ⟨14, ⟨(some 26), .iad 2 (.t 15) (.t 16), none⟩, [0, 1, 2, 3, 4, 5, 6, 7, 8, 9, 10, 11, 12, 13], .pure⟩,
  ⟨15, ⟨none, .st 2 (.t 26) (.t 24), none⟩, [0, 1, 2, 3, 4, 5, 6, 7, 8, 9, 10, 11, 12, 13, 14], .eff⟩]
def p155_2 : List AOper := [⟨(some 27), .mv (.t 1), none⟩,
  ⟨(some 28), .bin .add .n (.t 27) (.c (.int .i64 1)), none⟩,
  ⟨(some 29), .mv (.t 2), none⟩,
  ⟨(some 30), .bin .sub .n (.t 29) (.c (.int .i64 1)), none⟩,
  ⟨(some 11), .mv (.t 28), none⟩,
  ⟨(some 12), .mv (.t 30), none⟩]
def p155_3 : List DOp := [⟨0, ⟨(some 31), .mv (.t 11), none⟩, [], .pure⟩,
  ⟨1, ⟨(some 32), .mv (.t 12), none⟩, [], .pure⟩,
  ⟨2, ⟨(some 33), .bin .leq .n (.t 31) (.t 32), none⟩, [0, 1], .pure⟩,
  ⟨3, ⟨(some 34), .mv (.t 33), none⟩, [0, 1, 2], .pure⟩,
  ⟨4, ⟨(some 35), .mv (.t 4), (some (34, true))⟩, [0, 1, 2, 3], .pure⟩,
  ⟨5, ⟨(some 36), .mv (.t 0), (some (34, true))⟩, [0, 1, 2, 3], .pure⟩,
  ⟨6, ⟨(some 37), .mv (.t 1), (some (34, true))⟩, [0, 1, 2, 3], .pure⟩,
  ⟨7, ⟨(some 38), .iad 2 (.t 36) (.t 37), (some (34, true))⟩, [0, 1, 2, 3, 5, 6], .pure⟩,
  ⟨8, ⟨(some 39), .ldn 2 (.t 38), (some (34, true))⟩, [0, 1, 2, 3, 5, 6, 7], .read⟩,
  ⟨9, ⟨(some 40), .mv (.t 0), (some (34, true))⟩, [0, 1, 2, 3], .pure⟩,
  ⟨10, ⟨(some 41), .mv (.t 11), (some (34, true))⟩, [0, 1, 2, 3], .pure⟩,
  ⟨11, ⟨(some 42), .iad 2 (.t 40) (.t 41), (some (34, true))⟩, [0, 1, 2, 3, 9, 10], .pure⟩,
  ⟨12, ⟨(some 43), .ldn 2 (.t 42), (some (34, true))⟩, [0, 1, 2, 3, 9, 10, 11], .read⟩,
  ⟨13, ⟨(some 44), .callv (.t 35) [.t 39, .t 43], (some (34, true))⟩, [0, 1, 2, 3, 4, 5, 6, 7, 8, 9, 10, 11, 12], .eff⟩,
  ⟨14, ⟨(some 45), .bin .lss .n (.t 44) (.c (.int .i64 0)), (some (34, true))⟩, [0, 1, 2, 3, 4, 5, 6, 7, 8, 9, 10, 11, 12, 13], .pure⟩,
  ⟨15, ⟨(some 46), .not (.t 45), (some (34, true))⟩, [0, 1, 2, 3, 4, 5, 6, 7, 8, 9, 10, 11, 12, 13, 14], .pure⟩,
  ⟨16, ⟨(some 47), .pick (.t 34) (.t 46) (.c (.bool false)), none⟩, [0, 1, 2, 3, 4, 5, 6, 7, 8, 9, 10, 11, 12, 13, 14, 15], .pure⟩]
def p155_4 : List AOper := [⟨(some 48), .mv (.t 11), none⟩,
  ⟨(some 49), .bin .add .n (.t 48) (.c (.int .i64 1)), none⟩,
  ⟨(some 11), .mv (.t 49), none⟩]
def p155_5 : List DOp := [⟨0, ⟨(some 50), .mv (.t 11), none⟩, [], .pure⟩,
  ⟨1, ⟨(some 51), .mv (.t 12), none⟩, [], .pure⟩,
  ⟨2, ⟨(some 52), .bin .leq .n (.t 50) (.t 51), none⟩, [0, 1], .pure⟩,
  ⟨3, ⟨(some 53), .mv (.t 52), none⟩, [0, 1, 2], .pure⟩,
  ⟨4, ⟨(some 54), .mv (.t 4), (some (53, true))⟩, [0, 1, 2, 3], .pure⟩,
  ⟨5, ⟨(some 55), .mv (.t 0), (some (53, true))⟩, [0, 1, 2, 3], .pure⟩,
  ⟨6, ⟨(some 56), .mv (.t 1), (some (53, true))⟩, [0, 1, 2, 3], .pure⟩,
  ⟨7, ⟨(some 57), .iad 2 (.t 55) (.t 56), (some (53, true))⟩, [0, 1, 2, 3, 5, 6], .pure⟩,
  ⟨8, ⟨(some 58), .ldn 2 (.t 57), (some (53, true))⟩, [0, 1, 2, 3, 5, 6, 7], .read⟩,
  ⟨9, ⟨(some 59), .mv (.t 0), (some (53, true))⟩, [0, 1, 2, 3], .pure⟩,
  ⟨10, ⟨(some 60), .mv (.t 12), (some (53, true))⟩, [0, 1, 2, 3], .pure⟩,
  ⟨11, ⟨(some 61), .iad 2 (.t 59) (.t 60), (some (53, true))⟩, [0, 1, 2, 3, 9, 10], .pure⟩,
  ⟨12, ⟨(some 62), .ldn 2 (.t 61), (some (53, true))⟩, [0, 1, 2, 3, 9, 10, 11], .read⟩,
  ⟨13, ⟨(some 63), .callv (.t 54) [.t 58, .t 62], (some (53, true))⟩, [0, 1, 2, 3, 4, 5, 6, 7, 8, 9, 10, 11, 12], .eff⟩,
  ⟨14, ⟨(some 64), .bin .lss .n (.t 63) (.c (.int .i64 0)), (some (53, true))⟩, [0, 1, 2, 3, 4, 5, 6, 7, 8, 9, 10, 11, 12, 13], .pure⟩,
  ⟨15, ⟨(some 65), .pick (.t 53) (.t 64) (.c (.bool false)), none⟩, [0, 1, 2, 3, 4, 5, 6, 7, 8, 9, 10, 11, 12, 13, 14], .pure⟩]
def p155_6 : List AOper := [⟨(some 66), .mv (.t 12), none⟩,
  ⟨(some 67), .bin .sub .n (.t 66) (.c (.int .i64 1)), none⟩,
  ⟨(some 12), .mv (.t 67), none⟩]
def p155_7 : List AOper := [⟨(some 68), .mv (.t 11), none⟩,
  ⟨(some 69), .mv (.t 12), none⟩,
  ⟨(some 70), .bin .gtr .n (.t 68) (.t 69), none⟩]
def p155_8 : List DOp := [⟨0, ⟨(some 71), .mv (.t 0), none⟩, [], .pure⟩,
  ⟨1, ⟨(some 72), .mv (.t 11), none⟩, [], .pure⟩,
  ⟨2, ⟨(some 73), .mv (.t 0), none⟩, [], .pure⟩,
  ⟨3, ⟨(some 74), .mv (.t 12), none⟩, [], .pure⟩,
  ⟨4, ⟨(some 75), .mv (.t 0), none⟩, [], .pure⟩,
  ⟨5, ⟨(some 76), .mv (.t 12), none⟩, [], .pure⟩,
  ⟨6, ⟨(some 77), .iad 2 (.t 75) (.t 76), none⟩, [4, 5], .pure⟩,
  ⟨7, ⟨(some 78), .ldn 2 (.t 77), none⟩, [4, 5, 6], .read⟩,
  ⟨8, ⟨(some 79), .mv (.t 0), none⟩, [], .pure⟩,
  ⟨9, ⟨(some 80), .mv (.t 11), none⟩, [], .pure⟩,
  ⟨10, ⟨(some 81), .iad 2 (.t 79) (.t 80), none⟩, [8, 9], .pure⟩,
  ⟨11, ⟨(some 82), .ldn 2 (.t 81), none⟩, [8, 9, 10], .read⟩,
  ⟨12, ⟨(some 83), .iad 2 (.t 71) (.t 72), none⟩, [0, 1, 4, 5, 6, 7, 8, 9, 10, 11], .pure⟩,
  ⟨13, ⟨none, .st 2 (.t 83) (.t 78), none⟩, [0, 1, 4, 5, 6, 7, 8, 9, 10, 11, 12], .eff⟩,
  ⟨14, ⟨(some 84), .iad 2 (.t 73) (.t 74), none⟩, [0, 1, 2, 3, 4, 5, 6, 7, 8, 9, 10, 11, 12, 13], .pure⟩,
  ⟨15, ⟨none, .st 2 (.t 84) (.t 82), none⟩, [0, 1, 2, 3, 4, 5, 6, 7, 8, 9, 10, 11, 12, 13, 14], .eff⟩]
def p155_9 : List AOper := [⟨(some 85), .mv (.t 11), none⟩,
  ⟨(some 86), .bin .add .n (.t 85) (.c (.int .i64 1)), none⟩,
  ⟨(some 11), .mv (.t 86), none⟩]
def p155_10 : List AOper := [⟨(some 87), .mv (.t 12), none⟩,
  ⟨(some 88), .bin .sub .n (.t 87) (.c (.int .i64 1)), none⟩,
  ⟨(some 12), .mv (.t 88), none⟩]
def p155_11 : List AOper := [⟨(some 89), .mv (.t 11), none⟩,
  ⟨(some 10), .mv (.t 89), none⟩]
def p155 : AFun := ⟨90, .seq (.region p155_0) (.seq (.draw 0 p155_1) (.seq (.region p155_2) (.seq (.block 0 (.loop (.block 1 (.seq (.block 2 (.loop (.seq (.seq (.draw 0 p155_3) (.cond (.t 47) (.skip) (.exit 2))) (.block 3 (.region p155_4))))) (.seq (.block 4 (.loop (.seq (.seq (.draw 0 p155_5) (.cond (.t 65) (.skip) (.exit 4))) (.block 5 (.region p155_6))))) (.seq (.seq (.region p155_7) (.cond (.t 70) (.exit 0) (.skip))) (.seq (.draw 0 p155_8) (.seq (.region p155_9) (.region p155_10))))))))) (.seq (.region p155_11) (.ret))))),
  [.mv (.t 10)]⟩

/- 156 slices.partitionCmpFunc[waxwork/class.Range] -/
def p156_0 : List AOper := [⟨(some 10), .mv (.c (.int .i64 0)), none⟩,
  ⟨(some 11), .mv (.c (.bool false)), none⟩]
def p156_1 : List DOp := [⟨0, ⟨(some 14), .mv (.t 0), none⟩, [], .pure⟩,
  ⟨1, ⟨(some 15), .mv (.t 1), none⟩, [], .pure⟩,
  ⟨2, ⟨(some 16), .mv (.t 0), none⟩, [], .pure⟩,
  ⟨3, ⟨(some 17), .mv (.t 3), none⟩, [], .pure⟩,
  ⟨4, ⟨(some 18), .mv (.t 0), none⟩, [], .pure⟩,
  ⟨5, ⟨(some 19), .mv (.t 3), none⟩, [], .pure⟩,
  ⟨6, ⟨(some 20), .iad 2 (.t 18) (.t 19), none⟩, [4, 5], .pure⟩,
  ⟨7, ⟨(some 21), .ldn 2 (.t 20), none⟩, [4, 5, 6], .read⟩,
  ⟨8, ⟨(some 22), .mv (.t 0), none⟩, [], .pure⟩,
  ⟨9, ⟨(some 23), .mv (.t 1), none⟩, [], .pure⟩,
  ⟨10, ⟨(some 24), .iad 2 (.t 22) (.t 23), none⟩, [8, 9], .pure⟩,
  ⟨11, ⟨(some 25), .ldn 2 (.t 24), none⟩, [8, 9, 10], .read⟩,
  ⟨12, ⟨(some 26), .iad 2 (.t 14) (.t 15), none⟩, [0, 1, 4, 5, 6, 7, 8, 9, 10, 11], .pure⟩,
  ⟨13, ⟨none, .st 2 (.t 26) (.t 21), none⟩, [0, 1, 4, 5, 6, 7, 8, 9, 10, 11, 12], .eff⟩,
  ⟨14, ⟨(some 27), .iad 2 (.t 16) (.t 17), none⟩, [0, 1, 2, 3, 4, 5, 6, 7, 8, 9, 10, 11, 12, 13], .pure⟩,
  ⟨15, ⟨none, .st 2 (.t 27) (.t 25), none⟩, [0, 1, 2, 3, 4, 5, 6, 7, 8, 9, 10, 11, 12, 13, 14], .eff⟩]
def p156_2 : List AOper := [⟨(some 28), .mv (.t 1), none⟩,
  ⟨(some 29), .bin .add .n (.t 28) (.c (.int .i64 1)), none⟩,
  ⟨(some 30), .mv (.t 2), none⟩,
  ⟨(some 31), .bin .sub .n (.t 30) (.c (.int .i64 1)), none⟩,
  ⟨(some 12), .mv (.t 29), none⟩,
  ⟨(some 13), .mv (.t 31), none⟩]
def p156_3 : List DOp := [⟨0, ⟨(some 32), .mv (.t 12), none⟩, [], .pure⟩,
  ⟨1, ⟨(some 33), .mv (.t 13), none⟩, [], .pure⟩,
  ⟨2, ⟨(some 34), .bin .leq .n (.t 32) (.t 33), none⟩, [0, 1], .pure⟩,
  ⟨3, ⟨(some 35), .mv (.t 34), none⟩, [0, 1, 2], .pure⟩,
  ⟨4, ⟨(some 36), .mv (.t 4), (some (35, true))⟩, [0, 1, 2, 3], .pure⟩,
  ⟨5, ⟨(some 37), .mv (.t 0), (some (35, true))⟩, [0, 1, 2, 3], .pure⟩,
  ⟨6, ⟨(some 38), .mv (.t 12), (some (35, true))⟩, [0, 1, 2, 3], .pure⟩,
  ⟨7, ⟨(some 39), .iad 2 (.t 37) (.t 38), (some (35, true))⟩, [0, 1, 2, 3, 5, 6], .pure⟩,
  ⟨8, ⟨(some 40), .ldn 2 (.t 39), (some (35, true))⟩, [0, 1, 2, 3, 5, 6, 7], .read⟩,
  ⟨9, ⟨(some 41), .mv (.t 0), (some (35, true))⟩, [0, 1, 2, 3], .pure⟩,
  ⟨10, ⟨(some 42), .mv (.t 1), (some (35, true))⟩, [0, 1, 2, 3], .pure⟩,
  ⟨11, ⟨(some 43), .iad 2 (.t 41) (.t 42), (some (35, true))⟩, [0, 1, 2, 3, 9, 10], .pure⟩,
  ⟨12, ⟨(some 44), .ldn 2 (.t 43), (some (35, true))⟩, [0, 1, 2, 3, 9, 10, 11], .read⟩,
  ⟨13, ⟨(some 45), .callv (.t 36) [.t 40, .t 44], (some (35, true))⟩, [0, 1, 2, 3, 4, 5, 6, 7, 8, 9, 10, 11, 12], .eff⟩,
  ⟨14, ⟨(some 46), .bin .lss .n (.t 45) (.c (.int .i64 0)), (some (35, true))⟩, [0, 1, 2, 3, 4, 5, 6, 7, 8, 9, 10, 11, 12, 13], .pure⟩,
  ⟨15, ⟨(some 47), .pick (.t 35) (.t 46) (.c (.bool false)), none⟩, [0, 1, 2, 3, 4, 5, 6, 7, 8, 9, 10, 11, 12, 13, 14], .pure⟩]
def p156_4 : List AOper := [⟨(some 48), .mv (.t 12), none⟩,
  ⟨(some 49), .bin .add .n (.t 48) (.c (.int .i64 1)), none⟩,
  ⟨(some 12), .mv (.t 49), none⟩]
def p156_5 : List DOp := [⟨0, ⟨(some 50), .mv (.t 12), none⟩, [], .pure⟩,
  ⟨1, ⟨(some 51), .mv (.t 13), none⟩, [], .pure⟩,
  ⟨2, ⟨(some 52), .bin .leq .n (.t 50) (.t 51), none⟩, [0, 1], .pure⟩,
  ⟨3, ⟨(some 53), .mv (.t 52), none⟩, [0, 1, 2], .pure⟩,
  ⟨4, ⟨(some 54), .mv (.t 4), (some (53, true))⟩, [0, 1, 2, 3], .pure⟩,
  ⟨5, ⟨(some 55), .mv (.t 0), (some (53, true))⟩, [0, 1, 2, 3], .pure⟩,
  ⟨6, ⟨(some 56), .mv (.t 13), (some (53, true))⟩, [0, 1, 2, 3], .pure⟩,
  ⟨7, ⟨(some 57), .iad 2 (.t 55) (.t 56), (some (53, true))⟩, [0, 1, 2, 3, 5, 6], .pure⟩,
  ⟨8, ⟨(some 58), .ldn 2 (.t 57), (some (53, true))⟩, [0, 1, 2, 3, 5, 6, 7], .read⟩,
  ⟨9, ⟨(some 59), .mv (.t 0), (some (53, true))⟩, [0, 1, 2, 3], .pure⟩,
  ⟨10, ⟨(some 60), .mv (.t 1), (some (53, true))⟩, [0, 1, 2, 3], .pure⟩,
  ⟨11, ⟨(some 61), .iad 2 (.t 59) (.t 60), (some (53, true))⟩, [0, 1, 2, 3, 9, 10], .pure⟩,
  ⟨12, ⟨(some 62), .ldn 2 (.t 61), (some (53, true))⟩, [0, 1, 2, 3, 9, 10, 11], .read⟩,
  ⟨13, ⟨(some 63), .callv (.t 54) [.t 58, .t 62], (some (53, true))⟩, [0, 1, 2, 3, 4, 5, 6, 7, 8, 9, 10, 11, 12], .eff⟩,
  ⟨14, ⟨(some 64), .bin .lss .n (.t 63) (.c (.int .i64 0)), (some (53, true))⟩, [0, 1, 2, 3, 4, 5, 6, 7, 8, 9, 10, 11, 12, 13], .pure⟩,
  ⟨15, ⟨(some 65), .not (.t 64), (some (53, true))⟩, [0, 1, 2, 3, 4, 5, 6, 7, 8, 9, 10, 11, 12, 13, 14], .pure⟩,
  ⟨16, ⟨(some 66), .pick (.t 53) (.t 65) (.c (.bool false)), none⟩, [0, 1, 2, 3, 4, 5, 6, 7, 8, 9, 10, 11, 12, 13, 14, 15], .pure⟩]
def p156_6 : List AOper := [⟨(some 67), .mv (.t 13), none⟩,
  ⟨(some 68), .bin .sub .n (.t 67) (.c (.int .i64 1)), none⟩,
  ⟨(some 13), .mv (.t 68), none⟩]
def p156_7 : List AOper := [⟨(some 69), .mv (.t 12), none⟩,
  ⟨(some 70), .mv (.t 13), none⟩,
  ⟨(some 71), .bin .gtr .n (.t 69) (.t 70), none⟩]
def p156_8 : List DOp := [⟨0, ⟨(some 72), .mv (.t 0), none⟩, [], .pure⟩,
  ⟨1, ⟨(some 73), .mv (.t 13), none⟩, [], .pure⟩,
  ⟨2, ⟨(some 74), .mv (.t 0), none⟩, [], .pure⟩,
  ⟨3, ⟨(some 75), .mv (.t 1), none⟩, [], .pure⟩,
  ⟨4, ⟨(some 76), .mv (.t 0), none⟩, [], .pure⟩,
  ⟨5, ⟨(some 77), .mv (.t 1), none⟩, [], .pure⟩,
  ⟨6, ⟨(some 78), .iad 2 (.t 76) (.t 77), none⟩, [4, 5], .pure⟩,
  ⟨7, ⟨(some 79), .ldn 2 (.t 78), none⟩, [4, 5, 6], .read⟩,
  ⟨8, ⟨(some 80), .mv (.t 0), none⟩, [], .pure⟩,
  ⟨9, ⟨(some 81), .mv (.t 13), none⟩, [], .pure⟩,
  ⟨10, ⟨(some 82), .iad 2 (.t 80) (.t 81), none⟩, [8, 9], .pure⟩,
  ⟨11, ⟨(some 83), .ldn 2 (.t 82), none⟩, [8, 9, 10], .read⟩,
  ⟨12, ⟨(some 84), .iad 2 (.t 72) (.t 73), none⟩, [0, 1, 4, 5, 6, 7, 8, 9, 10, 11], .pure⟩,
  ⟨13, ⟨none, .st 2 (.t 84) (.t 79), none⟩, [0, 1, 4, 5, 6, 7, 8, 9, 10, 11, 12], .eff⟩,
  ⟨14, ⟨(some 85), .iad 2 (.t 74) (.t 75), none⟩, [0, 1, 2, 3, 4, 5, 6, 7, 8, 9, 10, 11, 12, 13], .pure⟩,
  ⟨15, ⟨none, .st 2 (.t 85) (.t 83), none⟩, [0, 1, 2, 3, 4, 5, 6, 7, 8, 9, 10, 11, 12, 13, 14], .eff⟩]
def p156_9 : List AOper := [⟨(some 86), .mv (.t 13), none⟩,
  ⟨(some 10), .mv (.t 86), none⟩,
  ⟨(some 11), .mv (.c (.bool true)), none⟩]
def p156_10 : List DOp := [⟨0, ⟨(some 87), .mv (.t 0), none⟩, [], .pure⟩,
  ⟨1, ⟨(some 88), .mv (.t 12), none⟩, [], .pure⟩,
  ⟨2, ⟨(some 89), .mv (.t 0), none⟩, [], .pure⟩,
  ⟨3, ⟨(some 90), .mv (.t 13), none⟩, [], .pure⟩,
  ⟨4, ⟨(some 91), .mv (.t 0), none⟩, [], .pure⟩,
  ⟨5, ⟨(some 92), .mv (.t 13), none⟩, [], .pure⟩,
  ⟨6, ⟨(some 93), .iad 2 (.t 91) (.t 92), none⟩, [4, 5], .pure⟩,
  ⟨7, ⟨(some 94), .ldn 2 (.t 93), none⟩, [4, 5, 6], .read⟩,
  ⟨8, ⟨(some 95), .mv (.t 0), none⟩, [], .pure⟩,
  ⟨9, ⟨(some 96), .mv (.t 12), none⟩, [], .pure⟩,
  ⟨10, ⟨(some 97), .iad 2 (.t 95) (.t 96), none⟩, [8, 9], .pure⟩,
  ⟨11, ⟨(some 98), .ldn 2 (.t 97), none⟩, [8, 9, 10], .read⟩,
  ⟨12, ⟨(some 99), .iad 2 (.t 87) (.t 88), none⟩, [0, 1, 4, 5, 6, 7, 8, 9, 10, 11], .pure⟩,
  ⟨13, ⟨none, .st 2 (.t 99) (.t 94), none⟩, [0, 1, 4, 5, 6, 7, 8, 9, 10, 11, 12], .eff⟩,
  ⟨14, ⟨(some 100), .iad 2 (.t 89) (.t 90), none⟩, [0, 1, 2, 3, 4, 5, 6, 7, 8, 9, 10, 11, 12, 13], .pure⟩,
  ⟨15, ⟨none, .st 2 (.t 100) (.t 98), none⟩, [0, 1, 2, 3, 4, 5, 6, 7, 8, 9, 10, 11, 12, 13, 14], .eff⟩]
def p156_11 : List AOper := [⟨(some 101), .mv (.t 12), none⟩,
  ⟨(some 102), .bin .add .n (.t 101) (.c (.int .i64 1)), none⟩,
  ⟨(some 12), .mv (.t 102), none⟩]
def p156_12 : List AOper := [⟨(some 103), .mv (.t 13), none⟩,
  ⟨(some 104), .bin .sub .n (.t 103) (.c (.int .i64 1)), none⟩,
  ⟨(some 13), .mv (.t 104), none⟩]
def p156_13 : List DOp := [⟨0, ⟨(some 105), .mv (.t 12), none⟩, [], .pure⟩,
  ⟨1, ⟨(some 106), .mv (.t 13), none⟩, [], .pure⟩,
  ⟨2, ⟨(some 107), .bin .leq .n (.t 105) (.t 106), none⟩, [0, 1], .pure⟩,
  ⟨3, ⟨(some 108), .mv (.t 107), none⟩, [0, 1, 2], .pure⟩,
  ⟨4, ⟨(some 109), .mv (.t 4), (some (108, true))⟩, [0, 1, 2, 3], .pure⟩,
  ⟨5, ⟨(some 110), .mv (.t 0), (some (108, true))⟩, [0, 1, 2, 3], .pure⟩,
  ⟨6, ⟨(some 111), .mv (.t 12), (some (108, true))⟩, [0, 1, 2, 3], .pure⟩,
  ⟨7, ⟨(some 112), .iad 2 (.t 110) (.t 111), (some (108, true))⟩, [0, 1, 2, 3, 5, 6], .pure⟩,
  ⟨8, ⟨(some 113), .ldn 2 (.t 112), (some (108, true))⟩, [0, 1, 2, 3, 5, 6, 7], .read⟩,
  ⟨9, ⟨(some 114), .mv (.t 0), (some (108, true))⟩, [0, 1, 2, 3], .pure⟩,
  ⟨10, ⟨(some 115), .mv (.t 1), (some (108, true))⟩, [0, 1, 2, 3], .pure⟩,
  ⟨11, ⟨(some 116), .iad 2 (.t 114) (.t 115), (some (108, true))⟩, [0, 1, 2, 3, 9, 10], .pure⟩,
  ⟨12, ⟨(some 117), .ldn 2 (.t 116), (some (108, true))⟩, [0, 1, 2, 3, 9, 10, 11], .read⟩,
  ⟨13, ⟨(some 118), .callv (.t 109) [.t 113, .t 117], (some (108, true))⟩, [0, 1, 2, 3, 4, 5, 6, 7, 8, 9, 10, 11, 12], .eff⟩,
  ⟨14, ⟨(some 119), .bin .lss .n (.t 118) (.c (.int .i64 0)), (some (108, true))⟩, [0, 1, 2, 3, 4, 5, 6, 7, 8, 9, 10, 11, 12, 13], .pure⟩,
  ⟨15, ⟨(some 120), .pick (.t 108) (.t 119) (.c (.bool false)), none⟩, [0, 1, 2, 3, 4, 5, 6, 7, 8, 9, 10, 11, 12, 13, 14], .pure⟩]
def p156_14 : List AOper := [⟨(some 121), .mv (.t 12), none⟩,
  ⟨(some 122), .bin .add .n (.t 121) (.c (.int .i64 1)), none⟩,
  ⟨(some 12), .mv (.t 122), none⟩]
def p156_15 : List DOp := [⟨0, ⟨(some 123), .mv (.t 12), none⟩, [], .pure⟩,
  ⟨1, ⟨(some 124), .mv (.t 13), none⟩, [], .pure⟩,
  ⟨2, ⟨(some 125), .bin .leq .n (.t 123) (.t 124), none⟩, [0, 1], .pure⟩,
  ⟨3, ⟨(some 126), .mv (.t 125), none⟩, [0, 1, 2], .pure⟩,
  ⟨4, ⟨(some 127), .mv (.t 4), (some (126, true))⟩, [0, 1, 2, 3], .pure⟩,
  ⟨5, ⟨(some 128), .mv (.t 0), (some (126, true))⟩, [0, 1, 2, 3], .pure⟩,
  ⟨6, ⟨(some 129), .mv (.t 13), (some (126, true))⟩, [0, 1, 2, 3], .pure⟩,
  ⟨7, ⟨(some 130), .iad 2 (.t 128) (.t 129), (some (126, true))⟩, [0, 1, 2, 3, 5, 6], .pure⟩,
  ⟨8, ⟨(some 131), .ldn 2 (.t 130), (some (126, true))⟩, [0, 1, 2, 3, 5, 6, 7], .read⟩,
  ⟨9, ⟨(some 132), .mv (.t 0), (some (126, true))⟩, [0, 1, 2, 3], .pure⟩,
  ⟨10, ⟨(some 133), .mv (.t 1), (some (126, true))⟩, [0, 1, 2, 3], .pure⟩,
  ⟨11, ⟨(some 134), .iad 2 (.t 132) (.t 133), (some (126, true))⟩, [0, 1, 2, 3, 9, 10], .pure⟩,
  ⟨12, ⟨(some 135), .ldn 2 (.t 134), (some (126, true))⟩, [0, 1, 2, 3, 9, 10, 11], .read⟩,
  ⟨13, ⟨(some 136), .callv (.t 127) [.t 131, .t 135], (some (126, true))⟩, [0, 1, 2, 3, 4, 5, 6, 7, 8, 9, 10, 11, 12], .eff⟩,
  ⟨14, ⟨(some 137), .bin .lss .n (.t 136) (.c (.int .i64 0)), (some (126, true))⟩, [0, 1, 2, 3, 4, 5, 6, 7, 8, 9, 10, 11, 12, 13], .pure⟩,
  ⟨15, ⟨(some 138), .not (.t 137), (some (126, true))⟩, [0, 1, 2, 3, 4, 5, 6, 7, 8, 9, 10, 11, 12, 13, 14], .pure⟩,
  ⟨16, ⟨(some 139), .pick (.t 126) (.t 138) (.c (.bool false)), none⟩, [0, 1, 2, 3, 4, 5, 6, 7, 8, 9, 10, 11, 12, 13, 14, 15], .pure⟩]
def p156_16 : List AOper := [⟨(some 140), .mv (.t 13), none⟩,
  ⟨(some 141), .bin .sub .n (.t 140) (.c (.int .i64 1)), none⟩,
  ⟨(some 13), .mv (.t 141), none⟩]
def p156_17 : List AOper := [⟨(some 142), .mv (.t 12), none⟩,
  ⟨(some 143), .mv (.t 13), none⟩,
  ⟨(some 144), .bin .gtr .n (.t 142) (.t 143), none⟩]
def p156_18 : List DOp := [⟨0, ⟨(some 145), .mv (.t 0), none⟩, [], .pure⟩,
  ⟨1, ⟨(some 146), .mv (.t 12), none⟩, [], .pure⟩,
  ⟨2, ⟨(some 147), .mv (.t 0), none⟩, [], .pure⟩,
  ⟨3, ⟨(some 148), .mv (.t 13), none⟩, [], .pure⟩,
  ⟨4, ⟨(some 149), .mv (.t 0), none⟩, [], .pure⟩,
  ⟨5, ⟨(some 150), .mv (.t 13), none⟩, [], .pure⟩,
  ⟨6, ⟨(some 151), .iad 2 (.t 149) (.t 150), none⟩, [4, 5], .pure⟩,
  ⟨7, ⟨(some 152), .ldn 2 (.t 151), none⟩, [4, 5, 6], .read⟩,
  ⟨8, ⟨(some 153), .mv (.t 0), none⟩, [], .pure⟩,
  ⟨9, ⟨(some 154), .mv (.t 12), none⟩, [], .pure⟩,
  ⟨10, ⟨(some 155), .iad 2 (.t 153) (.t 154), none⟩, [8, 9], .pure⟩,
  ⟨11, ⟨(some 156), .ldn 2 (.t 155), none⟩, [8, 9, 10], .read⟩,
  ⟨12, ⟨(some 157), .iad 2 (.t 145) (.t 146), none⟩, [0, 1, 4, 5, 6, 7, 8, 9, 10, 11], .pure⟩,
  ⟨13, ⟨none, .st 2 (.t 157) (.t 152), none⟩, [0, 1, 4, 5, 6, 7, 8, 9, 10, 11, 12], .eff⟩,
  ⟨14, ⟨(some 158), .iad 2 (.t 147) (.t 148), none⟩, [0, 1, 2, 3, 4, 5, 6, 7, 8, 9, 10, 11, 12, 13], .pure⟩,
  ⟨15, ⟨none, .st 2 (.t 158) (.t 156), none⟩, [0, 1, 2, 3, 4, 5, 6, 7, 8, 9, 10, 11, 12, 13, 14], .eff⟩]
def p156_19 : List AOper := [⟨(some 159), .mv (.t 12), none⟩,
  ⟨(some 160), .bin .add .n (.t 159) (.c (.int .i64 1)), none⟩,
  ⟨(some 12), .mv (.t 160), none⟩]
def p156_20 : List AOper := [⟨(some 161), .mv (.t 13), none⟩,
  ⟨(some 162), .bin .sub .n (.t 161) (.c (.int .i64 1)), none⟩,
  ⟨(some 13), .mv (.t 162), none⟩]
def p156_21 : List DOp := [⟨0, ⟨(some 163), .mv (.t 0), none⟩, [], .pure⟩,
  ⟨1, ⟨(some 164), .mv (.t 13), none⟩, [], .pure⟩,
  ⟨2, ⟨(some 165), .mv (.t 0), none⟩, [], .pure⟩,
  ⟨3, ⟨(some 166), .mv (.t 1), none⟩, [], .pure⟩,
  ⟨4, ⟨(some 167), .mv (.t 0), none⟩, [], .pure⟩,
  ⟨5, ⟨(some 168), .mv (.t 1), none⟩, [], .pure⟩,
  ⟨6, ⟨(some 169), .iad 2 (.t 167) (.t 168), none⟩, [4, 5], .pure⟩,
  ⟨7, ⟨(some 170), .ldn 2 (.t 169), none⟩, [4, 5, 6], .read⟩,
  ⟨8, ⟨(some 171), .mv (.t 0), none⟩, [], .pure⟩,
  ⟨9, ⟨(some 172), .mv (.t 13), none⟩, [], .pure⟩,
  ⟨10, ⟨(some 173), .iad 2 (.t 171) (.t 172), none⟩, [8, 9], .pure⟩,
  ⟨11, ⟨(some 174), .ldn 2 (.t 173), none⟩, [8, 9, 10], .read⟩,
  ⟨12, ⟨(some 175), .iad 2 (.t 163) (.t 164), none⟩, [0, 1, 4, 5, 6, 7, 8, 9, 10, 11], .pure⟩,
  ⟨13, ⟨none, .st 2 (.t 175) (.t 170), none⟩, [0, 1, 4, 5, 6, 7, 8, 9, 10, 11, 12], .eff⟩,
  ⟨14, ⟨(some 176), .iad 2 (.t 165) (.t 166), none⟩, [0, 1, 2, 3, 4, 5, 6, 7, 8, 9, 10, 11, 12, 13], .pure⟩,
  ⟨15, ⟨none, .st 2 (.t 176) (.t 174), none⟩, [0, 1, 2, 3, 4, 5, 6, 7, 8, 9, 10, 11, 12, 13, 14], .eff⟩]
def p156_22 : List AOper := [⟨(some 177), .mv (.t 13), none⟩,
  ⟨(some 10), .mv (.t 177), none⟩,
  ⟨(some 11), .mv (.c (.bool false)), none⟩]
def p156 : AFun := ⟨178, .seq (.region p156_0) (.seq (.draw 0 p156_1) (.seq (.region p156_2) (.seq (.block 0 (.loop (.seq (.seq (.draw 0 p156_3) (.cond (.t 47) (.skip) (.exit 0))) (.block 1 (.region p156_4))))) (.seq (.block 2 (.loop (.seq (.seq (.draw 0 p156_5) (.cond (.t 66) (.skip) (.exit 2))) (.block 3 (.region p156_6))))) (.seq (.seq (.region p156_7) (.cond (.t 71) (.seq (.draw 0 p156_8) (.seq (.region p156_9) (.ret))) (.skip))) (.seq (.draw 0 p156_10) (.seq (.region p156_11) (.seq (.region p156_12) (.seq (.block 4 (.loop (.block 5 (.seq (.block 6 (.loop (.seq (.seq (.draw 0 p156_13) (.cond (.t 120) (.skip) (.exit 6))) (.block 7 (.region p156_14))))) (.seq (.block 8 (.loop (.seq (.seq (.draw 0 p156_15) (.cond (.t 139) (.skip) (.exit 8))) (.block 9 (.region p156_16))))) (.seq (.seq (.region p156_17) (.cond (.t 144) (.exit 4) (.skip))) (.seq (.draw 0 p156_18) (.seq (.region p156_19) (.region p156_20))))))))) (.seq (.draw 0 p156_21) (.seq (.region p156_22) (.ret)))))))))))),
  [.mv (.t 10), .mv (.t 11)]⟩

/- 157 math/bits.Len32 -/
def p157_0 : List AOper := [⟨(some 2), .mv (.c (.int .i64 0)), none⟩]
def p157_1 : List AOper := [⟨(some 3), .mv (.t 0), none⟩,
  ⟨(some 4), .bin .geq .n (.t 3) (.c (.int .u32 65536)), none⟩]
def p157_2 : List AOper := [⟨(some 5), .mv (.t 0), none⟩,
  ⟨(some 6), .bin .shr .n (.t 5) (.c (.int .u64 16)), none⟩,
  ⟨(some 0), .mv (.t 6), none⟩]
def p157_3 : List AOper := [⟨(some 2), .mv (.c (.int .i64 16)), none⟩]
def p157_4 : List AOper := [⟨(some 7), .mv (.t 0), none⟩,
  ⟨(some 8), .bin .geq .n (.t 7) (.c (.int .u32 256)), none⟩]
def p157_5 : List AOper := [⟨(some 9), .mv (.t 0), none⟩,
  ⟨(some 10), .bin .shr .n (.t 9) (.c (.int .u64 8)), none⟩,
  ⟨(some 0), .mv (.t 10), none⟩]
def p157_6 : List AOper := [⟨(some 11), .mv (.t 2), none⟩,
  ⟨(some 12), .bin .add .n (.t 11) (.c (.int .i64 8)), none⟩,
  ⟨(some 2), .mv (.t 12), none⟩]
def p157_7 : List AOper := [⟨(some 13), .mv (.t 2), none⟩,
  ⟨(some 14), .mv (.t 0), none⟩,
  ⟨(some 15), .cvi .u8 (.t 14), none⟩,
  ⟨(some 16), .idxs (.c (.str [0, 1, 2, 2, 3, 3, 3, 3, 4, 4, 4, 4, 4, 4, 4, 4, 5, 5, 5, 5, 5, 5, 5, 5, 5, 5, 5, 5, 5, 5, 5, 5, 6, 6, 6, 6, 6, 6, 6, 6, 6, 6, 6, 6, 6, 6, 6, 6, 6, 6, 6, 6, 6, 6, 6, 6, 6, 6, 6, 6, 6, 6, 6, 6, 7, 7, 7, 7, 7, 7, 7, 7, 7, 7, 7, 7, 7, 7, 7, 7, 7, 7, 7, 7, 7, 7, 7, 7, 7, 7, 7, 7, 7, 7, 7, 7, 7, 7, 7, 7, 7, 7, 7, 7, 7, 7, 7, 7, 7, 7, 7, 7, 7, 7, 7, 7, 7, 7, 7, 7, 7, 7, 7, 7, 7, 7, 7, 7, 8, 8, 8, 8, 8, 8, 8, 8, 8, 8, 8, 8, 8, 8, 8, 8, 8, 8, 8, 8, 8, 8, 8, 8, 8, 8, 8, 8, 8, 8, 8, 8, 8, 8, 8, 8, 8, 8, 8, 8, 8, 8, 8, 8, 8, 8, 8, 8, 8, 8, 8, 8, 8, 8, 8, 8, 8, 8, 8, 8, 8, 8, 8, 8, 8, 8, 8, 8, 8, 8, 8, 8, 8, 8, 8, 8, 8, 8, 8, 8, 8, 8, 8, 8, 8, 8, 8, 8, 8, 8, 8, 8, 8, 8, 8, 8, 8, 8, 8, 8, 8, 8, 8, 8, 8, 8, 8, 8, 8, 8, 8, 8, 8, 8, 8, 8, 8, 8, 8, 8, 8, 8, 8, 8, 8, 8, 8, 8])) (.t 15), none⟩,
  ⟨(some 17), .cvi .i64 (.t 16), none⟩,
  ⟨(some 18), .bin .add .n (.t 13) (.t 17), none⟩,
  ⟨(some 2), .mv (.t 18), none⟩]
def p157 : AFun := ⟨19, .seq (.region p157_0) (.seq (.seq (.region p157_1) (.cond (.t 4) (.seq (.region p157_2) (.region p157_3)) (.skip))) (.seq (.seq (.region p157_4) (.cond (.t 8) (.seq (.region p157_5) (.region p157_6)) (.skip))) (.seq (.region p157_7) (.ret)))),
  [.mv (.t 2)]⟩

/- 158 math/bits.Len64 -/
def p158_0 : List AOper := [⟨(some 2), .mv (.c (.int .i64 0)), none⟩]
def p158_1 : List AOper := [⟨(some 3), .mv (.t 0), none⟩,
  ⟨(some 4), .bin .geq .n (.t 3) (.c (.int .u64 4294967296)), none⟩]
def p158_2 : List AOper := [⟨(some 5), .mv (.t 0), none⟩,
  ⟨(some 6), .bin .shr .n (.t 5) (.c (.int .u64 32)), none⟩,
  ⟨(some 0), .mv (.t 6), none⟩]
def p158_3 : List AOper := [⟨(some 2), .mv (.c (.int .i64 32)), none⟩]
def p158_4 : List AOper := [⟨(some 7), .mv (.t 0), none⟩,
  ⟨(some 8), .bin .geq .n (.t 7) (.c (.int .u64 65536)), none⟩]
def p158_5 : List AOper := [⟨(some 9), .mv (.t 0), none⟩,
  ⟨(some 10), .bin .shr .n (.t 9) (.c (.int .u64 16)), none⟩,
  ⟨(some 0), .mv (.t 10), none⟩]
def p158_6 : List AOper := [⟨(some 11), .mv (.t 2), none⟩,
  ⟨(some 12), .bin .add .n (.t 11) (.c (.int .i64 16)), none⟩,
  ⟨(some 2), .mv (.t 12), none⟩]
def p158_7 : List AOper := [⟨(some 13), .mv (.t 0), none⟩,
  ⟨(some 14), .bin .geq .n (.t 13) (.c (.int .u64 256)), none⟩]
def p158_8 : List AOper := [⟨(some 15), .mv (.t 0), none⟩,
  ⟨(some 16), .bin .shr .n (.t 15) (.c (.int .u64 8)), none⟩,
  ⟨(some 0), .mv (.t 16), none⟩]
def p158_9 : List AOper := [⟨(some 17), .mv (.t 2), none⟩,
  ⟨(some 18), .bin .add .n (.t 17) (.c (.int .i64 8)), none⟩,
  ⟨(some 2), .mv (.t 18), none⟩]
def p158_10 : List AOper := [⟨(some 19), .mv (.t 2), none⟩,
  ⟨(some 20), .mv (.t 0), none⟩,
  ⟨(some 21), .cvi .u8 (.t 20), none⟩,
  ⟨(some 22), .idxs (.c (.str [0, 1, 2, 2, 3, 3, 3, 3, 4, 4, 4, 4, 4, 4, 4, 4, 5, 5, 5, 5, 5, 5, 5, 5, 5, 5, 5, 5, 5, 5, 5, 5, 6, 6, 6, 6, 6, 6, 6, 6, 6, 6, 6, 6, 6, 6, 6, 6, 6, 6, 6, 6, 6, 6, 6, 6, 6, 6, 6, 6, 6, 6, 6, 6, 7, 7, 7, 7, 7, 7, 7, 7, 7, 7, 7, 7, 7, 7, 7, 7, 7, 7, 7, 7, 7, 7, 7, 7, 7, 7, 7, 7, 7, 7, 7, 7, 7, 7, 7, 7, 7, 7, 7, 7, 7, 7, 7, 7, 7, 7, 7, 7, 7, 7, 7, 7, 7, 7, 7, 7, 7, 7, 7, 7, 7, 7, 7, 7, 8, 8, 8, 8, 8, 8, 8, 8, 8, 8, 8, 8, 8, 8, 8, 8, 8, 8, 8, 8, 8, 8, 8, 8, 8, 8, 8, 8, 8, 8, 8, 8, 8, 8, 8, 8, 8, 8, 8, 8, 8, 8, 8, 8, 8, 8, 8, 8, 8, 8, 8, 8, 8, 8, 8, 8, 8, 8, 8, 8, 8, 8, 8, 8, 8, 8, 8, 8, 8, 8, 8, 8, 8, 8, 8, 8, 8, 8, 8, 8, 8, 8, 8, 8, 8, 8, 8, 8, 8, 8, 8, 8, 8, 8, 8, 8, 8, 8, 8, 8, 8, 8, 8, 8, 8, 8, 8, 8, 8, 8, 8, 8, 8, 8, 8, 8, 8, 8, 8, 8, 8, 8, 8, 8, 8, 8, 8, 8])) (.t 21), none⟩,
  ⟨(some 23), .cvi .i64 (.t 22), none⟩,
  ⟨(some 24), .bin .add .n (.t 19) (.t 23), none⟩,
  ⟨(some 2), .mv (.t 24), none⟩]
def p158 : AFun := ⟨25, .seq (.region p158_0) (.seq (.seq (.region p158_1) (.cond (.t 4) (.seq (.region p158_2) (.region p158_3)) (.skip))) (.seq (.seq (.region p158_4) (.cond (.t 8) (.seq (.region p158_5) (.region p158_6)) (.skip))) (.seq (.seq (.region p158_7) (.cond (.t 14) (.seq (.region p158_8) (.region p158_9)) (.skip))) (.seq (.region p158_10) (.ret))))),
  [.mv (.t 2)]⟩

/- 159 unicode/utf8.decodeRuneInStringSlow -/
def p159_0 : List AOper := [⟨(some 2), .mv (.c (.int .i32 0)), none⟩,
  ⟨(some 3), .mv (.c (.int .i64 0)), none⟩]
def p159_1 : List AOper := [⟨(some 13), .mv (.t 0), none⟩,
  ⟨(some 14), .lens (.t 13), none⟩,
  ⟨(some 4), .mv (.t 14), none⟩]
def p159_2 : List AOper := [⟨(some 15), .mv (.t 4), none⟩,
  ⟨(some 16), .bin .lss .n (.t 15) (.c (.int .i64 1)), none⟩]
def p159_3 : List AOper := [⟨(some 2), .mv (.c (.int .i32 65533)), none⟩,
  ⟨(some 3), .mv (.c (.int .i64 0)), none⟩]
def p159_4 : List AOper := [⟨(some 17), .mv (.t 0), none⟩,
  ⟨(some 18), .idxs (.t 17) (.c (.int .i64 0)), none⟩,
  ⟨(some 5), .mv (.t 18), none⟩]
def p159_5 : List AOper := [⟨(some 19), .mv (.t 5), none⟩,
  ⟨(some 20), .iada 1 256 (.g 0) (.t 19), none⟩,
  ⟨(some 21), .ld (.t 20), none⟩,
  ⟨(some 6), .mv (.t 21), none⟩]
def p159_6 : List AOper := [⟨(some 22), .mv (.t 6), none⟩,
  ⟨(some 23), .bin .geq .n (.t 22) (.c (.int .u8 240)), none⟩]
def p159_7 : List AOper := [⟨(some 24), .mv (.t 6), none⟩,
  ⟨(some 25), .cvi .i32 (.t 24), none⟩,
  ⟨(some 26), .bin .shl .n (.t 25) (.c (.int .u64 31)), none⟩,
  ⟨(some 27), .bin .shr .n (.t 26) (.c (.int .u64 31)), none⟩,
  ⟨(some 7), .mv (.t 27), none⟩]
def p159_8 : List AOper := [⟨(some 28), .mv (.t 0), none⟩,
  ⟨(some 29), .idxs (.t 28) (.c (.int .i64 0)), none⟩,
  ⟨(some 30), .cvi .i32 (.t 29), none⟩,
  ⟨(some 31), .mv (.t 7), none⟩,
  ⟨(some 32), .bin .andNot .n (.t 30) (.t 31), none⟩,
  ⟨(some 33), .mv (.t 7), none⟩,
  ⟨(some 34), .bin .and .n (.c (.int .i32 65533)) (.t 33), none⟩,
  ⟨(some 35), .bin .or .n (.t 32) (.t 34), none⟩,
  ⟨(some 2), .mv (.t 35), none⟩,
  ⟨(some 3), .mv (.c (.int .i64 1)), none⟩]
def p159_9 : List AOper := [⟨(some 36), .mv (.t 6), none⟩,
  ⟨(some 37), .bin .and .n (.t 36) (.c (.int .u8 7)), none⟩,
  ⟨(some 38), .cvi .i64 (.t 37), none⟩,
  ⟨(some 8), .mv (.t 38), none⟩]
def p159_10 : List AOper := [⟨(some 39), .mv (.t 6), none⟩,
  ⟨(some 40), .bin .shr .n (.t 39) (.c (.int .u64 4)), none⟩,
  ⟨(some 41), .iada 2 16 (.g 1) (.t 40), none⟩,
  ⟨(some 42), .ldn 2 (.t 41), none⟩,
  ⟨(some 9), .alloc [.int .u8 0, .int .u8 0], none⟩,
  ⟨none, .st 2 (.t 9) (.t 42), none⟩]
def p159_11 : List AOper := [⟨(some 43), .mv (.t 4), none⟩,
  ⟨(some 44), .mv (.t 8), none⟩,
  ⟨(some 45), .bin .lss .n (.t 43) (.t 44), none⟩]
def p159_12 : List AOper := [⟨(some 2), .mv (.c (.int .i32 65533)), none⟩,
  ⟨(some 3), .mv (.c (.int .i64 1)), none⟩]
def p159_13 : List AOper := [⟨(some 46), .mv (.t 0), none⟩,
  ⟨(some 47), .idxs (.t 46) (.c (.int .i64 1)), none⟩,
  ⟨(some 10), .mv (.t 47), none⟩]
def p159_14 : List AOper := [⟨(some 48), .mv (.t 10), none⟩,
  ⟨(some 49), .fad 0 (.t 9), none⟩,
  ⟨(some 50), .ld (.t 49), none⟩,
  ⟨(some 51), .bin .lss .n (.t 48) (.t 50), none⟩,
  ⟨(some 52), .mv (.t 51), none⟩,
  ⟨(some 53), .fad 1 (.t 9), (some (52, false))⟩,
  ⟨(some 54), .ld (.t 53), (some (52, false))⟩,
  ⟨(some 55), .mv (.t 10), (some (52, false))⟩,
  ⟨(some 56), .bin .lss .n (.t 54) (.t 55), (some (52, false))⟩,
  ⟨(some 57), .pick (.t 52) (.c (.bool true)) (.t 56), none⟩]
def p159_15 : List AOper := [⟨(some 2), .mv (.c (.int .i32 65533)), none⟩,
  ⟨(some 3), .mv (.c (.int .i64 1)), none⟩]
def p159_16 : List AOper := [⟨(some 58), .mv (.t 8), none⟩,
  ⟨(some 59), .bin .leq .n (.t 58) (.c (.int .i64 2)), none⟩]
def p159_17 : List AOper := [⟨(some 60), .mv (.t 5), none⟩,
  ⟨(some 61), .bin .and .n (.t 60) (.c (.int .u8 31)), none⟩,
  ⟨(some 62), .cvi .i32 (.t 61), none⟩,
  ⟨(some 63), .bin .shl .n (.t 62) (.c (.int .u64 6)), none⟩,
  ⟨(some 64), .mv (.t 10), none⟩,
  ⟨(some 65), .bin .and .n (.t 64) (.c (.int .u8 63)), none⟩,
  ⟨(some 66), .cvi .i32 (.t 65), none⟩,
  ⟨(some 67), .bin .or .n (.t 63) (.t 66), none⟩,
  ⟨(some 2), .mv (.t 67), none⟩,
  ⟨(some 3), .mv (.c (.int .i64 2)), none⟩]
def p159_18 : List AOper := [⟨(some 68), .mv (.t 0), none⟩,
  ⟨(some 69), .idxs (.t 68) (.c (.int .i64 2)), none⟩,
  ⟨(some 11), .mv (.t 69), none⟩]
def p159_19 : List AOper := [⟨(some 70), .mv (.t 11), none⟩,
  ⟨(some 71), .bin .lss .n (.t 70) (.c (.int .u8 128)), none⟩,
  ⟨(some 72), .mv (.t 71), none⟩,
  ⟨(some 73), .mv (.t 11), (some (72, false))⟩,
  ⟨(some 74), .bin .lss .n (.c (.int .u8 191)) (.t 73), (some (72, false))⟩,
  ⟨(some 75), .pick (.t 72) (.c (.bool true)) (.t 74), none⟩]
def p159_20 : List AOper := [⟨(some 2), .mv (.c (.int .i32 65533)), none⟩,
  ⟨(some 3), .mv (.c (.int .i64 1)), none⟩]
def p159_21 : List AOper := [⟨(some 76), .mv (.t 8), none⟩,
  ⟨(some 77), .bin .leq .n (.t 76) (.c (.int .i64 3)), none⟩]
def p159_22 : List AOper := [⟨(some 78), .mv (.t 5), none⟩,
  ⟨(some 79), .bin .and .n (.t 78) (.c (.int .u8 15)), none⟩,
  ⟨(some 80), .cvi .i32 (.t 79), none⟩,
  ⟨(some 81), .bin .shl .n (.t 80) (.c (.int .u64 12)), none⟩,
  ⟨(some 82), .mv (.t 10), none⟩,
  ⟨(some 83), .bin .and .n (.t 82) (.c (.int .u8 63)), none⟩,
  ⟨(some 84), .cvi .i32 (.t 83), none⟩,
  ⟨(some 85), .bin .shl .n (.t 84) (.c (.int .u64 6)), none⟩,
  ⟨(some 86), .bin .or .n (.t 81) (.t 85), none⟩,
  ⟨(some 87), .mv (.t 11), none⟩,
  ⟨(some 88), .bin .and .n (.t 87) (.c (.int .u8 63)), none⟩,
  ⟨(some 89), .cvi .i32 (.t 88), none⟩,
  ⟨(some 90), .bin .or .n (.t 86) (.t 89), none⟩,
  ⟨(some 2), .mv (.t 90), none⟩,
  ⟨(some 3), .mv (.c (.int .i64 3)), none⟩]
def p159_23 : List AOper := [⟨(some 91), .mv (.t 0), none⟩,
  ⟨(some 92), .idxs (.t 91) (.c (.int .i64 3)), none⟩,
  ⟨(some 12), .mv (.t 92), none⟩]
def p159_24 : List AOper := [⟨(some 93), .mv (.t 12), none⟩,
  ⟨(some 94), .bin .lss .n (.t 93) (.c (.int .u8 128)), none⟩,
  ⟨(some 95), .mv (.t 94), none⟩,
  ⟨(some 96), .mv (.t 12), (some (95, false))⟩,
  ⟨(some 97), .bin .lss .n (.c (.int .u8 191)) (.t 96), (some (95, false))⟩,
  ⟨(some 98), .pick (.t 95) (.c (.bool true)) (.t 97), none⟩]
def p159_25 : List AOper := [⟨(some 2), .mv (.c (.int .i32 65533)), none⟩,
  ⟨(some 3), .mv (.c (.int .i64 1)), none⟩]
def p159_26 : List AOper := [⟨(some 99), .mv (.t 5), none⟩,
  ⟨(some 100), .bin .and .n (.t 99) (.c (.int .u8 7)), none⟩,
  ⟨(some 101), .cvi .i32 (.t 100), none⟩,
  ⟨(some 102), .bin .shl .n (.t 101) (.c (.int .u64 18)), none⟩,
  ⟨(some 103), .mv (.t 10), none⟩,
  ⟨(some 104), .bin .and .n (.t 103) (.c (.int .u8 63)), none⟩,
  ⟨(some 105), .cvi .i32 (.t 104), none⟩,
  ⟨(some 106), .bin .shl .n (.t 105) (.c (.int .u64 12)), none⟩,
  ⟨(some 107), .bin .or .n (.t 102) (.t 106), none⟩,
  ⟨(some 108), .mv (.t 11), none⟩,
  ⟨(some 109), .bin .and .n (.t 108) (.c (.int .u8 63)), none⟩,
  ⟨(some 110), .cvi .i32 (.t 109), none⟩,
  ⟨(some 111), .bin .shl .n (.t 110) (.c (.int .u64 6)), none⟩,
  ⟨(some 112), .bin .or .n (.t 107) (.t 111), none⟩,
  ⟨(some 113), .mv (.t 12), none⟩,
  ⟨(some 114), .bin .and .n (.t 113) (.c (.int .u8 63)), none⟩,
  ⟨(some 115), .cvi .i32 (.t 114), none⟩,
  ⟨(some 116), .bin .or .n (.t 112) (.t 115), none⟩,
  ⟨(some 2), .mv (.t 116), none⟩,
  ⟨(some 3), .mv (.c (.int .i64 4)), none⟩]
def p159 : AFun := ⟨117, .seq (.region p159_0) (.seq (.region p159_1) (.seq (.seq (.region p159_2) (.cond (.t 16) (.seq (.region p159_3) (.ret)) (.skip))) (.seq (.region p159_4) (.seq (.region p159_5) (.seq (.seq (.region p159_6) (.cond (.t 23) (.seq (.region p159_7) (.seq (.region p159_8) (.ret))) (.skip))) (.seq (.region p159_9) (.seq (.region p159_10) (.seq (.seq (.region p159_11) (.cond (.t 45) (.seq (.region p159_12) (.ret)) (.skip))) (.seq (.region p159_13) (.seq (.seq (.region p159_14) (.cond (.t 57) (.seq (.region p159_15) (.ret)) (.skip))) (.seq (.seq (.region p159_16) (.cond (.t 59) (.seq (.region p159_17) (.ret)) (.skip))) (.seq (.region p159_18) (.seq (.seq (.region p159_19) (.cond (.t 75) (.seq (.region p159_20) (.ret)) (.skip))) (.seq (.seq (.region p159_21) (.cond (.t 77) (.seq (.region p159_22) (.ret)) (.skip))) (.seq (.region p159_23) (.seq (.seq (.region p159_24) (.cond (.t 98) (.seq (.region p159_25) (.ret)) (.skip))) (.seq (.region p159_26) (.ret)))))))))))))))))),
  [.mv (.t 2), .mv (.t 3)]⟩

/- 160 waxwork/syntax.escape -/
def p160_0 : List AOper := [⟨(some 2), .mv (.c (.nils)), none⟩]
def p160_1 : List AOper := [⟨(some 3), .mv (.t 0), none⟩]
def p160_2 : List AOper := [⟨(some 5), .bin .eql .n (.t 3) (.c (.int .i32 110)), none⟩,
  ⟨(some 4), .mv (.t 5), none⟩]
def p160_3 : List AOper := [⟨(some 6), .call 147 [.c (.int .i32 10), .c (.int .i32 10)], none⟩,
  ⟨(some 7), .bslice 2 1 [.int .i32 0, .int .i32 0] [(0, 2, .t 6)], none⟩,
  ⟨(some 8), .call 77 [.t 7], none⟩,
  ⟨(some 2), .mv (.t 8), none⟩]
def p160_4 : List AOper := [⟨(some 10), .bin .eql .n (.t 3) (.c (.int .i32 116)), none⟩,
  ⟨(some 9), .mv (.t 10), none⟩]
def p160_5 : List AOper := [⟨(some 11), .call 147 [.c (.int .i32 9), .c (.int .i32 9)], none⟩,
  ⟨(some 12), .bslice 2 1 [.int .i32 0, .int .i32 0] [(0, 2, .t 11)], none⟩,
  ⟨(some 13), .call 77 [.t 12], none⟩,
  ⟨(some 2), .mv (.t 13), none⟩]
def p160_6 : List AOper := [⟨(some 15), .bin .eql .n (.t 3) (.c (.int .i32 100)), none⟩,
  ⟨(some 14), .mv (.t 15), none⟩]
def p160_7 : List AOper := [⟨(some 16), .call 147 [.c (.int .i32 48), .c (.int .i32 57)], none⟩,
  ⟨(some 17), .bslice 2 1 [.int .i32 0, .int .i32 0] [(0, 2, .t 16)], none⟩,
  ⟨(some 18), .call 77 [.t 17], none⟩,
  ⟨(some 2), .mv (.t 18), none⟩]
def p160_8 : List AOper := [⟨(some 20), .bin .eql .n (.t 3) (.c (.int .i32 119)), none⟩,
  ⟨(some 19), .mv (.t 20), none⟩]
def p160_9 : List AOper := [⟨(some 21), .call 147 [.c (.int .i32 48), .c (.int .i32 57)], none⟩,
  ⟨(some 22), .call 147 [.c (.int .i32 65), .c (.int .i32 90)], none⟩,
  ⟨(some 23), .call 147 [.c (.int .i32 95), .c (.int .i32 95)], none⟩,
  ⟨(some 24), .call 147 [.c (.int .i32 97), .c (.int .i32 122)], none⟩,
  ⟨(some 25), .bslice 2 4 [.int .i32 0, .int .i32 0, .int .i32 0, .int .i32 0, .int .i32 0, .int .i32 0, .int .i32 0, .int .i32 0] [(0, 2, .t 21), (2, 2, .t 22), (4, 2, .t 23), (6, 2, .t 24)], none⟩,
  ⟨(some 26), .call 77 [.t 25], none⟩,
  ⟨(some 2), .mv (.t 26), none⟩]
def p160_10 : List AOper := [⟨(some 28), .bin .eql .n (.t 3) (.c (.int .i32 115)), none⟩,
  ⟨(some 27), .mv (.t 28), none⟩]
def p160_11 : List AOper := [⟨(some 29), .call 147 [.c (.int .i32 9), .c (.int .i32 10)], none⟩,
  ⟨(some 30), .call 147 [.c (.int .i32 13), .c (.int .i32 13)], none⟩,
  ⟨(some 31), .call 147 [.c (.int .i32 32), .c (.int .i32 32)], none⟩,
  ⟨(some 32), .bslice 2 3 [.int .i32 0, .int .i32 0, .int .i32 0, .int .i32 0, .int .i32 0, .int .i32 0] [(0, 2, .t 29), (2, 2, .t 30), (4, 2, .t 31)], none⟩,
  ⟨(some 33), .call 77 [.t 32], none⟩,
  ⟨(some 2), .mv (.t 33), none⟩]
def p160_12 : List AOper := [⟨(some 34), .mv (.t 0), none⟩,
  ⟨(some 35), .bin .eql .n (.t 34) (.c (.int .i32 45)), none⟩,
  ⟨(some 36), .mv (.t 35), none⟩,
  ⟨(some 37), .mv (.t 0), (some (36, false))⟩,
  ⟨(some 38), .call 146 [.t 37, .c (.str [92, 46, 91, 93, 40, 41, 42, 43, 63, 123, 125, 124, 94, 36])], (some (36, false))⟩,
  ⟨(some 39), .pick (.t 36) (.c (.bool true)) (.t 38), none⟩]
def p160_13 : List AOper := [⟨(some 40), .mv (.t 0), none⟩,
  ⟨(some 41), .mv (.t 0), none⟩,
  ⟨(some 42), .call 147 [.t 40, .t 41], none⟩,
  ⟨(some 43), .bslice 2 1 [.int .i32 0, .int .i32 0] [(0, 2, .t 42)], none⟩,
  ⟨(some 44), .call 77 [.t 43], none⟩,
  ⟨(some 2), .mv (.t 44), none⟩]
def p160_14 : List AOper := [⟨(some 2), .mv (.c (.nils)), none⟩]
def p160 : AFun := ⟨45, .seq (.region p160_0) (.seq (.seq (.region p160_1) (.block 0 (.seq (.region p160_2) (.cond (.t 4) (.seq (.region p160_3) (.ret)) (.seq (.region p160_4) (.cond (.t 9) (.seq (.region p160_5) (.ret)) (.seq (.region p160_6) (.cond (.t 14) (.seq (.region p160_7) (.ret)) (.seq (.region p160_8) (.cond (.t 19) (.seq (.region p160_9) (.ret)) (.seq (.region p160_10) (.cond (.t 27) (.seq (.region p160_11) (.ret)) (.skip))))))))))))) (.seq (.seq (.region p160_12) (.cond (.t 39) (.seq (.region p160_13) (.ret)) (.skip))) (.seq (.region p160_14) (.ret)))),
  [.mv (.t 2)]⟩

/- 161 (*waxwork/syntax.parser).item -/
def p161_0 : List AOper := [⟨(some 4), .mv (.c (.nils)), none⟩]
def p161_1 : List AOper := [⟨(some 7), .mv (.t 0), none⟩,
  ⟨(some 8), .mv (.t 1), none⟩,
  ⟨(some 9), .call 171 [.t 7, .t 8], none⟩,
  ⟨(some 5), .mv (.t 9), none⟩]
def p161_2 : List AOper := [⟨(some 10), .mv (.t 0), none⟩,
  ⟨(some 11), .call 99 [.t 10, .c (.str [45])], none⟩,
  ⟨(some 12), .not (.t 11), none⟩]
def p161_3 : List AOper := [⟨(some 13), .mv (.t 5), none⟩,
  ⟨(some 4), .mv (.t 13), none⟩]
def p161_4 : List AOper := [⟨(some 14), .mv (.t 0), none⟩,
  ⟨(some 15), .mv (.t 1), none⟩,
  ⟨(some 16), .call 171 [.t 14, .t 15], none⟩,
  ⟨(some 6), .mv (.t 16), none⟩]
def p161_5 : List DOp := [⟨0, ⟨(some 17), .mv (.t 5), none⟩, [], .pure⟩,
  ⟨19, ⟨(some 36), .mv (.t 1), none⟩, [], .pure⟩,
  ⟨1, ⟨(some 18), .call 172 [.t 17], none⟩, [0], .eff⟩,
  ⟨2, ⟨(some 19), .bin .eql .n (.t 18) (.c (.int .i64 1)), none⟩, [0, 1], .pure⟩,
  ⟨3, ⟨(some 20), .mv (.t 19), none⟩, [0, 1, 2], .pure⟩,
  ⟨4, ⟨(some 21), .mv (.t 6), (some (20, true))⟩, [0, 1, 2, 3], .pure⟩,
  ⟨5, ⟨(some 22), .call 172 [.t 21], (some (20, true))⟩, [0, 1, 2, 3, 4], .eff⟩,
  ⟨6, ⟨(some 23), .bin .eql .n (.t 22) (.c (.int .i64 1)), (some (20, true))⟩, [0, 1, 2, 3, 4, 5], .pure⟩,
  ⟨7, ⟨(some 24), .pick (.t 20) (.t 23) (.c (.bool false)), none⟩, [0, 1, 2, 3, 4, 5, 6], .pure⟩,
  ⟨8, ⟨(some 25), .mv (.t 24), none⟩, [0, 1, 2, 3, 4, 5, 6, 7], .pure⟩,
  ⟨9, ⟨(some 26), .mv (.t 5), (some (25, true))⟩, [0, 1, 2, 3, 4, 5, 6, 7, 8], .pure⟩,
  ⟨10, ⟨(some 27), .iad 2 (.t 26) (.c (.int .i64 0)), (some (25, true))⟩, [0, 1, 2, 3, 4, 5, 6, 7, 8, 9], .pure⟩,
  ⟨11, ⟨(some 28), .fad 0 (.t 27), (some (25, true))⟩, [0, 1, 2, 3, 4, 5, 6, 7, 8, 9, 10], .pure⟩,
  ⟨12, ⟨(some 29), .ld (.t 28), (some (25, true))⟩, [0, 1, 2, 3, 4, 5, 6, 7, 8, 9, 10, 11], .read⟩,
  ⟨13, ⟨(some 30), .mv (.t 6), (some (25, true))⟩, [0, 1, 2, 3, 4, 5, 6, 7, 8], .pure⟩,
  ⟨14, ⟨(some 31), .iad 2 (.t 30) (.c (.int .i64 0)), (some (25, true))⟩, [0, 1, 2, 3, 4, 5, 6, 7, 8, 13], .pure⟩,
  ⟨15, ⟨(some 32), .fad 0 (.t 31), (some (25, true))⟩, [0, 1, 2, 3, 4, 5, 6, 7, 8, 13, 14], .pure⟩,
  ⟨16, ⟨(some 33), .ld (.t 32), (some (25, true))⟩, [0, 1, 2, 3, 4, 5, 6, 7, 8, 13, 14, 15], .read⟩,
  ⟨17, ⟨(some 34), .bin .leq .n (.t 29) (.t 33), (some (25, true))⟩, [0, 1, 2, 3, 4, 5, 6, 7, 8, 9, 10, 11, 12, 13, 14, 15, 16], .pure⟩,
  ⟨18, ⟨(some 35), .pick (.t 25) (.t 34) (.c (.bool false)), none⟩, [0, 1, 2, 3, 4, 5, 6, 7, 8, 9, 10, 11, 12, 13, 14, 15, 16, 17], .pure⟩,
  ⟨20, ⟨(some 37), .call 73 [.t 35, .t 36], none⟩, [0, 1, 2, 3, 4, 5, 6, 7, 8, 9, 10, 11, 12, 13, 14, 15, 16, 17, 18, 19], .eff⟩]
def p161_6 : List DOp := [⟨0, ⟨(some 38), .mv (.t 5), none⟩, [], .pure⟩,
  ⟨1, ⟨(some 39), .iad 2 (.t 38) (.c (.int .i64 0)), none⟩, [0], .pure⟩,
  ⟨2, ⟨(some 40), .fad 0 (.t 39), none⟩, [0, 1], .pure⟩,
  ⟨3, ⟨(some 41), .ld (.t 40), none⟩, [0, 1, 2], .read⟩,
  ⟨4, ⟨(some 42), .mv (.t 6), none⟩, [], .pure⟩,
  ⟨5, ⟨(some 43), .iad 2 (.t 42) (.c (.int .i64 0)), none⟩, [4], .pure⟩,
  ⟨6, ⟨(some 44), .fad 0 (.t 43), none⟩, [4, 5], .pure⟩,
  ⟨7, ⟨(some 45), .ld (.t 44), none⟩, [4, 5, 6], .read⟩,
  ⟨8, ⟨(some 46), .call 147 [.t 41, .t 45], none⟩, [0, 1, 2, 3, 4, 5, 6, 7], .eff⟩,
  ⟨9, ⟨(some 47), .bslice 2 1 [.int .i32 0, .int .i32 0] [(0, 2, .t 46)], none⟩, [0, 1, 2, 3, 4, 5, 6, 7, 8], (.alloc 0)⟩,
  ⟨10, ⟨(some 48), .call 77 [.t 47], none⟩, [0, 1, 2, 3, 4, 5, 6, 7, 8, 9], .eff⟩,
  ⟨11, ⟨(some 4), .mv (.t 48), none⟩, [0, 1, 2, 3, 4, 5, 6, 7, 8, 9, 10], .pure⟩]
def p161 : AFun := ⟨49, .seq (.region p161_0) (.seq (.region p161_1) (.seq (.seq (.region p161_2) (.cond (.t 12) (.seq (.region p161_3) (.ret)) (.skip))) (.seq (.region p161_4) (.seq (.draw 0 p161_5) (.seq (.draw 1 p161_6) (.ret)))))),
  [.mv (.t 4)]⟩

/- 162 waxwork/class.Union -/
def p162_0 : List AOper := [⟨(some 4), .mv (.c (.nils)), none⟩]
def p162_1 : List AOper := [⟨(some 5), .mv (.t 0), none⟩,
  ⟨(some 6), .mv (.t 1), none⟩,
  ⟨(some 7), .bslice 1 2 [.nils, .nils] [(0, 1, .t 5), (1, 1, .t 6)], none⟩,
  ⟨(some 8), .call 173 [.t 7], none⟩,
  ⟨(some 9), .call 77 [.t 8], none⟩,
  ⟨(some 4), .mv (.t 9), none⟩]
def p162 : AFun := ⟨10, .seq (.region p162_0) (.seq (.region p162_1) (.ret)),
  [.mv (.t 4)]⟩

/- 163 waxwork/syntax.hasRune -/
def p163_0 : List AOper := [⟨(some 4), .mv (.c (.bool false)), none⟩]
def p163_1 : List AOper := [⟨(some 7), .mv (.t 0), none⟩,
  ⟨(some 8), .rng (.t 7), none⟩]
def p163_2 : List AOper := [⟨(some 9), .nxt (.t 8), none⟩,
  ⟨(some 10), .ext (.t 9) 0, none⟩]
def p163_3 : List AOper := [⟨(some 11), .ext (.t 9) 2, none⟩,
  ⟨(some 6), .mv (.t 11), none⟩]
def p163_4 : List AOper := [⟨(some 12), .mv (.t 6), none⟩,
  ⟨(some 13), .mv (.t 1), none⟩,
  ⟨(some 14), .bin .eql .n (.t 12) (.t 13), none⟩]
def p163_5 : List AOper := [⟨(some 4), .mv (.c (.bool true)), none⟩]
def p163_6 : List AOper := [⟨(some 4), .mv (.c (.bool false)), none⟩]
def p163 : AFun := ⟨15, .seq (.region p163_0) (.seq (.seq (.region p163_1) (.block 0 (.loop (.seq (.region p163_2) (.seq (.cond (.t 10) (.skip) (.exit 0)) (.block 1 (.seq (.region p163_3) (.seq (.region p163_4) (.cond (.t 14) (.seq (.region p163_5) (.ret)) (.skip)))))))))) (.seq (.region p163_6) (.ret))),
  [.mv (.t 4)]⟩

/- 164 strconv.Atoi -/
def p164_0 : List AOper := [⟨(some 2), .mv (.c (.int .i64 0)), none⟩,
  ⟨(some 3), .mv (.c (.nili)), none⟩]
def p164_1 : List AOper := [⟨(some 7), .mv (.t 0), none⟩,
  ⟨(some 8), .call 174 [.t 7], none⟩,
  ⟨(some 6), .mv (.t 8), none⟩,
  ⟨(some 9), .ext (.t 6) 0, none⟩,
  ⟨(some 10), .ext (.t 6) 1, none⟩,
  ⟨(some 4), .mv (.t 9), none⟩,
  ⟨(some 5), .mv (.t 10), none⟩]
def p164_2 : List AOper := [⟨(some 11), .mv (.t 5), none⟩,
  ⟨(some 12), .bin .neq .i (.t 11) (.c (.nili)), none⟩]
def p164_3 : List AOper := [⟨(some 13), .mv (.t 4), none⟩,
  ⟨(some 14), .mv (.t 0), none⟩,
  ⟨(some 15), .mv (.t 5), none⟩,
  ⟨(some 16), .call 175 [.c (.str [65, 116, 111, 105]), .t 14, .c (.int .i64 0), .c (.int .i64 0), .t 15], none⟩,
  ⟨(some 2), .mv (.t 13), none⟩,
  ⟨(some 3), .mv (.t 16), none⟩]
def p164_4 : List AOper := [⟨(some 17), .mv (.t 4), none⟩,
  ⟨(some 2), .mv (.t 17), none⟩,
  ⟨(some 3), .mv (.c (.nili)), none⟩]
def p164 : AFun := ⟨18, .seq (.region p164_0) (.seq (.region p164_1) (.seq (.seq (.region p164_2) (.cond (.t 12) (.seq (.region p164_3) (.ret)) (.skip))) (.seq (.region p164_4) (.ret)))),
  [.mv (.t 2), .mv (.t 3)]⟩

/- 165 strconv.Itoa -/
def p165_0 : List AOper := [⟨(some 2), .mv (.c (.str [])), none⟩]
def p165_1 : List AOper := [⟨(some 3), .mv (.t 0), none⟩,
  ⟨(some 4), .call 176 [.t 3], none⟩,
  ⟨(some 2), .mv (.t 4), none⟩]
def p165 : AFun := ⟨5, .seq (.region p165_0) (.seq (.region p165_1) (.ret)),
  [.mv (.t 2)]⟩

/- 166 slices.siftDownCmpFunc[waxwork/class.Range] -/
def p166_0 : List AOper := [⟨(some 12), .mv (.t 1), none⟩,
  ⟨(some 10), .mv (.t 12), none⟩]
def p166_1 : List AOper := [⟨(some 13), .mv (.t 10), none⟩,
  ⟨(some 14), .bin .mul .n (.c (.int .i64 2)) (.t 13), none⟩,
  ⟨(some 15), .bin .add .n (.t 14) (.c (.int .i64 1)), none⟩,
  ⟨(some 11), .mv (.t 15), none⟩]
def p166_2 : List AOper := [⟨(some 16), .mv (.t 11), none⟩,
  ⟨(some 17), .mv (.t 2), none⟩,
  ⟨(some 18), .bin .geq .n (.t 16) (.t 17), none⟩]
def p166_3 : List DOp := [⟨0, ⟨(some 19), .mv (.t 11), none⟩, [], .pure⟩,
  ⟨1, ⟨(some 20), .bin .add .n (.t 19) (.c (.int .i64 1)), none⟩, [0], .pure⟩,
  ⟨2, ⟨(some 21), .mv (.t 2), none⟩, [], .pure⟩,
  ⟨3, ⟨(some 22), .bin .lss .n (.t 20) (.t 21), none⟩, [0, 1, 2], .pure⟩,
  ⟨4, ⟨(some 23), .mv (.t 22), none⟩, [0, 1, 2, 3], .pure⟩,
  ⟨5, ⟨(some 24), .mv (.t 4), (some (23, true))⟩, [0, 1, 2, 3, 4], .pure⟩,
  ⟨6, ⟨(some 25), .mv (.t 0), (some (23, true))⟩, [0, 1, 2, 3, 4], .pure⟩,
  ⟨7, ⟨(some 26), .mv (.t 3), (some (23, true))⟩, [0, 1, 2, 3, 4], .pure⟩,
  ⟨8, ⟨(some 27), .mv (.t 11), (some (23, true))⟩, [0, 1, 2, 3, 4], .pure⟩,
  ⟨9, ⟨(some 28), .bin .add .n (.t 26) (.t 27), (some (23, true))⟩, [0, 1, 2, 3, 4, 7, 8], .pure⟩,
  ⟨10, ⟨(some 29), .iad 2 (.t 25) (.t 28), (some (23, true))⟩, [0, 1, 2, 3, 4, 6, 7, 8, 9], .pure⟩,
  ⟨11, ⟨(some 30), .ldn 2 (.t 29), (some (23, true))⟩, [0, 1, 2, 3, 4, 6, 7, 8, 9, 10], .read⟩,
  ⟨12, ⟨(some 31), .mv (.t 0), (some (23, true))⟩, [0, 1, 2, 3, 4], .pure⟩,
  ⟨13, ⟨(some 32), .mv (.t 3), (some (23, true))⟩, [0, 1, 2, 3, 4], .pure⟩,
  ⟨14, ⟨(some 33), .mv (.t 11), (some (23, true))⟩, [0, 1, 2, 3, 4], .pure⟩,
  ⟨15, ⟨(some 34), .bin .add .n (.t 32) (.t 33), (some (23, true))⟩, [0, 1, 2, 3, 4, 13, 14], .pure⟩,
  ⟨16, ⟨(some 35), .bin .add .n (.t 34) (.c (.int .i64 1)), (some (23, true))⟩, [0, 1, 2, 3, 4, 13, 14, 15], .pure⟩,
  ⟨17, ⟨(some 36), .iad 2 (.t 31) (.t 35), (some (23, true))⟩, [0, 1, 2, 3, 4, 12, 13, 14, 15, 16], .pure⟩,
  ⟨18, ⟨(some 37), .ldn 2 (.t 36), (some (23, true))⟩, [0, 1, 2, 3, 4, 12, 13, 14, 15, 16, 17], .read⟩,
  ⟨19, ⟨(some 38), .callv (.t 24) [.t 30, .t 37], (some (23, true))⟩, [0, 1, 2, 3, 4, 5, 6, 7, 8, 9, 10, 11, 12, 13, 14, 15, 16, 17, 18], .eff⟩,
  ⟨20, ⟨(some 39), .bin .lss .n (.t 38) (.c (.int .i64 0)), (some (23, true))⟩, [0, 1, 2, 3, 4, 5, 6, 7, 8, 9, 10, 11, 12, 13, 14, 15, 16, 17, 18, 19], .pure⟩,
  ⟨21, ⟨(some 40), .pick (.t 23) (.t 39) (.c (.bool false)), none⟩, [0, 1, 2, 3, 4, 5, 6, 7, 8, 9, 10, 11, 12, 13, 14, 15, 16, 17, 18, 19, 20], .pure⟩]
def p166_4 : List AOper := [⟨(some 41), .mv (.t 11), none⟩,
  ⟨(some 42), .bin .add .n (.t 41) (.c (.int .i64 1)), none⟩,
  ⟨(some 11), .mv (.t 42), none⟩]
def p166_5 : List DOp := [⟨0, ⟨(some 43), .mv (.t 4), none⟩, [], .pure⟩,
  ⟨1, ⟨(some 44), .mv (.t 0), none⟩, [], .pure⟩,
  ⟨2, ⟨(some 45), .mv (.t 3), none⟩, [], .pure⟩,
  ⟨3, ⟨(some 46), .mv (.t 10), none⟩, [], .pure⟩,
  ⟨4, ⟨(some 47), .bin .add .n (.t 45) (.t 46), none⟩, [2, 3], .pure⟩,
  ⟨5, ⟨(some 48), .iad 2 (.t 44) (.t 47), none⟩, [1, 2, 3, 4], .pure⟩,
  ⟨6, ⟨(some 49), .ldn 2 (.t 48), none⟩, [1, 2, 3, 4, 5], .read⟩,
  ⟨7, ⟨(some 50), .mv (.t 0), none⟩, [], .pure⟩,
  ⟨8, ⟨(some 51), .mv (.t 3), none⟩, [], .pure⟩,
  ⟨9, ⟨(some 52), .mv (.t 11), none⟩, [], .pure⟩,
  ⟨10, ⟨(some 53), .bin .add .n (.t 51) (.t 52), none⟩, [8, 9], .pure⟩,
  ⟨11, ⟨(some 54), .iad 2 (.t 50) (.t 53), none⟩, [7, 8, 9, 10], .pure⟩,
  ⟨12, ⟨(some 55), .ldn 2 (.t 54), none⟩, [7, 8, 9, 10, 11], .read⟩,
  ⟨13, ⟨(some 56), .callv (.t 43) [.t 49, .t 55], none⟩, [0, 1, 2, 3, 4, 5, 6, 7, 8, 9, 10, 11, 12], .eff⟩,
  ⟨14, ⟨(some 57), .bin .lss .n (.t 56) (.c (.int .i64 0)), none⟩, [0, 1, 2, 3, 4, 5, 6, 7, 8, 9, 10, 11, 12, 13], .pure⟩,
  ⟨15, ⟨(some 58), .not (.t 57), none⟩, [0, 1, 2, 3, 4, 5, 6, 7, 8, 9, 10, 11, 12, 13, 14], .pure⟩]
def p166_6 : List DOp := [⟨0, ⟨(some 59), .mv (.t 0), none⟩, [], .pure⟩,
  ⟨1, ⟨(some 60), .mv (.t 3), none⟩, [], .pure⟩,
  ⟨2, ⟨(some 61), .mv (.t 10), none⟩, [], .pure⟩,
  ⟨3, ⟨(some 62), .bin .add .n (.t 60) (.t 61), none⟩, [1, 2], .pure⟩,
  ⟨4, ⟨(some 63), .mv (.t 0), none⟩, [], .pure⟩,
  ⟨5, ⟨(some 64), .mv (.t 3), none⟩, [], .pure⟩,
  ⟨6, ⟨(some 65), .mv (.t 11), none⟩, [], .pure⟩,
  ⟨7, ⟨(some 66), .bin .add .n (.t 64) (.t 65), none⟩, [5, 6], .pure⟩,
  ⟨8, ⟨(some 67), .mv (.t 0), none⟩, [], .pure⟩,
  ⟨9, ⟨(some 68), .mv (.t 3), none⟩, [], .pure⟩,
  ⟨10, ⟨(some 69), .mv (.t 11), none⟩, [], .pure⟩,
  ⟨11, ⟨(some 70), .bin .add .n (.t 68) (.t 69), none⟩, [9, 10], .pure⟩,
  ⟨12, ⟨(some 71), .iad 2 (.t 67) (.t 70), none⟩, [8, 9, 10, 11], .pure⟩,
  ⟨13, ⟨(some 72), .ldn 2 (.t 71), none⟩, [8, 9, 10, 11, 12], .read⟩,
  ⟨14, ⟨(some 73), .mv (.t 0), none⟩, [], .pure⟩,
  ⟨15, ⟨(some 74), .mv (.t 3), none⟩, [], .pure⟩,
  ⟨16, ⟨(some 75), .mv (.t 10), none⟩, [], .pure⟩,
  ⟨17, ⟨(some 76), .bin .add .n (.t 74) (.t 75), none⟩, [15, 16], .pure⟩,
  ⟨18, ⟨(some 77), .iad 2 (.t 73) (.t 76), none⟩, [14, 15, 16, 17], .pure⟩,
  ⟨19, ⟨(some 78), .ldn 2 (.t 77), none⟩, [14, 15, 16, 17, 18], .read⟩,
  ⟨20, ⟨(some 79), .iad 2 (.t 59) (.t 62), none⟩, [0, 1, 2, 3, 8, 9, 10, 11, 12, 13, 14, 15, 16, 17, 18, 19], .pure⟩,
  ⟨21, ⟨none, .st 2 (.t 79) (.t 72), none⟩, [0, 1, 2, 3, 8, 9, 10, 11, 12, 13, 14, 15, 16, 17, 18, 19, 20], .eff⟩,
  ⟨22, ⟨(some 80), .iad 2 (.t 63) (.t 66), none⟩, [0, 1, 2, 3, 4, 5, 6, 7, 8, 9, 10, 11, 12, 13, 14, 15, 16, 17, 18, 19, 20, 21], .pure⟩,
  ⟨23, ⟨none, .st 2 (.t 80) (.t 78), none⟩, [0, 1, 2, 3, 4, 5, 6, 7, 8, 9, 10, 11, 12, 13, 14, 15, 16, 17, 18, 19, 20, 21, 22], .eff⟩]
def p166_7 : List AOper := [⟨(some 81), .mv (.t 11), none⟩,
  ⟨(some 10), .mv (.t 81), none⟩]
def p166 : AFun := ⟨82, .seq (.region p166_0) (.block 0 (.loop (.block 1 (.seq (.region p166_1) (.seq (.seq (.region p166_2) (.cond (.t 18) (.exit 0) (.skip))) (.seq (.seq (.draw 0 p166_3) (.cond (.t 40) (.region p166_4) (.skip))) (.seq (.seq (.draw 0 p166_5) (.cond (.t 58) (.ret) (.skip))) (.seq (.draw 0 p166_6) (.region p166_7))))))))),
  []⟩

/- 167 slices.nextPowerOfTwo -/
def p167_0 : List AOper := [⟨(some 2), .mv (.c (.int .u64 0)), none⟩]
def p167_1 : List AOper := [⟨(some 3), .mv (.t 0), none⟩,
  ⟨(some 4), .cvi .u64 (.t 3), none⟩,
  ⟨(some 5), .call 134 [.t 4], none⟩,
  ⟨(some 6), .bin .shl .n (.c (.int .u64 1)) (.t 5), none⟩,
  ⟨(some 2), .mv (.t 6), none⟩]
def p167 : AFun := ⟨7, .seq (.region p167_0) (.seq (.region p167_1) (.ret)),
  [.mv (.t 2)]⟩

/- 168 (*slices.xorshift).Next -/
def p168_0 : List AOper := [⟨(some 2), .mv (.c (.int .u64 0)), none⟩]
def p168_1 : List DOp := [⟨0, ⟨(some 3), .mv (.t 0), none⟩, [], .pure⟩,
  ⟨1, ⟨(some 4), .nilchk (.t 3), none⟩, [0], .pure⟩,
  ⟨2, ⟨(some 5), .ld (.t 4), none⟩, [0, 1], .read⟩,
  ⟨3, ⟨(some 6), .mv (.t 0), none⟩, [], .pure⟩,
  ⟨4, ⟨(some 7), .nilchk (.t 6), none⟩, [3], .pure⟩,
  ⟨5, ⟨(some 8), .ld (.t 7), none⟩, [3, 4], .read⟩,
  ⟨6, ⟨(some 9), .bin .shl .n (.t 8) (.c (.int .u64 13)), none⟩, [3, 4, 5], .pure⟩,
  ⟨7, ⟨(some 10), .bin .xor .n (.t 5) (.t 9), none⟩, [0, 1, 2, 3, 4, 5, 6], .pure⟩,
  ⟨8, ⟨(some 11), .nilchk (.t 3), none⟩, [0, 1, 2, 3, 4, 5, 6, 7], .pure⟩,
  ⟨9, ⟨none, .st 1 (.t 11) (.t 10), none⟩, [0, 1, 2, 3, 4, 5, 6, 7, 8], .eff⟩]
def p168_2 : List DOp := [⟨0, ⟨(some 12), .mv (.t 0), none⟩, [], .pure⟩,
  ⟨1, ⟨(some 13), .nilchk (.t 12), none⟩, [0], .pure⟩,
  ⟨2, ⟨(some 14), .ld (.t 13), none⟩, [0, 1], .read⟩,
  ⟨3, ⟨(some 15), .mv (.t 0), none⟩, [], .pure⟩,
  ⟨4, ⟨(some 16), .nilchk (.t 15), none⟩, [3], .pure⟩,
  ⟨5, ⟨(some 17), .ld (.t 16), none⟩, [3, 4], .read⟩,
  ⟨6, ⟨(some 18), .bin .shr .n (.t 17) (.c (.int .u64 7)), none⟩, [3, 4, 5], .pure⟩,
  ⟨7, ⟨(some 19), .bin .xor .n (.t 14) (.t 18), none⟩, [0, 1, 2, 3, 4, 5, 6], .pure⟩,
  ⟨8, ⟨(some 20), .nilchk (.t 12), none⟩, [0, 1, 2, 3, 4, 5, 6, 7], .pure⟩,
  ⟨9, ⟨none, .st 1 (.t 20) (.t 19), none⟩, [0, 1, 2, 3, 4, 5, 6, 7, 8], .eff⟩]
def p168_3 : List DOp := [⟨0, ⟨(some 21), .mv (.t 0), none⟩, [], .pure⟩,
  ⟨1, ⟨(some 22), .nilchk (.t 21), none⟩, [0], .pure⟩,
  ⟨2, ⟨(some 23), .ld (.t 22), none⟩, [0, 1], .read⟩,
  ⟨3, ⟨(some 24), .mv (.t 0), none⟩, [], .pure⟩,
  ⟨4, ⟨(some 25), .nilchk (.t 24), none⟩, [3], .pure⟩,
  ⟨5, ⟨(some 26), .ld (.t 25), none⟩, [3, 4], .read⟩,
  ⟨6, ⟨(some 27), .bin .shl .n (.t 26) (.c (.int .u64 17)), none⟩, [3, 4, 5], .pure⟩,
  ⟨7, ⟨(some 28), .bin .xor .n (.t 23) (.t 27), none⟩, [0, 1, 2, 3, 4, 5, 6], .pure⟩,
  ⟨8, ⟨(some 29), .nilchk (.t 21), none⟩, [0, 1, 2, 3, 4, 5, 6, 7], .pure⟩,
  ⟨9, ⟨none, .st 1 (.t 29) (.t 28), none⟩, [0, 1, 2, 3, 4, 5, 6, 7, 8], .eff⟩]
def p168_4 : List AOper := [⟨(some 30), .mv (.t 0), none⟩,
  ⟨(some 31), .nilchk (.t 30), none⟩,
  ⟨(some 32), .ld (.t 31), none⟩,
  ⟨(some 2), .mv (.t 32), none⟩]
def p168 : AFun := ⟨33, .seq (.region p168_0) (.seq (.draw 0 p168_1) (.seq (.draw 0 p168_2) (.seq (.draw 0 p168_3) (.seq (.region p168_4) (.ret))))),
  [.mv (.t 2)]⟩

/- 169 slices.medianAdjacentCmpFunc[waxwork/class.Range] -/
def p169_0 : List AOper := [⟨(some 8), .mv (.c (.int .i64 0)), none⟩]
def p169_1 : List AOper := [⟨(some 9), .mv (.t 0), none⟩,
  ⟨(some 10), .mv (.t 1), none⟩,
  ⟨(some 11), .bin .sub .n (.t 10) (.c (.int .i64 1)), none⟩,
  ⟨(some 12), .mv (.t 1), none⟩,
  ⟨(some 13), .mv (.t 1), none⟩,
  ⟨(some 14), .bin .add .n (.t 13) (.c (.int .i64 1)), none⟩,
  ⟨(some 15), .mv (.t 2), none⟩,
  ⟨(some 16), .mv (.t 3), none⟩,
  ⟨(some 17), .call 170 [.t 9, .t 11, .t 12, .t 14, .t 15, .t 16], none⟩,
  ⟨(some 8), .mv (.t 17), none⟩]
def p169 : AFun := ⟨18, .seq (.region p169_0) (.seq (.region p169_1) (.ret)),
  [.mv (.t 8)]⟩

/- 170 slices.medianCmpFunc[waxwork/class.Range] -/
def p170_0 : List AOper := [⟨(some 12), .mv (.c (.int .i64 0)), none⟩]
def p170_1 : List AOper := [⟨(some 14), .mv (.t 0), none⟩,
  ⟨(some 15), .mv (.t 1), none⟩,
  ⟨(some 16), .mv (.t 2), none⟩,
  ⟨(some 17), .mv (.t 4), none⟩,
  ⟨(some 18), .mv (.t 5), none⟩,
  ⟨(some 19), .call 177 [.t 14, .t 15, .t 16, .t 17, .t 18], none⟩,
  ⟨(some 13), .mv (.t 19), none⟩,
  ⟨(some 20), .ext (.t 13) 0, none⟩,
  ⟨(some 21), .ext (.t 13) 1, none⟩,
  ⟨(some 1), .mv (.t 20), none⟩,
  ⟨(some 2), .mv (.t 21), none⟩]
def p170_2 : List AOper := [⟨(some 23), .mv (.t 0), none⟩,
  ⟨(some 24), .mv (.t 2), none⟩,
  ⟨(some 25), .mv (.t 3), none⟩,
  ⟨(some 26), .mv (.t 4), none⟩,
  ⟨(some 27), .mv (.t 5), none⟩,
  ⟨(some 28), .call 177 [.t 23, .t 24, .t 25, .t 26, .t 27], none⟩,
  ⟨(some 22), .mv (.t 28), none⟩,
  ⟨(some 29), .ext (.t 22) 0, none⟩,
  ⟨(some 30), .ext (.t 22) 1, none⟩,
  ⟨(some 2), .mv (.t 29), none⟩,
  ⟨(some 3), .mv (.t 30), none⟩]
def p170_3 : List AOper := [⟨(some 32), .mv (.t 0), none⟩,
  ⟨(some 33), .mv (.t 1), none⟩,
  ⟨(some 34), .mv (.t 2), none⟩,
  ⟨(some 35), .mv (.t 4), none⟩,
  ⟨(some 36), .mv (.t 5), none⟩,
  ⟨(some 37), .call 177 [.t 32, .t 33, .t 34, .t 35, .t 36], none⟩,
  ⟨(some 31), .mv (.t 37), none⟩,
  ⟨(some 38), .ext (.t 31) 0, none⟩,
  ⟨(some 39), .ext (.t 31) 1, none⟩,
  ⟨(some 1), .mv (.t 38), none⟩,
  ⟨(some 2), .mv (.t 39), none⟩]
def p170_4 : List AOper := [⟨(some 40), .mv (.t 2), none⟩,
  ⟨(some 12), .mv (.t 40), none⟩]
def p170 : AFun := ⟨41, .seq (.region p170_0) (.seq (.region p170_1) (.seq (.region p170_2) (.seq (.region p170_3) (.seq (.region p170_4) (.ret))))),
  [.mv (.t 12)]⟩

/- 171 (*waxwork/syntax.parser).member -/
def p171_0 : List AOper := [⟨(some 4), .mv (.c (.nils)), none⟩]
def p171_1 : List AOper := [⟨(some 7), .mv (.t 0), none⟩,
  ⟨(some 8), .call 141 [.t 7], none⟩,
  ⟨(some 5), .mv (.t 8), none⟩]
def p171_2 : List AOper := [⟨(some 9), .mv (.t 5), none⟩,
  ⟨(some 10), .bin .eql .n (.t 9) (.c (.int .i32 92)), none⟩]
def p171_3 : List AOper := [⟨(some 11), .mv (.t 0), none⟩,
  ⟨(some 12), .call 141 [.t 11], none⟩,
  ⟨(some 13), .call 160 [.t 12], none⟩,
  ⟨(some 6), .mv (.t 13), none⟩]
def p171_4 : List AOper := [⟨(some 14), .mv (.t 6), none⟩,
  ⟨(some 15), .lensl (.t 14), none⟩,
  ⟨(some 16), .bin .gtr .n (.t 15) (.c (.int .i64 0)), none⟩,
  ⟨(some 17), .mv (.t 1), none⟩,
  ⟨(some 18), .call 73 [.t 16, .t 17], none⟩]
def p171_5 : List AOper := [⟨(some 19), .mv (.t 6), none⟩,
  ⟨(some 4), .mv (.t 19), none⟩]
def p171_6 : List AOper := [⟨(some 20), .mv (.t 5), none⟩,
  ⟨(some 21), .bin .geq .n (.t 20) (.c (.int .i32 0)), none⟩,
  ⟨(some 22), .mv (.t 21), none⟩,
  ⟨(some 23), .mv (.t 5), (some (22, true))⟩,
  ⟨(some 24), .call 146 [.t 23, .c (.str [92, 93, 45, 94])], (some (22, true))⟩,
  ⟨(some 25), .not (.t 24), (some (22, true))⟩,
  ⟨(some 26), .pick (.t 22) (.t 25) (.c (.bool false)), none⟩,
  ⟨(some 27), .mv (.t 1), none⟩,
  ⟨(some 28), .call 73 [.t 26, .t 27], none⟩]
def p171_7 : List AOper := [⟨(some 29), .mv (.t 5), none⟩,
  ⟨(some 30), .mv (.t 5), none⟩,
  ⟨(some 31), .call 147 [.t 29, .t 30], none⟩,
  ⟨(some 32), .bslice 2 1 [.int .i32 0, .int .i32 0] [(0, 2, .t 31)], none⟩,
  ⟨(some 33), .call 77 [.t 32], none⟩,
  ⟨(some 4), .mv (.t 33), none⟩]
def p171 : AFun := ⟨34, .seq (.region p171_0) (.seq (.region p171_1) (.seq (.seq (.region p171_2) (.cond (.t 10) (.seq (.region p171_3) (.seq (.region p171_4) (.seq (.region p171_5) (.ret)))) (.skip))) (.seq (.region p171_6) (.seq (.region p171_7) (.ret))))),
  [.mv (.t 4)]⟩

/- 172 (waxwork/class.Class).Many -/
def p172_0 : List AOper := [⟨(some 2), .mv (.c (.int .i64 0)), none⟩]
def p172_1 : List AOper := [⟨(some 3), .mv (.c (.int .i64 0)), none⟩]
def p172_2 : List AOper := [⟨(some 6), .mv (.t 0), none⟩,
  ⟨(some 7), .call 77 [.t 6], none⟩,
  ⟨(some 8), .lensl (.t 7), none⟩,
  ⟨(some 9), .mv (.c (.int .i64 0)), none⟩]
def p172_3 : List AOper := [⟨(some 10), .bin .lss .n (.t 9) (.t 8), none⟩]
def p172_4 : List AOper := [⟨(some 11), .iad 2 (.t 7) (.t 9), none⟩,
  ⟨(some 12), .ldn 2 (.t 11), none⟩,
  ⟨(some 5), .alloc [.int .i32 0, .int .i32 0], none⟩,
  ⟨none, .st 2 (.t 5) (.t 12), none⟩]
def p172_5 : List AOper := [⟨(some 13), .mv (.t 3), none⟩,
  ⟨(some 14), .fad 1 (.t 5), none⟩,
  ⟨(some 15), .ld (.t 14), none⟩,
  ⟨(some 16), .fad 0 (.t 5), none⟩,
  ⟨(some 17), .ld (.t 16), none⟩,
  ⟨(some 18), .bin .sub .n (.t 15) (.t 17), none⟩,
  ⟨(some 19), .cvi .i64 (.t 18), none⟩,
  ⟨(some 20), .bin .add .n (.t 19) (.c (.int .i64 1)), none⟩,
  ⟨(some 21), .bin .add .n (.t 13) (.t 20), none⟩,
  ⟨(some 3), .mv (.t 21), none⟩]
def p172_6 : List AOper := [⟨(some 22), .bin .add .n (.t 9) (.c (.int .i64 1)), none⟩,
  ⟨(some 9), .mv (.t 22), none⟩]
def p172_7 : List AOper := [⟨(some 23), .mv (.t 3), none⟩,
  ⟨(some 2), .mv (.t 23), none⟩]
def p172 : AFun := ⟨24, .seq (.region p172_0) (.seq (.region p172_1) (.seq (.seq (.region p172_2) (.block 0 (.loop (.seq (.region p172_3) (.seq (.cond (.t 10) (.skip) (.exit 0)) (.seq (.block 1 (.seq (.region p172_4) (.region p172_5))) (.region p172_6))))))) (.seq (.region p172_7) (.ret)))),
  [.mv (.t 2)]⟩

/- 173 slices.Concat[waxwork/class.Class,waxwork/class.Range] -/
def p173_0 : List AOper := [⟨(some 2), .mv (.c (.nils)), none⟩]
def p173_1 : List AOper := [⟨(some 3), .mv (.c (.int .i64 0)), none⟩]
def p173_2 : List AOper := [⟨(some 9), .mv (.t 0), none⟩,
  ⟨(some 10), .lensl (.t 9), none⟩,
  ⟨(some 11), .mv (.c (.int .i64 0)), none⟩]
def p173_3 : List AOper := [⟨(some 12), .bin .lss .n (.t 11) (.t 10), none⟩]
def p173_4 : List AOper := [⟨(some 13), .iad 1 (.t 9) (.t 11), none⟩,
  ⟨(some 14), .ld (.t 13), none⟩,
  ⟨(some 5), .mv (.t 14), none⟩]
def p173_5 : List AOper := [⟨(some 15), .mv (.t 3), none⟩,
  ⟨(some 16), .mv (.t 5), none⟩,
  ⟨(some 17), .lensl (.t 16), none⟩,
  ⟨(some 18), .bin .add .n (.t 15) (.t 17), none⟩,
  ⟨(some 3), .mv (.t 18), none⟩]
def p173_6 : List AOper := [⟨(some 19), .mv (.t 3), none⟩,
  ⟨(some 20), .bin .lss .n (.t 19) (.c (.int .i64 0)), none⟩]
def p173_7 : List AOper := [⟨(some 21), .mkif 9 (.c (.str [108, 101, 110, 32, 111, 117, 116, 32, 111, 102, 32, 114, 97, 110, 103, 101])), none⟩,
  ⟨none, .pan (.t 21), none⟩]
def p173_8 : List AOper := [⟨(some 22), .bin .add .n (.t 11) (.c (.int .i64 1)), none⟩,
  ⟨(some 11), .mv (.t 22), none⟩]
def p173_9 : List AOper := [⟨(some 23), .mv (.t 3), none⟩,
  ⟨(some 24), .call 178 [.c (.nils), .t 23], none⟩,
  ⟨(some 6), .mv (.t 24), none⟩]
def p173_10 : List AOper := [⟨(some 25), .mv (.t 0), none⟩,
  ⟨(some 26), .lensl (.t 25), none⟩,
  ⟨(some 27), .mv (.c (.int .i64 0)), none⟩]
def p173_11 : List AOper := [⟨(some 28), .bin .lss .n (.t 27) (.t 26), none⟩]
def p173_12 : List AOper := [⟨(some 29), .iad 1 (.t 25) (.t 27), none⟩,
  ⟨(some 30), .ld (.t 29), none⟩,
  ⟨(some 8), .mv (.t 30), none⟩]
def p173_13 : List AOper := [⟨(some 31), .mv (.t 6), none⟩,
  ⟨(some 32), .mv (.t 8), none⟩,
  ⟨(some 33), .app 2 (.t 31) (.t 32), none⟩,
  ⟨(some 6), .mv (.t 33), none⟩]
def p173_14 : List AOper := [⟨(some 34), .bin .add .n (.t 27) (.c (.int .i64 1)), none⟩,
  ⟨(some 27), .mv (.t 34), none⟩]
def p173_15 : List AOper := [⟨(some 35), .mv (.t 6), none⟩,
  ⟨(some 2), .mv (.t 35), none⟩]
def p173 : AFun := ⟨36, .seq (.region p173_0) (.seq (.region p173_1) (.seq (.seq (.region p173_2) (.block 0 (.loop (.seq (.region p173_3) (.seq (.cond (.t 12) (.skip) (.exit 0)) (.seq (.block 1 (.seq (.region p173_4) (.seq (.region p173_5) (.seq (.region p173_6) (.cond (.t 20) (.region p173_7) (.skip)))))) (.region p173_8))))))) (.seq (.region p173_9) (.seq (.seq (.region p173_10) (.block 2 (.loop (.seq (.region p173_11) (.seq (.cond (.t 28) (.skip) (.exit 2)) (.seq (.block 3 (.seq (.region p173_12) (.region p173_13))) (.region p173_14))))))) (.seq (.region p173_15) (.ret)))))),
  [.mv (.t 2)]⟩

/- 174 internal/strconv.Atoi -/
def p174_0 : List AOper := [⟨(some 2), .mv (.c (.int .i64 0)), none⟩,
  ⟨(some 3), .mv (.c (.nili)), none⟩]
def p174_1 : List AOper := [⟨(some 11), .mv (.t 0), none⟩,
  ⟨(some 12), .lens (.t 11), none⟩,
  ⟨(some 4), .mv (.t 12), none⟩]
def p174_2 : List AOper := [⟨(some 13), .mv (.c (.bool false)), none⟩,
  ⟨(some 14), .mv (.t 4), (some (13, true))⟩,
  ⟨(some 15), .bin .lss .n (.c (.int .i64 0)) (.t 14), (some (13, true))⟩,
  ⟨(some 16), .mv (.t 15), (some (13, true))⟩,
  ⟨(some 17), .mv (.t 4), (some (16, true))⟩,
  ⟨(some 18), .bin .lss .n (.t 17) (.c (.int .i64 10)), (some (16, true))⟩,
  ⟨(some 19), .pick (.t 16) (.t 18) (.c (.bool false)), (some (13, true))⟩,
  ⟨(some 20), .pick (.t 13) (.t 19) (.c (.bool false)), none⟩,
  ⟨(some 21), .mv (.t 20), none⟩,
  ⟨(some 22), .mv (.c (.bool true)), (some (21, false))⟩,
  ⟨(some 23), .mv (.t 4), (some (22, true))⟩,
  ⟨(some 24), .bin .lss .n (.c (.int .i64 0)) (.t 23), (some (22, true))⟩,
  ⟨(some 25), .mv (.t 24), (some (22, true))⟩,
  ⟨(some 26), .mv (.t 4), (some (25, true))⟩,
  ⟨(some 27), .bin .lss .n (.t 26) (.c (.int .i64 19)), (some (25, true))⟩,
  ⟨(some 28), .pick (.t 25) (.t 27) (.c (.bool false)), (some (22, true))⟩,
  ⟨(some 29), .pick (.t 22) (.t 28) (.c (.bool false)), (some (21, false))⟩,
  ⟨(some 30), .pick (.t 21) (.c (.bool true)) (.t 29), none⟩]
def p174_3 : List AOper := [⟨(some 31), .mv (.t 0), none⟩,
  ⟨(some 5), .mv (.t 31), none⟩]
def p174_4 : List AOper := [⟨(some 32), .mv (.t 0), none⟩,
  ⟨(some 33), .idxs (.t 32) (.c (.int .i64 0)), none⟩,
  ⟨(some 34), .bin .eql .n (.t 33) (.c (.int .u8 45)), none⟩,
  ⟨(some 35), .mv (.t 34), none⟩,
  ⟨(some 36), .mv (.t 0), (some (35, false))⟩,
  ⟨(some 37), .idxs (.t 36) (.c (.int .i64 0)), (some (35, false))⟩,
  ⟨(some 38), .bin .eql .n (.t 37) (.c (.int .u8 43)), (some (35, false))⟩,
  ⟨(some 39), .pick (.t 35) (.c (.bool true)) (.t 38), none⟩]
def p174_5 : List AOper := [⟨(some 40), .mv (.t 0), none⟩,
  ⟨(some 41), .slcs (.t 40) (some (.c (.int .i64 1))) none, none⟩,
  ⟨(some 0), .mv (.t 41), none⟩]
def p174_6 : List AOper := [⟨(some 42), .mv (.t 0), none⟩,
  ⟨(some 43), .lens (.t 42), none⟩,
  ⟨(some 44), .bin .lss .n (.t 43) (.c (.int .i64 1)), none⟩]
def p174_7 : List AOper := [⟨(some 45), .mkif 227 (.c (.int .i64 2)), none⟩,
  ⟨(some 2), .mv (.c (.int .i64 0)), none⟩,
  ⟨(some 3), .mv (.t 45), none⟩]
def p174_8 : List AOper := [⟨(some 6), .mv (.c (.int .i64 0)), none⟩]
def p174_9 : List AOper := [⟨(some 46), .mv (.t 0), none⟩,
  ⟨(some 47), .cvsb (.t 46), none⟩,
  ⟨(some 48), .lensl (.t 47), none⟩,
  ⟨(some 49), .mv (.c (.int .i64 0)), none⟩]
def p174_10 : List AOper := [⟨(some 50), .bin .lss .n (.t 49) (.t 48), none⟩]
def p174_11 : List AOper := [⟨(some 51), .iad 1 (.t 47) (.t 49), none⟩,
  ⟨(some 52), .ld (.t 51), none⟩,
  ⟨(some 8), .mv (.t 52), none⟩]
def p174_12 : List AOper := [⟨(some 53), .mv (.t 8), none⟩,
  ⟨(some 54), .bin .sub .n (.t 53) (.c (.int .u8 48)), none⟩,
  ⟨(some 8), .mv (.t 54), none⟩]
def p174_13 : List AOper := [⟨(some 55), .mv (.t 8), none⟩,
  ⟨(some 56), .bin .gtr .n (.t 55) (.c (.int .u8 9)), none⟩]
def p174_14 : List AOper := [⟨(some 57), .mkif 227 (.c (.int .i64 2)), none⟩,
  ⟨(some 2), .mv (.c (.int .i64 0)), none⟩,
  ⟨(some 3), .mv (.t 57), none⟩]
def p174_15 : List AOper := [⟨(some 58), .mv (.t 6), none⟩,
  ⟨(some 59), .bin .mul .n (.t 58) (.c (.int .i64 10)), none⟩,
  ⟨(some 60), .mv (.t 8), none⟩,
  ⟨(some 61), .cvi .i64 (.t 60), none⟩,
  ⟨(some 62), .bin .add .n (.t 59) (.t 61), none⟩,
  ⟨(some 6), .mv (.t 62), none⟩]
def p174_16 : List AOper := [⟨(some 63), .bin .add .n (.t 49) (.c (.int .i64 1)), none⟩,
  ⟨(some 49), .mv (.t 63), none⟩]
def p174_17 : List AOper := [⟨(some 64), .mv (.t 5), none⟩,
  ⟨(some 65), .idxs (.t 64) (.c (.int .i64 0)), none⟩,
  ⟨(some 66), .bin .eql .n (.t 65) (.c (.int .u8 45)), none⟩]
def p174_18 : List AOper := [⟨(some 67), .mv (.t 6), none⟩,
  ⟨(some 68), .neg (.t 67), none⟩,
  ⟨(some 6), .mv (.t 68), none⟩]
def p174_19 : List AOper := [⟨(some 69), .mv (.t 6), none⟩,
  ⟨(some 2), .mv (.t 69), none⟩,
  ⟨(some 3), .mv (.c (.nili)), none⟩]
def p174_20 : List AOper := [⟨(some 71), .mv (.t 0), none⟩,
  ⟨(some 72), .call 179 [.t 71, .c (.int .i64 10), .c (.int .i64 0)], none⟩,
  ⟨(some 70), .mv (.t 72), none⟩,
  ⟨(some 73), .ext (.t 70) 0, none⟩,
  ⟨(some 74), .ext (.t 70) 1, none⟩,
  ⟨(some 9), .mv (.t 73), none⟩,
  ⟨(some 10), .mv (.t 74), none⟩]
def p174_21 : List AOper := [⟨(some 75), .mv (.t 9), none⟩,
  ⟨(some 76), .mv (.t 10), none⟩,
  ⟨(some 2), .mv (.t 75), none⟩,
  ⟨(some 3), .mv (.t 76), none⟩]
def p174 : AFun := ⟨77, .seq (.region p174_0) (.seq (.region p174_1) (.seq (.seq (.region p174_2) (.cond (.t 30) (.seq (.region p174_3) (.seq (.seq (.region p174_4) (.cond (.t 39) (.seq (.region p174_5) (.seq (.region p174_6) (.cond (.t 44) (.seq (.region p174_7) (.ret)) (.skip)))) (.skip))) (.seq (.region p174_8) (.seq (.seq (.region p174_9) (.block 0 (.loop (.seq (.region p174_10) (.seq (.cond (.t 50) (.skip) (.exit 0)) (.seq (.block 1 (.seq (.region p174_11) (.seq (.region p174_12) (.seq (.seq (.region p174_13) (.cond (.t 56) (.seq (.region p174_14) (.ret)) (.skip))) (.region p174_15))))) (.region p174_16))))))) (.seq (.seq (.region p174_17) (.cond (.t 66) (.region p174_18) (.skip))) (.seq (.region p174_19) (.ret))))))) (.skip))) (.seq (.region p174_20) (.seq (.region p174_21) (.ret))))),
  [.mv (.t 2), .mv (.t 3)]⟩

/- 175 strconv.toError -/
def p175_0 : List AOper := [⟨(some 10), .mv (.c (.nili)), none⟩]
def p175_1 : List AOper := [⟨(some 11), .mv (.t 4), none⟩]
def p175_2 : List AOper := [⟨(some 13), .mkif 227 (.c (.int .i64 2)), none⟩,
  ⟨(some 14), .bad, none⟩,
  ⟨(some 12), .mv (.t 14), none⟩]
def p175_3 : List AOper := [⟨(some 15), .mv (.t 0), none⟩,
  ⟨(some 16), .mv (.t 1), none⟩,
  ⟨(some 17), .call 180 [.t 15, .t 16], none⟩,
  ⟨(some 18), .mkif 230 (.t 17), none⟩,
  ⟨(some 10), .mv (.t 18), none⟩]
def p175_4 : List AOper := [⟨(some 20), .mkif 227 (.c (.int .i64 1)), none⟩,
  ⟨(some 21), .bad, none⟩,
  ⟨(some 19), .mv (.t 21), none⟩]
def p175_5 : List AOper := [⟨(some 22), .mv (.t 0), none⟩,
  ⟨(some 23), .mv (.t 1), none⟩,
  ⟨(some 24), .call 181 [.t 22, .t 23], none⟩,
  ⟨(some 25), .mkif 230 (.t 24), none⟩,
  ⟨(some 10), .mv (.t 25), none⟩]
def p175_6 : List AOper := [⟨(some 27), .mkif 227 (.c (.int .i64 3)), none⟩,
  ⟨(some 28), .bad, none⟩,
  ⟨(some 26), .mv (.t 28), none⟩]
def p175_7 : List AOper := [⟨(some 29), .mv (.t 0), none⟩,
  ⟨(some 30), .mv (.t 1), none⟩,
  ⟨(some 31), .mv (.t 2), none⟩,
  ⟨(some 32), .call 182 [.t 29, .t 30, .t 31], none⟩,
  ⟨(some 33), .mkif 230 (.t 32), none⟩,
  ⟨(some 10), .mv (.t 33), none⟩]
def p175_8 : List AOper := [⟨(some 35), .mkif 227 (.c (.int .i64 4)), none⟩,
  ⟨(some 36), .bad, none⟩,
  ⟨(some 34), .mv (.t 36), none⟩]
def p175_9 : List AOper := [⟨(some 37), .mv (.t 0), none⟩,
  ⟨(some 38), .mv (.t 1), none⟩,
  ⟨(some 39), .mv (.t 3), none⟩,
  ⟨(some 40), .call 183 [.t 37, .t 38, .t 39], none⟩,
  ⟨(some 41), .mkif 230 (.t 40), none⟩,
  ⟨(some 10), .mv (.t 41), none⟩]
def p175_10 : List AOper := [⟨(some 42), .mv (.t 4), none⟩,
  ⟨(some 10), .mv (.t 42), none⟩]
def p175 : AFun := ⟨43, .seq (.region p175_0) (.seq (.seq (.region p175_1) (.block 0 (.seq (.region p175_2) (.cond (.t 12) (.seq (.region p175_3) (.ret)) (.seq (.region p175_4) (.cond (.t 19) (.seq (.region p175_5) (.ret)) (.seq (.region p175_6) (.cond (.t 26) (.seq (.region p175_7) (.ret)) (.seq (.region p175_8) (.cond (.t 34) (.seq (.region p175_9) (.ret)) (.skip))))))))))) (.seq (.region p175_10) (.ret))),
  [.mv (.t 10)]⟩

/- 176 internal/strconv.Itoa -/
def p176_0 : List AOper := [⟨(some 2), .mv (.c (.str [])), none⟩]
def p176_1 : List AOper := [⟨(some 3), .mv (.t 0), none⟩,
  ⟨(some 4), .call 184 [.t 3, .c (.int .i64 10)], none⟩,
  ⟨(some 2), .mv (.t 4), none⟩]
def p176 : AFun := ⟨5, .seq (.region p176_0) (.seq (.region p176_1) (.ret)),
  [.mv (.t 2)]⟩

/- 177 slices.order2CmpFunc[waxwork/class.Range] -/
def p177_0 : List AOper := [⟨(some 10), .mv (.c (.int .i64 0)), none⟩,
  ⟨(some 11), .mv (.c (.int .i64 0)), none⟩]
def p177_1 : List DOp := [⟨0, ⟨(some 12), .mv (.t 4), none⟩, [], .pure⟩,
  ⟨1, ⟨(some 13), .mv (.t 0), none⟩, [], .pure⟩,
  ⟨2, ⟨(some 14), .mv (.t 2), none⟩, [], .pure⟩,
  ⟨3, ⟨(some 15), .iad 2 (.t 13) (.t 14), none⟩, [1, 2], .pure⟩,
  ⟨4, ⟨(some 16), .ldn 2 (.t 15), none⟩, [1, 2, 3], .read⟩,
  ⟨5, ⟨(some 17), .mv (.t 0), none⟩, [], .pure⟩,
  ⟨6, ⟨(some 18), .mv (.t 1), none⟩, [], .pure⟩,
  ⟨7, ⟨(some 19), .iad 2 (.t 17) (.t 18), none⟩, [5, 6], .pure⟩,
  ⟨8, ⟨(some 20), .ldn 2 (.t 19), none⟩, [5, 6, 7], .read⟩,
  ⟨9, ⟨(some 21), .callv (.t 12) [.t 16, .t 20], none⟩, [0, 1, 2, 3, 4, 5, 6, 7, 8], .eff⟩,
  ⟨10, ⟨(some 22), .bin .lss .n (.t 21) (.c (.int .i64 0)), none⟩, [0, 1, 2, 3, 4, 5, 6, 7, 8, 9], .pure⟩]
def p177_2 : List AOper := [⟨(some 23), .mv (.t 3), none⟩,
  ⟨(some 24), .nilchk (.t 23), none⟩,
  ⟨(some 25), .ld (.t 24), none⟩,
  ⟨(some 26), .bin .add .n (.t 25) (.c (.int .i64 1)), none⟩,
  ⟨(some 27), .nilchk (.t 23), none⟩,
  ⟨none, .st 1 (.t 27) (.t 26), none⟩]
def p177_3 : List AOper := [⟨(some 28), .mv (.t 2), none⟩,
  ⟨(some 29), .mv (.t 1), none⟩,
  ⟨(some 10), .mv (.t 28), none⟩,
  ⟨(some 11), .mv (.t 29), none⟩]
def p177_4 : List AOper := [⟨(some 30), .mv (.t 1), none⟩,
  ⟨(some 31), .mv (.t 2), none⟩,
  ⟨(some 10), .mv (.t 30), none⟩,
  ⟨(some 11), .mv (.t 31), none⟩]
def p177 : AFun := ⟨32, .seq (.region p177_0) (.seq (.seq (.draw 0 p177_1) (.cond (.t 22) (.seq (.region p177_2) (.seq (.region p177_3) (.ret))) (.skip))) (.seq (.region p177_4) (.ret))),
  [.mv (.t 10), .mv (.t 11)]⟩

/- 178 slices.Grow[waxwork/class.Class,waxwork/class.Range] -/
def p178_0 : List AOper := [⟨(some 4), .mv (.c (.nils)), none⟩]
def p178_1 : List AOper := [⟨(some 5), .mv (.t 1), none⟩,
  ⟨(some 6), .bin .lss .n (.t 5) (.c (.int .i64 0)), none⟩]
def p178_2 : List AOper := [⟨(some 7), .mkif 9 (.c (.str [99, 97, 110, 110, 111, 116, 32, 98, 101, 32, 110, 101, 103, 97, 116, 105, 118, 101])), none⟩,
  ⟨none, .pan (.t 7), none⟩]
def p178_3 : List AOper := [⟨(some 8), .mv (.t 1), none⟩,
  ⟨(some 9), .mv (.t 0), none⟩,
  ⟨(some 10), .bad, none⟩,
  ⟨(some 11), .mv (.t 0), none⟩,
  ⟨(some 12), .lensl (.t 11), none⟩,
  ⟨(some 13), .bin .sub .n (.t 10) (.t 12), none⟩,
  ⟨(some 14), .bin .sub .n (.t 8) (.t 13), none⟩,
  ⟨(some 1), .mv (.t 14), none⟩]
def p178_4 : List AOper := [⟨(some 15), .mv (.t 1), none⟩,
  ⟨(some 16), .bin .gtr .n (.t 15) (.c (.int .i64 0)), none⟩]
def p178_5 : List AOper := [⟨(some 17), .mv (.t 0), none⟩,
  ⟨(some 18), .mv (.t 0), none⟩,
  ⟨(some 19), .bad, none⟩,
  ⟨(some 20), .slc 2 (.t 17) none (some (.t 19)), none⟩,
  ⟨(some 21), .mv (.t 1), none⟩,
  ⟨(some 22), .bad, none⟩,
  ⟨(some 23), .mv (.t 0), none⟩,
  ⟨(some 24), .lensl (.t 23), none⟩,
  ⟨(some 25), .slc 2 (.t 22) none (some (.t 24)), none⟩,
  ⟨(some 0), .mv (.t 25), none⟩]
def p178_6 : List AOper := [⟨(some 26), .mv (.t 0), none⟩,
  ⟨(some 4), .mv (.t 26), none⟩]
def p178 : AFun := ⟨27, .seq (.region p178_0) (.seq (.seq (.region p178_1) (.cond (.t 6) (.region p178_2) (.skip))) (.seq (.seq (.region p178_3) (.seq (.region p178_4) (.cond (.t 16) (.region p178_5) (.skip)))) (.seq (.region p178_6) (.ret)))),
  [.mv (.t 4)]⟩

/- 179 internal/strconv.ParseInt -/
def p179_0 : List AOper := [⟨(some 6), .mv (.c (.int .i64 0)), none⟩,
  ⟨(some 7), .mv (.c (.nili)), none⟩]
def p179_1 : List AOper := [⟨(some 12), .mv (.t 0), none⟩,
  ⟨(some 13), .bin .eql .n (.t 12) (.c (.str [])), none⟩]
def p179_2 : List AOper := [⟨(some 14), .mkif 227 (.c (.int .i64 2)), none⟩,
  ⟨(some 6), .mv (.c (.int .i64 0)), none⟩,
  ⟨(some 7), .mv (.t 14), none⟩]
def p179_3 : List AOper := [⟨(some 8), .mv (.c (.bool false)), none⟩]
def p179_4 : List AOper := [⟨(some 15), .mv (.t 0), none⟩,
  ⟨(some 16), .idxs (.t 15) (.c (.int .i64 0)), none⟩]
def p179_5 : List AOper := [⟨(some 18), .bin .eql .n (.t 16) (.c (.int .u8 43)), none⟩,
  ⟨(some 17), .mv (.t 18), none⟩]
def p179_6 : List AOper := [⟨(some 19), .mv (.t 0), none⟩,
  ⟨(some 20), .slcs (.t 19) (some (.c (.int .i64 1))) none, none⟩,
  ⟨(some 0), .mv (.t 20), none⟩]
def p179_7 : List AOper := [⟨(some 22), .bin .eql .n (.t 16) (.c (.int .u8 45)), none⟩,
  ⟨(some 21), .mv (.t 22), none⟩]
def p179_8 : List AOper := [⟨(some 23), .mv (.t 0), none⟩,
  ⟨(some 24), .slcs (.t 23) (some (.c (.int .i64 1))) none, none⟩,
  ⟨(some 0), .mv (.t 24), none⟩]
def p179_9 : List AOper := [⟨(some 8), .mv (.c (.bool true)), none⟩]
def p179_10 : List AOper := [⟨(some 9), .mv (.c (.int .u64 0)), none⟩]
def p179_11 : List AOper := [⟨(some 26), .mv (.t 0), none⟩,
  ⟨(some 27), .mv (.t 1), none⟩,
  ⟨(some 28), .mv (.t 2), none⟩,
  ⟨(some 29), .call 185 [.t 26, .t 27, .t 28], none⟩,
  ⟨(some 25), .mv (.t 29), none⟩,
  ⟨(some 30), .ext (.t 25) 0, none⟩,
  ⟨(some 31), .ext (.t 25) 1, none⟩,
  ⟨(some 9), .mv (.t 30), none⟩,
  ⟨(some 7), .mv (.t 31), none⟩]
def p179_12 : List AOper := [⟨(some 32), .mv (.t 7), none⟩,
  ⟨(some 33), .bin .neq .i (.t 32) (.c (.nili)), none⟩,
  ⟨(some 34), .mv (.t 33), none⟩,
  ⟨(some 35), .mv (.t 7), (some (34, true))⟩,
  ⟨(some 36), .mkif 227 (.c (.int .i64 1)), (some (34, true))⟩,
  ⟨(some 37), .bad, (some (34, true))⟩,
  ⟨(some 38), .pick (.t 34) (.t 37) (.c (.bool false)), none⟩]
def p179_13 : List AOper := [⟨(some 39), .mv (.t 7), none⟩,
  ⟨(some 6), .mv (.c (.int .i64 0)), none⟩,
  ⟨(some 7), .mv (.t 39), none⟩]
def p179_14 : List AOper := [⟨(some 40), .mv (.t 2), none⟩,
  ⟨(some 41), .bin .eql .n (.t 40) (.c (.int .i64 0)), none⟩]
def p179_15 : List AOper := [⟨(some 2), .mv (.c (.int .i64 64)), none⟩]
def p179_16 : List AOper := [⟨(some 42), .mv (.t 2), none⟩,
  ⟨(some 43), .bin .sub .n (.t 42) (.c (.int .i64 1)), none⟩,
  ⟨(some 44), .cvi .u64 (.t 43), none⟩,
  ⟨(some 45), .bin .shl .n (.c (.int .u64 1)) (.t 44), none⟩,
  ⟨(some 10), .mv (.t 45), none⟩]
def p179_17 : List AOper := [⟨(some 46), .mv (.t 8), none⟩,
  ⟨(some 47), .not (.t 46), none⟩,
  ⟨(some 48), .mv (.t 47), none⟩,
  ⟨(some 49), .mv (.t 9), (some (48, true))⟩,
  ⟨(some 50), .mv (.t 10), (some (48, true))⟩,
  ⟨(some 51), .bin .geq .n (.t 49) (.t 50), (some (48, true))⟩,
  ⟨(some 52), .pick (.t 48) (.t 51) (.c (.bool false)), none⟩]
def p179_18 : List AOper := [⟨(some 53), .mv (.t 10), none⟩,
  ⟨(some 54), .bin .sub .n (.t 53) (.c (.int .u64 1)), none⟩,
  ⟨(some 55), .cvi .i64 (.t 54), none⟩,
  ⟨(some 56), .mkif 227 (.c (.int .i64 1)), none⟩,
  ⟨(some 6), .mv (.t 55), none⟩,
  ⟨(some 7), .mv (.t 56), none⟩]
def p179_19 : List AOper := [⟨(some 57), .mv (.t 8), none⟩,
  ⟨(some 58), .mv (.t 57), none⟩,
  ⟨(some 59), .mv (.t 9), (some (58, true))⟩,
  ⟨(some 60), .mv (.t 10), (some (58, true))⟩,
  ⟨(some 61), .bin .gtr .n (.t 59) (.t 60), (some (58, true))⟩,
  ⟨(some 62), .pick (.t 58) (.t 61) (.c (.bool false)), none⟩]
def p179_20 : List AOper := [⟨(some 63), .mv (.t 10), none⟩,
  ⟨(some 64), .cvi .i64 (.t 63), none⟩,
  ⟨(some 65), .neg (.t 64), none⟩,
  ⟨(some 66), .mkif 227 (.c (.int .i64 1)), none⟩,
  ⟨(some 6), .mv (.t 65), none⟩,
  ⟨(some 7), .mv (.t 66), none⟩]
def p179_21 : List AOper := [⟨(some 67), .mv (.t 9), none⟩,
  ⟨(some 68), .cvi .i64 (.t 67), none⟩,
  ⟨(some 11), .mv (.t 68), none⟩]
def p179_22 : List AOper := [⟨(some 69), .mv (.t 8), none⟩]
def p179_23 : List AOper := [⟨(some 70), .mv (.t 11), none⟩,
  ⟨(some 71), .neg (.t 70), none⟩,
  ⟨(some 11), .mv (.t 71), none⟩]
def p179_24 : List AOper := [⟨(some 72), .mv (.t 11), none⟩,
  ⟨(some 6), .mv (.t 72), none⟩,
  ⟨(some 7), .mv (.c (.nili)), none⟩]
def p179 : AFun := ⟨73, .seq (.region p179_0) (.seq (.seq (.region p179_1) (.cond (.t 13) (.seq (.region p179_2) (.ret)) (.skip))) (.seq (.region p179_3) (.seq (.seq (.region p179_4) (.block 0 (.seq (.region p179_5) (.cond (.t 17) (.region p179_6) (.seq (.region p179_7) (.cond (.t 21) (.seq (.region p179_8) (.region p179_9)) (.skip))))))) (.seq (.region p179_10) (.seq (.region p179_11) (.seq (.seq (.region p179_12) (.cond (.t 38) (.seq (.region p179_13) (.ret)) (.skip))) (.seq (.seq (.region p179_14) (.cond (.t 41) (.region p179_15) (.skip))) (.seq (.region p179_16) (.seq (.seq (.region p179_17) (.cond (.t 52) (.seq (.region p179_18) (.ret)) (.skip))) (.seq (.seq (.region p179_19) (.cond (.t 62) (.seq (.region p179_20) (.ret)) (.skip))) (.seq (.region p179_21) (.seq (.seq (.region p179_22) (.cond (.t 69) (.region p179_23) (.skip))) (.seq (.region p179_24) (.ret)))))))))))))),
  [.mv (.t 6), .mv (.t 7)]⟩

/- 180 strconv.syntaxError -/
def p180_0 : List AOper := [⟨(some 4), .mv (.c (.nilp)), none⟩]
def p180_1 : List DOp := [⟨0, ⟨(some 5), .mv (.t 0), none⟩, [], .pure⟩,
  ⟨1, ⟨(some 6), .mv (.t 1), none⟩, [], .pure⟩,
  ⟨3, ⟨(some 8), .ld (.g 2), none⟩, [], .read⟩,
  ⟨2, ⟨(some 7), .call 186 [.t 6], none⟩, [1], .eff⟩,
  ⟨4, ⟨(some 9), .build [.str [], .str [], .nili] [(0, 1, .t 5), (1, 1, .t 7), (2, 1, .t 8)], none⟩, [0, 1, 2, 3], .pure⟩,
  ⟨5, ⟨(some 10), .box (.t 9), none⟩, [0, 1, 2, 3, 4], (.alloc 0)⟩,
  ⟨6, ⟨(some 4), .mv (.t 10), none⟩, [0, 1, 2, 3, 4, 5], .pure⟩]
def p180 : AFun := ⟨11, .seq (.region p180_0) (.seq (.draw 1 p180_1) (.ret)),
  [.mv (.t 4)]⟩

/- 181 strconv.rangeError -/
def p181_0 : List AOper := [⟨(some 4), .mv (.c (.nilp)), none⟩]
def p181_1 : List DOp := [⟨0, ⟨(some 5), .mv (.t 0), none⟩, [], .pure⟩,
  ⟨1, ⟨(some 6), .mv (.t 1), none⟩, [], .pure⟩,
  ⟨3, ⟨(some 8), .ld (.g 3), none⟩, [], .read⟩,
  ⟨2, ⟨(some 7), .call 186 [.t 6], none⟩, [1], .eff⟩,
  ⟨4, ⟨(some 9), .build [.str [], .str [], .nili] [(0, 1, .t 5), (1, 1, .t 7), (2, 1, .t 8)], none⟩, [0, 1, 2, 3], .pure⟩,
  ⟨5, ⟨(some 10), .box (.t 9), none⟩, [0, 1, 2, 3, 4], (.alloc 0)⟩,
  ⟨6, ⟨(some 4), .mv (.t 10), none⟩, [0, 1, 2, 3, 4, 5], .pure⟩]
def p181 : AFun := ⟨11, .seq (.region p181_0) (.seq (.draw 1 p181_1) (.ret)),
  [.mv (.t 4)]⟩

/- 182 strconv.baseError -/
def p182_0 : List AOper := [⟨(some 6), .mv (.c (.nilp)), none⟩]
def p182_1 : List AOper := [⟨(some 7), .mv (.t 0), none⟩,
  ⟨(some 8), .mv (.t 1), none⟩,
  ⟨(some 9), .call 186 [.t 8], none⟩,
  ⟨(some 10), .mv (.t 2), none⟩,
  ⟨(some 11), .call 165 [.t 10], none⟩,
  ⟨(some 12), .bin .add .n (.c (.str [105, 110, 118, 97, 108, 105, 100, 32, 98, 97, 115, 101, 32])) (.t 11), none⟩,
  ⟨(some 13), .call 187 [.t 12], none⟩,
  ⟨(some 14), .build [.str [], .str [], .nili] [(0, 1, .t 7), (1, 1, .t 9), (2, 1, .t 13)], none⟩,
  ⟨(some 15), .box (.t 14), none⟩,
  ⟨(some 6), .mv (.t 15), none⟩]
def p182 : AFun := ⟨16, .seq (.region p182_0) (.seq (.region p182_1) (.ret)),
  [.mv (.t 6)]⟩

/- 183 strconv.bitSizeError -/
def p183_0 : List AOper := [⟨(some 6), .mv (.c (.nilp)), none⟩]
def p183_1 : List AOper := [⟨(some 7), .mv (.t 0), none⟩,
  ⟨(some 8), .mv (.t 1), none⟩,
  ⟨(some 9), .call 186 [.t 8], none⟩,
  ⟨(some 10), .mv (.t 2), none⟩,
  ⟨(some 11), .call 165 [.t 10], none⟩,
  ⟨(some 12), .bin .add .n (.c (.str [105, 110, 118, 97, 108, 105, 100, 32, 98, 105, 116, 32, 115, 105, 122, 101, 32])) (.t 11), none⟩,
  ⟨(some 13), .call 187 [.t 12], none⟩,
  ⟨(some 14), .build [.str [], .str [], .nili] [(0, 1, .t 7), (1, 1, .t 9), (2, 1, .t 13)], none⟩,
  ⟨(some 15), .box (.t 14), none⟩,
  ⟨(some 6), .mv (.t 15), none⟩]
def p183 : AFun := ⟨16, .seq (.region p183_0) (.seq (.region p183_1) (.ret)),
  [.mv (.t 6)]⟩

/- 184 internal/strconv.FormatInt -/
def p184_0 : List AOper := [⟨(some 4), .mv (.c (.str [])), none⟩]
def p184_1 : List AOper := [⟨(some 10), .mv (.t 1), none⟩,
  ⟨(some 11), .bin .eql .n (.t 10) (.c (.int .i64 10)), none⟩]
def p184_2 : List AOper := [⟨(some 12), .mv (.t 0), none⟩,
  ⟨(some 13), .bin .leq .n (.c (.int .i64 0)) (.t 12), none⟩,
  ⟨(some 14), .mv (.t 13), none⟩,
  ⟨(some 15), .mv (.t 0), (some (14, true))⟩,
  ⟨(some 16), .bin .lss .n (.t 15) (.c (.int .i64 100)), (some (14, true))⟩,
  ⟨(some 17), .pick (.t 14) (.t 16) (.c (.bool false)), none⟩]
def p184_3 : List AOper := [⟨(some 18), .mv (.t 0), none⟩,
  ⟨(some 19), .call 188 [.t 18], none⟩,
  ⟨(some 4), .mv (.t 19), none⟩]
def p184_4 : List AOper := [⟨(some 5), .alloc (List.replicate 24 (.int .u8 0)), none⟩]
def p184_5 : List AOper := [⟨(some 20), .mv (.t 0), none⟩,
  ⟨(some 21), .cvi .u64 (.t 20), none⟩,
  ⟨(some 6), .mv (.t 21), none⟩]
def p184_6 : List AOper := [⟨(some 22), .mv (.t 0), none⟩,
  ⟨(some 23), .bin .lss .n (.t 22) (.c (.int .i64 0)), none⟩]
def p184_7 : List AOper := [⟨(some 24), .mv (.t 6), none⟩,
  ⟨(some 25), .neg (.t 24), none⟩,
  ⟨(some 6), .mv (.t 25), none⟩]
def p184_8 : List AOper := [⟨(some 26), .mv (.t 6), none⟩,
  ⟨(some 27), .call 189 [.t 26], none⟩,
  ⟨(some 7), .mv (.t 27), none⟩]
def p184_9 : List AOper := [⟨(some 28), .mv (.t 7), none⟩,
  ⟨(some 29), .bin .add .n (.c (.int .i64 1)) (.t 28), none⟩,
  ⟨(some 30), .bad, none⟩,
  ⟨(some 31), .mv (.t 6), none⟩,
  ⟨(some 32), .call 190 [.t 30, .t 31], none⟩]
def p184_10 : List AOper := [⟨(some 33), .mv (.t 0), none⟩,
  ⟨(some 34), .bin .lss .n (.t 33) (.c (.int .i64 0)), none⟩]
def p184_11 : List AOper := [⟨(some 35), .iada 1 24 (.t 5) (.c (.int .i64 0)), none⟩,
  ⟨none, .st 1 (.t 35) (.c (.int .u8 45)), none⟩]
def p184_12 : List AOper := [⟨(some 36), .mv (.t 7), none⟩,
  ⟨(some 37), .bin .add .n (.c (.int .i64 1)) (.t 36), none⟩,
  ⟨(some 38), .bad, none⟩,
  ⟨(some 39), .cvbs (.t 38), none⟩,
  ⟨(some 4), .mv (.t 39), none⟩]
def p184_13 : List AOper := [⟨(some 40), .mv (.t 7), none⟩,
  ⟨(some 41), .bin .add .n (.c (.int .i64 1)) (.t 40), none⟩,
  ⟨(some 42), .bad, none⟩,
  ⟨(some 43), .cvbs (.t 42), none⟩,
  ⟨(some 4), .mv (.t 43), none⟩]
def p184_14 : List AOper := [⟨(some 45), .mv (.t 0), none⟩,
  ⟨(some 46), .cvi .u64 (.t 45), none⟩,
  ⟨(some 47), .mv (.t 1), none⟩,
  ⟨(some 48), .mv (.t 0), none⟩,
  ⟨(some 49), .bin .lss .n (.t 48) (.c (.int .i64 0)), none⟩,
  ⟨(some 50), .call 191 [.c (.nils), .t 46, .t 47, .t 49, .c (.bool false)], none⟩,
  ⟨(some 44), .mv (.t 50), none⟩,
  ⟨(some 51), .ext (.t 44) 0, none⟩,
  ⟨(some 52), .ext (.t 44) 1, none⟩,
  ⟨(some 8), .mv (.t 51), none⟩,
  ⟨(some 9), .mv (.t 52), none⟩]
def p184_15 : List AOper := [⟨(some 53), .mv (.t 9), none⟩,
  ⟨(some 4), .mv (.t 53), none⟩]
def p184 : AFun := ⟨54, .seq (.region p184_0) (.seq (.seq (.region p184_1) (.cond (.t 11) (.seq (.seq (.region p184_2) (.cond (.t 17) (.seq (.region p184_3) (.ret)) (.skip))) (.seq (.region p184_4) (.seq (.region p184_5) (.seq (.seq (.region p184_6) (.cond (.t 23) (.region p184_7) (.skip))) (.seq (.region p184_8) (.seq (.region p184_9) (.seq (.seq (.region p184_10) (.cond (.t 34) (.seq (.region p184_11) (.seq (.region p184_12) (.ret))) (.skip))) (.seq (.region p184_13) (.ret))))))))) (.skip))) (.seq (.region p184_14) (.seq (.region p184_15) (.ret)))),
  [.mv (.t 4)]⟩

/- 185 internal/strconv.ParseUint -/
def p185_0 : List AOper := [⟨(some 6), .mv (.c (.int .u64 0)), none⟩,
  ⟨(some 7), .mv (.c (.nili)), none⟩]
def p185_1 : List AOper := [⟨(some 18), .mv (.t 0), none⟩,
  ⟨(some 19), .bin .eql .n (.t 18) (.c (.str [])), none⟩]
def p185_2 : List AOper := [⟨(some 20), .mkif 227 (.c (.int .i64 2)), none⟩,
  ⟨(some 6), .mv (.c (.int .u64 0)), none⟩,
  ⟨(some 7), .mv (.t 20), none⟩]
def p185_3 : List AOper := [⟨(some 21), .mv (.t 1), none⟩,
  ⟨(some 22), .bin .eql .n (.t 21) (.c (.int .i64 0)), none⟩,
  ⟨(some 8), .mv (.t 22), none⟩]
def p185_4 : List AOper := [⟨(some 23), .mv (.t 0), none⟩,
  ⟨(some 9), .mv (.t 23), none⟩]
def p185_6 : List AOper := [⟨(some 26), .mv (.t 1), none⟩,
  ⟨(some 27), .bin .leq .n (.c (.int .i64 2)) (.t 26), none⟩,
  ⟨(some 28), .mv (.t 27), none⟩,
  ⟨(some 29), .mv (.t 1), (some (28, true))⟩,
  ⟨(some 30), .bin .leq .n (.t 29) (.c (.int .i64 36)), (some (28, true))⟩,
  ⟨(some 31), .pick (.t 28) (.t 30) (.c (.bool false)), none⟩,
  ⟨(some 25), .mv (.t 31), none⟩]
def p185_7 : List AOper := [⟨(some 33), .mv (.t 1), none⟩,
  ⟨(some 34), .bin .eql .n (.t 33) (.c (.int .i64 0)), none⟩,
  ⟨(some 32), .mv (.t 34), none⟩]
def p185_8 : List AOper := [⟨(some 1), .mv (.c (.int .i64 10)), none⟩]
def p185_9 : List AOper := [⟨(some 35), .mv (.t 0), none⟩,
  ⟨(some 36), .idxs (.t 35) (.c (.int .i64 0)), none⟩,
  ⟨(some 37), .bin .eql .n (.t 36) (.c (.int .u8 48)), none⟩]
def p185_12 : List AOper := [⟨(some 41), .mv (.t 0), none⟩,
  ⟨(some 42), .lens (.t 41), none⟩,
  ⟨(some 43), .bin .geq .n (.t 42) (.c (.int .i64 3)), none⟩,
  ⟨(some 44), .mv (.t 43), none⟩,
  ⟨(some 45), .mv (.t 0), (some (44, true))⟩,
  ⟨(some 46), .idxs (.t 45) (.c (.int .i64 1)), (some (44, true))⟩,
  ⟨(some 47), .call 192 [.t 46], (some (44, true))⟩,
  ⟨(some 48), .bin .eql .n (.t 47) (.c (.int .u8 98)), (some (44, true))⟩,
  ⟨(some 49), .pick (.t 44) (.t 48) (.c (.bool false)), none⟩,
  ⟨(some 40), .mv (.t 49), none⟩]
def p185_13 : List AOper := [⟨(some 1), .mv (.c (.int .i64 2)), none⟩]
def p185_14 : List AOper := [⟨(some 50), .mv (.t 0), none⟩,
  ⟨(some 51), .slcs (.t 50) (some (.c (.int .i64 2))) none, none⟩,
  ⟨(some 0), .mv (.t 51), none⟩]
def p185_15 : List AOper := [⟨(some 53), .mv (.t 0), none⟩,
  ⟨(some 54), .lens (.t 53), none⟩,
  ⟨(some 55), .bin .geq .n (.t 54) (.c (.int .i64 3)), none⟩,
  ⟨(some 56), .mv (.t 55), none⟩,
  ⟨(some 57), .mv (.t 0), (some (56, true))⟩,
  ⟨(some 58), .idxs (.t 57) (.c (.int .i64 1)), (some (56, true))⟩,
  ⟨(some 59), .call 192 [.t 58], (some (56, true))⟩,
  ⟨(some 60), .bin .eql .n (.t 59) (.c (.int .u8 111)), (some (56, true))⟩,
  ⟨(some 61), .pick (.t 56) (.t 60) (.c (.bool false)), none⟩,
  ⟨(some 52), .mv (.t 61), none⟩]
def p185_16 : List AOper := [⟨(some 1), .mv (.c (.int .i64 8)), none⟩]
def p185_17 : List AOper := [⟨(some 62), .mv (.t 0), none⟩,
  ⟨(some 63), .slcs (.t 62) (some (.c (.int .i64 2))) none, none⟩,
  ⟨(some 0), .mv (.t 63), none⟩]
def p185_18 : List AOper := [⟨(some 65), .mv (.t 0), none⟩,
  ⟨(some 66), .lens (.t 65), none⟩,
  ⟨(some 67), .bin .geq .n (.t 66) (.c (.int .i64 3)), none⟩,
  ⟨(some 68), .mv (.t 67), none⟩,
  ⟨(some 69), .mv (.t 0), (some (68, true))⟩,
  ⟨(some 70), .idxs (.t 69) (.c (.int .i64 1)), (some (68, true))⟩,
  ⟨(some 71), .call 192 [.t 70], (some (68, true))⟩,
  ⟨(some 72), .bin .eql .n (.t 71) (.c (.int .u8 120)), (some (68, true))⟩,
  ⟨(some 73), .pick (.t 68) (.t 72) (.c (.bool false)), none⟩,
  ⟨(some 64), .mv (.t 73), none⟩]
def p185_19 : List AOper := [⟨(some 1), .mv (.c (.int .i64 16)), none⟩]
def p185_20 : List AOper := [⟨(some 74), .mv (.t 0), none⟩,
  ⟨(some 75), .slcs (.t 74) (some (.c (.int .i64 2))) none, none⟩,
  ⟨(some 0), .mv (.t 75), none⟩]
def p185_10 : List AOper := [⟨(some 1), .mv (.c (.int .i64 8)), none⟩]
def p185_11 : List AOper := [⟨(some 38), .mv (.t 0), none⟩,
  ⟨(some 39), .slcs (.t 38) (some (.c (.int .i64 1))) none, none⟩,
  ⟨(some 0), .mv (.t 39), none⟩]
def p185_5 : List AOper := [⟨(some 24), .mkif 227 (.c (.int .i64 3)), none⟩,
  ⟨(some 6), .mv (.c (.int .u64 0)), none⟩,
  ⟨(some 7), .mv (.t 24), none⟩]
def p185_21 : List AOper := [⟨(some 76), .mv (.t 2), none⟩,
  ⟨(some 77), .bin .eql .n (.t 76) (.c (.int .i64 0)), none⟩]
def p185_22 : List AOper := [⟨(some 2), .mv (.c (.int .i64 64)), none⟩]
def p185_23 : List AOper := [⟨(some 78), .mv (.t 2), none⟩,
  ⟨(some 79), .bin .lss .n (.t 78) (.c (.int .i64 0)), none⟩,
  ⟨(some 80), .mv (.t 79), none⟩,
  ⟨(some 81), .mv (.t 2), (some (80, false))⟩,
  ⟨(some 82), .bin .gtr .n (.t 81) (.c (.int .i64 64)), (some (80, false))⟩,
  ⟨(some 83), .pick (.t 80) (.c (.bool true)) (.t 82), none⟩]
def p185_24 : List AOper := [⟨(some 84), .mkif 227 (.c (.int .i64 4)), none⟩,
  ⟨(some 6), .mv (.c (.int .u64 0)), none⟩,
  ⟨(some 7), .mv (.t 84), none⟩]
def p185_25 : List AOper := [⟨(some 10), .mv (.c (.int .u64 0)), none⟩]
def p185_26 : List AOper := [⟨(some 85), .mv (.t 1), none⟩]
def p185_28 : List AOper := [⟨(some 91), .bin .eql .n (.t 85) (.c (.int .i64 10)), none⟩,
  ⟨(some 90), .mv (.t 91), none⟩]
def p185_29 : List AOper := [⟨(some 10), .mv (.c (.int .u64 1844674407370955162)), none⟩]
def p185_30 : List AOper := [⟨(some 93), .bin .eql .n (.t 85) (.c (.int .i64 16)), none⟩,
  ⟨(some 92), .mv (.t 93), none⟩]
def p185_31 : List AOper := [⟨(some 10), .mv (.c (.int .u64 1152921504606846976)), none⟩]
def p185_27 : List AOper := [⟨(some 86), .mv (.t 1), none⟩,
  ⟨(some 87), .cvi .u64 (.t 86), none⟩,
  ⟨(some 88), .bin .quo .n (.c (.int .u64 18446744073709551615)) (.t 87), none⟩,
  ⟨(some 89), .bin .add .n (.t 88) (.c (.int .u64 1)), none⟩,
  ⟨(some 10), .mv (.t 89), none⟩]
def p185_32 : List AOper := [⟨(some 94), .mv (.t 2), none⟩,
  ⟨(some 95), .cvi .u64 (.t 94), none⟩,
  ⟨(some 96), .bin .shl .n (.c (.int .u64 1)) (.t 95), none⟩,
  ⟨(some 97), .bin .sub .n (.t 96) (.c (.int .u64 1)), none⟩,
  ⟨(some 11), .mv (.t 97), none⟩]
def p185_33 : List AOper := [⟨(some 12), .mv (.c (.bool false)), none⟩]
def p185_34 : List AOper := [⟨(some 13), .mv (.c (.int .u64 0)), none⟩]
def p185_35 : List AOper := [⟨(some 98), .mv (.t 0), none⟩,
  ⟨(some 99), .cvsb (.t 98), none⟩,
  ⟨(some 100), .lensl (.t 99), none⟩,
  ⟨(some 101), .mv (.c (.int .i64 0)), none⟩]
def p185_36 : List AOper := [⟨(some 102), .bin .lss .n (.t 101) (.t 100), none⟩]
def p185_37 : List AOper := [⟨(some 103), .iad 1 (.t 99) (.t 101), none⟩,
  ⟨(some 104), .ld (.t 103), none⟩,
  ⟨(some 15), .mv (.t 104), none⟩]
def p185_38 : List AOper := [⟨(some 16), .mv (.c (.int .u8 0)), none⟩]
def p185_40 : List AOper := [⟨(some 107), .mv (.t 15), none⟩,
  ⟨(some 108), .bin .eql .n (.t 107) (.c (.int .u8 95)), none⟩,
  ⟨(some 109), .mv (.t 108), none⟩,
  ⟨(some 110), .mv (.t 8), (some (109, true))⟩,
  ⟨(some 111), .pick (.t 109) (.t 110) (.c (.bool false)), none⟩,
  ⟨(some 106), .mv (.t 111), none⟩]
def p185_41 : List AOper := [⟨(some 12), .mv (.c (.bool true)), none⟩]
def p185_42 : List AOper := [⟨(some 113), .mv (.t 15), none⟩,
  ⟨(some 114), .bin .leq .n (.c (.int .u8 48)) (.t 113), none⟩,
  ⟨(some 115), .mv (.t 114), none⟩,
  ⟨(some 116), .mv (.t 15), (some (115, true))⟩,
  ⟨(some 117), .bin .leq .n (.t 116) (.c (.int .u8 57)), (some (115, true))⟩,
  ⟨(some 118), .pick (.t 115) (.t 117) (.c (.bool false)), none⟩,
  ⟨(some 112), .mv (.t 118), none⟩]
def p185_43 : List AOper := [⟨(some 119), .mv (.t 15), none⟩,
  ⟨(some 120), .bin .sub .n (.t 119) (.c (.int .u8 48)), none⟩,
  ⟨(some 16), .mv (.t 120), none⟩]
def p185_44 : List AOper := [⟨(some 122), .mv (.t 15), none⟩,
  ⟨(some 123), .call 192 [.t 122], none⟩,
  ⟨(some 124), .bin .leq .n (.c (.int .u8 97)) (.t 123), none⟩,
  ⟨(some 125), .mv (.t 124), none⟩,
  ⟨(some 126), .mv (.t 15), (some (125, true))⟩,
  ⟨(some 127), .call 192 [.t 126], (some (125, true))⟩,
  ⟨(some 128), .bin .leq .n (.t 127) (.c (.int .u8 122)), (some (125, true))⟩,
  ⟨(some 129), .pick (.t 125) (.t 128) (.c (.bool false)), none⟩,
  ⟨(some 121), .mv (.t 129), none⟩]
def p185_45 : List AOper := [⟨(some 130), .mv (.t 15), none⟩,
  ⟨(some 131), .call 192 [.t 130], none⟩,
  ⟨(some 132), .bin .sub .n (.t 131) (.c (.int .u8 97)), none⟩,
  ⟨(some 133), .bin .add .n (.t 132) (.c (.int .u8 10)), none⟩,
  ⟨(some 16), .mv (.t 133), none⟩]
def p185_39 : List AOper := [⟨(some 105), .mkif 227 (.c (.int .i64 2)), none⟩,
  ⟨(some 6), .mv (.c (.int .u64 0)), none⟩,
  ⟨(some 7), .mv (.t 105), none⟩]
def p185_46 : List AOper := [⟨(some 134), .mv (.t 16), none⟩,
  ⟨(some 135), .mv (.t 1), none⟩,
  ⟨(some 136), .cvi .u8 (.t 135), none⟩,
  ⟨(some 137), .bin .geq .n (.t 134) (.t 136), none⟩]
def p185_47 : List AOper := [⟨(some 138), .mkif 227 (.c (.int .i64 2)), none⟩,
  ⟨(some 6), .mv (.c (.int .u64 0)), none⟩,
  ⟨(some 7), .mv (.t 138), none⟩]
def p185_48 : List AOper := [⟨(some 139), .mv (.t 13), none⟩,
  ⟨(some 140), .mv (.t 10), none⟩,
  ⟨(some 141), .bin .geq .n (.t 139) (.t 140), none⟩]
def p185_49 : List AOper := [⟨(some 142), .mv (.t 11), none⟩,
  ⟨(some 143), .mkif 227 (.c (.int .i64 1)), none⟩,
  ⟨(some 6), .mv (.t 142), none⟩,
  ⟨(some 7), .mv (.t 143), none⟩]
def p185_50 : List AOper := [⟨(some 144), .mv (.t 13), none⟩,
  ⟨(some 145), .mv (.t 1), none⟩,
  ⟨(some 146), .cvi .u64 (.t 145), none⟩,
  ⟨(some 147), .bin .mul .n (.t 144) (.t 146), none⟩,
  ⟨(some 13), .mv (.t 147), none⟩]
def p185_51 : List AOper := [⟨(some 148), .mv (.t 13), none⟩,
  ⟨(some 149), .mv (.t 16), none⟩,
  ⟨(some 150), .cvi .u64 (.t 149), none⟩,
  ⟨(some 151), .bin .add .n (.t 148) (.t 150), none⟩,
  ⟨(some 17), .mv (.t 151), none⟩]
def p185_52 : List AOper := [⟨(some 152), .mv (.t 17), none⟩,
  ⟨(some 153), .mv (.t 13), none⟩,
  ⟨(some 154), .bin .lss .n (.t 152) (.t 153), none⟩,
  ⟨(some 155), .mv (.t 154), none⟩,
  ⟨(some 156), .mv (.t 17), (some (155, false))⟩,
  ⟨(some 157), .mv (.t 11), (some (155, false))⟩,
  ⟨(some 158), .bin .gtr .n (.t 156) (.t 157), (some (155, false))⟩,
  ⟨(some 159), .pick (.t 155) (.c (.bool true)) (.t 158), none⟩]
def p185_53 : List AOper := [⟨(some 160), .mv (.t 11), none⟩,
  ⟨(some 161), .mkif 227 (.c (.int .i64 1)), none⟩,
  ⟨(some 6), .mv (.t 160), none⟩,
  ⟨(some 7), .mv (.t 161), none⟩]
def p185_54 : List AOper := [⟨(some 162), .mv (.t 17), none⟩,
  ⟨(some 13), .mv (.t 162), none⟩]
def p185_55 : List AOper := [⟨(some 163), .bin .add .n (.t 101) (.c (.int .i64 1)), none⟩,
  ⟨(some 101), .mv (.t 163), none⟩]
def p185_56 : List AOper := [⟨(some 164), .mv (.t 12), none⟩,
  ⟨(some 165), .mv (.t 164), none⟩,
  ⟨(some 166), .mv (.t 9), (some (165, true))⟩,
  ⟨(some 167), .call 193 [.t 166], (some (165, true))⟩,
  ⟨(some 168), .not (.t 167), (some (165, true))⟩,
  ⟨(some 169), .pick (.t 165) (.t 168) (.c (.bool false)), none⟩]
def p185_57 : List AOper := [⟨(some 170), .mkif 227 (.c (.int .i64 2)), none⟩,
  ⟨(some 6), .mv (.c (.int .u64 0)), none⟩,
  ⟨(some 7), .mv (.t 170), none⟩]
def p185_58 : List AOper := [⟨(some 171), .mv (.t 13), none⟩,
  ⟨(some 6), .mv (.t 171), none⟩,
  ⟨(some 7), .mv (.c (.nili)), none⟩]
def p185 : AFun := ⟨172, .seq (.region p185_0) (.seq (.seq (.region p185_1) (.cond (.t 19) (.seq (.region p185_2) (.ret)) (.skip))) (.seq (.region p185_3) (.seq (.region p185_4) (.seq (.block 0 (.seq (.region p185_6) (.cond (.t 25) (.skip) (.seq (.region p185_7) (.cond (.t 32) (.seq (.region p185_8) (.seq (.region p185_9) (.cond (.t 37) (.block 1 (.seq (.region p185_12) (.cond (.t 40) (.seq (.region p185_13) (.region p185_14)) (.seq (.region p185_15) (.cond (.t 52) (.seq (.region p185_16) (.region p185_17)) (.seq (.region p185_18) (.cond (.t 64) (.seq (.region p185_19) (.region p185_20)) (.seq (.region p185_10) (.region p185_11))))))))) (.skip)))) (.seq (.region p185_5) (.ret))))))) (.seq (.seq (.region p185_21) (.cond (.t 77) (.region p185_22) (.seq (.region p185_23) (.cond (.t 83) (.seq (.region p185_24) (.ret)) (.skip))))) (.seq (.region p185_25) (.seq (.seq (.region p185_26) (.block 2 (.seq (.region p185_28) (.cond (.t 90) (.region p185_29) (.seq (.region p185_30) (.cond (.t 92) (.region p185_31) (.region p185_27))))))) (.seq (.region p185_32) (.seq (.region p185_33) (.seq (.region p185_34) (.seq (.seq (.region p185_35) (.block 3 (.loop (.seq (.region p185_36) (.seq (.cond (.t 102) (.skip) (.exit 3)) (.seq (.block 4 (.seq (.region p185_37) (.seq (.region p185_38) (.seq (.block 5 (.seq (.region p185_40) (.cond (.t 106) (.seq (.region p185_41) (.exit 4)) (.seq (.region p185_42) (.cond (.t 112) (.region p185_43) (.seq (.region p185_44) (.cond (.t 121) (.region p185_45) (.seq (.region p185_39) (.ret))))))))) (.seq (.seq (.region p185_46) (.cond (.t 137) (.seq (.region p185_47) (.ret)) (.skip))) (.seq (.seq (.region p185_48) (.cond (.t 141) (.seq (.region p185_49) (.ret)) (.skip))) (.seq (.region p185_50) (.seq (.region p185_51) (.seq (.seq (.region p185_52) (.cond (.t 159) (.seq (.region p185_53) (.ret)) (.skip))) (.region p185_54)))))))))) (.region p185_55))))))) (.seq (.seq (.region p185_56) (.cond (.t 169) (.seq (.region p185_57) (.ret)) (.skip))) (.seq (.region p185_58) (.ret)))))))))))))),
  [.mv (.t 6), .mv (.t 7)]⟩

/- 186 internal/stringslite.Clone -/
def p186_0 : List AOper := [⟨(some 2), .mv (.c (.str [])), none⟩]
def p186_1 : List AOper := [⟨(some 4), .mv (.t 0), none⟩,
  ⟨(some 5), .lens (.t 4), none⟩,
  ⟨(some 6), .bin .eql .n (.t 5) (.c (.int .i64 0)), none⟩]
def p186_2 : List AOper := [⟨(some 2), .mv (.c (.str [])), none⟩]
def p186_3 : List AOper := [⟨(some 7), .mv (.t 0), none⟩,
  ⟨(some 8), .lens (.t 7), none⟩,
  ⟨(some 9), .mksl 1 [.int .u8 0] (.t 8) (.t 8), none⟩,
  ⟨(some 3), .mv (.t 9), none⟩]
def p186_4 : List AOper := [⟨(some 10), .mv (.t 3), none⟩,
  ⟨(some 11), .mv (.t 0), none⟩,
  ⟨(some 12), .cpy 1 (.t 10) (.t 11), none⟩]
def p186_5 : List AOper := [⟨(some 13), .mv (.t 3), none⟩,
  ⟨(some 14), .iad 1 (.t 13) (.c (.int .i64 0)), none⟩,
  ⟨(some 15), .mv (.t 3), none⟩,
  ⟨(some 16), .lensl (.t 15), none⟩,
  ⟨(some 17), .bad, none⟩,
  ⟨(some 2), .mv (.t 17), none⟩]
def p186 : AFun := ⟨18, .seq (.region p186_0) (.seq (.seq (.region p186_1) (.cond (.t 6) (.seq (.region p186_2) (.ret)) (.skip))) (.seq (.region p186_3) (.seq (.region p186_4) (.seq (.region p186_5) (.ret))))),
  [.mv (.t 2)]⟩

/- 187 errors.New -/
def p187_0 : List AOper := [⟨(some 2), .mv (.c (.nili)), none⟩]
def p187_1 : List AOper := [⟨(some 3), .mv (.t 0), none⟩,
  ⟨(some 4), .build [.str []] [(0, 1, .t 3)], none⟩,
  ⟨(some 5), .box (.t 4), none⟩,
  ⟨(some 6), .mkif 246 (.t 5), none⟩,
  ⟨(some 2), .mv (.t 6), none⟩]
def p187 : AFun := ⟨7, .seq (.region p187_0) (.seq (.region p187_1) (.ret)),
  [.mv (.t 2)]⟩

/- 188 internal/strconv.small -/
def p188_0 : List AOper := [⟨(some 2), .mv (.c (.str [])), none⟩]
def p188_1 : List AOper := [⟨(some 3), .mv (.t 0), none⟩,
  ⟨(some 4), .bin .lss .n (.t 3) (.c (.int .i64 10)), none⟩]
def p188_2 : List AOper := [⟨(some 5), .mv (.t 0), none⟩,
  ⟨(some 6), .mv (.t 0), none⟩,
  ⟨(some 7), .bin .add .n (.t 6) (.c (.int .i64 1)), none⟩,
  ⟨(some 8), .slcs (.c (.str [48, 49, 50, 51, 52, 53, 54, 55, 56, 57, 97, 98, 99, 100, 101, 102, 103, 104, 105, 106, 107, 108, 109, 110, 111, 112, 113, 114, 115, 116, 117, 118, 119, 120, 121, 122])) (some (.t 5)) (some (.t 7)), none⟩,
  ⟨(some 2), .mv (.t 8), none⟩]
def p188_3 : List AOper := [⟨(some 9), .mv (.t 0), none⟩,
  ⟨(some 10), .bin .mul .n (.t 9) (.c (.int .i64 2)), none⟩,
  ⟨(some 11), .mv (.t 0), none⟩,
  ⟨(some 12), .bin .mul .n (.t 11) (.c (.int .i64 2)), none⟩,
  ⟨(some 13), .bin .add .n (.t 12) (.c (.int .i64 2)), none⟩,
  ⟨(some 14), .slcs (.c (.str [48, 48, 48, 49, 48, 50, 48, 51, 48, 52, 48, 53, 48, 54, 48, 55, 48, 56, 48, 57, 49, 48, 49, 49, 49, 50, 49, 51, 49, 52, 49, 53, 49, 54, 49, 55, 49, 56, 49, 57, 50, 48, 50, 49, 50, 50, 50, 51, 50, 52, 50, 53, 50, 54, 50, 55, 50, 56, 50, 57, 51, 48, 51, 49, 51, 50, 51, 51, 51, 52, 51, 53, 51, 54, 51, 55, 51, 56, 51, 57, 52, 48, 52, 49, 52, 50, 52, 51, 52, 52, 52, 53, 52, 54, 52, 55, 52, 56, 52, 57, 53, 48, 53, 49, 53, 50, 53, 51, 53, 52, 53, 53, 53, 54, 53, 55, 53, 56, 53, 57, 54, 48, 54, 49, 54, 50, 54, 51, 54, 52, 54, 53, 54, 54, 54, 55, 54, 56, 54, 57, 55, 48, 55, 49, 55, 50, 55, 51, 55, 52, 55, 53, 55, 54, 55, 55, 55, 56, 55, 57, 56, 48, 56, 49, 56, 50, 56, 51, 56, 52, 56, 53, 56, 54, 56, 55, 56, 56, 56, 57, 57, 48, 57, 49, 57, 50, 57, 51, 57, 52, 57, 53, 57, 54, 57, 55, 57, 56, 57, 57])) (some (.t 10)) (some (.t 13)), none⟩,
  ⟨(some 2), .mv (.t 14), none⟩]
def p188 : AFun := ⟨15, .seq (.region p188_0) (.seq (.seq (.region p188_1) (.cond (.t 4) (.seq (.region p188_2) (.ret)) (.skip))) (.seq (.region p188_3) (.ret))),
  [.mv (.t 2)]⟩

/- 189 internal/strconv.numDigits -/
def p189_0 : List AOper := [⟨(some 2), .mv (.c (.int .i64 0)), none⟩]
def p189_1 : List AOper := [⟨(some 4), .mv (.t 0), none⟩,
  ⟨(some 5), .call 158 [.t 4], none⟩,
  ⟨(some 6), .call 194 [.t 5], none⟩,
  ⟨(some 3), .mv (.t 6), none⟩]
def p189_2 : List AOper := [⟨(some 7), .mv (.t 3), none⟩,
  ⟨(some 8), .mv (.t 0), none⟩,
  ⟨(some 9), .mv (.t 3), none⟩,
  ⟨(some 10), .iada 1 20 (.g 4) (.t 9), none⟩,
  ⟨(some 11), .ld (.t 10), none⟩,
  ⟨(some 12), .bin .geq .n (.t 8) (.t 11), none⟩,
  ⟨(some 13), .call 195 [.t 12], none⟩,
  ⟨(some 14), .bin .add .n (.t 7) (.t 13), none⟩,
  ⟨(some 2), .mv (.t 14), none⟩]
def p189 : AFun := ⟨15, .seq (.region p189_0) (.seq (.region p189_1) (.seq (.region p189_2) (.ret))),
  [.mv (.t 2)]⟩

/- 190 internal/strconv.formatBase10 -/

def p190 : AFun := ⟨167, .bad,
  []⟩

/- 191 internal/strconv.formatBits -/
def p191_0 : List AOper := [⟨(some 10), .mv (.c (.nils)), none⟩,
  ⟨(some 11), .mv (.c (.str [])), none⟩]
def p191_1 : List AOper := [⟨(some 19), .mv (.t 2), none⟩,
  ⟨(some 20), .bin .lss .n (.t 19) (.c (.int .i64 2)), none⟩,
  ⟨(some 21), .mv (.t 20), none⟩,
  ⟨(some 22), .mv (.t 2), (some (21, false))⟩,
  ⟨(some 23), .bin .eql .n (.t 22) (.c (.int .i64 10)), (some (21, false))⟩,
  ⟨(some 24), .pick (.t 21) (.c (.bool true)) (.t 23), none⟩,
  ⟨(some 25), .mv (.t 24), none⟩,
  ⟨(some 26), .mv (.t 2), (some (25, false))⟩,
  ⟨(some 27), .bin .gtr .n (.t 26) (.c (.int .i64 36)), (some (25, false))⟩,
  ⟨(some 28), .pick (.t 25) (.c (.bool true)) (.t 27), none⟩]
def p191_2 : List AOper := [⟨(some 29), .mkif 9 (.c (.str [115, 116, 114, 99, 111, 110, 118, 58, 32, 105, 108, 108, 101, 103, 97, 108, 32, 65, 112, 112, 101, 110, 100, 73, 110, 116, 47, 70, 111, 114, 109, 97, 116, 73, 110, 116, 32, 98, 97, 115, 101])), none⟩,
  ⟨none, .pan (.t 29), none⟩]
def p191_3 : List AOper := [⟨(some 12), .alloc (List.replicate 65 (.int .u8 0)), none⟩]
def p191_4 : List AOper := [⟨(some 13), .mv (.c (.int .i64 65)), none⟩]
def p191_5 : List AOper := [⟨(some 30), .mv (.t 3), none⟩]
def p191_6 : List AOper := [⟨(some 31), .mv (.t 1), none⟩,
  ⟨(some 32), .neg (.t 31), none⟩,
  ⟨(some 1), .mv (.t 32), none⟩]
def p191_7 : List AOper := [⟨(some 33), .mv (.t 2), none⟩,
  ⟨(some 34), .call 196 [.t 33], none⟩]
def p191_8 : List AOper := [⟨(some 35), .mv (.t 2), none⟩,
  ⟨(some 36), .cvi .u64 (.t 35), none⟩,
  ⟨(some 37), .call 197 [.t 36], none⟩,
  ⟨(some 38), .cvi .u64 (.t 37), none⟩,
  ⟨(some 14), .mv (.t 38), none⟩]
def p191_9 : List AOper := [⟨(some 39), .mv (.t 2), none⟩,
  ⟨(some 40), .cvi .u64 (.t 39), none⟩,
  ⟨(some 15), .mv (.t 40), none⟩]
def p191_10 : List AOper := [⟨(some 41), .mv (.t 2), none⟩,
  ⟨(some 42), .cvi .u64 (.t 41), none⟩,
  ⟨(some 43), .bin .sub .n (.t 42) (.c (.int .u64 1)), none⟩,
  ⟨(some 16), .mv (.t 43), none⟩]
def p191_11 : List AOper := [⟨(some 44), .mv (.t 1), none⟩,
  ⟨(some 45), .mv (.t 15), none⟩,
  ⟨(some 46), .bin .geq .n (.t 44) (.t 45), none⟩]
def p191_12 : List AOper := [⟨(some 47), .mv (.t 13), none⟩,
  ⟨(some 48), .bin .sub .n (.t 47) (.c (.int .i64 1)), none⟩,
  ⟨(some 13), .mv (.t 48), none⟩]
def p191_13 : List AOper := [⟨(some 49), .mv (.t 13), none⟩,
  ⟨(some 50), .mv (.t 1), none⟩,
  ⟨(some 51), .mv (.t 16), none⟩,
  ⟨(some 52), .bin .and .n (.t 50) (.t 51), none⟩,
  ⟨(some 53), .idxs (.c (.str [48, 49, 50, 51, 52, 53, 54, 55, 56, 57, 97, 98, 99, 100, 101, 102, 103, 104, 105, 106, 107, 108, 109, 110, 111, 112, 113, 114, 115, 116, 117, 118, 119, 120, 121, 122])) (.t 52), none⟩,
  ⟨(some 54), .iada 1 65 (.t 12) (.t 49), none⟩,
  ⟨none, .st 1 (.t 54) (.t 53), none⟩]
def p191_14 : List AOper := [⟨(some 55), .mv (.t 1), none⟩,
  ⟨(some 56), .mv (.t 14), none⟩,
  ⟨(some 57), .bin .shr .n (.t 55) (.t 56), none⟩,
  ⟨(some 1), .mv (.t 57), none⟩]
def p191_15 : List AOper := [⟨(some 58), .mv (.t 13), none⟩,
  ⟨(some 59), .bin .sub .n (.t 58) (.c (.int .i64 1)), none⟩,
  ⟨(some 13), .mv (.t 59), none⟩]
def p191_16 : List AOper := [⟨(some 60), .mv (.t 13), none⟩,
  ⟨(some 61), .mv (.t 1), none⟩,
  ⟨(some 62), .idxs (.c (.str [48, 49, 50, 51, 52, 53, 54, 55, 56, 57, 97, 98, 99, 100, 101, 102, 103, 104, 105, 106, 107, 108, 109, 110, 111, 112, 113, 114, 115, 116, 117, 118, 119, 120, 121, 122])) (.t 61), none⟩,
  ⟨(some 63), .iada 1 65 (.t 12) (.t 60), none⟩,
  ⟨none, .st 1 (.t 63) (.t 62), none⟩]
def p191_17 : List AOper := [⟨(some 64), .mv (.t 2), none⟩,
  ⟨(some 65), .cvi .u64 (.t 64), none⟩,
  ⟨(some 17), .mv (.t 65), none⟩]
def p191_18 : List AOper := [⟨(some 66), .mv (.t 1), none⟩,
  ⟨(some 67), .mv (.t 17), none⟩,
  ⟨(some 68), .bin .geq .n (.t 66) (.t 67), none⟩]
def p191_19 : List AOper := [⟨(some 69), .mv (.t 13), none⟩,
  ⟨(some 70), .bin .sub .n (.t 69) (.c (.int .i64 1)), none⟩,
  ⟨(some 13), .mv (.t 70), none⟩]
def p191_20 : List AOper := [⟨(some 71), .mv (.t 1), none⟩,
  ⟨(some 72), .mv (.t 17), none⟩,
  ⟨(some 73), .bin .quo .n (.t 71) (.t 72), none⟩,
  ⟨(some 18), .mv (.t 73), none⟩]
def p191_21 : List AOper := [⟨(some 74), .mv (.t 13), none⟩,
  ⟨(some 75), .mv (.t 1), none⟩,
  ⟨(some 76), .mv (.t 18), none⟩,
  ⟨(some 77), .mv (.t 17), none⟩,
  ⟨(some 78), .bin .mul .n (.t 76) (.t 77), none⟩,
  ⟨(some 79), .bin .sub .n (.t 75) (.t 78), none⟩,
  ⟨(some 80), .idxs (.c (.str [48, 49, 50, 51, 52, 53, 54, 55, 56, 57, 97, 98, 99, 100, 101, 102, 103, 104, 105, 106, 107, 108, 109, 110, 111, 112, 113, 114, 115, 116, 117, 118, 119, 120, 121, 122])) (.t 79), none⟩,
  ⟨(some 81), .iada 1 65 (.t 12) (.t 74), none⟩,
  ⟨none, .st 1 (.t 81) (.t 80), none⟩]
def p191_22 : List AOper := [⟨(some 82), .mv (.t 18), none⟩,
  ⟨(some 1), .mv (.t 82), none⟩]
def p191_23 : List AOper := [⟨(some 83), .mv (.t 13), none⟩,
  ⟨(some 84), .bin .sub .n (.t 83) (.c (.int .i64 1)), none⟩,
  ⟨(some 13), .mv (.t 84), none⟩]
def p191_24 : List AOper := [⟨(some 85), .mv (.t 13), none⟩,
  ⟨(some 86), .mv (.t 1), none⟩,
  ⟨(some 87), .idxs (.c (.str [48, 49, 50, 51, 52, 53, 54, 55, 56, 57, 97, 98, 99, 100, 101, 102, 103, 104, 105, 106, 107, 108, 109, 110, 111, 112, 113, 114, 115, 116, 117, 118, 119, 120, 121, 122])) (.t 86), none⟩,
  ⟨(some 88), .iada 1 65 (.t 12) (.t 85), none⟩,
  ⟨none, .st 1 (.t 88) (.t 87), none⟩]
def p191_25 : List AOper := [⟨(some 89), .mv (.t 3), none⟩]
def p191_26 : List AOper := [⟨(some 90), .mv (.t 13), none⟩,
  ⟨(some 91), .bin .sub .n (.t 90) (.c (.int .i64 1)), none⟩,
  ⟨(some 13), .mv (.t 91), none⟩]
def p191_27 : List AOper := [⟨(some 92), .mv (.t 13), none⟩,
  ⟨(some 93), .iada 1 65 (.t 12) (.t 92), none⟩,
  ⟨none, .st 1 (.t 93) (.c (.int .u8 45)), none⟩]
def p191_28 : List AOper := [⟨(some 94), .mv (.t 4), none⟩]
def p191_29 : List AOper := [⟨(some 95), .mv (.t 0), none⟩,
  ⟨(some 96), .mv (.t 13), none⟩,
  ⟨(some 97), .bad, none⟩,
  ⟨(some 98), .app 1 (.t 95) (.t 97), none⟩,
  ⟨(some 10), .mv (.t 98), none⟩]
def p191_30 : List AOper := [⟨(some 99), .mv (.t 13), none⟩,
  ⟨(some 100), .bad, none⟩,
  ⟨(some 101), .cvbs (.t 100), none⟩,
  ⟨(some 11), .mv (.t 101), none⟩]
def p191 : AFun := ⟨102, .seq (.region p191_0) (.seq (.seq (.region p191_1) (.cond (.t 28) (.region p191_2) (.skip))) (.seq (.region p191_3) (.seq (.region p191_4) (.seq (.seq (.region p191_5) (.cond (.t 30) (.region p191_6) (.skip))) (.seq (.seq (.region p191_7) (.cond (.t 34) (.seq (.region p191_8) (.seq (.region p191_9) (.seq (.region p191_10) (.seq (.block 0 (.loop (.seq (.seq (.region p191_11) (.cond (.t 46) (.skip) (.exit 0))) (.block 1 (.seq (.region p191_12) (.seq (.region p191_13) (.region p191_14))))))) (.seq (.region p191_15) (.region p191_16)))))) (.seq (.region p191_17) (.seq (.block 2 (.loop (.seq (.seq (.region p191_18) (.cond (.t 68) (.skip) (.exit 2))) (.block 3 (.seq (.region p191_19) (.seq (.region p191_20) (.seq (.region p191_21) (.region p191_22)))))))) (.seq (.region p191_23) (.region p191_24)))))) (.seq (.seq (.region p191_25) (.cond (.t 89) (.seq (.region p191_26) (.region p191_27)) (.skip))) (.seq (.seq (.region p191_28) (.cond (.t 94) (.seq (.region p191_29) (.ret)) (.skip))) (.seq (.region p191_30) (.ret))))))))),
  [.mv (.t 10), .mv (.t 11)]⟩

/- 192 internal/strconv.lower -/
def p192_0 : List AOper := [⟨(some 2), .mv (.c (.int .u8 0)), none⟩]
def p192_1 : List AOper := [⟨(some 3), .mv (.t 0), none⟩,
  ⟨(some 4), .bin .or .n (.t 3) (.c (.int .u8 32)), none⟩,
  ⟨(some 2), .mv (.t 4), none⟩]
def p192 : AFun := ⟨5, .seq (.region p192_0) (.seq (.region p192_1) (.ret)),
  [.mv (.t 2)]⟩

/- 193 internal/strconv.underscoreOK -/
def p193_0 : List AOper := [⟨(some 2), .mv (.c (.bool false)), none⟩]
def p193_1 : List AOper := [⟨(some 3), .mv (.c (.int .i32 94)), none⟩]
def p193_2 : List AOper := [⟨(some 4), .mv (.c (.int .i64 0)), none⟩]
def p193_3 : List AOper := [⟨(some 6), .mv (.t 0), none⟩,
  ⟨(some 7), .lens (.t 6), none⟩,
  ⟨(some 8), .bin .geq .n (.t 7) (.c (.int .i64 1)), none⟩,
  ⟨(some 9), .mv (.t 8), none⟩,
  ⟨(some 10), .mv (.t 0), (some (9, true))⟩,
  ⟨(some 11), .idxs (.t 10) (.c (.int .i64 0)), (some (9, true))⟩,
  ⟨(some 12), .bin .eql .n (.t 11) (.c (.int .u8 45)), (some (9, true))⟩,
  ⟨(some 13), .mv (.t 12), (some (9, true))⟩,
  ⟨(some 14), .mv (.t 0), (some (13, false))⟩,
  ⟨(some 15), .idxs (.t 14) (.c (.int .i64 0)), (some (13, false))⟩,
  ⟨(some 16), .bin .eql .n (.t 15) (.c (.int .u8 43)), (some (13, false))⟩,
  ⟨(some 17), .pick (.t 13) (.c (.bool true)) (.t 16), (some (9, true))⟩,
  ⟨(some 18), .pick (.t 9) (.t 17) (.c (.bool false)), none⟩]
def p193_4 : List AOper := [⟨(some 19), .mv (.t 0), none⟩,
  ⟨(some 20), .slcs (.t 19) (some (.c (.int .i64 1))) none, none⟩,
  ⟨(some 0), .mv (.t 20), none⟩]
def p193_5 : List AOper := [⟨(some 5), .mv (.c (.bool false)), none⟩]
def p193_6 : List AOper := [⟨(some 21), .mv (.t 0), none⟩,
  ⟨(some 22), .lens (.t 21), none⟩,
  ⟨(some 23), .bin .geq .n (.t 22) (.c (.int .i64 2)), none⟩,
  ⟨(some 24), .mv (.t 23), none⟩,
  ⟨(some 25), .mv (.t 0), (some (24, true))⟩,
  ⟨(some 26), .idxs (.t 25) (.c (.int .i64 0)), (some (24, true))⟩,
  ⟨(some 27), .bin .eql .n (.t 26) (.c (.int .u8 48)), (some (24, true))⟩,
  ⟨(some 28), .pick (.t 24) (.t 27) (.c (.bool false)), none⟩,
  ⟨(some 29), .mv (.t 28), none⟩,
  ⟨(some 30), .mv (.t 0), (some (29, true))⟩,
  ⟨(some 31), .idxs (.t 30) (.c (.int .i64 1)), (some (29, true))⟩,
  ⟨(some 32), .call 192 [.t 31], (some (29, true))⟩,
  ⟨(some 33), .bin .eql .n (.t 32) (.c (.int .u8 98)), (some (29, true))⟩,
  ⟨(some 34), .mv (.t 33), (some (29, true))⟩,
  ⟨(some 35), .mv (.t 0), (some (34, false))⟩,
  ⟨(some 36), .idxs (.t 35) (.c (.int .i64 1)), (some (34, false))⟩,
  ⟨(some 37), .call 192 [.t 36], (some (34, false))⟩,
  ⟨(some 38), .bin .eql .n (.t 37) (.c (.int .u8 111)), (some (34, false))⟩,
  ⟨(some 39), .pick (.t 34) (.c (.bool true)) (.t 38), (some (29, true))⟩,
  ⟨(some 40), .mv (.t 39), (some (29, true))⟩,
  ⟨(some 41), .mv (.t 0), (some (40, false))⟩,
  ⟨(some 42), .idxs (.t 41) (.c (.int .i64 1)), (some (40, false))⟩,
  ⟨(some 43), .call 192 [.t 42], (some (40, false))⟩,
  ⟨(some 44), .bin .eql .n (.t 43) (.c (.int .u8 120)), (some (40, false))⟩,
  ⟨(some 45), .pick (.t 40) (.c (.bool true)) (.t 44), (some (29, true))⟩,
  ⟨(some 46), .pick (.t 29) (.t 45) (.c (.bool false)), none⟩]
def p193_7 : List AOper := [⟨(some 4), .mv (.c (.int .i64 2)), none⟩]
def p193_8 : List AOper := [⟨(some 3), .mv (.c (.int .i32 48)), none⟩]
def p193_9 : List AOper := [⟨(some 47), .mv (.t 0), none⟩,
  ⟨(some 48), .idxs (.t 47) (.c (.int .i64 1)), none⟩,
  ⟨(some 49), .call 192 [.t 48], none⟩,
  ⟨(some 50), .bin .eql .n (.t 49) (.c (.int .u8 120)), none⟩,
  ⟨(some 5), .mv (.t 50), none⟩]
def p193_10 : List AOper := [⟨(some 51), .mv (.t 4), none⟩,
  ⟨(some 52), .mv (.t 0), none⟩,
  ⟨(some 53), .lens (.t 52), none⟩,
  ⟨(some 54), .bin .lss .n (.t 51) (.t 53), none⟩]
def p193_12 : List AOper := [⟨(some 57), .mv (.t 0), none⟩,
  ⟨(some 58), .mv (.t 4), none⟩,
  ⟨(some 59), .idxs (.t 57) (.t 58), none⟩,
  ⟨(some 60), .bin .leq .n (.c (.int .u8 48)) (.t 59), none⟩,
  ⟨(some 61), .mv (.t 60), none⟩,
  ⟨(some 62), .mv (.t 0), (some (61, true))⟩,
  ⟨(some 63), .mv (.t 4), (some (61, true))⟩,
  ⟨(some 64), .idxs (.t 62) (.t 63), (some (61, true))⟩,
  ⟨(some 65), .bin .leq .n (.t 64) (.c (.int .u8 57)), (some (61, true))⟩,
  ⟨(some 66), .pick (.t 61) (.t 65) (.c (.bool false)), none⟩,
  ⟨(some 67), .mv (.t 66), none⟩,
  ⟨(some 68), .mv (.t 5), (some (67, false))⟩,
  ⟨(some 69), .mv (.t 68), (some (67, false))⟩,
  ⟨(some 70), .mv (.t 0), (some (69, true))⟩,
  ⟨(some 71), .mv (.t 4), (some (69, true))⟩,
  ⟨(some 72), .idxs (.t 70) (.t 71), (some (69, true))⟩,
  ⟨(some 73), .call 192 [.t 72], (some (69, true))⟩,
  ⟨(some 74), .bin .leq .n (.c (.int .u8 97)) (.t 73), (some (69, true))⟩,
  ⟨(some 75), .pick (.t 69) (.t 74) (.c (.bool false)), (some (67, false))⟩,
  ⟨(some 76), .mv (.t 75), (some (67, false))⟩,
  ⟨(some 77), .mv (.t 0), (some (76, true))⟩,
  ⟨(some 78), .mv (.t 4), (some (76, true))⟩,
  ⟨(some 79), .idxs (.t 77) (.t 78), (some (76, true))⟩,
  ⟨(some 80), .call 192 [.t 79], (some (76, true))⟩,
  ⟨(some 81), .bin .leq .n (.t 80) (.c (.int .u8 102)), (some (76, true))⟩,
  ⟨(some 82), .pick (.t 76) (.t 81) (.c (.bool false)), (some (67, false))⟩,
  ⟨(some 83), .pick (.t 67) (.c (.bool true)) (.t 82), none⟩]
def p193_13 : List AOper := [⟨(some 3), .mv (.c (.int .i32 48)), none⟩]
def p193_14 : List AOper := [⟨(some 84), .mv (.t 0), none⟩,
  ⟨(some 85), .mv (.t 4), none⟩,
  ⟨(some 86), .idxs (.t 84) (.t 85), none⟩,
  ⟨(some 87), .bin .eql .n (.t 86) (.c (.int .u8 95)), none⟩]
def p193_15 : List AOper := [⟨(some 88), .mv (.t 3), none⟩,
  ⟨(some 89), .bin .neq .n (.t 88) (.c (.int .i32 48)), none⟩]
def p193_16 : List AOper := [⟨(some 2), .mv (.c (.bool false)), none⟩]
def p193_17 : List AOper := [⟨(some 3), .mv (.c (.int .i32 95)), none⟩]
def p193_18 : List AOper := [⟨(some 90), .mv (.t 3), none⟩,
  ⟨(some 91), .bin .eql .n (.t 90) (.c (.int .i32 95)), none⟩]
def p193_19 : List AOper := [⟨(some 2), .mv (.c (.bool false)), none⟩]
def p193_20 : List AOper := [⟨(some 3), .mv (.c (.int .i32 33)), none⟩]
def p193_11 : List AOper := [⟨(some 55), .mv (.t 4), none⟩,
  ⟨(some 56), .bin .add .n (.t 55) (.c (.int .i64 1)), none⟩,
  ⟨(some 4), .mv (.t 56), none⟩]
def p193_21 : List AOper := [⟨(some 92), .mv (.t 3), none⟩,
  ⟨(some 93), .bin .neq .n (.t 92) (.c (.int .i32 95)), none⟩,
  ⟨(some 2), .mv (.t 93), none⟩]
def p193 : AFun := ⟨94, .seq (.region p193_0) (.seq (.region p193_1) (.seq (.region p193_2) (.seq (.seq (.region p193_3) (.cond (.t 18) (.region p193_4) (.skip))) (.seq (.region p193_5) (.seq (.seq (.region p193_6) (.cond (.t 46) (.seq (.region p193_7) (.seq (.region p193_8) (.region p193_9))) (.skip))) (.seq (.block 0 (.loop (.seq (.seq (.region p193_10) (.cond (.t 54) (.skip) (.exit 0))) (.seq (.block 1 (.seq (.seq (.region p193_12) (.cond (.t 83) (.seq (.region p193_13) (.exit 1)) (.skip))) (.seq (.seq (.region p193_14) (.cond (.t 87) (.seq (.seq (.region p193_15) (.cond (.t 89) (.seq (.region p193_16) (.ret)) (.skip))) (.seq (.region p193_17) (.exit 1))) (.skip))) (.seq (.seq (.region p193_18) (.cond (.t 91) (.seq (.region p193_19) (.ret)) (.skip))) (.region p193_20))))) (.region p193_11))))) (.seq (.region p193_21) (.ret)))))))),
  [.mv (.t 2)]⟩

/- 194 internal/strconv.log10Pow2 -/
def p194_0 : List AOper := [⟨(some 2), .mv (.c (.int .i64 0)), none⟩]
def p194_1 : List AOper := [⟨(some 3), .mv (.t 0), none⟩,
  ⟨(some 4), .bin .mul .n (.t 3) (.c (.int .i64 78913)), none⟩,
  ⟨(some 5), .bin .shr .n (.t 4) (.c (.int .u64 18)), none⟩,
  ⟨(some 2), .mv (.t 5), none⟩]
def p194 : AFun := ⟨6, .seq (.region p194_0) (.seq (.region p194_1) (.ret)),
  [.mv (.t 2)]⟩

/- 195 internal/strconv.bool2[int] -/
def p195_0 : List AOper := [⟨(some 2), .mv (.c (.int .i64 0)), none⟩]
def p195_1 : List AOper := [⟨(some 3), .mv (.t 0), none⟩]
def p195_2 : List AOper := [⟨(some 2), .mv (.c (.int .i64 1)), none⟩]
def p195_3 : List AOper := [⟨(some 2), .mv (.c (.int .i64 0)), none⟩]
def p195 : AFun := ⟨4, .seq (.region p195_0) (.seq (.seq (.region p195_1) (.cond (.t 3) (.seq (.region p195_2) (.ret)) (.skip))) (.seq (.region p195_3) (.ret))),
  [.mv (.t 2)]⟩

/- 196 internal/strconv.isPowerOfTwo -/
def p196_0 : List AOper := [⟨(some 2), .mv (.c (.bool false)), none⟩]
def p196_1 : List AOper := [⟨(some 3), .mv (.t 0), none⟩,
  ⟨(some 4), .mv (.t 0), none⟩,
  ⟨(some 5), .bin .sub .n (.t 4) (.c (.int .i64 1)), none⟩,
  ⟨(some 6), .bin .and .n (.t 3) (.t 5), none⟩,
  ⟨(some 7), .bin .eql .n (.t 6) (.c (.int .i64 0)), none⟩,
  ⟨(some 2), .mv (.t 7), none⟩]
def p196 : AFun := ⟨8, .seq (.region p196_0) (.seq (.region p196_1) (.ret)),
  [.mv (.t 2)]⟩

/- 197 math/bits.TrailingZeros -/
def p197_0 : List AOper := [⟨(some 2), .mv (.c (.int .i64 0)), none⟩]
def p197_1 : List AOper := [⟨(some 3), .mv (.t 0), none⟩,
  ⟨(some 4), .cvi .u32 (.t 3), none⟩,
  ⟨(some 5), .call 198 [.t 4], none⟩,
  ⟨(some 2), .mv (.t 5), none⟩]
def p197_2 : List AOper := [⟨(some 6), .mv (.t 0), none⟩,
  ⟨(some 7), .call 199 [.t 6], none⟩,
  ⟨(some 2), .mv (.t 7), none⟩]
def p197 : AFun := ⟨8, .seq (.region p197_0) (.seq (.cond (.c (.bool false)) (.seq (.region p197_1) (.ret)) (.skip)) (.seq (.region p197_2) (.ret))),
  [.mv (.t 2)]⟩

/- 198 math/bits.TrailingZeros32 -/
def p198_0 : List AOper := [⟨(some 2), .mv (.c (.int .i64 0)), none⟩]
def p198_1 : List AOper := [⟨(some 3), .mv (.t 0), none⟩,
  ⟨(some 4), .bin .eql .n (.t 3) (.c (.int .u32 0)), none⟩]
def p198_2 : List AOper := [⟨(some 2), .mv (.c (.int .i64 32)), none⟩]
def p198_3 : List AOper := [⟨(some 5), .mv (.t 0), none⟩,
  ⟨(some 6), .mv (.t 0), none⟩,
  ⟨(some 7), .neg (.t 6), none⟩,
  ⟨(some 8), .bin .and .n (.t 5) (.t 7), none⟩,
  ⟨(some 9), .bin .mul .n (.t 8) (.c (.int .u32 125613361)), none⟩,
  ⟨(some 10), .bin .shr .n (.t 9) (.c (.int .u64 27)), none⟩,
  ⟨(some 11), .iada 1 32 (.g 5) (.t 10), none⟩,
  ⟨(some 12), .ld (.t 11), none⟩,
  ⟨(some 13), .cvi .i64 (.t 12), none⟩,
  ⟨(some 2), .mv (.t 13), none⟩]
def p198 : AFun := ⟨14, .seq (.region p198_0) (.seq (.seq (.region p198_1) (.cond (.t 4) (.seq (.region p198_2) (.ret)) (.skip))) (.seq (.region p198_3) (.ret))),
  [.mv (.t 2)]⟩

/- 199 math/bits.TrailingZeros64 -/
def p199_0 : List AOper := [⟨(some 2), .mv (.c (.int .i64 0)), none⟩]
def p199_1 : List AOper := [⟨(some 3), .mv (.t 0), none⟩,
  ⟨(some 4), .bin .eql .n (.t 3) (.c (.int .u64 0)), none⟩]
def p199_2 : List AOper := [⟨(some 2), .mv (.c (.int .i64 64)), none⟩]
def p199_3 : List AOper := [⟨(some 5), .mv (.t 0), none⟩,
  ⟨(some 6), .mv (.t 0), none⟩,
  ⟨(some 7), .neg (.t 6), none⟩,
  ⟨(some 8), .bin .and .n (.t 5) (.t 7), none⟩,
  ⟨(some 9), .bin .mul .n (.t 8) (.c (.int .u64 285870213051353865)), none⟩,
  ⟨(some 10), .bin .shr .n (.t 9) (.c (.int .u64 58)), none⟩,
  ⟨(some 11), .iada 1 64 (.g 6) (.t 10), none⟩,
  ⟨(some 12), .ld (.t 11), none⟩,
  ⟨(some 13), .cvi .i64 (.t 12), none⟩,
  ⟨(some 2), .mv (.t 13), none⟩]
def p199 : AFun := ⟨14, .seq (.region p199_0) (.seq (.seq (.region p199_1) (.cond (.t 4) (.seq (.region p199_2) (.ret)) (.skip))) (.seq (.region p199_3) (.ret))),
  [.mv (.t 2)]⟩

def ftr : TTr AFun := .node (.node (.node (.node (.node (.node (.node (.node (.leaf) (some p127) (.leaf)) none (.node (.leaf) (some p191) (.leaf))) (some p31) (.node (.node (.leaf) (some p159) (.leaf)) none (.leaf))) (some p15) (.node (.node (.node (.leaf) (some p143) (.leaf)) (some p79) (.leaf)) (some p47) (.node (.node (.leaf) (some p175) (.leaf)) (some p111) (.leaf)))) (some p7) (.node (.node (.node (.node (.leaf) (some p135) (.leaf)) (some p71) (.node (.leaf) (some p199) (.leaf))) none (.node (.node (.leaf) (some p167) (.leaf)) (some p103) (.leaf))) (some p23) (.node (.node (.node (.leaf) (some p151) (.leaf)) (some p87) (.leaf)) (some p55) (.node (.node (.leaf) (some p183) (.leaf)) (some p119) (.leaf))))) none (.node (.node (.node (.node (.node (.leaf) (some p131) (.leaf)) (some p67) (.node (.leaf) (some p195) (.leaf))) (some p35) (.node (.node (.leaf) (some p163) (.leaf)) (some p99) (.leaf))) (some p19) (.node (.node (.node (.leaf) (some p147) (.leaf)) (some p83) (.leaf)) (some p51) (.node (.node (.leaf) (some p179) (.leaf)) (some p115) (.leaf)))) (some p11) (.node (.node (.node (.leaf) (some p75) (.leaf)) none (.node (.node (.leaf) (some p171) (.leaf)) (some p107) (.leaf))) none (.node (.node (.node (.leaf) (some p155) (.leaf)) (some p91) (.leaf)) (some p59) (.node (.node (.leaf) (some p187) (.leaf)) (some p123) (.leaf)))))) none (.node (.node (.node (.node (.node (.node (.leaf) (some p129) (.leaf)) none (.node (.leaf) (some p193) (.leaf))) (some p33) (.node (.node (.leaf) (some p161) (.leaf)) (some p97) (.leaf))) none (.node (.node (.node (.leaf) (some p145) (.leaf)) (some p81) (.leaf)) none (.node (.node (.leaf) (some p177) (.leaf)) (some p113) (.leaf)))) none (.node (.node (.node (.node (.leaf) (some p137) (.leaf)) (some p73) (.leaf)) none (.node (.node (.leaf) (some p169) (.leaf)) (some p105) (.leaf))) none (.node (.node (.node (.leaf) (some p153) (.leaf)) (some p89) (.leaf)) (some p57) (.node (.node (.leaf) (some p185) (.leaf)) (some p121) (.leaf))))) none (.node (.node (.node (.node (.node (.leaf) (some p133) (.leaf)) none (.node (.leaf) (some p197) (.leaf))) none (.node (.node (.leaf) (some p165) (.leaf)) (some p101) (.leaf))) (some p21) (.node (.node (.node (.leaf) (some p149) (.leaf)) (some p85) (.leaf)) (some p53) (.node (.node (.leaf) (some p181) (.leaf)) (some p117) (.leaf)))) none (.node (.node (.node (.node (.leaf) (some p141) (.leaf)) (some p77) (.leaf)) (some p45) (.node (.node (.leaf) (some p173) (.leaf)) (some p109) (.leaf))) none (.node (.node (.node (.leaf) (some p157) (.leaf)) none (.leaf)) (some p61) (.node (.node (.leaf) (some p189) (.leaf)) (some p125) (.leaf))))))) none (.node (.node (.node (.node (.node (.node (.node (.leaf) (some p128) (.leaf)) none (.node (.leaf) (some p192) (.leaf))) (some p32) (.node (.node (.leaf) (some p160) (.leaf)) (some p96) (.leaf))) none (.node (.node (.node (.leaf) (some p144) (.leaf)) (some p80) (.leaf)) (some p48) (.node (.node (.leaf) (some p176) (.leaf)) (some p112) (.leaf)))) none (.node (.node (.node (.node (.leaf) (some p136) (.leaf)) (some p72) (.leaf)) none (.node (.node (.leaf) (some p168) (.leaf)) (some p104) (.leaf))) none (.node (.node (.node (.leaf) (some p152) (.leaf)) (some p88) (.leaf)) (some p56) (.node (.node (.leaf) (some p184) (.leaf)) none (.leaf))))) none (.node (.node (.node (.node (.node (.leaf) (some p132) (.leaf)) none (.node (.leaf) (some p196) (.leaf))) (some p36) (.node (.node (.leaf) (some p164) (.leaf)) (some p100) (.leaf))) none (.node (.node (.node (.leaf) (some p148) (.leaf)) (some p84) (.leaf)) (some p52) (.node (.node (.leaf) (some p180) (.leaf)) (some p116) (.leaf)))) (some p12) (.node (.node (.leaf) none (.node (.node (.leaf) (some p172) (.leaf)) (some p108) (.leaf))) none (.node (.node (.node (.leaf) (some p156) (.leaf)) (some p92) (.leaf)) (some p60) (.node (.node (.leaf) (some p188) (.leaf)) (some p124) (.leaf)))))) none (.node (.node (.node (.node (.node (.node (.leaf) (some p130) (.leaf)) (some p66) (.node (.leaf) (some p194) (.leaf))) (some p34) (.node (.node (.leaf) (some p162) (.leaf)) (some p98) (.leaf))) (some p18) (.node (.node (.node (.leaf) (some p146) (.leaf)) (some p82) (.leaf)) (some p50) (.node (.node (.leaf) (some p178) (.leaf)) (some p114) (.leaf)))) none (.node (.node (.node (.node (.leaf) (some p138) (.leaf)) (some p74) (.leaf)) none (.node (.node (.leaf) (some p170) (.leaf)) (some p106) (.leaf))) (some p26) (.node (.node (.node (.leaf) (some p154) (.leaf)) (some p90) (.leaf)) (some p58) (.node (.node (.leaf) (some p186) (.leaf)) (some p122) (.leaf))))) none (.node (.node (.node (.node (.node (.leaf) (some p134) (.leaf)) (some p70) (.node (.leaf) (some p198) (.leaf))) none (.node (.node (.leaf) (some p166) (.leaf)) (some p102) (.leaf))) none (.node (.node (.node (.leaf) (some p150) (.leaf)) (some p86) (.leaf)) (some p54) (.node (.node (.leaf) (some p182) (.leaf)) (some p118) (.leaf)))) (some p14) (.node (.node (.node (.node (.leaf) (some p142) (.leaf)) (some p78) (.leaf)) none (.node (.node (.leaf) (some p174) (.leaf)) (some p110) (.leaf))) (some p30) (.node (.node (.node (.leaf) (some p158) (.leaf)) none (.leaf)) none (.node (.node (.leaf) (some p190) (.leaf)) (some p126) (.leaf)))))))

end Go.Aw.C07
