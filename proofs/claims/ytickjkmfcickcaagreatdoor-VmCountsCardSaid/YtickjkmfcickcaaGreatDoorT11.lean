/- PART of the proof of VmKnown: The functions that the run comes to: by program. No condition. -/
import Derived.Test.YtickjkmfcickcaaGreatDoorProg
import Derived.KernelRfl
import Derived.Test.YtickjkmfcickcaaGreatDoorU24
/-! The functions that the run comes to: by program. -/
namespace Go.Proofs.YtickjkmfcickcaaGreatDoor.Run
open Go Go.Abs
set_option maxRecDepth 100000
def i247 : FnI := ⟨[.tmp 8, .tmp 9], (.seq (.reg [⟨(some 8), .l (.mov (.c (.int .u64 0))), none⟩, ⟨(some 9), .l (.mov (.c (.bool false))), none⟩])
 (.seq (.reg [⟨(some 15), .l (.mov (.t 3)), none⟩, ⟨(some 16), .l (.mov (.t 1)), none⟩, ⟨(some 17), .l (.arith .rem (.t 15) (.t 16)), none⟩, ⟨(some 10), .l (.mov (.t 17)), none⟩])
 (.seq (.seq (.reg [⟨(some 18), .l (.mov (.t 0)), none⟩])
 (.block 0 (.seq (.reg [⟨(some 20), .l (.arith .eql (.t 18) (.c (.int .i64 0))), none⟩, ⟨(some 19), .l (.mov (.t 20)), none⟩])
 (.cond (.t 19) (.seq (.reg [⟨(some 21), .l (.mov (.t 2)), none⟩, ⟨(some 22), .l (.mov (.t 3)), none⟩, ⟨(some 23), .l (.arith .add (.t 21) (.t 22)), none⟩, ⟨(some 8), .l (.mov (.t 23)), none⟩, ⟨(some 9), .l (.mov (.c (.bool true))), none⟩])
 .ret) (.seq (.reg [⟨(some 25), .l (.arith .eql (.t 18) (.c (.int .i64 16))), none⟩, ⟨(some 24), .l (.mov (.t 25)), none⟩])
 (.cond (.t 24) (.seq (.reg [⟨(some 26), .l (.mov (.t 2)), none⟩, ⟨(some 27), .l (.mov (.t 3)), none⟩, ⟨(some 28), .l (.arith .sub (.t 26) (.t 27)), none⟩, ⟨(some 8), .l (.mov (.t 28)), none⟩, ⟨(some 9), .l (.mov (.c (.bool true))), none⟩])
 .ret) (.seq (.reg [⟨(some 30), .l (.arith .eql (.t 18) (.c (.int .i64 32))), none⟩, ⟨(some 29), .l (.mov (.t 30)), none⟩])
 (.cond (.t 29) (.seq (.reg [⟨(some 31), .l (.mov (.t 2)), none⟩, ⟨(some 32), .l (.mov (.t 3)), none⟩, ⟨(some 33), .l (.arith .mul (.t 31) (.t 32)), none⟩, ⟨(some 8), .l (.mov (.t 33)), none⟩, ⟨(some 9), .l (.mov (.c (.bool true))), none⟩])
 .ret) (.seq (.reg [⟨(some 35), .l (.arith .eql (.t 18) (.c (.int .i64 48))), none⟩, ⟨(some 34), .l (.mov (.t 35)), none⟩])
 (.cond (.t 34) (.seq (.reg [⟨(some 37), .l (.mov (.t 2)), none⟩, ⟨(some 38), .l (.mov (.t 3)), none⟩, ⟨(some 39), .call 305 [(.t 37), (.t 38)], none⟩, ⟨(some 36), .l (.mov (.t 39)), none⟩, ⟨(some 40), .l (.extract 0 (.t 36)), none⟩, ⟨(some 41), .l (.extract 1 (.t 36)), none⟩, ⟨(some 11), .l (.mov (.t 40)), none⟩, ⟨(some 12), .l (.mov (.t 41)), none⟩])
 (.seq (.reg [⟨(some 42), .l (.mov (.t 11)), none⟩, ⟨(some 8), .l (.mov (.t 42)), none⟩, ⟨(some 9), .l (.mov (.c (.bool true))), none⟩])
 .ret)) (.seq (.reg [⟨(some 44), .l (.arith .eql (.t 18) (.c (.int .i64 144))), none⟩, ⟨(some 43), .l (.mov (.t 44)), none⟩])
 (.cond (.t 43) (.seq (.reg [⟨(some 46), .l (.mov (.t 2)), none⟩, ⟨(some 47), .l (.mov (.t 3)), none⟩, ⟨(some 48), .call 305 [(.t 46), (.t 47)], none⟩, ⟨(some 45), .l (.mov (.t 48)), none⟩, ⟨(some 49), .l (.extract 0 (.t 45)), none⟩, ⟨(some 50), .l (.extract 1 (.t 45)), none⟩, ⟨(some 13), .l (.mov (.t 49)), none⟩, ⟨(some 14), .l (.mov (.t 50)), none⟩])
 (.seq (.reg [⟨(some 51), .l (.mov (.t 14)), none⟩, ⟨(some 8), .l (.mov (.t 51)), none⟩, ⟨(some 9), .l (.mov (.c (.bool true))), none⟩])
 .ret)) (.seq (.reg [⟨(some 53), .l (.arith .eql (.t 18) (.c (.int .i64 64))), none⟩, ⟨(some 52), .l (.mov (.t 53)), none⟩])
 (.cond (.t 52) (.seq (.reg [⟨(some 54), .l (.mov (.t 2)), none⟩, ⟨(some 55), .l (.mov (.t 3)), none⟩, ⟨(some 56), .l (.arith .or (.t 54) (.t 55)), none⟩, ⟨(some 8), .l (.mov (.t 56)), none⟩, ⟨(some 9), .l (.mov (.c (.bool true))), none⟩])
 .ret) (.seq (.reg [⟨(some 58), .l (.arith .eql (.t 18) (.c (.int .i64 80))), none⟩, ⟨(some 57), .l (.mov (.t 58)), none⟩])
 (.cond (.t 57) (.seq (.reg [⟨(some 59), .l (.mov (.t 2)), none⟩, ⟨(some 60), .l (.mov (.t 3)), none⟩, ⟨(some 61), .l (.arith .and (.t 59) (.t 60)), none⟩, ⟨(some 8), .l (.mov (.t 61)), none⟩, ⟨(some 9), .l (.mov (.c (.bool true))), none⟩])
 .ret) (.seq (.reg [⟨(some 63), .l (.arith .eql (.t 18) (.c (.int .i64 160))), none⟩, ⟨(some 62), .l (.mov (.t 63)), none⟩])
 (.cond (.t 62) (.seq (.reg [⟨(some 64), .l (.mov (.t 2)), none⟩, ⟨(some 65), .l (.mov (.t 3)), none⟩, ⟨(some 66), .l (.arith .xor (.t 64) (.t 65)), none⟩, ⟨(some 8), .l (.mov (.t 66)), none⟩, ⟨(some 9), .l (.mov (.c (.bool true))), none⟩])
 .ret) (.seq (.reg [⟨(some 68), .l (.arith .eql (.t 18) (.c (.int .i64 96))), none⟩, ⟨(some 67), .l (.mov (.t 68)), none⟩])
 (.cond (.t 67) (.seq (.reg [⟨(some 69), .l (.mov (.t 2)), none⟩, ⟨(some 70), .l (.mov (.t 10)), none⟩, ⟨(some 71), .l (.shift .shl (.t 69) (.t 70)), none⟩, ⟨(some 8), .l (.mov (.t 71)), none⟩, ⟨(some 9), .l (.mov (.c (.bool true))), none⟩])
 .ret) (.seq (.reg [⟨(some 73), .l (.arith .eql (.t 18) (.c (.int .i64 112))), none⟩, ⟨(some 72), .l (.mov (.t 73)), none⟩])
 (.cond (.t 72) (.seq (.reg [⟨(some 74), .l (.mov (.t 2)), none⟩, ⟨(some 75), .l (.mov (.t 10)), none⟩, ⟨(some 76), .l (.shift .shr (.t 74) (.t 75)), none⟩, ⟨(some 8), .l (.mov (.t 76)), none⟩, ⟨(some 9), .l (.mov (.c (.bool true))), none⟩])
 .ret) (.seq (.reg [⟨(some 78), .l (.arith .eql (.t 18) (.c (.int .i64 128))), none⟩, ⟨(some 77), .l (.mov (.t 78)), none⟩])
 (.cond (.t 77) (.seq (.reg [⟨(some 79), .l (.mov (.t 2)), none⟩, ⟨(some 80), .l (.un .neg (.t 79)), none⟩, ⟨(some 8), .l (.mov (.t 80)), none⟩, ⟨(some 9), .l (.mov (.c (.bool true))), none⟩])
 .ret) (.seq (.reg [⟨(some 82), .l (.arith .eql (.t 18) (.c (.int .i64 176))), none⟩, ⟨(some 81), .l (.mov (.t 82)), none⟩])
 (.cond (.t 81) (.seq (.reg [⟨(some 83), .l (.mov (.t 3)), none⟩, ⟨(some 8), .l (.mov (.t 83)), none⟩, ⟨(some 9), .l (.mov (.c (.bool true))), none⟩])
 .ret) .skip))))))))))))))))))))))))))
 (.seq (.reg [⟨(some 8), .l (.mov (.c (.int .u64 0))), none⟩, ⟨(some 9), .l (.mov (.c (.bool false))), none⟩])
 .ret)))), none⟩
def i295 : FnI := ⟨[.tmp 2], (.seq (.reg [⟨(some 2), .l (.mov (.c (.bool false))), none⟩])
 (.seq (.reg [⟨(some 3), .l (.mov (.t 0)), none⟩, ⟨(some 4), .l (.mov (.t 0)), none⟩, ⟨(some 5), .l (.arith .neq (.t 3) (.t 4)), none⟩, ⟨(some 2), .l (.mov (.t 5)), none⟩])
 .ret)), none⟩
def i299 : FnI := ⟨[.tmp 4], (.seq (.reg [⟨(some 4), .l (.mov (.c (.int .i64 0))), none⟩])
 (.seq (.seq (.reg [⟨(some 6), .l (.mov (.t 0)), none⟩, ⟨(some 7), .l (.lenS (.t 6)), none⟩, ⟨(some 8), .l (.mov (.c (.int .i64 0))), none⟩])
 (.block 0 (.loop (.seq (.reg [⟨(some 9), .l (.arith .lss (.t 8) (.t 7)), none⟩])
 (.seq (.cond (.t 9) .skip (.exit 0))
 (.seq (.block 1 (.seq (.reg [⟨(some 10), .l (.mov (.t 8)), none⟩, ⟨(some 5), .l (.mov (.t 10)), none⟩])
 (.seq (.reg [⟨(some 11), .l (.mov (.t 1)), none⟩, ⟨(some 12), .l (.mov (.t 0)), none⟩, ⟨(some 13), .l (.mov (.t 5)), none⟩, ⟨(some 14), .l (.idxS 4 (.t 12) (.t 13)), none⟩, ⟨(some 15), .load 4 true (.t 14), none⟩, ⟨(some 16), .callV (.t 11) [(.t 15)], none⟩])
 (.cond (.t 16) (.seq (.reg [⟨(some 17), .l (.mov (.t 5)), none⟩, ⟨(some 4), .l (.mov (.t 17)), none⟩])
 .ret) .skip))))
 (.reg [⟨(some 18), .l (.arith .add (.t 8) (.c (.int .i64 1))), none⟩, ⟨(some 8), .l (.mov (.t 18)), none⟩])))))))
 (.seq (.reg [⟨(some 4), .l (.mov (.c (.int .i64 (-1)))), none⟩])
 .ret))), none⟩
end Go.Proofs.YtickjkmfcickcaaGreatDoor.Run
