import Derived.Test.YtnglcmfgkcdgcaaGreatVdA0
namespace Go.Proofs.YtnglcmfgkcdgcaaGreat
open Go Go.AM
set_option maxRecDepth 100000
set_option linter.unusedVariables false
def A101 : AF :=
⟨1, .seq (.reg [⟨.box 1 101 (.t 0) 0, none, false, .unit⟩,
 ⟨.mv 2 (.k (.bool false)) false, none, false, .unit⟩] false)
(.seq (.reg [⟨.fad 3 101 0 0 1 (.t 1), none, false, .unit⟩,
 ⟨.ld 4 2 1 false (.t 3) false, none, false, .unit⟩,
 ⟨.call (some 5) 49 [(.t 4), (.k (.int .i64 0)), (.k (.int .i64 23))] false, none, false, .unit⟩,
 ⟨.mv 6 (.t 5) false, none, false, .unit⟩,
 ⟨.fad 7 101 1 1 1 (.t 1), some (6, true), false, .unit⟩,
 ⟨.ld 8 2 1 false (.t 7) false, some (6, true), false, .unit⟩,
 ⟨.call (some 9) 49 [(.t 8), (.k (.int .i64 0)), (.k (.int .i64 15))] false, some (6, true), false, .unit⟩,
 ⟨.pick 10 (.t 6) (.t 9) (.k (.bool false)), none, false, .unit⟩,
 ⟨.mv 11 (.t 10) false, none, false, .unit⟩,
 ⟨.fad 12 101 2 2 1 (.t 1), some (11, true), false, .unit⟩,
 ⟨.ld 13 2 1 false (.t 12) false, some (11, true), false, .unit⟩,
 ⟨.call (some 14) 49 [(.t 13), (.k (.int .i64 0)), (.k (.int .i64 20000))] false, some (11, true), false, .unit⟩,
 ⟨.pick 15 (.t 11) (.t 14) (.k (.bool false)), none, false, .unit⟩,
 ⟨.mv 16 (.t 15) false, none, false, .unit⟩,
 ⟨.fad 17 101 3 3 1 (.t 1), some (16, true), false, .unit⟩,
 ⟨.ld 18 2 1 false (.t 17) false, some (16, true), false, .unit⟩,
 ⟨.call (some 19) 49 [(.t 18), (.k (.int .i64 0)), (.k (.int .i64 20000))] false, some (16, true), false, .unit⟩,
 ⟨.pick 20 (.t 16) (.t 19) (.k (.bool false)), none, false, .unit⟩,
 ⟨.mv 21 (.t 20) false, none, false, .unit⟩,
 ⟨.fad 22 101 4 4 1 (.t 1), some (21, true), false, .unit⟩,
 ⟨.ld 23 2 1 false (.t 22) false, some (21, true), false, .unit⟩,
 ⟨.call (some 24) 49 [(.t 23), (.k (.int .i64 0)), (.k (.int .i64 7))] false, some (21, true), false, .unit⟩,
 ⟨.pick 25 (.t 21) (.t 24) (.k (.bool false)), none, false, .unit⟩,
 ⟨.mv 2 (.t 25) false, none, false, .unit⟩] false)
(.ret)), [.tmp 2]⟩
theorem M101 : mkF Tryz.prog 101 A101 = some A101 := by kernel_rfl
def A47 : AF :=
⟨1, .seq (.reg [⟨.mv 2 (.k (.bool false)) false, none, false, .unit⟩] false)
(.seq (.seq (.reg [⟨.mv 5 (.t 0) false, none, false, .unit⟩,
 ⟨.len 6 false (.t 5), none, false, .unit⟩,
 ⟨.mv 7 (.k (.int .i64 0)) false, none, false, .unit⟩] false)
(.block 0 (.loop ⟨[.sl 0 (.c (.lst (.pair (.int .i64) (.pair (.int .i64) (.pair (.int .i64) (.pair (.int .i64) (.int .i64))))))), .sl 5 (.c (.lst (.pair (.int .i64) (.pair (.int .i64) (.pair (.int .i64) (.pair (.int .i64) (.int .i64))))))), .sl 6 (.c (.int .i64)), .sl 7 (.c (.int .i64))], 0⟩ [((.exit 0), ⟨[.sl 0 (.c (.lst (.pair (.int .i64) (.pair (.int .i64) (.pair (.int .i64) (.pair (.int .i64) (.int .i64)))))))], 0⟩), (.ret, ⟨[.sl 2 (.c .bool)], 0⟩)] (.seq (.reg [⟨.bin 8 .lss 3 (.t 7) (.t 6), none, false, .unit⟩] false)
(.seq (.cond (.t 8) (.skip)
(.exit 0))
(.seq (.block 1 (.seq (.reg [⟨.mv 9 (.t 7) false, none, false, .unit⟩,
 ⟨.iad 10 46 5 (.t 5) (.t 7), none, false, .unit⟩,
 ⟨.ld 11 101 5 true (.t 10) false, none, false, .unit⟩,
 ⟨.alloc 4 101 [.int .i64 0, .int .i64 0, .int .i64 0, .int .i64 0, .int .i64 0] false, none, false, .unit⟩,
 ⟨.mv 3 (.t 9) false, none, false, .unit⟩,
 ⟨.st 101 5 (.t 4) (.t 11) false, none, false, .unit⟩] false)
(.seq (.reg [⟨.ld 12 101 5 true (.t 4) false, none, false, .unit⟩,
 ⟨.call (some 13) 101 [(.t 12)] false, none, true, .unit⟩,
 ⟨.un 14 .not (.t 13), none, true, .unit⟩,
 ⟨.mv 15 (.t 14) false, none, true, .unit⟩,
 ⟨.mv 16 (.t 3) false, some (15, false), true, .unit⟩,
 ⟨.bin 17 .gtr 3 (.t 16) (.k (.int .i64 0)), some (15, false), true, .unit⟩,
 ⟨.mv 18 (.t 17) false, some (15, false), true, .unit⟩,
 ⟨.mv 19 (.t 0) false, some (18, true), true, .unit⟩,
 ⟨.mv 20 (.t 3) false, some (18, true), true, .unit⟩,
 ⟨.bin 21 .sub 3 (.t 20) (.k (.int .i64 1)), some (18, true), true, .unit⟩,
 ⟨.iad 22 46 5 (.t 19) (.t 21), some (18, true), true, .unit⟩,
 ⟨.fad 23 101 0 0 1 (.t 22), some (18, true), true, .unit⟩,
 ⟨.ld 24 2 1 false (.t 23) false, some (18, true), true, .unit⟩,
 ⟨.fad 25 101 0 0 1 (.t 4), some (18, true), true, .unit⟩,
 ⟨.ld 26 2 1 false (.t 25) false, some (18, true), false, .unit⟩,
 ⟨.bin 27 .geq 2 (.t 24) (.t 26), some (18, true), true, .unit⟩,
 ⟨.pick 28 (.t 18) (.t 27) (.k (.bool false)), some (15, false), true, .unit⟩,
 ⟨.pick 29 (.t 15) (.k (.bool true)) (.t 28), none, true, .unit⟩] true)
(.cond (.t 29) (.seq (.reg [⟨.mv 2 (.k (.bool false)) false, none, false, .unit⟩] false)
(.ret))
(.skip)))))
(.reg [⟨.bin 30 .add 3 (.t 7) (.k (.int .i64 1)), none, false, .unit⟩,
 ⟨.mv 7 (.t 30) false, none, false, .unit⟩] false)))))))
(.seq (.reg [⟨.mv 31 (.t 0) false, none, false, .unit⟩,
 ⟨.len 32 false (.t 31), none, false, .unit⟩,
 ⟨.bin 33 .leq 3 (.t 32) (.k (.int .i64 24)), none, false, .unit⟩,
 ⟨.mv 2 (.t 33) false, none, false, .unit⟩] false)
(.ret))), [.tmp 2]⟩
theorem M47 : mkF Tryz.prog 47 A47 = some A47 := by kernel_rfl
def A48 : AF :=
⟨1, .seq (.reg [⟨.box 1 47 (.t 0) 0, none, false, .unit⟩,
 ⟨.mv 2 (.k (.bool false)) false, none, false, .unit⟩] false)
(.seq (.reg [⟨.fad 3 47 0 0 1 (.t 1), none, false, .unit⟩,
 ⟨.ld 4 2 1 false (.t 3) false, none, false, .unit⟩,
 ⟨.call (some 5) 49 [(.t 4), (.k (.int .i64 0)), (.k (.int .i64 500))] false, none, false, .unit⟩,
 ⟨.mv 6 (.t 5) false, none, false, .unit⟩,
 ⟨.fad 7 47 1 1 1 (.t 1), some (6, true), false, .unit⟩,
 ⟨.ld 8 2 1 false (.t 7) false, some (6, true), false, .unit⟩,
 ⟨.call (some 9) 49 [(.t 8), (.k (.int .i64 0)), (.k (.int .i64 500))] false, some (6, true), false, .unit⟩,
 ⟨.pick 10 (.t 6) (.t 9) (.k (.bool false)), none, false, .unit⟩,
 ⟨.mv 11 (.t 10) false, none, false, .unit⟩,
 ⟨.fad 12 47 2 2 1 (.t 1), some (11, true), false, .unit⟩,
 ⟨.ld 13 2 1 false (.t 12) false, some (11, true), false, .unit⟩,
 ⟨.call (some 14) 49 [(.t 13), (.k (.int .i64 0)), (.k (.int .i64 90))] false, some (11, true), false, .unit⟩,
 ⟨.pick 15 (.t 11) (.t 14) (.k (.bool false)), none, false, .unit⟩,
 ⟨.mv 16 (.t 15) false, none, false, .unit⟩,
 ⟨.fad 17 47 3 3 1 (.t 1), some (16, true), false, .unit⟩,
 ⟨.ld 18 2 1 false (.t 17) false, some (16, true), false, .unit⟩,
 ⟨.call (some 19) 49 [(.t 18), (.k (.int .i64 0)), (.k (.int .i64 100))] false, some (16, true), false, .unit⟩,
 ⟨.pick 20 (.t 16) (.t 19) (.k (.bool false)), none, false, .unit⟩,
 ⟨.mv 2 (.t 20) false, none, false, .unit⟩] false)
(.ret)), [.tmp 2]⟩
theorem M48 : mkF Tryz.prog 48 A48 = some A48 := by kernel_rfl
def A153 : AF :=
⟨2, .seq (.reg [⟨.mv 4 (.k (.int .i64 0)) false, none, false, .unit⟩] false)
(.seq (.seq (.reg [⟨.mv 6 (.t 0) false, none, false, .unit⟩,
 ⟨.len 7 false (.t 6), none, false, .unit⟩,
 ⟨.mv 8 (.k (.int .i64 0)) false, none, false, .unit⟩] false)
(.block 0 (.loop ⟨[.sl 0 (.c (.lst (.int .i64))), .sl 1 (.c (.int .i64)), .sl 7 (.c (.int .i64)), .sl 8 (.c (.int .i64))], 0⟩ [((.exit 0), ⟨[], 0⟩), (.ret, ⟨[.sl 4 (.c (.int .i64))], 0⟩)] (.seq (.reg [⟨.bin 9 .lss 3 (.t 8) (.t 7), none, false, .unit⟩] false)
(.seq (.cond (.t 9) (.skip)
(.exit 0))
(.seq (.block 1 (.seq (.reg [⟨.mv 10 (.t 8) false, none, false, .unit⟩,
 ⟨.mv 5 (.t 10) false, none, false, .unit⟩] false)
(.seq (.reg [⟨.mv 11 (.t 1) false, none, false, .unit⟩,
 ⟨.mv 12 (.t 0) false, none, false, .unit⟩,
 ⟨.mv 13 (.t 5) false, none, false, .unit⟩,
 ⟨.iad 14 33 1 (.t 12) (.t 13), none, false, .unit⟩,
 ⟨.ld 15 2 1 false (.t 14) false, none, false, .unit⟩,
 ⟨.bin 16 .eql 2 (.t 11) (.t 15), none, false, .unit⟩] false)
(.cond (.t 16) (.seq (.reg [⟨.mv 17 (.t 5) false, none, false, .unit⟩,
 ⟨.mv 4 (.t 17) false, none, false, .unit⟩] false)
(.ret))
(.skip)))))
(.reg [⟨.bin 18 .add 3 (.t 8) (.k (.int .i64 1)), none, false, .unit⟩,
 ⟨.mv 8 (.t 18) false, none, false, .unit⟩] false)))))))
(.seq (.reg [⟨.mv 4 (.k (.int .i64 (-1))) false, none, false, .unit⟩] false)
(.ret))), [.tmp 4]⟩
theorem M153 : mkF Tryz.prog 153 A153 = some A153 := by kernel_rfl
def A102 : AF :=
⟨2, .seq (.reg [⟨.mv 4 (.k (.bool false)) false, none, false, .unit⟩] false)
(.seq (.reg [⟨.mv 5 (.t 0) false, none, false, .unit⟩,
 ⟨.mv 6 (.t 1) false, none, false, .unit⟩,
 ⟨.call (some 7) 153 [(.t 5), (.t 6)] false, none, false, .unit⟩,
 ⟨.bin 8 .geq 3 (.t 7) (.k (.int .i64 0)), none, false, .unit⟩,
 ⟨.mv 4 (.t 8) false, none, false, .unit⟩] false)
(.ret)), [.tmp 4]⟩
theorem M102 : mkF Tryz.prog 102 A102 = some A102 := by kernel_rfl
def A50 : AF :=
⟨2, .seq (.reg [⟨.mv 4 (.k (.bool false)) false, none, false, .unit⟩] false)
(.seq (.seq (.reg [⟨.mv 7 (.t 0) false, none, false, .unit⟩,
 ⟨.len 8 false (.t 7), none, false, .unit⟩,
 ⟨.mv 9 (.k (.int .i64 0)) false, none, false, .unit⟩] false)
(.block 0 (.loop ⟨[.sl 0 (.c (.lst (.int .i64))), .sl 1 (.c (.int .i64)), .sl 7 (.c (.lst (.int .i64))), .sl 8 (.c (.int .i64)), .sl 9 (.c (.int .i64))], 0⟩ [((.exit 0), ⟨[], 0⟩), (.ret, ⟨[.sl 4 (.c .bool)], 0⟩)] (.seq (.reg [⟨.bin 10 .lss 3 (.t 9) (.t 8), none, false, .unit⟩] false)
(.seq (.cond (.t 10) (.skip)
(.exit 0))
(.seq (.block 1 (.seq (.reg [⟨.mv 11 (.t 9) false, none, false, .unit⟩,
 ⟨.iad 12 33 1 (.t 7) (.t 9), none, false, .unit⟩,
 ⟨.ld 13 2 1 false (.t 12) false, none, false, .unit⟩,
 ⟨.mv 5 (.t 11) false, none, false, .unit⟩,
 ⟨.mv 6 (.t 13) false, none, false, .unit⟩] false)
(.seq (.reg [⟨.mv 14 (.t 6) false, none, false, .unit⟩,
 ⟨.mv 15 (.t 1) false, none, false, .unit⟩,
 ⟨.bin 16 .sub 2 (.t 15) (.k (.int .i64 1)), none, false, .unit⟩,
 ⟨.call (some 17) 49 [(.t 14), (.k (.int .i64 0)), (.t 16)] false, none, false, .unit⟩,
 ⟨.un 18 .not (.t 17), none, false, .unit⟩,
 ⟨.mv 19 (.t 18) false, none, false, .unit⟩,
 ⟨.mv 20 (.t 0) false, some (19, false), false, .unit⟩,
 ⟨.mv 21 (.t 5) false, some (19, false), false, .unit⟩,
 ⟨.slc 22 33 false 1 (.t 20) none (some (.t 21)) none, some (19, false), false, .unit⟩,
 ⟨.mv 23 (.t 6) false, some (19, false), false, .unit⟩,
 ⟨.call (some 24) 102 [(.t 22), (.t 23)] false, some (19, false), false, .unit⟩,
 ⟨.pick 25 (.t 19) (.k (.bool true)) (.t 24), none, false, .unit⟩] false)
(.cond (.t 25) (.seq (.reg [⟨.mv 4 (.k (.bool false)) false, none, false, .unit⟩] false)
(.ret))
(.skip)))))
(.reg [⟨.bin 26 .add 3 (.t 9) (.k (.int .i64 1)), none, false, .unit⟩,
 ⟨.mv 9 (.t 26) false, none, false, .unit⟩] false)))))))
(.seq (.reg [⟨.mv 4 (.k (.bool true)) false, none, false, .unit⟩] false)
(.ret))), [.tmp 4]⟩
theorem M50 : mkF Tryz.prog 50 A50 = some A50 := by kernel_rfl
def A11 : AF :=
⟨1, .seq (.reg [⟨.box 1 49 (.t 0) 0, none, false, .unit⟩,
 ⟨.mv 2 (.k (.bool false)) false, none, false, .unit⟩] false)
(.seq (.seq (.reg [⟨.fad 5 49 0 0 5 (.t 1), none, false, .unit⟩,
 ⟨.ld 6 44 5 true (.t 5) false, none, false, .unit⟩,
 ⟨.call (some 7) 45 [(.t 6)] false, none, false, .unit⟩,
 ⟨.un 8 .not (.t 7), none, false, .unit⟩,
 ⟨.mv 9 (.t 8) false, none, false, .unit⟩,
 ⟨.fad 10 49 1 5 1 (.t 1), some (9, false), false, .unit⟩,
 ⟨.ld 11 45 1 false (.t 10) false, some (9, false), false, .unit⟩,
 ⟨.call (some 12) 46 [(.t 11)] false, some (9, false), false, .unit⟩,
 ⟨.un 13 .not (.t 12), some (9, false), false, .unit⟩,
 ⟨.pick 14 (.t 9) (.k (.bool true)) (.t 13), none, false, .unit⟩,
 ⟨.mv 15 (.t 14) false, none, false, .unit⟩,
 ⟨.fad 16 49 2 6 1 (.t 1), some (15, false), false, .unit⟩,
 ⟨.ld 17 46 1 false (.t 16) false, some (15, false), false, .unit⟩,
 ⟨.call (some 18) 47 [(.t 17)] false, some (15, false), false, .unit⟩,
 ⟨.un 19 .not (.t 18), some (15, false), false, .unit⟩,
 ⟨.pick 20 (.t 15) (.k (.bool true)) (.t 19), none, false, .unit⟩,
 ⟨.mv 21 (.t 20) false, none, false, .unit⟩,
 ⟨.fad 22 49 3 7 4 (.t 1), some (21, false), false, .unit⟩,
 ⟨.ld 23 47 4 true (.t 22) false, some (21, false), false, .unit⟩,
 ⟨.call (some 24) 48 [(.t 23)] false, some (21, false), false, .unit⟩,
 ⟨.un 25 .not (.t 24), some (21, false), false, .unit⟩,
 ⟨.pick 26 (.t 21) (.k (.bool true)) (.t 25), none, false, .unit⟩] false)
(.cond (.t 26) (.seq (.reg [⟨.mv 2 (.k (.bool false)) false, none, false, .unit⟩] false)
(.ret))
(.skip)))
(.seq (.reg [⟨.fad 27 49 0 0 5 (.t 1), none, false, .unit⟩,
 ⟨.fad 28 44 1 4 1 (.t 27), none, false, .unit⟩,
 ⟨.ld 29 42 1 false (.t 28) false, none, false, .unit⟩,
 ⟨.len 30 false (.t 29), none, false, .unit⟩,
 ⟨.mv 3 (.t 30) false, none, false, .unit⟩] false)
(.seq (.scope [(.normal, ⟨[.sl 1 (.c (.pim (.pair (.pair (.pair (.int .i64) (.pair (.int .i64) (.pair (.lst (.pair (.int .i64) (.int .i64))) (.lst (.pair .str (.lst (.int .i64))))))) (.lst (.pair .str (.pair (.int .i64) (.int .i64))))) (.pair (.lst (.pair .str (.pair .str (.pair (.int .i64) (.pair (.pair .str (.pair (.int .i64) (.int .i64))) (.pair (.int .i64) (.pair (.int .i64) (.lst (.pair (.int .i64) (.pair (.int .i64) (.pair (.int .i64) (.int .i64)))))))))))) (.pair (.lst (.pair (.int .i64) (.pair (.int .i64) (.pair (.int .i64) (.pair (.int .i64) (.int .i64)))))) (.pair (.pair (.int .i64) (.pair (.int .i64) (.pair (.int .i64) (.int .i64)))) (.pair (.int .i64) (.pair (.int .i64) (.pair (.int .i64) (.pair (.int .i64) (.pair (.lst (.int .i64)) (.lst (.int .i64))))))))))))), .sl 3 (.c (.int .i64))], 0⟩), (.ret, ⟨[.sl 2 (.c .bool)], 0⟩)] (.seq (.reg [⟨.fad 31 49 2 6 1 (.t 1), none, false, .unit⟩,
 ⟨.ld 32 46 1 false (.t 31) false, none, false, .unit⟩,
 ⟨.len 33 false (.t 32), none, false, .unit⟩,
 ⟨.mv 4 (.t 33) false, none, false, .unit⟩] false)
(.seq (.reg [⟨.mv 34 (.t 4) false, none, false, .unit⟩,
 ⟨.bin 35 .gtr 3 (.t 34) (.k (.int .i64 0)), none, false, .unit⟩,
 ⟨.mv 36 (.t 35) false, none, false, .unit⟩,
 ⟨.fad 37 49 2 6 1 (.t 1), some (36, true), false, .unit⟩,
 ⟨.ld 38 46 1 false (.t 37) false, some (36, true), false, .unit⟩,
 ⟨.mv 39 (.t 4) false, some (36, true), false, .unit⟩,
 ⟨.bin 40 .sub 3 (.t 39) (.k (.int .i64 1)), some (36, true), false, .unit⟩,
 ⟨.iad 41 46 5 (.t 38) (.t 40), some (36, true), false, .unit⟩,
 ⟨.fad 42 101 0 0 1 (.t 41), some (36, true), false, .unit⟩,
 ⟨.ld 43 2 1 false (.t 42) false, some (36, true), false, .unit⟩,
 ⟨.mv 44 (.t 3) false, some (36, true), false, .unit⟩,
 ⟨.bin 45 .geq 2 (.t 43) (.t 44), some (36, true), false, .unit⟩,
 ⟨.pick 46 (.t 36) (.t 45) (.k (.bool false)), none, false, .unit⟩] false)
(.cond (.t 46) (.seq (.reg [⟨.mv 2 (.k (.bool false)) false, none, false, .unit⟩] false)
(.ret))
(.skip)))))
(.seq (.reg [⟨.fad 47 49 4 11 1 (.t 1), none, false, .unit⟩,
 ⟨.ld 48 2 1 false (.t 47) false, none, false, .unit⟩,
 ⟨.call (some 49) 49 [(.t 48), (.k (.int .i64 1)), (.k (.int .i64 1000))] false, none, false, .unit⟩,
 ⟨.mv 50 (.t 49) false, none, false, .unit⟩,
 ⟨.fad 51 49 5 12 1 (.t 1), some (50, true), false, .unit⟩,
 ⟨.ld 52 2 1 false (.t 51) false, some (50, true), false, .unit⟩,
 ⟨.call (some 53) 49 [(.t 52), (.k (.int .i64 0)), (.k (.int .i64 200))] false, some (50, true), false, .unit⟩,
 ⟨.pick 54 (.t 50) (.t 53) (.k (.bool false)), none, false, .unit⟩,
 ⟨.mv 55 (.t 54) false, none, false, .unit⟩,
 ⟨.fad 56 49 6 13 1 (.t 1), some (55, true), false, .unit⟩,
 ⟨.ld 57 2 1 false (.t 56) false, some (55, true), false, .unit⟩,
 ⟨.call (some 58) 49 [(.t 57), (.k (.int .i64 0)), (.k (.int .i64 30))] false, some (55, true), false, .unit⟩,
 ⟨.pick 59 (.t 55) (.t 58) (.k (.bool false)), none, false, .unit⟩,
 ⟨.mv 60 (.t 59) false, none, false, .unit⟩,
 ⟨.fad 61 49 7 14 1 (.t 1), some (60, true), false, .unit⟩,
 ⟨.ld 62 2 1 false (.t 61) false, some (60, true), false, .unit⟩,
 ⟨.call (some 63) 49 [(.t 62), (.k (.int .i64 0)), (.k (.int .i64 200))] false, some (60, true), false, .unit⟩,
 ⟨.pick 64 (.t 60) (.t 63) (.k (.bool false)), none, false, .unit⟩,
 ⟨.mv 65 (.t 64) false, none, false, .unit⟩,
 ⟨.fad 66 49 8 15 1 (.t 1), some (65, true), false, .unit⟩,
 ⟨.ld 67 33 1 false (.t 66) false, some (65, true), false, .unit⟩,
 ⟨.mv 68 (.t 3) false, some (65, true), false, .unit⟩,
 ⟨.call (some 69) 50 [(.t 67), (.t 68)] false, some (65, true), false, .unit⟩,
 ⟨.pick 70 (.t 65) (.t 69) (.k (.bool false)), none, false, .unit⟩,
 ⟨.mv 2 (.t 70) false, none, false, .unit⟩] false)
(.ret))))), [.tmp 2]⟩
theorem M11 : mkF Tryz.prog 11 A11 = some A11 := by kernel_rfl
def A132 : AF :=
⟨1, .seq (.reg [⟨.box 1 209 (.t 0) 0, none, false, .unit⟩,
 ⟨.mv 2 (.k (.bool false)) false, none, false, .unit⟩] false)
(.seq (.reg [⟨.fad 3 209 0 0 1 (.t 1), none, false, .unit⟩,
 ⟨.ld 4 9 1 false (.t 3) false, none, false, .unit⟩,
 ⟨.call (some 5) 144 [(.t 4)] false, none, false, .unit⟩,
 ⟨.mv 6 (.t 5) false, none, false, .unit⟩,
 ⟨.fad 7 209 1 1 1 (.t 1), some (6, true), false, .unit⟩,
 ⟨.ld 8 2 1 false (.t 7) false, some (6, true), false, .unit⟩,
 ⟨.call (some 9) 49 [(.t 8), (.k (.int .i64 1)), (.k (.int .i64 120))] false, some (6, true), false, .unit⟩,
 ⟨.pick 10 (.t 6) (.t 9) (.k (.bool false)), none, false, .unit⟩,
 ⟨.mv 11 (.t 10) false, none, false, .unit⟩,
 ⟨.fad 12 209 2 2 1 (.t 1), some (11, true), false, .unit⟩,
 ⟨.ld 13 2 1 false (.t 12) false, some (11, true), false, .unit⟩,
 ⟨.fad 14 209 1 1 1 (.t 1), some (11, true), false, .unit⟩,
 ⟨.ld 15 2 1 false (.t 14) false, some (11, true), false, .unit⟩,
 ⟨.call (some 16) 49 [(.t 13), (.t 15), (.k (.int .i64 240))] false, some (11, true), false, .unit⟩,
 ⟨.pick 17 (.t 11) (.t 16) (.k (.bool false)), none, false, .unit⟩,
 ⟨.mv 18 (.t 17) false, none, false, .unit⟩,
 ⟨.fad 19 209 3 3 1 (.t 1), some (18, true), false, .unit⟩,
 ⟨.ld 20 2 1 false (.t 19) false, some (18, true), false, .unit⟩,
 ⟨.call (some 21) 49 [(.t 20), (.k (.int .i64 1)), (.k (.int .i64 1440))] false, some (18, true), false, .unit⟩,
 ⟨.pick 22 (.t 18) (.t 21) (.k (.bool false)), none, false, .unit⟩,
 ⟨.mv 2 (.t 22) false, none, false, .unit⟩] false)
(.ret)), [.tmp 2]⟩
theorem M132 : mkF Tryz.prog 132 A132 = some A132 := by kernel_rfl
def A80 : AF :=
⟨1, .seq (.reg [⟨.mv 2 (.k (.bool false)) false, none, false, .unit⟩] false)
(.seq (.seq (.reg [⟨.mv 5 (.t 0) false, none, false, .unit⟩,
 ⟨.len 6 false (.t 5), none, false, .unit⟩,
 ⟨.mv 7 (.k (.int .i64 0)) false, none, false, .unit⟩] false)
(.block 0 (.loop ⟨[.sl 0 (.c (.lst (.pair .str (.pair (.int .i64) (.pair (.int .i64) (.int .i64)))))), .sl 5 (.c (.lst (.pair .str (.pair (.int .i64) (.pair (.int .i64) (.int .i64)))))), .sl 6 (.c (.int .i64)), .sl 7 (.c (.int .i64))], 0⟩ [((.exit 0), ⟨[.sl 0 (.c (.lst (.pair .str (.pair (.int .i64) (.pair (.int .i64) (.int .i64))))))], 0⟩), (.ret, ⟨[.sl 2 (.c .bool)], 0⟩)] (.seq (.reg [⟨.bin 8 .lss 3 (.t 7) (.t 6), none, false, .unit⟩] false)
(.seq (.cond (.t 8) (.skip)
(.exit 0))
(.seq (.block 1 (.seq (.reg [⟨.mv 9 (.t 7) false, none, false, .unit⟩,
 ⟨.iad 10 78 4 (.t 5) (.t 7), none, false, .unit⟩,
 ⟨.ld 11 209 4 true (.t 10) false, none, false, .unit⟩,
 ⟨.alloc 4 209 [.string ⟨#[]⟩, .int .i64 0, .int .i64 0, .int .i64 0] false, none, false, .unit⟩,
 ⟨.mv 3 (.t 9) false, none, false, .unit⟩,
 ⟨.st 209 4 (.t 4) (.t 11) false, none, false, .unit⟩] false)
(.seq (.reg [⟨.ld 12 209 4 true (.t 4) false, none, false, .unit⟩,
 ⟨.call (some 13) 132 [(.t 12)] false, none, true, .unit⟩,
 ⟨.un 14 .not (.t 13), none, true, .unit⟩,
 ⟨.mv 15 (.t 14) false, none, true, .unit⟩,
 ⟨.mv 16 (.t 3) false, some (15, false), true, .unit⟩,
 ⟨.bin 17 .gtr 3 (.t 16) (.k (.int .i64 0)), some (15, false), true, .unit⟩,
 ⟨.mv 18 (.t 17) false, some (15, false), true, .unit⟩,
 ⟨.mv 19 (.t 0) false, some (18, true), true, .unit⟩,
 ⟨.mv 20 (.t 3) false, some (18, true), true, .unit⟩,
 ⟨.bin 21 .sub 3 (.t 20) (.k (.int .i64 1)), some (18, true), true, .unit⟩,
 ⟨.iad 22 78 4 (.t 19) (.t 21), some (18, true), true, .unit⟩,
 ⟨.fad 23 209 0 0 1 (.t 22), some (18, true), true, .unit⟩,
 ⟨.ld 24 9 1 false (.t 23) false, some (18, true), true, .unit⟩,
 ⟨.fad 25 209 0 0 1 (.t 4), some (18, true), true, .unit⟩,
 ⟨.ld 26 9 1 false (.t 25) false, some (18, true), false, .unit⟩,
 ⟨.bin 27 .geq 9 (.t 24) (.t 26), some (18, true), true, .unit⟩,
 ⟨.pick 28 (.t 18) (.t 27) (.k (.bool false)), some (15, false), true, .unit⟩,
 ⟨.pick 29 (.t 15) (.k (.bool true)) (.t 28), none, true, .unit⟩] true)
(.cond (.t 29) (.seq (.reg [⟨.mv 2 (.k (.bool false)) false, none, false, .unit⟩] false)
(.ret))
(.skip)))))
(.reg [⟨.bin 30 .add 3 (.t 7) (.k (.int .i64 1)), none, false, .unit⟩,
 ⟨.mv 7 (.t 30) false, none, false, .unit⟩] false)))))))
(.seq (.reg [⟨.mv 31 (.t 0) false, none, false, .unit⟩,
 ⟨.len 32 false (.t 31), none, false, .unit⟩,
 ⟨.bin 33 .leq 3 (.t 32) (.k (.int .i64 12)), none, false, .unit⟩,
 ⟨.mv 2 (.t 33) false, none, false, .unit⟩] false)
(.ret))), [.tmp 2]⟩
theorem M80 : mkF Tryz.prog 80 A80 = some A80 := by kernel_rfl
def A135 : AF :=
⟨1, .seq (.reg [⟨.box 1 211 (.t 0) 0, none, false, .unit⟩,
 ⟨.mv 2 (.k (.bool false)) false, none, false, .unit⟩] false)
(.seq (.reg [⟨.fad 3 211 0 0 1 (.t 1), none, false, .unit⟩,
 ⟨.ld 4 9 1 false (.t 3) false, none, false, .unit⟩,
 ⟨.call (some 5) 144 [(.t 4)] false, none, false, .unit⟩,
 ⟨.mv 6 (.t 5) false, none, false, .unit⟩,
 ⟨.fad 7 211 1 1 1 (.t 1), some (6, true), false, .unit⟩,
 ⟨.ld 8 2 1 false (.t 7) false, some (6, true), false, .unit⟩,
 ⟨.call (some 9) 49 [(.t 8), (.k (.int .i64 1)), (.k (.int .i64 32))] false, some (6, true), false, .unit⟩,
 ⟨.pick 10 (.t 6) (.t 9) (.k (.bool false)), none, false, .unit⟩,
 ⟨.mv 11 (.t 10) false, none, false, .unit⟩,
 ⟨.fad 12 211 2 2 1 (.t 1), some (11, true), false, .unit⟩,
 ⟨.ld 13 2 1 false (.t 12) false, some (11, true), false, .unit⟩,
 ⟨.call (some 14) 49 [(.t 13), (.k (.int .i64 0)), (.k (.int .i64 400))] false, some (11, true), false, .unit⟩,
 ⟨.pick 15 (.t 11) (.t 14) (.k (.bool false)), none, false, .unit⟩,
 ⟨.mv 16 (.t 15) false, none, false, .unit⟩,
 ⟨.fad 17 211 3 3 1 (.t 1), some (16, true), false, .unit⟩,
 ⟨.ld 18 2 1 false (.t 17) false, some (16, true), false, .unit⟩,
 ⟨.fad 19 211 2 2 1 (.t 1), some (16, true), false, .unit⟩,
 ⟨.ld 20 2 1 false (.t 19) false, some (16, true), false, .unit⟩,
 ⟨.call (some 21) 49 [(.t 18), (.t 20), (.k (.int .i64 800))] false, some (16, true), false, .unit⟩,
 ⟨.pick 22 (.t 16) (.t 21) (.k (.bool false)), none, false, .unit⟩,
 ⟨.mv 2 (.t 22) false, none, false, .unit⟩] false)
(.ret)), [.tmp 2]⟩
theorem M135 : mkF Tryz.prog 135 A135 = some A135 := by kernel_rfl
def A134 : AF :=
⟨1, .seq (.reg [⟨.box 1 211 (.t 0) 0, none, false, .unit⟩,
 ⟨.mv 2 (.k (.bool false)) false, none, false, .unit⟩] false)
(.seq (.reg [⟨.ld 3 211 4 true (.t 1) false, none, false, .unit⟩,
 ⟨.call (some 4) 135 [(.t 3)] false, none, false, .unit⟩,
 ⟨.un 5 .not (.t 4), none, false, .unit⟩,
 ⟨.mv 2 (.t 5) false, none, false, .unit⟩] false)
(.ret)), [.tmp 2]⟩
theorem M134 : mkF Tryz.prog 134 A134 = some A134 := by kernel_rfl
def A170 : AF :=
⟨2, .seq (.reg [⟨.mv 4 (.k (.int .i64 0)) false, none, false, .unit⟩] false)
(.seq (.seq (.reg [⟨.mv 6 (.t 0) false, none, false, .unit⟩,
 ⟨.len 7 false (.t 6), none, false, .unit⟩,
 ⟨.mv 8 (.k (.int .i64 0)) false, none, false, .unit⟩] false)
(.block 0 (.loop ⟨[.sl 0 (.c (.lst (.pair .str (.pair (.int .i64) (.pair (.int .i64) (.int .i64)))))), .sl 1 (.gr (.clo 134 [])), .sl 7 (.c (.int .i64)), .sl 8 (.c (.int .i64))], 0⟩ [((.exit 0), ⟨[], 0⟩), (.ret, ⟨[.sl 4 (.c (.int .i64))], 0⟩)] (.seq (.reg [⟨.bin 9 .lss 3 (.t 8) (.t 7), none, false, .unit⟩] false)
(.seq (.cond (.t 9) (.skip)
(.exit 0))
(.seq (.block 1 (.seq (.reg [⟨.mv 10 (.t 8) false, none, false, .unit⟩,
 ⟨.mv 5 (.t 10) false, none, false, .unit⟩] false)
(.seq (.reg [⟨.mv 11 (.t 1) false, none, false, .unit⟩,
 ⟨.mv 12 (.t 0) false, none, false, .unit⟩,
 ⟨.mv 13 (.t 5) false, none, false, .unit⟩,
 ⟨.iad 14 79 4 (.t 12) (.t 13), none, false, .unit⟩,
 ⟨.ld 15 211 4 true (.t 14) false, none, false, .unit⟩,
 ⟨.callv (some 16) (.t 11) [(.t 15)] false, none, false, .unit⟩] false)
(.cond (.t 16) (.seq (.reg [⟨.mv 17 (.t 5) false, none, false, .unit⟩,
 ⟨.mv 4 (.t 17) false, none, false, .unit⟩] false)
(.ret))
(.skip)))))
(.reg [⟨.bin 18 .add 3 (.t 8) (.k (.int .i64 1)), none, false, .unit⟩,
 ⟨.mv 8 (.t 18) false, none, false, .unit⟩] false)))))))
(.seq (.reg [⟨.mv 4 (.k (.int .i64 (-1))) false, none, false, .unit⟩] false)
(.ret))), [.tmp 4]⟩
theorem M170 : mkF Tryz.prog 170 A170 = some A170 := by kernel_rfl
def A133 : AF :=
⟨2, .seq (.reg [⟨.mv 4 (.k (.bool false)) false, none, false, .unit⟩] false)
(.seq (.reg [⟨.mv 5 (.t 0) false, none, false, .unit⟩,
 ⟨.mv 6 (.t 1) false, none, false, .unit⟩,
 ⟨.call (some 7) 170 [(.t 5), (.t 6)] false, none, false, .unit⟩,
 ⟨.bin 8 .geq 3 (.t 7) (.k (.int .i64 0)), none, false, .unit⟩,
 ⟨.mv 4 (.t 8) false, none, false, .unit⟩] false)
(.ret)), [.tmp 4]⟩
theorem M133 : mkF Tryz.prog 133 A133 = some A133 := by kernel_rfl
def A81 : AF :=
⟨1, .seq (.reg [⟨.mv 2 (.k (.bool false)) false, none, false, .unit⟩] false)
(.seq (.reg [⟨.mv 3 (.t 0) false, none, false, .unit⟩,
 ⟨.len 4 false (.t 3), none, false, .unit⟩,
 ⟨.bin 5 .leq 3 (.t 4) (.k (.int .i64 8)), none, false, .unit⟩,
 ⟨.mv 6 (.t 5) false, none, false, .unit⟩,
 ⟨.mv 7 (.t 0) false, some (6, true), false, .unit⟩,
 ⟨.call (some 8) 133 [(.t 7), (.f 134)] false, some (6, true), false, .unit⟩,
 ⟨.un 9 .not (.t 8), some (6, true), false, .unit⟩,
 ⟨.pick 10 (.t 6) (.t 9) (.k (.bool false)), none, false, .unit⟩,
 ⟨.mv 2 (.t 10) false, none, false, .unit⟩] false)
(.ret)), [.tmp 2]⟩
theorem M81 : mkF Tryz.prog 81 A81 = some A81 := by kernel_rfl
def A82 : AF :=
⟨1, .seq (.reg [⟨.box 1 80 (.t 0) 0, none, false, .unit⟩,
 ⟨.mv 2 (.k (.bool false)) false, none, false, .unit⟩] false)
(.seq (.reg [⟨.fad 3 80 0 0 1 (.t 1), none, false, .unit⟩,
 ⟨.ld 4 2 1 false (.t 3) false, none, false, .unit⟩,
 ⟨.call (some 5) 49 [(.t 4), (.k (.int .i64 0)), (.k (.int .i64 100000))] false, none, false, .unit⟩,
 ⟨.mv 6 (.t 5) false, none, false, .unit⟩,
 ⟨.fad 7 80 1 1 1 (.t 1), some (6, true), false, .unit⟩,
 ⟨.ld 8 2 1 false (.t 7) false, some (6, true), false, .unit⟩,
 ⟨.call (some 9) 49 [(.t 8), (.k (.int .i64 0)), (.k (.int .i64 1000))] false, some (6, true), false, .unit⟩,
 ⟨.pick 10 (.t 6) (.t 9) (.k (.bool false)), none, false, .unit⟩,
 ⟨.mv 11 (.t 10) false, none, false, .unit⟩,
 ⟨.fad 12 80 2 2 1 (.t 1), some (11, true), false, .unit⟩,
 ⟨.ld 13 2 1 false (.t 12) false, some (11, true), false, .unit⟩,
 ⟨.call (some 14) 49 [(.t 13), (.k (.int .i64 0)), (.k (.int .i64 1000))] false, some (11, true), false, .unit⟩,
 ⟨.pick 15 (.t 11) (.t 14) (.k (.bool false)), none, false, .unit⟩,
 ⟨.mv 16 (.t 15) false, none, false, .unit⟩,
 ⟨.fad 17 80 3 3 1 (.t 1), some (16, true), false, .unit⟩,
 ⟨.ld 18 2 1 false (.t 17) false, some (16, true), false, .unit⟩,
 ⟨.call (some 19) 49 [(.t 18), (.k (.int .i64 0)), (.k (.int .i64 300))] false, some (16, true), false, .unit⟩,
 ⟨.pick 20 (.t 16) (.t 19) (.k (.bool false)), none, false, .unit⟩,
 ⟨.mv 21 (.t 20) false, none, false, .unit⟩,
 ⟨.fad 22 80 4 4 1 (.t 1), some (21, true), false, .unit⟩,
 ⟨.ld 23 2 1 false (.t 22) false, some (21, true), false, .unit⟩,
 ⟨.call (some 24) 49 [(.t 23), (.k (.int .i64 0)), (.k (.int .i64 200))] false, some (21, true), false, .unit⟩,
 ⟨.pick 25 (.t 21) (.t 24) (.k (.bool false)), none, false, .unit⟩,
 ⟨.mv 2 (.t 25) false, none, false, .unit⟩] false)
(.ret)), [.tmp 2]⟩
theorem M82 : mkF Tryz.prog 82 A82 = some A82 := by kernel_rfl
def A33 : AF :=
⟨1, .seq (.reg [⟨.box 1 82 (.t 0) 0, none, false, .unit⟩,
 ⟨.mv 2 (.k (.bool false)) false, none, false, .unit⟩] false)
(.seq (.reg [⟨.fad 3 82 0 0 17 (.t 1), none, false, .unit⟩,
 ⟨.ld 4 49 17 true (.t 3) false, none, false, .unit⟩,
 ⟨.call (some 5) 11 [(.t 4)] false, none, false, .unit⟩,
 ⟨.mv 6 (.t 5) false, none, false, .unit⟩,
 ⟨.fad 7 82 1 17 1 (.t 1), some (6, true), false, .unit⟩,
 ⟨.ld 8 78 1 false (.t 7) false, some (6, true), false, .unit⟩,
 ⟨.call (some 9) 80 [(.t 8)] false, some (6, true), false, .unit⟩,
 ⟨.pick 10 (.t 6) (.t 9) (.k (.bool false)), none, false, .unit⟩,
 ⟨.mv 11 (.t 10) false, none, false, .unit⟩,
 ⟨.fad 12 82 2 18 1 (.t 1), some (11, true), false, .unit⟩,
 ⟨.ld 13 79 1 false (.t 12) false, some (11, true), false, .unit⟩,
 ⟨.call (some 14) 81 [(.t 13)] false, some (11, true), false, .unit⟩,
 ⟨.pick 15 (.t 11) (.t 14) (.k (.bool false)), none, false, .unit⟩,
 ⟨.mv 16 (.t 15) false, none, false, .unit⟩,
 ⟨.fad 17 82 3 19 5 (.t 1), some (16, true), false, .unit⟩,
 ⟨.ld 18 80 5 true (.t 17) false, some (16, true), false, .unit⟩,
 ⟨.call (some 19) 82 [(.t 18)] false, some (16, true), false, .unit⟩,
 ⟨.pick 20 (.t 16) (.t 19) (.k (.bool false)), none, false, .unit⟩,
 ⟨.mv 2 (.t 20) false, none, false, .unit⟩] false)
(.ret)), [.tmp 2]⟩
theorem M33 : mkF Tryz.prog 33 A33 = some A33 := by kernel_rfl
def A123 : AF :=
⟨2, .seq (.reg [⟨.box 2 184 (.t 0) 0, none, false, .unit⟩,
 ⟨.box 3 184 (.t 1) 0, none, false, .unit⟩,
 ⟨.mv 4 (.k (.bool false)) false, none, false, .unit⟩] false)
(.seq (.seq (.reg [⟨.fad 5 184 0 0 1 (.t 2), none, false, .unit⟩,
 ⟨.ld 6 2 1 false (.t 5) false, none, false, .unit⟩,
 ⟨.fad 7 184 0 0 1 (.t 3), none, false, .unit⟩,
 ⟨.ld 8 2 1 false (.t 7) false, none, false, .unit⟩,
 ⟨.bin 9 .neq 2 (.t 6) (.t 8), none, false, .unit⟩] false)
(.cond (.t 9) (.seq (.reg [⟨.mv 4 (.k (.bool false)) false, none, false, .unit⟩] false)
(.ret))
(.skip)))
(.seq (.seq (.reg [⟨.fad 10 184 1 1 1 (.t 2), none, false, .unit⟩,
 ⟨.ld 11 2 1 false (.t 10) false, none, false, .unit⟩,
 ⟨.fad 12 184 1 1 1 (.t 3), none, false, .unit⟩,
 ⟨.ld 13 2 1 false (.t 12) false, none, false, .unit⟩,
 ⟨.bin 14 .neq 2 (.t 11) (.t 13), none, false, .unit⟩] false)
(.cond (.t 14) (.seq (.reg [⟨.mv 4 (.k (.bool false)) false, none, false, .unit⟩] false)
(.ret))
(.skip)))
(.seq (.reg [⟨.mv 4 (.k (.bool true)) false, none, false, .unit⟩] false)
(.ret)))), [.tmp 4]⟩
theorem M123 : mkF Tryz.prog 123 A123 = some A123 := by kernel_rfl
def A68 : AF :=
⟨2, .seq (.reg [⟨.mv 4 (.k (.bool false)) false, none, false, .unit⟩] false)
(.seq (.seq (.reg [⟨.mv 6 (.t 0) false, none, false, .unit⟩,
 ⟨.len 7 false (.t 6), none, false, .unit⟩,
 ⟨.mv 8 (.t 1) false, none, false, .unit⟩,
 ⟨.len 9 false (.t 8), none, false, .unit⟩,
 ⟨.bin 10 .neq 3 (.t 7) (.t 9), none, false, .unit⟩] false)
(.cond (.t 10) (.seq (.reg [⟨.mv 4 (.k (.bool false)) false, none, false, .unit⟩] false)
(.ret))
(.skip)))
(.seq (.seq (.reg [⟨.mv 5 (.k (.int .i64 0)) false, none, false, .unit⟩] false)
(.block 0 (.loop ⟨[.sl 0 (.c (.lst (.pair (.int .i64) (.int .i64)))), .sl 1 (.c (.lst (.pair (.int .i64) (.int .i64)))), .sl 5 (.c (.int .i64))], 0⟩ [((.exit 0), ⟨[], 0⟩), (.ret, ⟨[.sl 4 (.c .bool)], 0⟩)] (.seq (.seq (.reg [⟨.mv 11 (.t 5) false, none, false, .unit⟩,
 ⟨.mv 12 (.t 0) false, none, false, .unit⟩,
 ⟨.len 13 false (.t 12), none, false, .unit⟩,
 ⟨.bin 14 .lss 3 (.t 11) (.t 13), none, false, .unit⟩] false)
(.cond (.t 14) (.skip)
(.exit 0)))
(.seq (.block 1 (.seq (.reg [⟨.mv 17 (.t 0) false, none, true, .unit⟩,
 ⟨.mv 18 (.t 5) false, none, true, .unit⟩,
 ⟨.iad 19 38 2 (.t 17) (.t 18), none, true, .unit⟩,
 ⟨.ld 20 184 2 true (.t 19) false, none, true, .unit⟩,
 ⟨.mv 21 (.t 1) false, none, true, .unit⟩,
 ⟨.mv 22 (.t 5) false, none, true, .unit⟩,
 ⟨.iad 23 38 2 (.t 21) (.t 22), none, true, .unit⟩,
 ⟨.ld 24 184 2 true (.t 23) false, none, true, .unit⟩,
 ⟨.call (some 25) 123 [(.t 20), (.t 24)] false, none, true, .unit⟩,
 ⟨.un 26 .not (.t 25), none, true, .unit⟩] true)
(.cond (.t 26) (.seq (.reg [⟨.mv 4 (.k (.bool false)) false, none, false, .unit⟩] false)
(.ret))
(.skip))))
(.reg [⟨.mv 15 (.t 5) false, none, false, .unit⟩,
 ⟨.bin 16 .add 3 (.t 15) (.k (.int .i64 1)), none, false, .unit⟩,
 ⟨.mv 5 (.t 16) false, none, false, .unit⟩] false))))))
(.seq (.reg [⟨.mv 4 (.k (.bool true)) false, none, false, .unit⟩] false)
(.ret)))), [.tmp 4]⟩
theorem M68 : mkF Tryz.prog 68 A68 = some A68 := by kernel_rfl
def A19 : AF :=
⟨2, .seq (.reg [⟨.mv 4 (.k (.bool false)) false, none, false, .unit⟩] false)
(.seq (.seq (.reg [⟨.mv 6 (.t 0) false, none, false, .unit⟩,
 ⟨.len 7 false (.t 6), none, false, .unit⟩,
 ⟨.mv 8 (.t 1) false, none, false, .unit⟩,
 ⟨.len 9 false (.t 8), none, false, .unit⟩,
 ⟨.bin 10 .neq 3 (.t 7) (.t 9), none, false, .unit⟩] false)
(.cond (.t 10) (.seq (.reg [⟨.mv 4 (.k (.bool false)) false, none, false, .unit⟩] false)
(.ret))
(.skip)))
(.seq (.seq (.reg [⟨.mv 5 (.k (.int .i64 0)) false, none, false, .unit⟩] false)
(.block 0 (.loop ⟨[.sl 0 (.c (.lst (.int .i64))), .sl 1 (.c (.lst (.int .i64))), .sl 5 (.c (.int .i64))], 0⟩ [((.exit 0), ⟨[], 0⟩), (.ret, ⟨[.sl 4 (.c .bool)], 0⟩)] (.seq (.seq (.reg [⟨.mv 11 (.t 5) false, none, false, .unit⟩,
 ⟨.mv 12 (.t 0) false, none, false, .unit⟩,
 ⟨.len 13 false (.t 12), none, false, .unit⟩,
 ⟨.bin 14 .lss 3 (.t 11) (.t 13), none, false, .unit⟩] false)
(.cond (.t 14) (.skip)
(.exit 0)))
(.seq (.block 1 (.seq (.reg [⟨.mv 17 (.t 0) false, none, true, .unit⟩,
 ⟨.mv 18 (.t 5) false, none, true, .unit⟩,
 ⟨.iad 19 33 1 (.t 17) (.t 18), none, true, .unit⟩,
 ⟨.ld 20 2 1 false (.t 19) false, none, true, .unit⟩,
 ⟨.mv 21 (.t 1) false, none, true, .unit⟩,
 ⟨.mv 22 (.t 5) false, none, true, .unit⟩,
 ⟨.iad 23 33 1 (.t 21) (.t 22), none, true, .unit⟩,
 ⟨.ld 24 2 1 false (.t 23) false, none, true, .unit⟩,
 ⟨.bin 25 .neq 2 (.t 20) (.t 24), none, true, .unit⟩] true)
(.cond (.t 25) (.seq (.reg [⟨.mv 4 (.k (.bool false)) false, none, false, .unit⟩] false)
(.ret))
(.skip))))
(.reg [⟨.mv 15 (.t 5) false, none, false, .unit⟩,
 ⟨.bin 16 .add 3 (.t 15) (.k (.int .i64 1)), none, false, .unit⟩,
 ⟨.mv 5 (.t 16) false, none, false, .unit⟩] false))))))
(.seq (.reg [⟨.mv 4 (.k (.bool true)) false, none, false, .unit⟩] false)
(.ret)))), [.tmp 4]⟩
theorem M19 : mkF Tryz.prog 19 A19 = some A19 := by kernel_rfl
def A124 : AF :=
⟨2, .seq (.reg [⟨.box 2 187 (.t 0) 0, none, false, .unit⟩,
 ⟨.box 3 187 (.t 1) 0, none, false, .unit⟩,
 ⟨.mv 4 (.k (.bool false)) false, none, false, .unit⟩] false)
(.seq (.seq (.reg [⟨.fad 5 187 0 0 1 (.t 2), none, false, .unit⟩,
 ⟨.ld 6 9 1 false (.t 5) false, none, false, .unit⟩,
 ⟨.fad 7 187 0 0 1 (.t 3), none, false, .unit⟩,
 ⟨.ld 8 9 1 false (.t 7) false, none, false, .unit⟩,
 ⟨.bin 9 .neq 9 (.t 6) (.t 8), none, false, .unit⟩] false)
(.cond (.t 9) (.seq (.reg [⟨.mv 4 (.k (.bool false)) false, none, false, .unit⟩] false)
(.ret))
(.skip)))
(.seq (.seq (.reg [⟨.fad 10 187 1 1 1 (.t 2), none, false, .unit⟩,
 ⟨.ld 11 33 1 false (.t 10) false, none, false, .unit⟩,
 ⟨.fad 12 187 1 1 1 (.t 3), none, false, .unit⟩,
 ⟨.ld 13 33 1 false (.t 12) false, none, false, .unit⟩,
 ⟨.call (some 14) 19 [(.t 11), (.t 13)] false, none, false, .unit⟩,
 ⟨.un 15 .not (.t 14), none, false, .unit⟩] false)
(.cond (.t 15) (.seq (.reg [⟨.mv 4 (.k (.bool false)) false, none, false, .unit⟩] false)
(.ret))
(.skip)))
(.seq (.reg [⟨.mv 4 (.k (.bool true)) false, none, false, .unit⟩] false)
(.ret)))), [.tmp 4]⟩
theorem M124 : mkF Tryz.prog 124 A124 = some A124 := by kernel_rfl
def A69 : AF :=
⟨2, .seq (.reg [⟨.mv 4 (.k (.bool false)) false, none, false, .unit⟩] false)
(.seq (.seq (.reg [⟨.mv 6 (.t 0) false, none, false, .unit⟩,
 ⟨.len 7 false (.t 6), none, false, .unit⟩,
 ⟨.mv 8 (.t 1) false, none, false, .unit⟩,
 ⟨.len 9 false (.t 8), none, false, .unit⟩,
 ⟨.bin 10 .neq 3 (.t 7) (.t 9), none, false, .unit⟩] false)
(.cond (.t 10) (.seq (.reg [⟨.mv 4 (.k (.bool false)) false, none, false, .unit⟩] false)
(.ret))
(.skip)))
(.seq (.seq (.reg [⟨.mv 5 (.k (.int .i64 0)) false, none, false, .unit⟩] false)
(.block 0 (.loop ⟨[.sl 0 (.c (.lst (.pair .str (.lst (.int .i64))))), .sl 1 (.c (.lst (.pair .str (.lst (.int .i64))))), .sl 5 (.c (.int .i64))], 0⟩ [((.exit 0), ⟨[], 0⟩), (.ret, ⟨[.sl 4 (.c .bool)], 0⟩)] (.seq (.seq (.reg [⟨.mv 11 (.t 5) false, none, false, .unit⟩,
 ⟨.mv 12 (.t 0) false, none, false, .unit⟩,
 ⟨.len 13 false (.t 12), none, false, .unit⟩,
 ⟨.bin 14 .lss 3 (.t 11) (.t 13), none, false, .unit⟩] false)
(.cond (.t 14) (.skip)
(.exit 0)))
(.seq (.block 1 (.seq (.reg [⟨.mv 17 (.t 0) false, none, true, .unit⟩,
 ⟨.mv 18 (.t 5) false, none, true, .unit⟩,
 ⟨.iad 19 39 2 (.t 17) (.t 18), none, true, .unit⟩,
 ⟨.ld 20 187 2 true (.t 19) false, none, true, .unit⟩,
 ⟨.mv 21 (.t 1) false, none, true, .unit⟩,
 ⟨.mv 22 (.t 5) false, none, true, .unit⟩,
 ⟨.iad 23 39 2 (.t 21) (.t 22), none, true, .unit⟩,
 ⟨.ld 24 187 2 true (.t 23) false, none, true, .unit⟩,
 ⟨.call (some 25) 124 [(.t 20), (.t 24)] false, none, true, .unit⟩,
 ⟨.un 26 .not (.t 25), none, true, .unit⟩] true)
(.cond (.t 26) (.seq (.reg [⟨.mv 4 (.k (.bool false)) false, none, false, .unit⟩] false)
(.ret))
(.skip))))
(.reg [⟨.mv 15 (.t 5) false, none, false, .unit⟩,
 ⟨.bin 16 .add 3 (.t 15) (.k (.int .i64 1)), none, false, .unit⟩,
 ⟨.mv 5 (.t 16) false, none, false, .unit⟩] false))))))
(.seq (.reg [⟨.mv 4 (.k (.bool true)) false, none, false, .unit⟩] false)
(.ret)))), [.tmp 4]⟩
theorem M69 : mkF Tryz.prog 69 A69 = some A69 := by kernel_rfl
def A20 : AF :=
⟨2, .seq (.reg [⟨.box 2 41 (.t 0) 0, none, false, .unit⟩,
 ⟨.box 3 41 (.t 1) 0, none, false, .unit⟩,
 ⟨.mv 4 (.k (.bool false)) false, none, false, .unit⟩] false)
(.seq (.seq (.reg [⟨.fad 5 41 0 0 1 (.t 2), none, false, .unit⟩,
 ⟨.ld 6 2 1 false (.t 5) false, none, false, .unit⟩,
 ⟨.fad 7 41 0 0 1 (.t 3), none, false, .unit⟩,
 ⟨.ld 8 2 1 false (.t 7) false, none, false, .unit⟩,
 ⟨.bin 9 .neq 2 (.t 6) (.t 8), none, false, .unit⟩] false)
(.cond (.t 9) (.seq (.reg [⟨.mv 4 (.k (.bool false)) false, none, false, .unit⟩] false)
(.ret))
(.skip)))
(.seq (.seq (.reg [⟨.fad 10 41 1 1 1 (.t 2), none, false, .unit⟩,
 ⟨.ld 11 2 1 false (.t 10) false, none, false, .unit⟩,
 ⟨.fad 12 41 1 1 1 (.t 3), none, false, .unit⟩,
 ⟨.ld 13 2 1 false (.t 12) false, none, false, .unit⟩,
 ⟨.bin 14 .neq 2 (.t 11) (.t 13), none, false, .unit⟩] false)
(.cond (.t 14) (.seq (.reg [⟨.mv 4 (.k (.bool false)) false, none, false, .unit⟩] false)
(.ret))
(.skip)))
(.seq (.seq (.reg [⟨.fad 15 41 2 2 1 (.t 2), none, false, .unit⟩,
 ⟨.ld 16 38 1 false (.t 15) false, none, false, .unit⟩,
 ⟨.fad 17 41 2 2 1 (.t 3), none, false, .unit⟩,
 ⟨.ld 18 38 1 false (.t 17) false, none, false, .unit⟩,
 ⟨.call (some 19) 68 [(.t 16), (.t 18)] false, none, false, .unit⟩,
 ⟨.un 20 .not (.t 19), none, false, .unit⟩] false)
(.cond (.t 20) (.seq (.reg [⟨.mv 4 (.k (.bool false)) false, none, false, .unit⟩] false)
(.ret))
(.skip)))
(.seq (.seq (.reg [⟨.fad 21 41 3 3 1 (.t 2), none, false, .unit⟩,
 ⟨.ld 22 39 1 false (.t 21) false, none, false, .unit⟩,
 ⟨.fad 23 41 3 3 1 (.t 3), none, false, .unit⟩,
 ⟨.ld 24 39 1 false (.t 23) false, none, false, .unit⟩,
 ⟨.call (some 25) 69 [(.t 22), (.t 24)] false, none, false, .unit⟩,
 ⟨.un 26 .not (.t 25), none, false, .unit⟩] false)
(.cond (.t 26) (.seq (.reg [⟨.mv 4 (.k (.bool false)) false, none, false, .unit⟩] false)
(.ret))
(.skip)))
(.seq (.reg [⟨.mv 4 (.k (.bool true)) false, none, false, .unit⟩] false)
(.ret)))))), [.tmp 4]⟩
theorem M20 : mkF Tryz.prog 20 A20 = some A20 := by kernel_rfl
def A70 : AF :=
⟨2, .seq (.reg [⟨.box 2 123 (.t 0) 0, none, false, .unit⟩,
 ⟨.box 3 123 (.t 1) 0, none, false, .unit⟩,
 ⟨.mv 4 (.k (.bool false)) false, none, false, .unit⟩] false)
(.seq (.seq (.reg [⟨.fad 5 123 0 0 1 (.t 2), none, false, .unit⟩,
 ⟨.ld 6 9 1 false (.t 5) false, none, false, .unit⟩,
 ⟨.fad 7 123 0 0 1 (.t 3), none, false, .unit⟩,
 ⟨.ld 8 9 1 false (.t 7) false, none, false, .unit⟩,
 ⟨.bin 9 .neq 9 (.t 6) (.t 8), none, false, .unit⟩] false)
(.cond (.t 9) (.seq (.reg [⟨.mv 4 (.k (.bool false)) false, none, false, .unit⟩] false)
(.ret))
(.skip)))
(.seq (.seq (.reg [⟨.fad 10 123 1 1 1 (.t 2), none, false, .unit⟩,
 ⟨.ld 11 2 1 false (.t 10) false, none, false, .unit⟩,
 ⟨.fad 12 123 1 1 1 (.t 3), none, false, .unit⟩,
 ⟨.ld 13 2 1 false (.t 12) false, none, false, .unit⟩,
 ⟨.bin 14 .neq 2 (.t 11) (.t 13), none, false, .unit⟩] false)
(.cond (.t 14) (.seq (.reg [⟨.mv 4 (.k (.bool false)) false, none, false, .unit⟩] false)
(.ret))
(.skip)))
(.seq (.seq (.reg [⟨.fad 15 123 2 2 1 (.t 2), none, false, .unit⟩,
 ⟨.ld 16 2 1 false (.t 15) false, none, false, .unit⟩,
 ⟨.fad 17 123 2 2 1 (.t 3), none, false, .unit⟩,
 ⟨.ld 18 2 1 false (.t 17) false, none, false, .unit⟩,
 ⟨.bin 19 .neq 2 (.t 16) (.t 18), none, false, .unit⟩] false)
(.cond (.t 19) (.seq (.reg [⟨.mv 4 (.k (.bool false)) false, none, false, .unit⟩] false)
(.ret))
(.skip)))
(.seq (.reg [⟨.mv 4 (.k (.bool true)) false, none, false, .unit⟩] false)
(.ret))))), [.tmp 4]⟩
theorem M70 : mkF Tryz.prog 70 A70 = some A70 := by kernel_rfl
def A21 : AF :=
⟨2, .seq (.reg [⟨.mv 4 (.k (.bool false)) false, none, false, .unit⟩] false)
(.seq (.seq (.reg [⟨.mv 6 (.t 0) false, none, false, .unit⟩,
 ⟨.len 7 false (.t 6), none, false, .unit⟩,
 ⟨.mv 8 (.t 1) false, none, false, .unit⟩,
 ⟨.len 9 false (.t 8), none, false, .unit⟩,
 ⟨.bin 10 .neq 3 (.t 7) (.t 9), none, false, .unit⟩] false)
(.cond (.t 10) (.seq (.reg [⟨.mv 4 (.k (.bool false)) false, none, false, .unit⟩] false)
(.ret))
(.skip)))
(.seq (.seq (.reg [⟨.mv 5 (.k (.int .i64 0)) false, none, false, .unit⟩] false)
(.block 0 (.loop ⟨[.sl 0 (.c (.lst (.pair .str (.pair (.int .i64) (.int .i64))))), .sl 1 (.c (.lst (.pair .str (.pair (.int .i64) (.int .i64))))), .sl 5 (.c (.int .i64))], 0⟩ [((.exit 0), ⟨[], 0⟩), (.ret, ⟨[.sl 4 (.c .bool)], 0⟩)] (.seq (.seq (.reg [⟨.mv 11 (.t 5) false, none, false, .unit⟩,
 ⟨.mv 12 (.t 0) false, none, false, .unit⟩,
 ⟨.len 13 false (.t 12), none, false, .unit⟩,
 ⟨.bin 14 .lss 3 (.t 11) (.t 13), none, false, .unit⟩] false)
(.cond (.t 14) (.skip)
(.exit 0)))
(.seq (.block 1 (.seq (.reg [⟨.mv 17 (.t 0) false, none, true, .unit⟩,
 ⟨.mv 18 (.t 5) false, none, true, .unit⟩,
 ⟨.iad 19 42 3 (.t 17) (.t 18), none, true, .unit⟩,
 ⟨.ld 20 123 3 true (.t 19) false, none, true, .unit⟩,
 ⟨.mv 21 (.t 1) false, none, true, .unit⟩,
 ⟨.mv 22 (.t 5) false, none, true, .unit⟩,
 ⟨.iad 23 42 3 (.t 21) (.t 22), none, true, .unit⟩,
 ⟨.ld 24 123 3 true (.t 23) false, none, true, .unit⟩,
 ⟨.call (some 25) 70 [(.t 20), (.t 24)] false, none, true, .unit⟩,
 ⟨.un 26 .not (.t 25), none, true, .unit⟩] true)
(.cond (.t 26) (.seq (.reg [⟨.mv 4 (.k (.bool false)) false, none, false, .unit⟩] false)
(.ret))
(.skip))))
(.reg [⟨.mv 15 (.t 5) false, none, false, .unit⟩,
 ⟨.bin 16 .add 3 (.t 15) (.k (.int .i64 1)), none, false, .unit⟩,
 ⟨.mv 5 (.t 16) false, none, false, .unit⟩] false))))))
(.seq (.reg [⟨.mv 4 (.k (.bool true)) false, none, false, .unit⟩] false)
(.ret)))), [.tmp 4]⟩
theorem M21 : mkF Tryz.prog 21 A21 = some A21 := by kernel_rfl
def A51 : AF :=
⟨2, .seq (.reg [⟨.box 2 44 (.t 0) 0, none, false, .unit⟩,
 ⟨.box 3 44 (.t 1) 0, none, false, .unit⟩,
 ⟨.mv 4 (.k (.bool false)) false, none, false, .unit⟩] false)
(.seq (.seq (.reg [⟨.fad 5 44 0 0 4 (.t 2), none, false, .unit⟩,
 ⟨.ld 6 41 4 true (.t 5) false, none, false, .unit⟩,
 ⟨.fad 7 44 0 0 4 (.t 3), none, false, .unit⟩,
 ⟨.ld 8 41 4 true (.t 7) false, none, false, .unit⟩,
 ⟨.call (some 9) 20 [(.t 6), (.t 8)] false, none, false, .unit⟩,
 ⟨.un 10 .not (.t 9), none, false, .unit⟩] false)
(.cond (.t 10) (.seq (.reg [⟨.mv 4 (.k (.bool false)) false, none, false, .unit⟩] false)
(.ret))
(.skip)))
(.seq (.seq (.reg [⟨.fad 11 44 1 4 1 (.t 2), none, false, .unit⟩,
 ⟨.ld 12 42 1 false (.t 11) false, none, false, .unit⟩,
 ⟨.fad 13 44 1 4 1 (.t 3), none, false, .unit⟩,
 ⟨.ld 14 42 1 false (.t 13) false, none, false, .unit⟩,
 ⟨.call (some 15) 21 [(.t 12), (.t 14)] false, none, false, .unit⟩,
 ⟨.un 16 .not (.t 15), none, false, .unit⟩] false)
(.cond (.t 16) (.seq (.reg [⟨.mv 4 (.k (.bool false)) false, none, false, .unit⟩] false)
(.ret))
(.skip)))
(.seq (.reg [⟨.mv 4 (.k (.bool true)) false, none, false, .unit⟩] false)
(.ret)))), [.tmp 4]⟩
theorem M51 : mkF Tryz.prog 51 A51 = some A51 := by kernel_rfl
def A182 : AF :=
⟨2, .seq (.reg [⟨.box 2 234 (.t 0) 0, none, false, .unit⟩,
 ⟨.box 3 234 (.t 1) 0, none, false, .unit⟩,
 ⟨.mv 4 (.k (.bool false)) false, none, false, .unit⟩] false)
(.seq (.seq (.reg [⟨.fad 5 234 0 0 1 (.t 2), none, false, .unit⟩,
 ⟨.ld 6 2 1 false (.t 5) false, none, false, .unit⟩,
 ⟨.fad 7 234 0 0 1 (.t 3), none, false, .unit⟩,
 ⟨.ld 8 2 1 false (.t 7) false, none, false, .unit⟩,
 ⟨.bin 9 .neq 2 (.t 6) (.t 8), none, false, .unit⟩] false)
(.cond (.t 9) (.seq (.reg [⟨.mv 4 (.k (.bool false)) false, none, false, .unit⟩] false)
(.ret))
(.skip)))
(.seq (.seq (.reg [⟨.fad 10 234 1 1 1 (.t 2), none, false, .unit⟩,
 ⟨.ld 11 2 1 false (.t 10) false, none, false, .unit⟩,
 ⟨.fad 12 234 1 1 1 (.t 3), none, false, .unit⟩,
 ⟨.ld 13 2 1 false (.t 12) false, none, false, .unit⟩,
 ⟨.bin 14 .neq 2 (.t 11) (.t 13), none, false, .unit⟩] false)
(.cond (.t 14) (.seq (.reg [⟨.mv 4 (.k (.bool false)) false, none, false, .unit⟩] false)
(.ret))
(.skip)))
(.seq (.seq (.reg [⟨.fad 15 234 2 2 1 (.t 2), none, false, .unit⟩,
 ⟨.ld 16 2 1 false (.t 15) false, none, false, .unit⟩,
 ⟨.fad 17 234 2 2 1 (.t 3), none, false, .unit⟩,
 ⟨.ld 18 2 1 false (.t 17) false, none, false, .unit⟩,
 ⟨.bin 19 .neq 2 (.t 16) (.t 18), none, false, .unit⟩] false)
(.cond (.t 19) (.seq (.reg [⟨.mv 4 (.k (.bool false)) false, none, false, .unit⟩] false)
(.ret))
(.skip)))
(.seq (.seq (.reg [⟨.fad 20 234 3 3 1 (.t 2), none, false, .unit⟩,
 ⟨.ld 21 2 1 false (.t 20) false, none, false, .unit⟩,
 ⟨.fad 22 234 3 3 1 (.t 3), none, false, .unit⟩,
 ⟨.ld 23 2 1 false (.t 22) false, none, false, .unit⟩,
 ⟨.bin 24 .neq 2 (.t 21) (.t 23), none, false, .unit⟩] false)
(.cond (.t 24) (.seq (.reg [⟨.mv 4 (.k (.bool false)) false, none, false, .unit⟩] false)
(.ret))
(.skip)))
(.seq (.reg [⟨.mv 4 (.k (.bool true)) false, none, false, .unit⟩] false)
(.ret)))))), [.tmp 4]⟩
theorem M182 : mkF Tryz.prog 182 A182 = some A182 := by kernel_rfl
def A154 : AF :=
⟨2, .seq (.reg [⟨.mv 4 (.k (.bool false)) false, none, false, .unit⟩] false)
(.seq (.seq (.reg [⟨.mv 6 (.t 0) false, none, false, .unit⟩,
 ⟨.len 7 false (.t 6), none, false, .unit⟩,
 ⟨.mv 8 (.t 1) false, none, false, .unit⟩,
 ⟨.len 9 false (.t 8), none, false, .unit⟩,
 ⟨.bin 10 .neq 3 (.t 7) (.t 9), none, false, .unit⟩] false)
(.cond (.t 10) (.seq (.reg [⟨.mv 4 (.k (.bool false)) false, none, false, .unit⟩] false)
(.ret))
(.skip)))
(.seq (.seq (.reg [⟨.mv 5 (.k (.int .i64 0)) false, none, false, .unit⟩] false)
(.block 0 (.loop ⟨[.sl 0 (.c (.lst (.pair (.int .i64) (.pair (.int .i64) (.pair (.int .i64) (.int .i64)))))), .sl 1 (.c (.lst (.pair (.int .i64) (.pair (.int .i64) (.pair (.int .i64) (.int .i64)))))), .sl 5 (.c (.int .i64))], 0⟩ [((.exit 0), ⟨[], 0⟩), (.ret, ⟨[.sl 4 (.c .bool)], 0⟩)] (.seq (.seq (.reg [⟨.mv 11 (.t 5) false, none, false, .unit⟩,
 ⟨.mv 12 (.t 0) false, none, false, .unit⟩,
 ⟨.len 13 false (.t 12), none, false, .unit⟩,
 ⟨.bin 14 .lss 3 (.t 11) (.t 13), none, false, .unit⟩] false)
(.cond (.t 14) (.skip)
(.exit 0)))
(.seq (.block 1 (.seq (.reg [⟨.mv 17 (.t 0) false, none, true, .unit⟩,
 ⟨.mv 18 (.t 5) false, none, true, .unit⟩,
 ⟨.iad 19 162 4 (.t 17) (.t 18), none, true, .unit⟩,
 ⟨.ld 20 234 4 true (.t 19) false, none, true, .unit⟩,
 ⟨.mv 21 (.t 1) false, none, true, .unit⟩,
 ⟨.mv 22 (.t 5) false, none, true, .unit⟩,
 ⟨.iad 23 162 4 (.t 21) (.t 22), none, true, .unit⟩,
 ⟨.ld 24 234 4 true (.t 23) false, none, true, .unit⟩,
 ⟨.call (some 25) 182 [(.t 20), (.t 24)] false, none, true, .unit⟩,
 ⟨.un 26 .not (.t 25), none, true, .unit⟩] true)
(.cond (.t 26) (.seq (.reg [⟨.mv 4 (.k (.bool false)) false, none, false, .unit⟩] false)
(.ret))
(.skip))))
(.reg [⟨.mv 15 (.t 5) false, none, false, .unit⟩,
 ⟨.bin 16 .add 3 (.t 15) (.k (.int .i64 1)), none, false, .unit⟩,
 ⟨.mv 5 (.t 16) false, none, false, .unit⟩] false))))))
(.seq (.reg [⟨.mv 4 (.k (.bool true)) false, none, false, .unit⟩] false)
(.ret)))), [.tmp 4]⟩
theorem M154 : mkF Tryz.prog 154 A154 = some A154 := by kernel_rfl
def A103 : AF :=
⟨2, .seq (.reg [⟨.box 2 164 (.t 0) 0, none, false, .unit⟩,
 ⟨.box 3 164 (.t 1) 0, none, false, .unit⟩,
 ⟨.mv 4 (.k (.bool false)) false, none, false, .unit⟩] false)
(.seq (.seq (.reg [⟨.fad 5 164 0 0 1 (.t 2), none, false, .unit⟩,
 ⟨.ld 6 9 1 false (.t 5) false, none, false, .unit⟩,
 ⟨.fad 7 164 0 0 1 (.t 3), none, false, .unit⟩,
 ⟨.ld 8 9 1 false (.t 7) false, none, false, .unit⟩,
 ⟨.bin 9 .neq 9 (.t 6) (.t 8), none, false, .unit⟩] false)
(.cond (.t 9) (.seq (.reg [⟨.mv 4 (.k (.bool false)) false, none, false, .unit⟩] false)
(.ret))
(.skip)))
(.seq (.seq (.reg [⟨.fad 10 164 1 1 1 (.t 2), none, false, .unit⟩,
 ⟨.ld 11 9 1 false (.t 10) false, none, false, .unit⟩,
 ⟨.fad 12 164 1 1 1 (.t 3), none, false, .unit⟩,
 ⟨.ld 13 9 1 false (.t 12) false, none, false, .unit⟩,
 ⟨.bin 14 .neq 9 (.t 11) (.t 13), none, false, .unit⟩] false)
(.cond (.t 14) (.seq (.reg [⟨.mv 4 (.k (.bool false)) false, none, false, .unit⟩] false)
(.ret))
(.skip)))
(.seq (.seq (.reg [⟨.fad 15 164 2 2 1 (.t 2), none, false, .unit⟩,
 ⟨.ld 16 2 1 false (.t 15) false, none, false, .unit⟩,
 ⟨.fad 17 164 2 2 1 (.t 3), none, false, .unit⟩,
 ⟨.ld 18 2 1 false (.t 17) false, none, false, .unit⟩,
 ⟨.bin 19 .neq 2 (.t 16) (.t 18), none, false, .unit⟩] false)
(.cond (.t 19) (.seq (.reg [⟨.mv 4 (.k (.bool false)) false, none, false, .unit⟩] false)
(.ret))
(.skip)))
(.seq (.seq (.reg [⟨.fad 20 164 3 3 3 (.t 2), none, false, .unit⟩,
 ⟨.ld 21 123 3 true (.t 20) false, none, false, .unit⟩,
 ⟨.fad 22 164 3 3 3 (.t 3), none, false, .unit⟩,
 ⟨.ld 23 123 3 true (.t 22) false, none, false, .unit⟩,
 ⟨.call (some 24) 70 [(.t 21), (.t 23)] false, none, false, .unit⟩,
 ⟨.un 25 .not (.t 24), none, false, .unit⟩] false)
(.cond (.t 25) (.seq (.reg [⟨.mv 4 (.k (.bool false)) false, none, false, .unit⟩] false)
(.ret))
(.skip)))
(.seq (.seq (.reg [⟨.fad 26 164 4 6 1 (.t 2), none, false, .unit⟩,
 ⟨.ld 27 2 1 false (.t 26) false, none, false, .unit⟩,
 ⟨.fad 28 164 4 6 1 (.t 3), none, false, .unit⟩,
 ⟨.ld 29 2 1 false (.t 28) false, none, false, .unit⟩,
 ⟨.bin 30 .neq 2 (.t 27) (.t 29), none, false, .unit⟩] false)
(.cond (.t 30) (.seq (.reg [⟨.mv 4 (.k (.bool false)) false, none, false, .unit⟩] false)
(.ret))
(.skip)))
(.seq (.seq (.reg [⟨.fad 31 164 5 7 1 (.t 2), none, false, .unit⟩,
 ⟨.ld 32 2 1 false (.t 31) false, none, false, .unit⟩,
 ⟨.fad 33 164 5 7 1 (.t 3), none, false, .unit⟩,
 ⟨.ld 34 2 1 false (.t 33) false, none, false, .unit⟩,
 ⟨.bin 35 .neq 2 (.t 32) (.t 34), none, false, .unit⟩] false)
(.cond (.t 35) (.seq (.reg [⟨.mv 4 (.k (.bool false)) false, none, false, .unit⟩] false)
(.ret))
(.skip)))
(.seq (.seq (.reg [⟨.fad 36 164 6 8 1 (.t 2), none, false, .unit⟩,
 ⟨.ld 37 162 1 false (.t 36) false, none, false, .unit⟩,
 ⟨.fad 38 164 6 8 1 (.t 3), none, false, .unit⟩,
 ⟨.ld 39 162 1 false (.t 38) false, none, false, .unit⟩,
 ⟨.call (some 40) 154 [(.t 37), (.t 39)] false, none, false, .unit⟩,
 ⟨.un 41 .not (.t 40), none, false, .unit⟩] false)
(.cond (.t 41) (.seq (.reg [⟨.mv 4 (.k (.bool false)) false, none, false, .unit⟩] false)
(.ret))
(.skip)))
(.seq (.reg [⟨.mv 4 (.k (.bool true)) false, none, false, .unit⟩] false)
(.ret))))))))), [.tmp 4]⟩
theorem M103 : mkF Tryz.prog 103 A103 = some A103 := by kernel_rfl
def A52 : AF :=
⟨2, .seq (.reg [⟨.mv 4 (.k (.bool false)) false, none, false, .unit⟩] false)
(.seq (.seq (.reg [⟨.mv 6 (.t 0) false, none, false, .unit⟩,
 ⟨.len 7 false (.t 6), none, false, .unit⟩,
 ⟨.mv 8 (.t 1) false, none, false, .unit⟩,
 ⟨.len 9 false (.t 8), none, false, .unit⟩,
 ⟨.bin 10 .neq 3 (.t 7) (.t 9), none, false, .unit⟩] false)
(.cond (.t 10) (.seq (.reg [⟨.mv 4 (.k (.bool false)) false, none, false, .unit⟩] false)
(.ret))
(.skip)))
(.seq (.seq (.reg [⟨.mv 5 (.k (.int .i64 0)) false, none, false, .unit⟩] false)
(.block 0 (.loop ⟨[.sl 0 (.c (.lst (.pair .str (.pair .str (.pair (.int .i64) (.pair (.pair .str (.pair (.int .i64) (.int .i64))) (.pair (.int .i64) (.pair (.int .i64) (.lst (.pair (.int .i64) (.pair (.int .i64) (.pair (.int .i64) (.int .i64))))))))))))), .sl 1 (.c (.lst (.pair .str (.pair .str (.pair (.int .i64) (.pair (.pair .str (.pair (.int .i64) (.int .i64))) (.pair (.int .i64) (.pair (.int .i64) (.lst (.pair (.int .i64) (.pair (.int .i64) (.pair (.int .i64) (.int .i64))))))))))))), .sl 5 (.c (.int .i64))], 0⟩ [((.exit 0), ⟨[], 0⟩), (.ret, ⟨[.sl 4 (.c .bool)], 0⟩)] (.seq (.seq (.reg [⟨.mv 11 (.t 5) false, none, false, .unit⟩,
 ⟨.mv 12 (.t 0) false, none, false, .unit⟩,
 ⟨.len 13 false (.t 12), none, false, .unit⟩,
 ⟨.bin 14 .lss 3 (.t 11) (.t 13), none, false, .unit⟩] false)
(.cond (.t 14) (.skip)
(.exit 0)))
(.seq (.block 1 (.seq (.reg [⟨.mv 17 (.t 0) false, none, true, .unit⟩,
 ⟨.mv 18 (.t 5) false, none, true, .unit⟩,
 ⟨.iad 19 45 9 (.t 17) (.t 18), none, true, .unit⟩,
 ⟨.ld 20 164 9 true (.t 19) false, none, true, .unit⟩,
 ⟨.mv 21 (.t 1) false, none, true, .unit⟩,
 ⟨.mv 22 (.t 5) false, none, true, .unit⟩,
 ⟨.iad 23 45 9 (.t 21) (.t 22), none, true, .unit⟩,
 ⟨.ld 24 164 9 true (.t 23) false, none, true, .unit⟩,
 ⟨.call (some 25) 103 [(.t 20), (.t 24)] false, none, true, .unit⟩,
 ⟨.un 26 .not (.t 25), none, true, .unit⟩] true)
(.cond (.t 26) (.seq (.reg [⟨.mv 4 (.k (.bool false)) false, none, false, .unit⟩] false)
(.ret))
(.skip))))
(.reg [⟨.mv 15 (.t 5) false, none, false, .unit⟩,
 ⟨.bin 16 .add 3 (.t 15) (.k (.int .i64 1)), none, false, .unit⟩,
 ⟨.mv 5 (.t 16) false, none, false, .unit⟩] false))))))
(.seq (.reg [⟨.mv 4 (.k (.bool true)) false, none, false, .unit⟩] false)
(.ret)))), [.tmp 4]⟩
theorem M52 : mkF Tryz.prog 52 A52 = some A52 := by kernel_rfl
def A104 : AF :=
⟨2, .seq (.reg [⟨.box 2 101 (.t 0) 0, none, false, .unit⟩,
 ⟨.box 3 101 (.t 1) 0, none, false, .unit⟩,
 ⟨.mv 4 (.k (.bool false)) false, none, false, .unit⟩] false)
(.seq (.seq (.reg [⟨.fad 5 101 0 0 1 (.t 2), none, false, .unit⟩,
 ⟨.ld 6 2 1 false (.t 5) false, none, false, .unit⟩,
 ⟨.fad 7 101 0 0 1 (.t 3), none, false, .unit⟩,
 ⟨.ld 8 2 1 false (.t 7) false, none, false, .unit⟩,
 ⟨.bin 9 .neq 2 (.t 6) (.t 8), none, false, .unit⟩] false)
(.cond (.t 9) (.seq (.reg [⟨.mv 4 (.k (.bool false)) false, none, false, .unit⟩] false)
(.ret))
(.skip)))
(.seq (.seq (.reg [⟨.fad 10 101 1 1 1 (.t 2), none, false, .unit⟩,
 ⟨.ld 11 2 1 false (.t 10) false, none, false, .unit⟩,
 ⟨.fad 12 101 1 1 1 (.t 3), none, false, .unit⟩,
 ⟨.ld 13 2 1 false (.t 12) false, none, false, .unit⟩,
 ⟨.bin 14 .neq 2 (.t 11) (.t 13), none, false, .unit⟩] false)
(.cond (.t 14) (.seq (.reg [⟨.mv 4 (.k (.bool false)) false, none, false, .unit⟩] false)
(.ret))
(.skip)))
(.seq (.seq (.reg [⟨.fad 15 101 2 2 1 (.t 2), none, false, .unit⟩,
 ⟨.ld 16 2 1 false (.t 15) false, none, false, .unit⟩,
 ⟨.fad 17 101 2 2 1 (.t 3), none, false, .unit⟩,
 ⟨.ld 18 2 1 false (.t 17) false, none, false, .unit⟩,
 ⟨.bin 19 .neq 2 (.t 16) (.t 18), none, false, .unit⟩] false)
(.cond (.t 19) (.seq (.reg [⟨.mv 4 (.k (.bool false)) false, none, false, .unit⟩] false)
(.ret))
(.skip)))
(.seq (.seq (.reg [⟨.fad 20 101 3 3 1 (.t 2), none, false, .unit⟩,
 ⟨.ld 21 2 1 false (.t 20) false, none, false, .unit⟩,
 ⟨.fad 22 101 3 3 1 (.t 3), none, false, .unit⟩,
 ⟨.ld 23 2 1 false (.t 22) false, none, false, .unit⟩,
 ⟨.bin 24 .neq 2 (.t 21) (.t 23), none, false, .unit⟩] false)
(.cond (.t 24) (.seq (.reg [⟨.mv 4 (.k (.bool false)) false, none, false, .unit⟩] false)
(.ret))
(.skip)))
(.seq (.seq (.reg [⟨.fad 25 101 4 4 1 (.t 2), none, false, .unit⟩,
 ⟨.ld 26 2 1 false (.t 25) false, none, false, .unit⟩,
 ⟨.fad 27 101 4 4 1 (.t 3), none, false, .unit⟩,
 ⟨.ld 28 2 1 false (.t 27) false, none, false, .unit⟩,
 ⟨.bin 29 .neq 2 (.t 26) (.t 28), none, false, .unit⟩] false)
(.cond (.t 29) (.seq (.reg [⟨.mv 4 (.k (.bool false)) false, none, false, .unit⟩] false)
(.ret))
(.skip)))
(.seq (.reg [⟨.mv 4 (.k (.bool true)) false, none, false, .unit⟩] false)
(.ret))))))), [.tmp 4]⟩
theorem M104 : mkF Tryz.prog 104 A104 = some A104 := by kernel_rfl
def A53 : AF :=
⟨2, .seq (.reg [⟨.mv 4 (.k (.bool false)) false, none, false, .unit⟩] false)
(.seq (.seq (.reg [⟨.mv 6 (.t 0) false, none, false, .unit⟩,
 ⟨.len 7 false (.t 6), none, false, .unit⟩,
 ⟨.mv 8 (.t 1) false, none, false, .unit⟩,
 ⟨.len 9 false (.t 8), none, false, .unit⟩,
 ⟨.bin 10 .neq 3 (.t 7) (.t 9), none, false, .unit⟩] false)
(.cond (.t 10) (.seq (.reg [⟨.mv 4 (.k (.bool false)) false, none, false, .unit⟩] false)
(.ret))
(.skip)))
(.seq (.seq (.reg [⟨.mv 5 (.k (.int .i64 0)) false, none, false, .unit⟩] false)
(.block 0 (.loop ⟨[.sl 0 (.c (.lst (.pair (.int .i64) (.pair (.int .i64) (.pair (.int .i64) (.pair (.int .i64) (.int .i64))))))), .sl 1 (.c (.lst (.pair (.int .i64) (.pair (.int .i64) (.pair (.int .i64) (.pair (.int .i64) (.int .i64))))))), .sl 5 (.c (.int .i64))], 0⟩ [((.exit 0), ⟨[], 0⟩), (.ret, ⟨[.sl 4 (.c .bool)], 0⟩)] (.seq (.seq (.reg [⟨.mv 11 (.t 5) false, none, false, .unit⟩,
 ⟨.mv 12 (.t 0) false, none, false, .unit⟩,
 ⟨.len 13 false (.t 12), none, false, .unit⟩,
 ⟨.bin 14 .lss 3 (.t 11) (.t 13), none, false, .unit⟩] false)
(.cond (.t 14) (.skip)
(.exit 0)))
(.seq (.block 1 (.seq (.reg [⟨.mv 17 (.t 0) false, none, true, .unit⟩,
 ⟨.mv 18 (.t 5) false, none, true, .unit⟩,
 ⟨.iad 19 46 5 (.t 17) (.t 18), none, true, .unit⟩,
 ⟨.ld 20 101 5 true (.t 19) false, none, true, .unit⟩,
 ⟨.mv 21 (.t 1) false, none, true, .unit⟩,
 ⟨.mv 22 (.t 5) false, none, true, .unit⟩,
 ⟨.iad 23 46 5 (.t 21) (.t 22), none, true, .unit⟩,
 ⟨.ld 24 101 5 true (.t 23) false, none, true, .unit⟩,
 ⟨.call (some 25) 104 [(.t 20), (.t 24)] false, none, true, .unit⟩,
 ⟨.un 26 .not (.t 25), none, true, .unit⟩] true)
(.cond (.t 26) (.seq (.reg [⟨.mv 4 (.k (.bool false)) false, none, false, .unit⟩] false)
(.ret))
(.skip))))
(.reg [⟨.mv 15 (.t 5) false, none, false, .unit⟩,
 ⟨.bin 16 .add 3 (.t 15) (.k (.int .i64 1)), none, false, .unit⟩,
 ⟨.mv 5 (.t 16) false, none, false, .unit⟩] false))))))
(.seq (.reg [⟨.mv 4 (.k (.bool true)) false, none, false, .unit⟩] false)
(.ret)))), [.tmp 4]⟩
theorem M53 : mkF Tryz.prog 53 A53 = some A53 := by kernel_rfl
def A54 : AF :=
⟨2, .seq (.reg [⟨.box 2 47 (.t 0) 0, none, false, .unit⟩,
 ⟨.box 3 47 (.t 1) 0, none, false, .unit⟩,
 ⟨.mv 4 (.k (.bool false)) false, none, false, .unit⟩] false)
(.seq (.seq (.reg [⟨.fad 5 47 0 0 1 (.t 2), none, false, .unit⟩,
 ⟨.ld 6 2 1 false (.t 5) false, none, false, .unit⟩,
 ⟨.fad 7 47 0 0 1 (.t 3), none, false, .unit⟩,
 ⟨.ld 8 2 1 false (.t 7) false, none, false, .unit⟩,
 ⟨.bin 9 .neq 2 (.t 6) (.t 8), none, false, .unit⟩] false)
(.cond (.t 9) (.seq (.reg [⟨.mv 4 (.k (.bool false)) false, none, false, .unit⟩] false)
(.ret))
(.skip)))
(.seq (.seq (.reg [⟨.fad 10 47 1 1 1 (.t 2), none, false, .unit⟩,
 ⟨.ld 11 2 1 false (.t 10) false, none, false, .unit⟩,
 ⟨.fad 12 47 1 1 1 (.t 3), none, false, .unit⟩,
 ⟨.ld 13 2 1 false (.t 12) false, none, false, .unit⟩,
 ⟨.bin 14 .neq 2 (.t 11) (.t 13), none, false, .unit⟩] false)
(.cond (.t 14) (.seq (.reg [⟨.mv 4 (.k (.bool false)) false, none, false, .unit⟩] false)
(.ret))
(.skip)))
(.seq (.seq (.reg [⟨.fad 15 47 2 2 1 (.t 2), none, false, .unit⟩,
 ⟨.ld 16 2 1 false (.t 15) false, none, false, .unit⟩,
 ⟨.fad 17 47 2 2 1 (.t 3), none, false, .unit⟩,
 ⟨.ld 18 2 1 false (.t 17) false, none, false, .unit⟩,
 ⟨.bin 19 .neq 2 (.t 16) (.t 18), none, false, .unit⟩] false)
(.cond (.t 19) (.seq (.reg [⟨.mv 4 (.k (.bool false)) false, none, false, .unit⟩] false)
(.ret))
(.skip)))
(.seq (.seq (.reg [⟨.fad 20 47 3 3 1 (.t 2), none, false, .unit⟩,
 ⟨.ld 21 2 1 false (.t 20) false, none, false, .unit⟩,
 ⟨.fad 22 47 3 3 1 (.t 3), none, false, .unit⟩,
 ⟨.ld 23 2 1 false (.t 22) false, none, false, .unit⟩,
 ⟨.bin 24 .neq 2 (.t 21) (.t 23), none, false, .unit⟩] false)
(.cond (.t 24) (.seq (.reg [⟨.mv 4 (.k (.bool false)) false, none, false, .unit⟩] false)
(.ret))
(.skip)))
(.seq (.reg [⟨.mv 4 (.k (.bool true)) false, none, false, .unit⟩] false)
(.ret)))))), [.tmp 4]⟩
theorem M54 : mkF Tryz.prog 54 A54 = some A54 := by kernel_rfl
def A12 : AF :=
⟨2, .seq (.reg [⟨.box 2 49 (.t 0) 0, none, false, .unit⟩,
 ⟨.box 3 49 (.t 1) 0, none, false, .unit⟩,
 ⟨.mv 4 (.k (.bool false)) false, none, false, .unit⟩] false)
(.seq (.seq (.reg [⟨.fad 5 49 0 0 5 (.t 2), none, false, .unit⟩,
 ⟨.ld 6 44 5 true (.t 5) false, none, false, .unit⟩,
 ⟨.fad 7 49 0 0 5 (.t 3), none, false, .unit⟩,
 ⟨.ld 8 44 5 true (.t 7) false, none, false, .unit⟩,
 ⟨.call (some 9) 51 [(.t 6), (.t 8)] false, none, false, .unit⟩,
 ⟨.un 10 .not (.t 9), none, false, .unit⟩] false)
(.cond (.t 10) (.seq (.reg [⟨.mv 4 (.k (.bool false)) false, none, false, .unit⟩] false)
(.ret))
(.skip)))
(.seq (.seq (.reg [⟨.fad 11 49 1 5 1 (.t 2), none, false, .unit⟩,
 ⟨.ld 12 45 1 false (.t 11) false, none, false, .unit⟩,
 ⟨.fad 13 49 1 5 1 (.t 3), none, false, .unit⟩,
 ⟨.ld 14 45 1 false (.t 13) false, none, false, .unit⟩,
 ⟨.call (some 15) 52 [(.t 12), (.t 14)] false, none, false, .unit⟩,
 ⟨.un 16 .not (.t 15), none, false, .unit⟩] false)
(.cond (.t 16) (.seq (.reg [⟨.mv 4 (.k (.bool false)) false, none, false, .unit⟩] false)
(.ret))
(.skip)))
(.seq (.seq (.reg [⟨.fad 17 49 2 6 1 (.t 2), none, false, .unit⟩,
 ⟨.ld 18 46 1 false (.t 17) false, none, false, .unit⟩,
 ⟨.fad 19 49 2 6 1 (.t 3), none, false, .unit⟩,
 ⟨.ld 20 46 1 false (.t 19) false, none, false, .unit⟩,
 ⟨.call (some 21) 53 [(.t 18), (.t 20)] false, none, false, .unit⟩,
 ⟨.un 22 .not (.t 21), none, false, .unit⟩] false)
(.cond (.t 22) (.seq (.reg [⟨.mv 4 (.k (.bool false)) false, none, false, .unit⟩] false)
(.ret))
(.skip)))
(.seq (.seq (.reg [⟨.fad 23 49 3 7 4 (.t 2), none, false, .unit⟩,
 ⟨.ld 24 47 4 true (.t 23) false, none, false, .unit⟩,
 ⟨.fad 25 49 3 7 4 (.t 3), none, false, .unit⟩,
 ⟨.ld 26 47 4 true (.t 25) false, none, false, .unit⟩,
 ⟨.call (some 27) 54 [(.t 24), (.t 26)] false, none, false, .unit⟩,
 ⟨.un 28 .not (.t 27), none, false, .unit⟩] false)
(.cond (.t 28) (.seq (.reg [⟨.mv 4 (.k (.bool false)) false, none, false, .unit⟩] false)
(.ret))
(.skip)))
(.seq (.seq (.reg [⟨.fad 29 49 4 11 1 (.t 2), none, false, .unit⟩,
 ⟨.ld 30 2 1 false (.t 29) false, none, false, .unit⟩,
 ⟨.fad 31 49 4 11 1 (.t 3), none, false, .unit⟩,
 ⟨.ld 32 2 1 false (.t 31) false, none, false, .unit⟩,
 ⟨.bin 33 .neq 2 (.t 30) (.t 32), none, false, .unit⟩] false)
(.cond (.t 33) (.seq (.reg [⟨.mv 4 (.k (.bool false)) false, none, false, .unit⟩] false)
(.ret))
(.skip)))
(.seq (.seq (.reg [⟨.fad 34 49 5 12 1 (.t 2), none, false, .unit⟩,
 ⟨.ld 35 2 1 false (.t 34) false, none, false, .unit⟩,
 ⟨.fad 36 49 5 12 1 (.t 3), none, false, .unit⟩,
 ⟨.ld 37 2 1 false (.t 36) false, none, false, .unit⟩,
 ⟨.bin 38 .neq 2 (.t 35) (.t 37), none, false, .unit⟩] false)
(.cond (.t 38) (.seq (.reg [⟨.mv 4 (.k (.bool false)) false, none, false, .unit⟩] false)
(.ret))
(.skip)))
(.seq (.seq (.reg [⟨.fad 39 49 6 13 1 (.t 2), none, false, .unit⟩,
 ⟨.ld 40 2 1 false (.t 39) false, none, false, .unit⟩,
 ⟨.fad 41 49 6 13 1 (.t 3), none, false, .unit⟩,
 ⟨.ld 42 2 1 false (.t 41) false, none, false, .unit⟩,
 ⟨.bin 43 .neq 2 (.t 40) (.t 42), none, false, .unit⟩] false)
(.cond (.t 43) (.seq (.reg [⟨.mv 4 (.k (.bool false)) false, none, false, .unit⟩] false)
(.ret))
(.skip)))
(.seq (.seq (.reg [⟨.fad 44 49 7 14 1 (.t 2), none, false, .unit⟩,
 ⟨.ld 45 2 1 false (.t 44) false, none, false, .unit⟩,
 ⟨.fad 46 49 7 14 1 (.t 3), none, false, .unit⟩,
 ⟨.ld 47 2 1 false (.t 46) false, none, false, .unit⟩,
 ⟨.bin 48 .neq 2 (.t 45) (.t 47), none, false, .unit⟩] false)
(.cond (.t 48) (.seq (.reg [⟨.mv 4 (.k (.bool false)) false, none, false, .unit⟩] false)
(.ret))
(.skip)))
(.seq (.seq (.reg [⟨.fad 49 49 8 15 1 (.t 2), none, false, .unit⟩,
 ⟨.ld 50 33 1 false (.t 49) false, none, false, .unit⟩,
 ⟨.fad 51 49 8 15 1 (.t 3), none, false, .unit⟩,
 ⟨.ld 52 33 1 false (.t 51) false, none, false, .unit⟩,
 ⟨.call (some 53) 19 [(.t 50), (.t 52)] false, none, false, .unit⟩,
 ⟨.un 54 .not (.t 53), none, false, .unit⟩] false)
(.cond (.t 54) (.seq (.reg [⟨.mv 4 (.k (.bool false)) false, none, false, .unit⟩] false)
(.ret))
(.skip)))
(.seq (.seq (.reg [⟨.fad 55 49 9 16 1 (.t 2), none, false, .unit⟩,
 ⟨.ld 56 33 1 false (.t 55) false, none, false, .unit⟩,
 ⟨.fad 57 49 9 16 1 (.t 3), none, false, .unit⟩,
 ⟨.ld 58 33 1 false (.t 57) false, none, false, .unit⟩,
 ⟨.call (some 59) 19 [(.t 56), (.t 58)] false, none, false, .unit⟩,
 ⟨.un 60 .not (.t 59), none, false, .unit⟩] false)
(.cond (.t 60) (.seq (.reg [⟨.mv 4 (.k (.bool false)) false, none, false, .unit⟩] false)
(.ret))
(.skip)))
(.seq (.reg [⟨.mv 4 (.k (.bool true)) false, none, false, .unit⟩] false)
(.ret)))))))))))), [.tmp 4]⟩
theorem M12 : mkF Tryz.prog 12 A12 = some A12 := by kernel_rfl
def A136 : AF :=
⟨2, .seq (.reg [⟨.box 2 209 (.t 0) 0, none, false, .unit⟩,
 ⟨.box 3 209 (.t 1) 0, none, false, .unit⟩,
 ⟨.mv 4 (.k (.bool false)) false, none, false, .unit⟩] false)
(.seq (.seq (.reg [⟨.fad 5 209 0 0 1 (.t 2), none, false, .unit⟩,
 ⟨.ld 6 9 1 false (.t 5) false, none, false, .unit⟩,
 ⟨.fad 7 209 0 0 1 (.t 3), none, false, .unit⟩,
 ⟨.ld 8 9 1 false (.t 7) false, none, false, .unit⟩,
 ⟨.bin 9 .neq 9 (.t 6) (.t 8), none, false, .unit⟩] false)
(.cond (.t 9) (.seq (.reg [⟨.mv 4 (.k (.bool false)) false, none, false, .unit⟩] false)
(.ret))
(.skip)))
(.seq (.seq (.reg [⟨.fad 10 209 1 1 1 (.t 2), none, false, .unit⟩,
 ⟨.ld 11 2 1 false (.t 10) false, none, false, .unit⟩,
 ⟨.fad 12 209 1 1 1 (.t 3), none, false, .unit⟩,
 ⟨.ld 13 2 1 false (.t 12) false, none, false, .unit⟩,
 ⟨.bin 14 .neq 2 (.t 11) (.t 13), none, false, .unit⟩] false)
(.cond (.t 14) (.seq (.reg [⟨.mv 4 (.k (.bool false)) false, none, false, .unit⟩] false)
(.ret))
(.skip)))
(.seq (.seq (.reg [⟨.fad 15 209 2 2 1 (.t 2), none, false, .unit⟩,
 ⟨.ld 16 2 1 false (.t 15) false, none, false, .unit⟩,
 ⟨.fad 17 209 2 2 1 (.t 3), none, false, .unit⟩,
 ⟨.ld 18 2 1 false (.t 17) false, none, false, .unit⟩,
 ⟨.bin 19 .neq 2 (.t 16) (.t 18), none, false, .unit⟩] false)
(.cond (.t 19) (.seq (.reg [⟨.mv 4 (.k (.bool false)) false, none, false, .unit⟩] false)
(.ret))
(.skip)))
(.seq (.seq (.reg [⟨.fad 20 209 3 3 1 (.t 2), none, false, .unit⟩,
 ⟨.ld 21 2 1 false (.t 20) false, none, false, .unit⟩,
 ⟨.fad 22 209 3 3 1 (.t 3), none, false, .unit⟩,
 ⟨.ld 23 2 1 false (.t 22) false, none, false, .unit⟩,
 ⟨.bin 24 .neq 2 (.t 21) (.t 23), none, false, .unit⟩] false)
(.cond (.t 24) (.seq (.reg [⟨.mv 4 (.k (.bool false)) false, none, false, .unit⟩] false)
(.ret))
(.skip)))
(.seq (.reg [⟨.mv 4 (.k (.bool true)) false, none, false, .unit⟩] false)
(.ret)))))), [.tmp 4]⟩
theorem M136 : mkF Tryz.prog 136 A136 = some A136 := by kernel_rfl
def A83 : AF :=
⟨2, .seq (.reg [⟨.mv 4 (.k (.bool false)) false, none, false, .unit⟩] false)
(.seq (.seq (.reg [⟨.mv 6 (.t 0) false, none, false, .unit⟩,
 ⟨.len 7 false (.t 6), none, false, .unit⟩,
 ⟨.mv 8 (.t 1) false, none, false, .unit⟩,
 ⟨.len 9 false (.t 8), none, false, .unit⟩,
 ⟨.bin 10 .neq 3 (.t 7) (.t 9), none, false, .unit⟩] false)
(.cond (.t 10) (.seq (.reg [⟨.mv 4 (.k (.bool false)) false, none, false, .unit⟩] false)
(.ret))
(.skip)))
(.seq (.seq (.reg [⟨.mv 5 (.k (.int .i64 0)) false, none, false, .unit⟩] false)
(.block 0 (.loop ⟨[.sl 0 (.c (.lst (.pair .str (.pair (.int .i64) (.pair (.int .i64) (.int .i64)))))), .sl 1 (.c (.lst (.pair .str (.pair (.int .i64) (.pair (.int .i64) (.int .i64)))))), .sl 5 (.c (.int .i64))], 0⟩ [((.exit 0), ⟨[], 0⟩), (.ret, ⟨[.sl 4 (.c .bool)], 0⟩)] (.seq (.seq (.reg [⟨.mv 11 (.t 5) false, none, false, .unit⟩,
 ⟨.mv 12 (.t 0) false, none, false, .unit⟩,
 ⟨.len 13 false (.t 12), none, false, .unit⟩,
 ⟨.bin 14 .lss 3 (.t 11) (.t 13), none, false, .unit⟩] false)
(.cond (.t 14) (.skip)
(.exit 0)))
(.seq (.block 1 (.seq (.reg [⟨.mv 17 (.t 0) false, none, true, .unit⟩,
 ⟨.mv 18 (.t 5) false, none, true, .unit⟩,
 ⟨.iad 19 78 4 (.t 17) (.t 18), none, true, .unit⟩,
 ⟨.ld 20 209 4 true (.t 19) false, none, true, .unit⟩,
 ⟨.mv 21 (.t 1) false, none, true, .unit⟩,
 ⟨.mv 22 (.t 5) false, none, true, .unit⟩,
 ⟨.iad 23 78 4 (.t 21) (.t 22), none, true, .unit⟩,
 ⟨.ld 24 209 4 true (.t 23) false, none, true, .unit⟩,
 ⟨.call (some 25) 136 [(.t 20), (.t 24)] false, none, true, .unit⟩,
 ⟨.un 26 .not (.t 25), none, true, .unit⟩] true)
(.cond (.t 26) (.seq (.reg [⟨.mv 4 (.k (.bool false)) false, none, false, .unit⟩] false)
(.ret))
(.skip))))
(.reg [⟨.mv 15 (.t 5) false, none, false, .unit⟩,
 ⟨.bin 16 .add 3 (.t 15) (.k (.int .i64 1)), none, false, .unit⟩,
 ⟨.mv 5 (.t 16) false, none, false, .unit⟩] false))))))
(.seq (.reg [⟨.mv 4 (.k (.bool true)) false, none, false, .unit⟩] false)
(.ret)))), [.tmp 4]⟩
theorem M83 : mkF Tryz.prog 83 A83 = some A83 := by kernel_rfl
def A137 : AF :=
⟨2, .seq (.reg [⟨.box 2 211 (.t 0) 0, none, false, .unit⟩,
 ⟨.box 3 211 (.t 1) 0, none, false, .unit⟩,
 ⟨.mv 4 (.k (.bool false)) false, none, false, .unit⟩] false)
(.seq (.seq (.reg [⟨.fad 5 211 0 0 1 (.t 2), none, false, .unit⟩,
 ⟨.ld 6 9 1 false (.t 5) false, none, false, .unit⟩,
 ⟨.fad 7 211 0 0 1 (.t 3), none, false, .unit⟩,
 ⟨.ld 8 9 1 false (.t 7) false, none, false, .unit⟩,
 ⟨.bin 9 .neq 9 (.t 6) (.t 8), none, false, .unit⟩] false)
(.cond (.t 9) (.seq (.reg [⟨.mv 4 (.k (.bool false)) false, none, false, .unit⟩] false)
(.ret))
(.skip)))
(.seq (.seq (.reg [⟨.fad 10 211 1 1 1 (.t 2), none, false, .unit⟩,
 ⟨.ld 11 2 1 false (.t 10) false, none, false, .unit⟩,
 ⟨.fad 12 211 1 1 1 (.t 3), none, false, .unit⟩,
 ⟨.ld 13 2 1 false (.t 12) false, none, false, .unit⟩,
 ⟨.bin 14 .neq 2 (.t 11) (.t 13), none, false, .unit⟩] false)
(.cond (.t 14) (.seq (.reg [⟨.mv 4 (.k (.bool false)) false, none, false, .unit⟩] false)
(.ret))
(.skip)))
(.seq (.seq (.reg [⟨.fad 15 211 2 2 1 (.t 2), none, false, .unit⟩,
 ⟨.ld 16 2 1 false (.t 15) false, none, false, .unit⟩,
 ⟨.fad 17 211 2 2 1 (.t 3), none, false, .unit⟩,
 ⟨.ld 18 2 1 false (.t 17) false, none, false, .unit⟩,
 ⟨.bin 19 .neq 2 (.t 16) (.t 18), none, false, .unit⟩] false)
(.cond (.t 19) (.seq (.reg [⟨.mv 4 (.k (.bool false)) false, none, false, .unit⟩] false)
(.ret))
(.skip)))
(.seq (.seq (.reg [⟨.fad 20 211 3 3 1 (.t 2), none, false, .unit⟩,
 ⟨.ld 21 2 1 false (.t 20) false, none, false, .unit⟩,
 ⟨.fad 22 211 3 3 1 (.t 3), none, false, .unit⟩,
 ⟨.ld 23 2 1 false (.t 22) false, none, false, .unit⟩,
 ⟨.bin 24 .neq 2 (.t 21) (.t 23), none, false, .unit⟩] false)
(.cond (.t 24) (.seq (.reg [⟨.mv 4 (.k (.bool false)) false, none, false, .unit⟩] false)
(.ret))
(.skip)))
(.seq (.reg [⟨.mv 4 (.k (.bool true)) false, none, false, .unit⟩] false)
(.ret)))))), [.tmp 4]⟩
theorem M137 : mkF Tryz.prog 137 A137 = some A137 := by kernel_rfl
def A84 : AF :=
⟨2, .seq (.reg [⟨.mv 4 (.k (.bool false)) false, none, false, .unit⟩] false)
(.seq (.seq (.reg [⟨.mv 6 (.t 0) false, none, false, .unit⟩,
 ⟨.len 7 false (.t 6), none, false, .unit⟩,
 ⟨.mv 8 (.t 1) false, none, false, .unit⟩,
 ⟨.len 9 false (.t 8), none, false, .unit⟩,
 ⟨.bin 10 .neq 3 (.t 7) (.t 9), none, false, .unit⟩] false)
(.cond (.t 10) (.seq (.reg [⟨.mv 4 (.k (.bool false)) false, none, false, .unit⟩] false)
(.ret))
(.skip)))
(.seq (.seq (.reg [⟨.mv 5 (.k (.int .i64 0)) false, none, false, .unit⟩] false)
(.block 0 (.loop ⟨[.sl 0 (.c (.lst (.pair .str (.pair (.int .i64) (.pair (.int .i64) (.int .i64)))))), .sl 1 (.c (.lst (.pair .str (.pair (.int .i64) (.pair (.int .i64) (.int .i64)))))), .sl 5 (.c (.int .i64))], 0⟩ [((.exit 0), ⟨[], 0⟩), (.ret, ⟨[.sl 4 (.c .bool)], 0⟩)] (.seq (.seq (.reg [⟨.mv 11 (.t 5) false, none, false, .unit⟩,
 ⟨.mv 12 (.t 0) false, none, false, .unit⟩,
 ⟨.len 13 false (.t 12), none, false, .unit⟩,
 ⟨.bin 14 .lss 3 (.t 11) (.t 13), none, false, .unit⟩] false)
(.cond (.t 14) (.skip)
(.exit 0)))
(.seq (.block 1 (.seq (.reg [⟨.mv 17 (.t 0) false, none, true, .unit⟩,
 ⟨.mv 18 (.t 5) false, none, true, .unit⟩,
 ⟨.iad 19 79 4 (.t 17) (.t 18), none, true, .unit⟩,
 ⟨.ld 20 211 4 true (.t 19) false, none, true, .unit⟩,
 ⟨.mv 21 (.t 1) false, none, true, .unit⟩,
 ⟨.mv 22 (.t 5) false, none, true, .unit⟩,
 ⟨.iad 23 79 4 (.t 21) (.t 22), none, true, .unit⟩,
 ⟨.ld 24 211 4 true (.t 23) false, none, true, .unit⟩,
 ⟨.call (some 25) 137 [(.t 20), (.t 24)] false, none, true, .unit⟩,
 ⟨.un 26 .not (.t 25), none, true, .unit⟩] true)
(.cond (.t 26) (.seq (.reg [⟨.mv 4 (.k (.bool false)) false, none, false, .unit⟩] false)
(.ret))
(.skip))))
(.reg [⟨.mv 15 (.t 5) false, none, false, .unit⟩,
 ⟨.bin 16 .add 3 (.t 15) (.k (.int .i64 1)), none, false, .unit⟩,
 ⟨.mv 5 (.t 16) false, none, false, .unit⟩] false))))))
(.seq (.reg [⟨.mv 4 (.k (.bool true)) false, none, false, .unit⟩] false)
(.ret)))), [.tmp 4]⟩
theorem M84 : mkF Tryz.prog 84 A84 = some A84 := by kernel_rfl
def A85 : AF :=
⟨2, .seq (.reg [⟨.box 2 80 (.t 0) 0, none, false, .unit⟩,
 ⟨.box 3 80 (.t 1) 0, none, false, .unit⟩,
 ⟨.mv 4 (.k (.bool false)) false, none, false, .unit⟩] false)
(.seq (.seq (.reg [⟨.fad 5 80 0 0 1 (.t 2), none, false, .unit⟩,
 ⟨.ld 6 2 1 false (.t 5) false, none, false, .unit⟩,
 ⟨.fad 7 80 0 0 1 (.t 3), none, false, .unit⟩,
 ⟨.ld 8 2 1 false (.t 7) false, none, false, .unit⟩,
 ⟨.bin 9 .neq 2 (.t 6) (.t 8), none, false, .unit⟩] false)
(.cond (.t 9) (.seq (.reg [⟨.mv 4 (.k (.bool false)) false, none, false, .unit⟩] false)
(.ret))
(.skip)))
(.seq (.seq (.reg [⟨.fad 10 80 1 1 1 (.t 2), none, false, .unit⟩,
 ⟨.ld 11 2 1 false (.t 10) false, none, false, .unit⟩,
 ⟨.fad 12 80 1 1 1 (.t 3), none, false, .unit⟩,
 ⟨.ld 13 2 1 false (.t 12) false, none, false, .unit⟩,
 ⟨.bin 14 .neq 2 (.t 11) (.t 13), none, false, .unit⟩] false)
(.cond (.t 14) (.seq (.reg [⟨.mv 4 (.k (.bool false)) false, none, false, .unit⟩] false)
(.ret))
(.skip)))
(.seq (.seq (.reg [⟨.fad 15 80 2 2 1 (.t 2), none, false, .unit⟩,
 ⟨.ld 16 2 1 false (.t 15) false, none, false, .unit⟩,
 ⟨.fad 17 80 2 2 1 (.t 3), none, false, .unit⟩,
 ⟨.ld 18 2 1 false (.t 17) false, none, false, .unit⟩,
 ⟨.bin 19 .neq 2 (.t 16) (.t 18), none, false, .unit⟩] false)
(.cond (.t 19) (.seq (.reg [⟨.mv 4 (.k (.bool false)) false, none, false, .unit⟩] false)
(.ret))
(.skip)))
(.seq (.seq (.reg [⟨.fad 20 80 3 3 1 (.t 2), none, false, .unit⟩,
 ⟨.ld 21 2 1 false (.t 20) false, none, false, .unit⟩,
 ⟨.fad 22 80 3 3 1 (.t 3), none, false, .unit⟩,
 ⟨.ld 23 2 1 false (.t 22) false, none, false, .unit⟩,
 ⟨.bin 24 .neq 2 (.t 21) (.t 23), none, false, .unit⟩] false)
(.cond (.t 24) (.seq (.reg [⟨.mv 4 (.k (.bool false)) false, none, false, .unit⟩] false)
(.ret))
(.skip)))
(.seq (.seq (.reg [⟨.fad 25 80 4 4 1 (.t 2), none, false, .unit⟩,
 ⟨.ld 26 2 1 false (.t 25) false, none, false, .unit⟩,
 ⟨.fad 27 80 4 4 1 (.t 3), none, false, .unit⟩,
 ⟨.ld 28 2 1 false (.t 27) false, none, false, .unit⟩,
 ⟨.bin 29 .neq 2 (.t 26) (.t 28), none, false, .unit⟩] false)
(.cond (.t 29) (.seq (.reg [⟨.mv 4 (.k (.bool false)) false, none, false, .unit⟩] false)
(.ret))
(.skip)))
(.seq (.reg [⟨.mv 4 (.k (.bool true)) false, none, false, .unit⟩] false)
(.ret))))))), [.tmp 4]⟩
theorem M85 : mkF Tryz.prog 85 A85 = some A85 := by kernel_rfl
def A34 : AF :=
⟨2, .seq (.reg [⟨.box 2 82 (.t 0) 0, none, false, .unit⟩,
 ⟨.box 3 82 (.t 1) 0, none, false, .unit⟩,
 ⟨.mv 4 (.k (.bool false)) false, none, false, .unit⟩] false)
(.seq (.seq (.reg [⟨.fad 5 82 0 0 17 (.t 2), none, false, .unit⟩,
 ⟨.ld 6 49 17 true (.t 5) false, none, false, .unit⟩,
 ⟨.fad 7 82 0 0 17 (.t 3), none, false, .unit⟩,
 ⟨.ld 8 49 17 true (.t 7) false, none, false, .unit⟩,
 ⟨.call (some 9) 12 [(.t 6), (.t 8)] false, none, false, .unit⟩,
 ⟨.un 10 .not (.t 9), none, false, .unit⟩] false)
(.cond (.t 10) (.seq (.reg [⟨.mv 4 (.k (.bool false)) false, none, false, .unit⟩] false)
(.ret))
(.skip)))
(.seq (.seq (.reg [⟨.fad 11 82 1 17 1 (.t 2), none, false, .unit⟩,
 ⟨.ld 12 78 1 false (.t 11) false, none, false, .unit⟩,
 ⟨.fad 13 82 1 17 1 (.t 3), none, false, .unit⟩,
 ⟨.ld 14 78 1 false (.t 13) false, none, false, .unit⟩,
 ⟨.call (some 15) 83 [(.t 12), (.t 14)] false, none, false, .unit⟩,
 ⟨.un 16 .not (.t 15), none, false, .unit⟩] false)
(.cond (.t 16) (.seq (.reg [⟨.mv 4 (.k (.bool false)) false, none, false, .unit⟩] false)
(.ret))
(.skip)))
(.seq (.seq (.reg [⟨.fad 17 82 2 18 1 (.t 2), none, false, .unit⟩,
 ⟨.ld 18 79 1 false (.t 17) false, none, false, .unit⟩,
 ⟨.fad 19 82 2 18 1 (.t 3), none, false, .unit⟩,
 ⟨.ld 20 79 1 false (.t 19) false, none, false, .unit⟩,
 ⟨.call (some 21) 84 [(.t 18), (.t 20)] false, none, false, .unit⟩,
 ⟨.un 22 .not (.t 21), none, false, .unit⟩] false)
(.cond (.t 22) (.seq (.reg [⟨.mv 4 (.k (.bool false)) false, none, false, .unit⟩] false)
(.ret))
(.skip)))
(.seq (.seq (.reg [⟨.fad 23 82 3 19 5 (.t 2), none, false, .unit⟩,
 ⟨.ld 24 80 5 true (.t 23) false, none, false, .unit⟩,
 ⟨.fad 25 82 3 19 5 (.t 3), none, false, .unit⟩,
 ⟨.ld 26 80 5 true (.t 25) false, none, false, .unit⟩,
 ⟨.call (some 27) 85 [(.t 24), (.t 26)] false, none, false, .unit⟩,
 ⟨.un 28 .not (.t 27), none, false, .unit⟩] false)
(.cond (.t 28) (.seq (.reg [⟨.mv 4 (.k (.bool false)) false, none, false, .unit⟩] false)
(.ret))
(.skip)))
(.seq (.reg [⟨.mv 4 (.k (.bool true)) false, none, false, .unit⟩] false)
(.ret)))))), [.tmp 4]⟩
theorem M34 : mkF Tryz.prog 34 A34 = some A34 := by kernel_rfl
def A7 : AF :=
⟨1, .seq (.reg [⟨.box 1 75 (.t 0) 0, none, false, .unit⟩,
 ⟨.mv 2 (.k (.bool false)) false, none, false, .unit⟩] false)
(.seq (.reg [⟨.mv 3 (.k (.int .i64 1048576)) false, none, false, .unit⟩] false)
(.seq (.reg [⟨.ld 7 75 24 true (.t 1) false, none, false, .unit⟩,
 ⟨.mv 8 (.t 3) false, none, false, .unit⟩,
 ⟨.call (some 9) 30 [(.t 7), (.t 8)] false, none, false, .unit⟩,
 ⟨.mv 3 (.t 9) false, none, false, .unit⟩] false)
(.seq (.seq (.reg [⟨.mv 10 (.t 3) false, none, false, .unit⟩,
 ⟨.bin 11 .lss 3 (.t 10) (.k (.int .i64 0)), none, false, .unit⟩] false)
(.cond (.t 11) (.seq (.reg [⟨.mv 2 (.k (.bool true)) false, none, false, .unit⟩] false)
(.ret))
(.skip)))
(.seq (.reg [⟨.ld 12 75 24 true (.t 1) false, none, false, .unit⟩,
 ⟨.call (some 13) 32 [(.t 12)] false, none, false, .unit⟩,
 ⟨.call (some 14) 31 [(.t 13)] false, none, false, .unit⟩,
 ⟨.mv 4 (.t 14) false, none, false, .unit⟩] false)
(.seq (.reg [⟨.ld 15 75 24 true (.t 1) false, none, false, .unit⟩,
 ⟨.call (some 16) 32 [(.t 15)] false, none, false, .unit⟩,
 ⟨.alloc 5 82 [.int .i64 0, .int .i64 0, .slice none 0 0, .slice none 0 0, .slice none 0 0, .slice none 0 0, .slice none 0 0, .int .i64 0, .int .i64 0, .int .i64 0, .int .i64 0, .int .i64 0, .int .i64 0, .int .i64 0, .int .i64 0, .slice none 0 0, .slice none 0 0, .slice none 0 0, .slice none 0 0, .int .i64 0, .int .i64 0, .int .i64 0, .int .i64 0, .int .i64 0] false, none, false, .unit⟩,
 ⟨.st 82 24 (.t 5) (.t 16) false, none, false, .unit⟩] false)
(.seq (.reg [⟨.ld 17 82 24 true (.t 5) false, none, false, .unit⟩,
 ⟨.call (some 18) 33 [(.t 17)] false, none, false, .unit⟩,
 ⟨.mv 6 (.t 18) false, none, false, .unit⟩] false)
(.seq (.seq (.reg [⟨.mv 19 (.t 6) false, none, false, .unit⟩,
 ⟨.mv 20 (.t 4) false, none, false, .unit⟩,
 ⟨.bin 21 .neq 4 (.t 19) (.t 20), none, false, .unit⟩] false)
(.cond (.t 21) (.seq (.reg [⟨.mv 2 (.k (.bool false)) false, none, false, .unit⟩] false)
(.ret))
(.skip)))
(.seq (.seq (.reg [⟨.ld 22 82 24 true (.t 5) false, none, false, .unit⟩,
 ⟨.ld 23 75 24 true (.t 1) false, none, true, .unit⟩,
 ⟨.call (some 24) 32 [(.t 23)] false, none, true, .unit⟩,
 ⟨.call (some 25) 34 [(.t 22), (.t 24)] false, none, true, .unit⟩,
 ⟨.un 26 .not (.t 25), none, true, .unit⟩] true)
(.cond (.t 26) (.seq (.reg [⟨.mv 2 (.k (.bool false)) false, none, false, .unit⟩] false)
(.ret))
(.skip)))
(.seq (.reg [⟨.mv 2 (.k (.bool true)) false, none, false, .unit⟩] false)
(.ret)))))))))), [.tmp 2]⟩
theorem M7 : mkF Tryz.prog 7 A7 = some A7 := by kernel_rfl
end Go.Proofs.YtnglcmfgkcdgcaaGreat
