import Derived.Test.YtnglcmfgkcdgcaaGreatProg
import Derived.Test.YtnglcmfgkcdgcaaGreatAmT7
import Derived.KernelRfl
namespace Go.Proofs.YtnglcmfgkcdgcaaGreat
open Go Go.AM
set_option maxRecDepth 100000
set_option linter.unusedVariables false
def A55 : AF :=
⟨2, .seq (.reg [⟨.mv 4 (.k (.int .i64 0)) false, none, false, .unit⟩] false)
(.seq (.reg [⟨.mv 5 (.t 1) false, none, false, .unit⟩,
 ⟨.mv 6 (.t 0) false, none, false, .unit⟩,
 ⟨.len 7 false (.t 6), none, false, .unit⟩,
 ⟨.bin 8 .sub 3 (.t 5) (.t 7), none, false, .unit⟩,
 ⟨.mv 1 (.t 8) false, none, false, .unit⟩] false)
(.seq (.seq (.reg [⟨.mv 9 (.t 1) false, none, false, .unit⟩,
 ⟨.bin 10 .lss 3 (.t 9) (.k (.int .i64 0)), none, false, .unit⟩] false)
(.cond (.t 10) (.seq (.reg [⟨.mv 4 (.k (.int .i64 (-1))) false, none, false, .unit⟩] false)
(.ret))
(.skip)))
(.seq (.reg [⟨.mv 11 (.t 1) false, none, false, .unit⟩,
 ⟨.mv 4 (.t 11) false, none, false, .unit⟩] false)
(.ret)))), [.tmp 4]⟩
theorem M55 : mkF Tryz.prog 55 A55 = some A55 := by kernel_rfl
def A38 : AF :=
⟨2, .seq (.reg [⟨.mv 4 (.k (.int .i64 0)) false, none, false, .unit⟩] false)
(.seq (.reg [⟨.mv 5 (.t 1) false, none, false, .unit⟩,
 ⟨.mv 6 (.t 0) false, none, false, .unit⟩,
 ⟨.len 7 false (.t 6), none, false, .unit⟩,
 ⟨.bin 8 .sub 3 (.t 5) (.t 7), none, false, .unit⟩,
 ⟨.mv 1 (.t 8) false, none, false, .unit⟩] false)
(.seq (.seq (.reg [⟨.mv 9 (.t 1) false, none, false, .unit⟩,
 ⟨.bin 10 .lss 3 (.t 9) (.k (.int .i64 0)), none, false, .unit⟩] false)
(.cond (.t 10) (.seq (.reg [⟨.mv 4 (.k (.int .i64 (-1))) false, none, false, .unit⟩] false)
(.ret))
(.skip)))
(.seq (.reg [⟨.mv 11 (.t 1) false, none, false, .unit⟩,
 ⟨.mv 4 (.t 11) false, none, false, .unit⟩] false)
(.ret)))), [.tmp 4]⟩
theorem M38 : mkF Tryz.prog 38 A38 = some A38 := by kernel_rfl
def A105 : AF :=
⟨2, .seq (.reg [⟨.box 2 177 (.t 0) 0, none, false, .unit⟩,
 ⟨.mv 4 (.k (.int .i64 0)) false, none, false, .unit⟩] false)
(.seq (.reg [⟨.mv 5 (.t 1) false, none, false, .unit⟩,
 ⟨.fad 6 177 0 0 1 (.t 2), none, false, .unit⟩,
 ⟨.ld 7 9 1 false (.t 6) false, none, false, .unit⟩,
 ⟨.len 8 true (.t 7), none, false, .unit⟩,
 ⟨.bin 9 .sub 3 (.t 5) (.t 8), none, false, .unit⟩,
 ⟨.mv 1 (.t 9) false, none, false, .unit⟩] false)
(.seq (.seq (.reg [⟨.mv 10 (.t 1) false, none, false, .unit⟩,
 ⟨.bin 11 .lss 3 (.t 10) (.k (.int .i64 0)), none, false, .unit⟩] false)
(.cond (.t 11) (.seq (.reg [⟨.mv 4 (.k (.int .i64 (-1))) false, none, false, .unit⟩] false)
(.ret))
(.skip)))
(.seq (.reg [⟨.fad 12 177 1 1 1 (.t 2), none, false, .unit⟩,
 ⟨.ld 13 33 1 false (.t 12) false, none, false, .unit⟩,
 ⟨.mv 14 (.t 1) false, none, false, .unit⟩,
 ⟨.call (some 15) 38 [(.t 13), (.t 14)] false, none, false, .unit⟩,
 ⟨.mv 1 (.t 15) false, none, false, .unit⟩] false)
(.seq (.seq (.reg [⟨.mv 16 (.t 1) false, none, false, .unit⟩,
 ⟨.bin 17 .lss 3 (.t 16) (.k (.int .i64 0)), none, false, .unit⟩] false)
(.cond (.t 17) (.seq (.reg [⟨.mv 4 (.k (.int .i64 (-1))) false, none, false, .unit⟩] false)
(.ret))
(.skip)))
(.seq (.reg [⟨.mv 18 (.t 1) false, none, false, .unit⟩,
 ⟨.mv 4 (.t 18) false, none, false, .unit⟩] false)
(.ret)))))), [.tmp 4]⟩
theorem M105 : mkF Tryz.prog 105 A105 = some A105 := by kernel_rfl
def A56 : AF :=
⟨2, .seq (.reg [⟨.mv 4 (.k (.int .i64 0)) false, none, false, .unit⟩] false)
(.seq (.reg [⟨.mv 6 (.t 1) false, none, false, .unit⟩,
 ⟨.mv 7 (.t 0) false, none, false, .unit⟩,
 ⟨.len 8 false (.t 7), none, false, .unit⟩,
 ⟨.bin 9 .sub 3 (.t 6) (.t 8), none, false, .unit⟩,
 ⟨.mv 1 (.t 9) false, none, false, .unit⟩] false)
(.seq (.seq (.reg [⟨.mv 10 (.t 1) false, none, false, .unit⟩,
 ⟨.bin 11 .lss 3 (.t 10) (.k (.int .i64 0)), none, false, .unit⟩] false)
(.cond (.t 11) (.seq (.reg [⟨.mv 4 (.k (.int .i64 (-1))) false, none, false, .unit⟩] false)
(.ret))
(.skip)))
(.seq (.seq (.reg [⟨.mv 5 (.k (.int .i64 0)) false, none, false, .unit⟩] false)
(.block 0 (.loop ⟨[.sl 0 (.c (.lst (.pair .str (.lst (.int .i64))))), .sl 1 (.c (.int .i64)), .sl 5 (.c (.int .i64))], 0⟩ [((.exit 0), ⟨[.sl 1 (.c (.int .i64))], 0⟩), (.ret, ⟨[.sl 4 (.c (.int .i64))], 0⟩)] (.seq (.seq (.reg [⟨.mv 12 (.t 5) false, none, false, .unit⟩,
 ⟨.mv 13 (.t 0) false, none, false, .unit⟩,
 ⟨.len 14 false (.t 13), none, false, .unit⟩,
 ⟨.bin 15 .lss 3 (.t 12) (.t 14), none, false, .unit⟩] false)
(.cond (.t 15) (.skip)
(.exit 0)))
(.seq (.block 1 (.seq (.reg [⟨.mv 18 (.t 0) false, none, false, .unit⟩,
 ⟨.mv 19 (.t 5) false, none, false, .unit⟩,
 ⟨.iad 20 23 2 (.t 18) (.t 19), none, false, .unit⟩,
 ⟨.ld 21 177 2 true (.t 20) false, none, false, .unit⟩,
 ⟨.mv 22 (.t 1) false, none, false, .unit⟩,
 ⟨.call (some 23) 105 [(.t 21), (.t 22)] false, none, false, .unit⟩,
 ⟨.mv 1 (.t 23) false, none, false, .unit⟩] false)
(.seq (.reg [⟨.mv 24 (.t 1) false, none, false, .unit⟩,
 ⟨.bin 25 .lss 3 (.t 24) (.k (.int .i64 0)), none, false, .unit⟩] false)
(.cond (.t 25) (.seq (.reg [⟨.mv 4 (.k (.int .i64 (-1))) false, none, false, .unit⟩] false)
(.ret))
(.skip)))))
(.reg [⟨.mv 16 (.t 5) false, none, false, .unit⟩,
 ⟨.bin 17 .add 3 (.t 16) (.k (.int .i64 1)), none, false, .unit⟩,
 ⟨.mv 5 (.t 17) false, none, false, .unit⟩] false))))))
(.seq (.reg [⟨.mv 26 (.t 1) false, none, false, .unit⟩,
 ⟨.mv 4 (.t 26) false, none, false, .unit⟩] false)
(.ret))))), [.tmp 4]⟩
theorem M56 : mkF Tryz.prog 56 A56 = some A56 := by kernel_rfl
def A13 : AF :=
⟨2, .seq (.reg [⟨.box 2 25 (.t 0) 0, none, false, .unit⟩,
 ⟨.mv 4 (.k (.int .i64 0)) false, none, false, .unit⟩] false)
(.seq (.reg [⟨.fad 5 25 2 2 1 (.t 2), none, false, .unit⟩,
 ⟨.ld 6 22 1 false (.t 5) false, none, false, .unit⟩,
 ⟨.mv 7 (.t 1) false, none, false, .unit⟩,
 ⟨.call (some 8) 55 [(.t 6), (.t 7)] false, none, false, .unit⟩,
 ⟨.mv 1 (.t 8) false, none, false, .unit⟩] false)
(.seq (.seq (.reg [⟨.mv 9 (.t 1) false, none, false, .unit⟩,
 ⟨.bin 10 .lss 3 (.t 9) (.k (.int .i64 0)), none, false, .unit⟩] false)
(.cond (.t 10) (.seq (.reg [⟨.mv 4 (.k (.int .i64 (-1))) false, none, false, .unit⟩] false)
(.ret))
(.skip)))
(.seq (.reg [⟨.fad 11 25 3 3 1 (.t 2), none, false, .unit⟩,
 ⟨.ld 12 23 1 false (.t 11) false, none, false, .unit⟩,
 ⟨.mv 13 (.t 1) false, none, false, .unit⟩,
 ⟨.call (some 14) 56 [(.t 12), (.t 13)] false, none, false, .unit⟩,
 ⟨.mv 1 (.t 14) false, none, false, .unit⟩] false)
(.seq (.seq (.reg [⟨.mv 15 (.t 1) false, none, false, .unit⟩,
 ⟨.bin 16 .lss 3 (.t 15) (.k (.int .i64 0)), none, false, .unit⟩] false)
(.cond (.t 16) (.seq (.reg [⟨.mv 4 (.k (.int .i64 (-1))) false, none, false, .unit⟩] false)
(.ret))
(.skip)))
(.seq (.reg [⟨.mv 17 (.t 1) false, none, false, .unit⟩,
 ⟨.mv 4 (.t 17) false, none, false, .unit⟩] false)
(.ret)))))), [.tmp 4]⟩
theorem M13 : mkF Tryz.prog 13 A13 = some A13 := by kernel_rfl
def A57 : AF :=
⟨2, .seq (.reg [⟨.box 2 112 (.t 0) 0, none, false, .unit⟩,
 ⟨.mv 4 (.k (.int .i64 0)) false, none, false, .unit⟩] false)
(.seq (.reg [⟨.mv 5 (.t 1) false, none, false, .unit⟩,
 ⟨.fad 6 112 0 0 1 (.t 2), none, false, .unit⟩,
 ⟨.ld 7 9 1 false (.t 6) false, none, false, .unit⟩,
 ⟨.len 8 true (.t 7), none, false, .unit⟩,
 ⟨.bin 9 .sub 3 (.t 5) (.t 8), none, false, .unit⟩,
 ⟨.mv 1 (.t 9) false, none, false, .unit⟩] false)
(.seq (.seq (.reg [⟨.mv 10 (.t 1) false, none, false, .unit⟩,
 ⟨.bin 11 .lss 3 (.t 10) (.k (.int .i64 0)), none, false, .unit⟩] false)
(.cond (.t 11) (.seq (.reg [⟨.mv 4 (.k (.int .i64 (-1))) false, none, false, .unit⟩] false)
(.ret))
(.skip)))
(.seq (.reg [⟨.mv 12 (.t 1) false, none, false, .unit⟩,
 ⟨.mv 4 (.t 12) false, none, false, .unit⟩] false)
(.ret)))), [.tmp 4]⟩
theorem M57 : mkF Tryz.prog 57 A57 = some A57 := by kernel_rfl
def A14 : AF :=
⟨2, .seq (.reg [⟨.mv 4 (.k (.int .i64 0)) false, none, false, .unit⟩] false)
(.seq (.reg [⟨.mv 6 (.t 1) false, none, false, .unit⟩,
 ⟨.mv 7 (.t 0) false, none, false, .unit⟩,
 ⟨.len 8 false (.t 7), none, false, .unit⟩,
 ⟨.bin 9 .sub 3 (.t 6) (.t 8), none, false, .unit⟩,
 ⟨.mv 1 (.t 9) false, none, false, .unit⟩] false)
(.seq (.seq (.reg [⟨.mv 10 (.t 1) false, none, false, .unit⟩,
 ⟨.bin 11 .lss 3 (.t 10) (.k (.int .i64 0)), none, false, .unit⟩] false)
(.cond (.t 11) (.seq (.reg [⟨.mv 4 (.k (.int .i64 (-1))) false, none, false, .unit⟩] false)
(.ret))
(.skip)))
(.seq (.seq (.reg [⟨.mv 5 (.k (.int .i64 0)) false, none, false, .unit⟩] false)
(.block 0 (.loop ⟨[.sl 0 (.c (.lst (.pair .str (.pair (.int .i64) (.int .i64))))), .sl 1 (.c (.int .i64)), .sl 5 (.c (.int .i64))], 0⟩ [((.exit 0), ⟨[.sl 1 (.c (.int .i64))], 0⟩), (.ret, ⟨[.sl 4 (.c (.int .i64))], 0⟩)] (.seq (.seq (.reg [⟨.mv 12 (.t 5) false, none, false, .unit⟩,
 ⟨.mv 13 (.t 0) false, none, false, .unit⟩,
 ⟨.len 14 false (.t 13), none, false, .unit⟩,
 ⟨.bin 15 .lss 3 (.t 12) (.t 14), none, false, .unit⟩] false)
(.cond (.t 15) (.skip)
(.exit 0)))
(.seq (.block 1 (.seq (.reg [⟨.mv 18 (.t 0) false, none, false, .unit⟩,
 ⟨.mv 19 (.t 5) false, none, false, .unit⟩,
 ⟨.iad 20 26 3 (.t 18) (.t 19), none, false, .unit⟩,
 ⟨.ld 21 112 3 true (.t 20) false, none, false, .unit⟩,
 ⟨.mv 22 (.t 1) false, none, false, .unit⟩,
 ⟨.call (some 23) 57 [(.t 21), (.t 22)] false, none, false, .unit⟩,
 ⟨.mv 1 (.t 23) false, none, false, .unit⟩] false)
(.seq (.reg [⟨.mv 24 (.t 1) false, none, false, .unit⟩,
 ⟨.bin 25 .lss 3 (.t 24) (.k (.int .i64 0)), none, false, .unit⟩] false)
(.cond (.t 25) (.seq (.reg [⟨.mv 4 (.k (.int .i64 (-1))) false, none, false, .unit⟩] false)
(.ret))
(.skip)))))
(.reg [⟨.mv 16 (.t 5) false, none, false, .unit⟩,
 ⟨.bin 17 .add 3 (.t 16) (.k (.int .i64 1)), none, false, .unit⟩,
 ⟨.mv 5 (.t 17) false, none, false, .unit⟩] false))))))
(.seq (.reg [⟨.mv 26 (.t 1) false, none, false, .unit⟩,
 ⟨.mv 4 (.t 26) false, none, false, .unit⟩] false)
(.ret))))), [.tmp 4]⟩
theorem M14 : mkF Tryz.prog 14 A14 = some A14 := by kernel_rfl
def A35 : AF :=
⟨2, .seq (.reg [⟨.box 2 28 (.t 0) 0, none, false, .unit⟩,
 ⟨.mv 4 (.k (.int .i64 0)) false, none, false, .unit⟩] false)
(.seq (.reg [⟨.fad 5 28 0 0 4 (.t 2), none, false, .unit⟩,
 ⟨.ld 6 25 4 true (.t 5) false, none, false, .unit⟩,
 ⟨.mv 7 (.t 1) false, none, false, .unit⟩,
 ⟨.call (some 8) 13 [(.t 6), (.t 7)] false, none, false, .unit⟩,
 ⟨.mv 1 (.t 8) false, none, false, .unit⟩] false)
(.seq (.seq (.reg [⟨.mv 9 (.t 1) false, none, false, .unit⟩,
 ⟨.bin 10 .lss 3 (.t 9) (.k (.int .i64 0)), none, false, .unit⟩] false)
(.cond (.t 10) (.seq (.reg [⟨.mv 4 (.k (.int .i64 (-1))) false, none, false, .unit⟩] false)
(.ret))
(.skip)))
(.seq (.reg [⟨.fad 11 28 1 4 1 (.t 2), none, false, .unit⟩,
 ⟨.ld 12 26 1 false (.t 11) false, none, false, .unit⟩,
 ⟨.mv 13 (.t 1) false, none, false, .unit⟩,
 ⟨.call (some 14) 14 [(.t 12), (.t 13)] false, none, false, .unit⟩,
 ⟨.mv 1 (.t 14) false, none, false, .unit⟩] false)
(.seq (.seq (.reg [⟨.mv 15 (.t 1) false, none, false, .unit⟩,
 ⟨.bin 16 .lss 3 (.t 15) (.k (.int .i64 0)), none, false, .unit⟩] false)
(.cond (.t 16) (.seq (.reg [⟨.mv 4 (.k (.int .i64 (-1))) false, none, false, .unit⟩] false)
(.ret))
(.skip)))
(.seq (.reg [⟨.mv 17 (.t 1) false, none, false, .unit⟩,
 ⟨.mv 4 (.t 17) false, none, false, .unit⟩] false)
(.ret)))))), [.tmp 4]⟩
theorem M35 : mkF Tryz.prog 35 A35 = some A35 := by kernel_rfl
def A138 : AF :=
⟨2, .seq (.reg [⟨.mv 4 (.k (.int .i64 0)) false, none, false, .unit⟩] false)
(.seq (.reg [⟨.mv 5 (.t 1) false, none, false, .unit⟩,
 ⟨.mv 6 (.t 0) false, none, false, .unit⟩,
 ⟨.len 7 false (.t 6), none, false, .unit⟩,
 ⟨.bin 8 .sub 3 (.t 5) (.t 7), none, false, .unit⟩,
 ⟨.mv 1 (.t 8) false, none, false, .unit⟩] false)
(.seq (.seq (.reg [⟨.mv 9 (.t 1) false, none, false, .unit⟩,
 ⟨.bin 10 .lss 3 (.t 9) (.k (.int .i64 0)), none, false, .unit⟩] false)
(.cond (.t 10) (.seq (.reg [⟨.mv 4 (.k (.int .i64 (-1))) false, none, false, .unit⟩] false)
(.ret))
(.skip)))
(.seq (.reg [⟨.mv 11 (.t 1) false, none, false, .unit⟩,
 ⟨.mv 4 (.t 11) false, none, false, .unit⟩] false)
(.ret)))), [.tmp 4]⟩
theorem M138 : mkF Tryz.prog 138 A138 = some A138 := by kernel_rfl
def A86 : AF :=
⟨2, .seq (.reg [⟨.box 2 153 (.t 0) 0, none, false, .unit⟩,
 ⟨.mv 4 (.k (.int .i64 0)) false, none, false, .unit⟩] false)
(.seq (.reg [⟨.mv 5 (.t 1) false, none, false, .unit⟩,
 ⟨.fad 6 153 0 0 1 (.t 2), none, false, .unit⟩,
 ⟨.ld 7 9 1 false (.t 6) false, none, false, .unit⟩,
 ⟨.len 8 true (.t 7), none, false, .unit⟩,
 ⟨.bin 9 .sub 3 (.t 5) (.t 8), none, false, .unit⟩,
 ⟨.mv 1 (.t 9) false, none, false, .unit⟩] false)
(.seq (.seq (.reg [⟨.mv 10 (.t 1) false, none, false, .unit⟩,
 ⟨.bin 11 .lss 3 (.t 10) (.k (.int .i64 0)), none, false, .unit⟩] false)
(.cond (.t 11) (.seq (.reg [⟨.mv 4 (.k (.int .i64 (-1))) false, none, false, .unit⟩] false)
(.ret))
(.skip)))
(.seq (.reg [⟨.mv 12 (.t 1) false, none, false, .unit⟩,
 ⟨.fad 13 153 1 1 1 (.t 2), none, false, .unit⟩,
 ⟨.ld 14 9 1 false (.t 13) false, none, false, .unit⟩,
 ⟨.len 15 true (.t 14), none, false, .unit⟩,
 ⟨.bin 16 .sub 3 (.t 12) (.t 15), none, false, .unit⟩,
 ⟨.mv 1 (.t 16) false, none, false, .unit⟩] false)
(.seq (.seq (.reg [⟨.mv 17 (.t 1) false, none, false, .unit⟩,
 ⟨.bin 18 .lss 3 (.t 17) (.k (.int .i64 0)), none, false, .unit⟩] false)
(.cond (.t 18) (.seq (.reg [⟨.mv 4 (.k (.int .i64 (-1))) false, none, false, .unit⟩] false)
(.ret))
(.skip)))
(.seq (.reg [⟨.fad 19 153 3 3 3 (.t 2), none, false, .unit⟩,
 ⟨.ld 20 112 3 true (.t 19) false, none, false, .unit⟩,
 ⟨.mv 21 (.t 1) false, none, false, .unit⟩,
 ⟨.call (some 22) 57 [(.t 20), (.t 21)] false, none, false, .unit⟩,
 ⟨.mv 1 (.t 22) false, none, false, .unit⟩] false)
(.seq (.seq (.reg [⟨.mv 23 (.t 1) false, none, false, .unit⟩,
 ⟨.bin 24 .lss 3 (.t 23) (.k (.int .i64 0)), none, false, .unit⟩] false)
(.cond (.t 24) (.seq (.reg [⟨.mv 4 (.k (.int .i64 (-1))) false, none, false, .unit⟩] false)
(.ret))
(.skip)))
(.seq (.reg [⟨.fad 25 153 6 8 1 (.t 2), none, false, .unit⟩,
 ⟨.ld 26 151 1 false (.t 25) false, none, false, .unit⟩,
 ⟨.mv 27 (.t 1) false, none, false, .unit⟩,
 ⟨.call (some 28) 138 [(.t 26), (.t 27)] false, none, false, .unit⟩,
 ⟨.mv 1 (.t 28) false, none, false, .unit⟩] false)
(.seq (.seq (.reg [⟨.mv 29 (.t 1) false, none, false, .unit⟩,
 ⟨.bin 30 .lss 3 (.t 29) (.k (.int .i64 0)), none, false, .unit⟩] false)
(.cond (.t 30) (.seq (.reg [⟨.mv 4 (.k (.int .i64 (-1))) false, none, false, .unit⟩] false)
(.ret))
(.skip)))
(.seq (.reg [⟨.mv 31 (.t 1) false, none, false, .unit⟩,
 ⟨.mv 4 (.t 31) false, none, false, .unit⟩] false)
(.ret)))))))))), [.tmp 4]⟩
theorem M86 : mkF Tryz.prog 86 A86 = some A86 := by kernel_rfl
def A36 : AF :=
⟨2, .seq (.reg [⟨.mv 4 (.k (.int .i64 0)) false, none, false, .unit⟩] false)
(.seq (.reg [⟨.mv 6 (.t 1) false, none, false, .unit⟩,
 ⟨.mv 7 (.t 0) false, none, false, .unit⟩,
 ⟨.len 8 false (.t 7), none, false, .unit⟩,
 ⟨.bin 9 .sub 3 (.t 6) (.t 8), none, false, .unit⟩,
 ⟨.mv 1 (.t 9) false, none, false, .unit⟩] false)
(.seq (.seq (.reg [⟨.mv 10 (.t 1) false, none, false, .unit⟩,
 ⟨.bin 11 .lss 3 (.t 10) (.k (.int .i64 0)), none, false, .unit⟩] false)
(.cond (.t 11) (.seq (.reg [⟨.mv 4 (.k (.int .i64 (-1))) false, none, false, .unit⟩] false)
(.ret))
(.skip)))
(.seq (.seq (.reg [⟨.mv 5 (.k (.int .i64 0)) false, none, false, .unit⟩] false)
(.block 0 (.loop ⟨[.sl 0 (.c (.lst (.pair .str (.pair .str (.pair (.int .i64) (.pair (.pair .str (.pair (.int .i64) (.int .i64))) (.pair (.int .i64) (.pair (.int .i64) (.lst (.pair (.int .i64) (.pair (.int .i64) (.pair (.int .i64) (.int .i64))))))))))))), .sl 1 (.c (.int .i64)), .sl 5 (.c (.int .i64))], 0⟩ [((.exit 0), ⟨[.sl 1 (.c (.int .i64))], 0⟩), (.ret, ⟨[.sl 4 (.c (.int .i64))], 0⟩)] (.seq (.seq (.reg [⟨.mv 12 (.t 5) false, none, false, .unit⟩,
 ⟨.mv 13 (.t 0) false, none, false, .unit⟩,
 ⟨.len 14 false (.t 13), none, false, .unit⟩,
 ⟨.bin 15 .lss 3 (.t 12) (.t 14), none, false, .unit⟩] false)
(.cond (.t 15) (.skip)
(.exit 0)))
(.seq (.block 1 (.seq (.reg [⟨.mv 18 (.t 0) false, none, false, .unit⟩,
 ⟨.mv 19 (.t 5) false, none, false, .unit⟩,
 ⟨.iad 20 29 9 (.t 18) (.t 19), none, false, .unit⟩,
 ⟨.ld 21 153 9 true (.t 20) false, none, false, .unit⟩,
 ⟨.mv 22 (.t 1) false, none, false, .unit⟩,
 ⟨.call (some 23) 86 [(.t 21), (.t 22)] false, none, false, .unit⟩,
 ⟨.mv 1 (.t 23) false, none, false, .unit⟩] false)
(.seq (.reg [⟨.mv 24 (.t 1) false, none, false, .unit⟩,
 ⟨.bin 25 .lss 3 (.t 24) (.k (.int .i64 0)), none, false, .unit⟩] false)
(.cond (.t 25) (.seq (.reg [⟨.mv 4 (.k (.int .i64 (-1))) false, none, false, .unit⟩] false)
(.ret))
(.skip)))))
(.reg [⟨.mv 16 (.t 5) false, none, false, .unit⟩,
 ⟨.bin 17 .add 3 (.t 16) (.k (.int .i64 1)), none, false, .unit⟩,
 ⟨.mv 5 (.t 17) false, none, false, .unit⟩] false))))))
(.seq (.reg [⟨.mv 26 (.t 1) false, none, false, .unit⟩,
 ⟨.mv 4 (.t 26) false, none, false, .unit⟩] false)
(.ret))))), [.tmp 4]⟩
theorem M36 : mkF Tryz.prog 36 A36 = some A36 := by kernel_rfl
def A37 : AF :=
⟨2, .seq (.reg [⟨.mv 4 (.k (.int .i64 0)) false, none, false, .unit⟩] false)
(.seq (.reg [⟨.mv 5 (.t 1) false, none, false, .unit⟩,
 ⟨.mv 6 (.t 0) false, none, false, .unit⟩,
 ⟨.len 7 false (.t 6), none, false, .unit⟩,
 ⟨.bin 8 .sub 3 (.t 5) (.t 7), none, false, .unit⟩,
 ⟨.mv 1 (.t 8) false, none, false, .unit⟩] false)
(.seq (.seq (.reg [⟨.mv 9 (.t 1) false, none, false, .unit⟩,
 ⟨.bin 10 .lss 3 (.t 9) (.k (.int .i64 0)), none, false, .unit⟩] false)
(.cond (.t 10) (.seq (.reg [⟨.mv 4 (.k (.int .i64 (-1))) false, none, false, .unit⟩] false)
(.ret))
(.skip)))
(.seq (.reg [⟨.mv 11 (.t 1) false, none, false, .unit⟩,
 ⟨.mv 4 (.t 11) false, none, false, .unit⟩] false)
(.ret)))), [.tmp 4]⟩
theorem M37 : mkF Tryz.prog 37 A37 = some A37 := by kernel_rfl
def A8 : AF :=
⟨2, .seq (.reg [⟨.box 2 35 (.t 0) 0, none, false, .unit⟩,
 ⟨.mv 4 (.k (.int .i64 0)) false, none, false, .unit⟩] false)
(.seq (.reg [⟨.fad 5 35 0 0 5 (.t 2), none, false, .unit⟩,
 ⟨.ld 6 28 5 true (.t 5) false, none, false, .unit⟩,
 ⟨.mv 7 (.t 1) false, none, false, .unit⟩,
 ⟨.call (some 8) 35 [(.t 6), (.t 7)] false, none, false, .unit⟩,
 ⟨.mv 1 (.t 8) false, none, false, .unit⟩] false)
(.seq (.seq (.reg [⟨.mv 9 (.t 1) false, none, false, .unit⟩,
 ⟨.bin 10 .lss 3 (.t 9) (.k (.int .i64 0)), none, false, .unit⟩] false)
(.cond (.t 10) (.seq (.reg [⟨.mv 4 (.k (.int .i64 (-1))) false, none, false, .unit⟩] false)
(.ret))
(.skip)))
(.seq (.reg [⟨.fad 11 35 1 5 1 (.t 2), none, false, .unit⟩,
 ⟨.ld 12 29 1 false (.t 11) false, none, false, .unit⟩,
 ⟨.mv 13 (.t 1) false, none, false, .unit⟩,
 ⟨.call (some 14) 36 [(.t 12), (.t 13)] false, none, false, .unit⟩,
 ⟨.mv 1 (.t 14) false, none, false, .unit⟩] false)
(.seq (.seq (.reg [⟨.mv 15 (.t 1) false, none, false, .unit⟩,
 ⟨.bin 16 .lss 3 (.t 15) (.k (.int .i64 0)), none, false, .unit⟩] false)
(.cond (.t 16) (.seq (.reg [⟨.mv 4 (.k (.int .i64 (-1))) false, none, false, .unit⟩] false)
(.ret))
(.skip)))
(.seq (.reg [⟨.fad 17 35 2 6 1 (.t 2), none, false, .unit⟩,
 ⟨.ld 18 30 1 false (.t 17) false, none, false, .unit⟩,
 ⟨.mv 19 (.t 1) false, none, false, .unit⟩,
 ⟨.call (some 20) 37 [(.t 18), (.t 19)] false, none, false, .unit⟩,
 ⟨.mv 1 (.t 20) false, none, false, .unit⟩] false)
(.seq (.seq (.reg [⟨.mv 21 (.t 1) false, none, false, .unit⟩,
 ⟨.bin 22 .lss 3 (.t 21) (.k (.int .i64 0)), none, false, .unit⟩] false)
(.cond (.t 22) (.seq (.reg [⟨.mv 4 (.k (.int .i64 (-1))) false, none, false, .unit⟩] false)
(.ret))
(.skip)))
(.seq (.reg [⟨.fad 23 35 8 15 1 (.t 2), none, false, .unit⟩,
 ⟨.ld 24 33 1 false (.t 23) false, none, false, .unit⟩,
 ⟨.mv 25 (.t 1) false, none, false, .unit⟩,
 ⟨.call (some 26) 38 [(.t 24), (.t 25)] false, none, false, .unit⟩,
 ⟨.mv 1 (.t 26) false, none, false, .unit⟩] false)
(.seq (.seq (.reg [⟨.mv 27 (.t 1) false, none, false, .unit⟩,
 ⟨.bin 28 .lss 3 (.t 27) (.k (.int .i64 0)), none, false, .unit⟩] false)
(.cond (.t 28) (.seq (.reg [⟨.mv 4 (.k (.int .i64 (-1))) false, none, false, .unit⟩] false)
(.ret))
(.skip)))
(.seq (.reg [⟨.fad 29 35 9 16 1 (.t 2), none, false, .unit⟩,
 ⟨.ld 30 33 1 false (.t 29) false, none, false, .unit⟩,
 ⟨.mv 31 (.t 1) false, none, false, .unit⟩,
 ⟨.call (some 32) 38 [(.t 30), (.t 31)] false, none, false, .unit⟩,
 ⟨.mv 1 (.t 32) false, none, false, .unit⟩] false)
(.seq (.seq (.reg [⟨.mv 33 (.t 1) false, none, false, .unit⟩,
 ⟨.bin 34 .lss 3 (.t 33) (.k (.int .i64 0)), none, false, .unit⟩] false)
(.cond (.t 34) (.seq (.reg [⟨.mv 4 (.k (.int .i64 (-1))) false, none, false, .unit⟩] false)
(.ret))
(.skip)))
(.seq (.reg [⟨.mv 35 (.t 1) false, none, false, .unit⟩,
 ⟨.mv 4 (.t 35) false, none, false, .unit⟩] false)
(.ret)))))))))))), [.tmp 4]⟩
theorem M8 : mkF Tryz.prog 8 A8 = some A8 := by kernel_rfl
def A125 : AF :=
⟨2, .seq (.reg [⟨.box 2 203 (.t 0) 0, none, false, .unit⟩,
 ⟨.mv 4 (.k (.int .i64 0)) false, none, false, .unit⟩] false)
(.seq (.reg [⟨.mv 5 (.t 1) false, none, false, .unit⟩,
 ⟨.fad 6 203 0 0 1 (.t 2), none, false, .unit⟩,
 ⟨.ld 7 9 1 false (.t 6) false, none, false, .unit⟩,
 ⟨.len 8 true (.t 7), none, false, .unit⟩,
 ⟨.bin 9 .sub 3 (.t 5) (.t 8), none, false, .unit⟩,
 ⟨.mv 1 (.t 9) false, none, false, .unit⟩] false)
(.seq (.seq (.reg [⟨.mv 10 (.t 1) false, none, false, .unit⟩,
 ⟨.bin 11 .lss 3 (.t 10) (.k (.int .i64 0)), none, false, .unit⟩] false)
(.cond (.t 11) (.seq (.reg [⟨.mv 4 (.k (.int .i64 (-1))) false, none, false, .unit⟩] false)
(.ret))
(.skip)))
(.seq (.reg [⟨.mv 12 (.t 1) false, none, false, .unit⟩,
 ⟨.mv 4 (.t 12) false, none, false, .unit⟩] false)
(.ret)))), [.tmp 4]⟩
theorem M125 : mkF Tryz.prog 125 A125 = some A125 := by kernel_rfl
def A74 : AF :=
⟨2, .seq (.reg [⟨.mv 4 (.k (.int .i64 0)) false, none, false, .unit⟩] false)
(.seq (.reg [⟨.mv 6 (.t 1) false, none, false, .unit⟩,
 ⟨.mv 7 (.t 0) false, none, false, .unit⟩,
 ⟨.len 8 false (.t 7), none, false, .unit⟩,
 ⟨.bin 9 .sub 3 (.t 6) (.t 8), none, false, .unit⟩,
 ⟨.mv 1 (.t 9) false, none, false, .unit⟩] false)
(.seq (.seq (.reg [⟨.mv 10 (.t 1) false, none, false, .unit⟩,
 ⟨.bin 11 .lss 3 (.t 10) (.k (.int .i64 0)), none, false, .unit⟩] false)
(.cond (.t 11) (.seq (.reg [⟨.mv 4 (.k (.int .i64 (-1))) false, none, false, .unit⟩] false)
(.ret))
(.skip)))
(.seq (.seq (.reg [⟨.mv 5 (.k (.int .i64 0)) false, none, false, .unit⟩] false)
(.block 0 (.loop ⟨[.sl 0 (.c (.lst (.pair .str (.pair (.int .i64) (.pair (.int .i64) (.int .i64)))))), .sl 1 (.c (.int .i64)), .sl 5 (.c (.int .i64))], 0⟩ [((.exit 0), ⟨[.sl 1 (.c (.int .i64))], 0⟩), (.ret, ⟨[.sl 4 (.c (.int .i64))], 0⟩)] (.seq (.seq (.reg [⟨.mv 12 (.t 5) false, none, false, .unit⟩,
 ⟨.mv 13 (.t 0) false, none, false, .unit⟩,
 ⟨.len 14 false (.t 13), none, false, .unit⟩,
 ⟨.bin 15 .lss 3 (.t 12) (.t 14), none, false, .unit⟩] false)
(.cond (.t 15) (.skip)
(.exit 0)))
(.seq (.block 1 (.seq (.reg [⟨.mv 18 (.t 0) false, none, false, .unit⟩,
 ⟨.mv 19 (.t 5) false, none, false, .unit⟩,
 ⟨.iad 20 70 4 (.t 18) (.t 19), none, false, .unit⟩,
 ⟨.ld 21 203 4 true (.t 20) false, none, false, .unit⟩,
 ⟨.mv 22 (.t 1) false, none, false, .unit⟩,
 ⟨.call (some 23) 125 [(.t 21), (.t 22)] false, none, false, .unit⟩,
 ⟨.mv 1 (.t 23) false, none, false, .unit⟩] false)
(.seq (.reg [⟨.mv 24 (.t 1) false, none, false, .unit⟩,
 ⟨.bin 25 .lss 3 (.t 24) (.k (.int .i64 0)), none, false, .unit⟩] false)
(.cond (.t 25) (.seq (.reg [⟨.mv 4 (.k (.int .i64 (-1))) false, none, false, .unit⟩] false)
(.ret))
(.skip)))))
(.reg [⟨.mv 16 (.t 5) false, none, false, .unit⟩,
 ⟨.bin 17 .add 3 (.t 16) (.k (.int .i64 1)), none, false, .unit⟩,
 ⟨.mv 5 (.t 17) false, none, false, .unit⟩] false))))))
(.seq (.reg [⟨.mv 26 (.t 1) false, none, false, .unit⟩,
 ⟨.mv 4 (.t 26) false, none, false, .unit⟩] false)
(.ret))))), [.tmp 4]⟩
theorem M74 : mkF Tryz.prog 74 A74 = some A74 := by kernel_rfl
def A126 : AF :=
⟨2, .seq (.reg [⟨.box 2 206 (.t 0) 0, none, false, .unit⟩,
 ⟨.mv 4 (.k (.int .i64 0)) false, none, false, .unit⟩] false)
(.seq (.reg [⟨.mv 5 (.t 1) false, none, false, .unit⟩,
 ⟨.fad 6 206 0 0 1 (.t 2), none, false, .unit⟩,
 ⟨.ld 7 9 1 false (.t 6) false, none, false, .unit⟩,
 ⟨.len 8 true (.t 7), none, false, .unit⟩,
 ⟨.bin 9 .sub 3 (.t 5) (.t 8), none, false, .unit⟩,
 ⟨.mv 1 (.t 9) false, none, false, .unit⟩] false)
(.seq (.seq (.reg [⟨.mv 10 (.t 1) false, none, false, .unit⟩,
 ⟨.bin 11 .lss 3 (.t 10) (.k (.int .i64 0)), none, false, .unit⟩] false)
(.cond (.t 11) (.seq (.reg [⟨.mv 4 (.k (.int .i64 (-1))) false, none, false, .unit⟩] false)
(.ret))
(.skip)))
(.seq (.reg [⟨.mv 12 (.t 1) false, none, false, .unit⟩,
 ⟨.mv 4 (.t 12) false, none, false, .unit⟩] false)
(.ret)))), [.tmp 4]⟩
theorem M126 : mkF Tryz.prog 126 A126 = some A126 := by kernel_rfl
def A75 : AF :=
⟨2, .seq (.reg [⟨.mv 4 (.k (.int .i64 0)) false, none, false, .unit⟩] false)
(.seq (.reg [⟨.mv 6 (.t 1) false, none, false, .unit⟩,
 ⟨.mv 7 (.t 0) false, none, false, .unit⟩,
 ⟨.len 8 false (.t 7), none, false, .unit⟩,
 ⟨.bin 9 .sub 3 (.t 6) (.t 8), none, false, .unit⟩,
 ⟨.mv 1 (.t 9) false, none, false, .unit⟩] false)
(.seq (.seq (.reg [⟨.mv 10 (.t 1) false, none, false, .unit⟩,
 ⟨.bin 11 .lss 3 (.t 10) (.k (.int .i64 0)), none, false, .unit⟩] false)
(.cond (.t 11) (.seq (.reg [⟨.mv 4 (.k (.int .i64 (-1))) false, none, false, .unit⟩] false)
(.ret))
(.skip)))
(.seq (.seq (.reg [⟨.mv 5 (.k (.int .i64 0)) false, none, false, .unit⟩] false)
(.block 0 (.loop ⟨[.sl 0 (.c (.lst (.pair .str (.pair (.int .i64) (.pair (.int .i64) (.int .i64)))))), .sl 1 (.c (.int .i64)), .sl 5 (.c (.int .i64))], 0⟩ [((.exit 0), ⟨[.sl 1 (.c (.int .i64))], 0⟩), (.ret, ⟨[.sl 4 (.c (.int .i64))], 0⟩)] (.seq (.seq (.reg [⟨.mv 12 (.t 5) false, none, false, .unit⟩,
 ⟨.mv 13 (.t 0) false, none, false, .unit⟩,
 ⟨.len 14 false (.t 13), none, false, .unit⟩,
 ⟨.bin 15 .lss 3 (.t 12) (.t 14), none, false, .unit⟩] false)
(.cond (.t 15) (.skip)
(.exit 0)))
(.seq (.block 1 (.seq (.reg [⟨.mv 18 (.t 0) false, none, false, .unit⟩,
 ⟨.mv 19 (.t 5) false, none, false, .unit⟩,
 ⟨.iad 20 71 4 (.t 18) (.t 19), none, false, .unit⟩,
 ⟨.ld 21 206 4 true (.t 20) false, none, false, .unit⟩,
 ⟨.mv 22 (.t 1) false, none, false, .unit⟩,
 ⟨.call (some 23) 126 [(.t 21), (.t 22)] false, none, false, .unit⟩,
 ⟨.mv 1 (.t 23) false, none, false, .unit⟩] false)
(.seq (.reg [⟨.mv 24 (.t 1) false, none, false, .unit⟩,
 ⟨.bin 25 .lss 3 (.t 24) (.k (.int .i64 0)), none, false, .unit⟩] false)
(.cond (.t 25) (.seq (.reg [⟨.mv 4 (.k (.int .i64 (-1))) false, none, false, .unit⟩] false)
(.ret))
(.skip)))))
(.reg [⟨.mv 16 (.t 5) false, none, false, .unit⟩,
 ⟨.bin 17 .add 3 (.t 16) (.k (.int .i64 1)), none, false, .unit⟩,
 ⟨.mv 5 (.t 17) false, none, false, .unit⟩] false))))))
(.seq (.reg [⟨.mv 26 (.t 1) false, none, false, .unit⟩,
 ⟨.mv 4 (.t 26) false, none, false, .unit⟩] false)
(.ret))))), [.tmp 4]⟩
theorem M75 : mkF Tryz.prog 75 A75 = some A75 := by kernel_rfl
def A30 : AF :=
⟨2, .seq (.reg [⟨.box 2 75 (.t 0) 0, none, false, .unit⟩,
 ⟨.mv 4 (.k (.int .i64 0)) false, none, false, .unit⟩] false)
(.seq (.reg [⟨.fad 5 75 0 0 17 (.t 2), none, false, .unit⟩,
 ⟨.ld 6 35 17 true (.t 5) false, none, false, .unit⟩,
 ⟨.mv 7 (.t 1) false, none, false, .unit⟩,
 ⟨.call (some 8) 8 [(.t 6), (.t 7)] false, none, false, .unit⟩,
 ⟨.mv 1 (.t 8) false, none, false, .unit⟩] false)
(.seq (.seq (.reg [⟨.mv 9 (.t 1) false, none, false, .unit⟩,
 ⟨.bin 10 .lss 3 (.t 9) (.k (.int .i64 0)), none, false, .unit⟩] false)
(.cond (.t 10) (.seq (.reg [⟨.mv 4 (.k (.int .i64 (-1))) false, none, false, .unit⟩] false)
(.ret))
(.skip)))
(.seq (.reg [⟨.fad 11 75 1 17 1 (.t 2), none, false, .unit⟩,
 ⟨.ld 12 70 1 false (.t 11) false, none, false, .unit⟩,
 ⟨.mv 13 (.t 1) false, none, false, .unit⟩,
 ⟨.call (some 14) 74 [(.t 12), (.t 13)] false, none, false, .unit⟩,
 ⟨.mv 1 (.t 14) false, none, false, .unit⟩] false)
(.seq (.seq (.reg [⟨.mv 15 (.t 1) false, none, false, .unit⟩,
 ⟨.bin 16 .lss 3 (.t 15) (.k (.int .i64 0)), none, false, .unit⟩] false)
(.cond (.t 16) (.seq (.reg [⟨.mv 4 (.k (.int .i64 (-1))) false, none, false, .unit⟩] false)
(.ret))
(.skip)))
(.seq (.reg [⟨.fad 17 75 2 18 1 (.t 2), none, false, .unit⟩,
 ⟨.ld 18 71 1 false (.t 17) false, none, false, .unit⟩,
 ⟨.mv 19 (.t 1) false, none, false, .unit⟩,
 ⟨.call (some 20) 75 [(.t 18), (.t 19)] false, none, false, .unit⟩,
 ⟨.mv 1 (.t 20) false, none, false, .unit⟩] false)
(.seq (.seq (.reg [⟨.mv 21 (.t 1) false, none, false, .unit⟩,
 ⟨.bin 22 .lss 3 (.t 21) (.k (.int .i64 0)), none, false, .unit⟩] false)
(.cond (.t 22) (.seq (.reg [⟨.mv 4 (.k (.int .i64 (-1))) false, none, false, .unit⟩] false)
(.ret))
(.skip)))
(.seq (.reg [⟨.mv 23 (.t 1) false, none, false, .unit⟩,
 ⟨.mv 4 (.t 23) false, none, false, .unit⟩] false)
(.ret)))))))), [.tmp 4]⟩
theorem M30 : mkF Tryz.prog 30 A30 = some A30 := by kernel_rfl
def A113 : AF :=
⟨1, .seq (.reg [⟨.box 1 186 (.t 0) 0, none, false, .unit⟩,
 ⟨.alloc 2 184 [.int .i64 0, .int .i64 0] false, none, false, .unit⟩] false)
(.seq (.reg [⟨.alloc 3 184 [.int .i64 0, .int .i64 0] false, none, false, .unit⟩] false)
(.seq (.reg [⟨.fad 4 186 0 0 1 (.t 1), none, false, .unit⟩,
 ⟨.ld 5 2 1 false (.t 4) false, none, false, .unit⟩,
 ⟨.fad 6 184 0 0 1 (.t 3), none, false, .unit⟩,
 ⟨.st 2 1 (.t 6) (.t 5) false, none, false, .unit⟩] false)
(.seq (.reg [⟨.fad 7 186 1 1 1 (.t 1), none, false, .unit⟩,
 ⟨.ld 8 2 1 false (.t 7) false, none, false, .unit⟩,
 ⟨.fad 9 184 1 1 1 (.t 3), none, false, .unit⟩,
 ⟨.st 2 1 (.t 9) (.t 8) false, none, false, .unit⟩] false)
(.seq (.reg [⟨.ld 10 184 2 true (.t 3) false, none, false, .unit⟩,
 ⟨.st 184 2 (.t 2) (.t 10) false, none, false, .unit⟩] false)
(.ret))))), [.cell 2 184 2 true]⟩
theorem M113 : mkF Tryz.prog 113 A113 = some A113 := by kernel_rfl
def A62 : AF :=
⟨1, .seq (.reg [⟨.mv 2 (.k (.slice none 0 0)) false, none, false, .unit⟩] false)
(.seq (.reg [⟨.mv 5 (.t 0) false, none, false, .unit⟩,
 ⟨.len 6 false (.t 5), none, false, .unit⟩,
 ⟨.mks 7 38 2 [.int .i64 0, .int .i64 0] (.t 6) (.t 6) true, none, false, (.pair (.int .i64) (.int .i64))⟩,
 ⟨.mv 3 (.t 7) false, none, false, .unit⟩] false)
(.seq (.seq (.reg [⟨.mv 4 (.k (.int .i64 0)) false, none, false, .unit⟩] false)
(.block 0 (.loop ⟨[.sl 0 (.c (.lst (.pair (.int .i64) (.int .i64)))), .sl 3 (.larr 7), .sl 4 (.c (.int .i64)), .lo 7 (.many (.pair (.int .i64) (.int .i64)))], 0⟩ [((.exit 0), ⟨[.sl 3 (.larr 7), .lo 7 (.many (.pair (.int .i64) (.int .i64)))], 0⟩)] (.seq (.seq (.reg [⟨.mv 8 (.t 4) false, none, false, .unit⟩,
 ⟨.mv 9 (.t 0) false, none, false, .unit⟩,
 ⟨.len 10 false (.t 9), none, false, .unit⟩,
 ⟨.bin 11 .lss 3 (.t 8) (.t 10), none, false, .unit⟩] false)
(.cond (.t 11) (.skip)
(.exit 0)))
(.seq (.block 1 (.reg [⟨.mv 14 (.t 3) false, none, false, .unit⟩,
 ⟨.mv 15 (.t 4) false, none, false, .unit⟩,
 ⟨.mv 16 (.t 0) false, none, false, .unit⟩,
 ⟨.mv 17 (.t 4) false, none, false, .unit⟩,
 ⟨.iad 18 22 2 (.t 16) (.t 17), none, false, .unit⟩,
 ⟨.ld 19 186 2 true (.t 18) false, none, false, .unit⟩,
 ⟨.call (some 20) 113 [(.t 19)] false, none, false, .unit⟩,
 ⟨.iad 21 38 2 (.t 14) (.t 15), none, false, .unit⟩,
 ⟨.st 184 2 (.t 21) (.t 20) false, none, false, .unit⟩] false))
(.reg [⟨.mv 12 (.t 4) false, none, false, .unit⟩,
 ⟨.bin 13 .add 3 (.t 12) (.k (.int .i64 1)), none, false, .unit⟩,
 ⟨.mv 4 (.t 13) false, none, false, .unit⟩] false))))))
(.seq (.reg [⟨.mv 22 (.t 3) false, none, false, .unit⟩,
 ⟨.mv 2 (.t 22) false, none, false, .unit⟩] false)
(.frz 7 (.scope [(.ret, ⟨[.sl 2 (.c (.lst (.pair (.int .i64) (.int .i64))))], 0⟩)] .ret))))), [.tmp 2]⟩
theorem M62 : mkF Tryz.prog 62 A62 = some A62 := by kernel_rfl
def A44 : AF :=
⟨1, .seq (.reg [⟨.mv 2 (.k (.slice none 0 0)) false, none, false, .unit⟩] false)
(.seq (.reg [⟨.mv 5 (.t 0) false, none, false, .unit⟩,
 ⟨.len 6 false (.t 5), none, false, .unit⟩,
 ⟨.mks 7 33 1 [.int .i64 0] (.t 6) (.t 6) true, none, false, (.int .i64)⟩,
 ⟨.mv 3 (.t 7) false, none, false, .unit⟩] false)
(.seq (.seq (.reg [⟨.mv 4 (.k (.int .i64 0)) false, none, false, .unit⟩] false)
(.block 0 (.loop ⟨[.sl 0 (.c (.lst (.int .i64))), .sl 3 (.larr 7), .sl 4 (.c (.int .i64)), .lo 7 (.many (.int .i64))], 0⟩ [((.exit 0), ⟨[.sl 3 (.larr 7), .lo 7 (.many (.int .i64))], 0⟩)] (.seq (.seq (.reg [⟨.mv 8 (.t 4) false, none, false, .unit⟩,
 ⟨.mv 9 (.t 0) false, none, false, .unit⟩,
 ⟨.len 10 false (.t 9), none, false, .unit⟩,
 ⟨.bin 11 .lss 3 (.t 8) (.t 10), none, false, .unit⟩] false)
(.cond (.t 11) (.skip)
(.exit 0)))
(.seq (.block 1 (.reg [⟨.mv 14 (.t 3) false, none, false, .unit⟩,
 ⟨.mv 15 (.t 4) false, none, false, .unit⟩,
 ⟨.mv 16 (.t 0) false, none, false, .unit⟩,
 ⟨.mv 17 (.t 4) false, none, false, .unit⟩,
 ⟨.iad 18 33 1 (.t 16) (.t 17), none, false, .unit⟩,
 ⟨.ld 19 2 1 false (.t 18) false, none, false, .unit⟩,
 ⟨.iad 20 33 1 (.t 14) (.t 15), none, false, .unit⟩,
 ⟨.st 2 1 (.t 20) (.t 19) false, none, false, .unit⟩] false))
(.reg [⟨.mv 12 (.t 4) false, none, false, .unit⟩,
 ⟨.bin 13 .add 3 (.t 12) (.k (.int .i64 1)), none, false, .unit⟩,
 ⟨.mv 4 (.t 13) false, none, false, .unit⟩] false))))))
(.seq (.reg [⟨.mv 21 (.t 3) false, none, false, .unit⟩,
 ⟨.mv 2 (.t 21) false, none, false, .unit⟩] false)
(.frz 7 (.scope [(.ret, ⟨[.sl 2 (.c (.lst (.int .i64)))], 0⟩)] .ret))))), [.tmp 2]⟩
theorem M44 : mkF Tryz.prog 44 A44 = some A44 := by kernel_rfl
def A114 : AF :=
⟨1, .seq (.reg [⟨.box 1 177 (.t 0) 0, none, false, .unit⟩,
 ⟨.alloc 2 187 [.string ⟨#[]⟩, .slice none 0 0] false, none, false, .unit⟩] false)
(.seq (.reg [⟨.alloc 3 187 [.string ⟨#[]⟩, .slice none 0 0] false, none, false, .unit⟩] false)
(.seq (.reg [⟨.fad 4 177 0 0 1 (.t 1), none, false, .unit⟩,
 ⟨.ld 5 9 1 false (.t 4) false, none, false, .unit⟩,
 ⟨.fad 6 187 0 0 1 (.t 3), none, false, .unit⟩,
 ⟨.st 9 1 (.t 6) (.t 5) false, none, false, .unit⟩] false)
(.seq (.reg [⟨.fad 7 177 1 1 1 (.t 1), none, false, .unit⟩,
 ⟨.ld 8 33 1 false (.t 7) false, none, false, .unit⟩,
 ⟨.call (some 9) 44 [(.t 8)] false, none, false, .unit⟩,
 ⟨.fad 10 187 1 1 1 (.t 3), none, false, .unit⟩,
 ⟨.st 33 1 (.t 10) (.t 9) false, none, false, .unit⟩] false)
(.seq (.reg [⟨.ld 11 187 2 true (.t 3) false, none, false, .unit⟩,
 ⟨.st 187 2 (.t 2) (.t 11) false, none, false, .unit⟩] false)
(.ret))))), [.cell 2 187 2 true]⟩
theorem M114 : mkF Tryz.prog 114 A114 = some A114 := by kernel_rfl
def A63 : AF :=
⟨1, .seq (.reg [⟨.mv 2 (.k (.slice none 0 0)) false, none, false, .unit⟩] false)
(.seq (.reg [⟨.mv 5 (.t 0) false, none, false, .unit⟩,
 ⟨.len 6 false (.t 5), none, false, .unit⟩,
 ⟨.mks 7 39 2 [.string ⟨#[]⟩, .slice none 0 0] (.t 6) (.t 6) true, none, false, (.pair .str (.lst (.int .i64)))⟩,
 ⟨.mv 3 (.t 7) false, none, false, .unit⟩] false)
(.seq (.seq (.reg [⟨.mv 4 (.k (.int .i64 0)) false, none, false, .unit⟩] false)
(.block 0 (.loop ⟨[.sl 0 (.c (.lst (.pair .str (.lst (.int .i64))))), .sl 3 (.larr 7), .sl 4 (.c (.int .i64)), .lo 7 (.many (.pair .str (.lst (.int .i64))))], 0⟩ [((.exit 0), ⟨[.sl 3 (.larr 7), .lo 7 (.many (.pair .str (.lst (.int .i64))))], 0⟩)] (.seq (.seq (.reg [⟨.mv 8 (.t 4) false, none, false, .unit⟩,
 ⟨.mv 9 (.t 0) false, none, false, .unit⟩,
 ⟨.len 10 false (.t 9), none, false, .unit⟩,
 ⟨.bin 11 .lss 3 (.t 8) (.t 10), none, false, .unit⟩] false)
(.cond (.t 11) (.skip)
(.exit 0)))
(.seq (.block 1 (.reg [⟨.mv 14 (.t 3) false, none, false, .unit⟩,
 ⟨.mv 15 (.t 4) false, none, false, .unit⟩,
 ⟨.mv 16 (.t 0) false, none, false, .unit⟩,
 ⟨.mv 17 (.t 4) false, none, false, .unit⟩,
 ⟨.iad 18 23 2 (.t 16) (.t 17), none, false, .unit⟩,
 ⟨.ld 19 177 2 true (.t 18) false, none, false, .unit⟩,
 ⟨.call (some 20) 114 [(.t 19)] false, none, false, .unit⟩,
 ⟨.iad 21 39 2 (.t 14) (.t 15), none, false, .unit⟩,
 ⟨.st 187 2 (.t 21) (.t 20) false, none, false, .unit⟩] false))
(.reg [⟨.mv 12 (.t 4) false, none, false, .unit⟩,
 ⟨.bin 13 .add 3 (.t 12) (.k (.int .i64 1)), none, false, .unit⟩,
 ⟨.mv 4 (.t 13) false, none, false, .unit⟩] false))))))
(.seq (.reg [⟨.mv 22 (.t 3) false, none, false, .unit⟩,
 ⟨.mv 2 (.t 22) false, none, false, .unit⟩] false)
(.frz 7 (.scope [(.ret, ⟨[.sl 2 (.c (.lst (.pair .str (.lst (.int .i64)))))], 0⟩)] .ret))))), [.tmp 2]⟩
theorem M63 : mkF Tryz.prog 63 A63 = some A63 := by kernel_rfl
def A16 : AF :=
⟨1, .seq (.reg [⟨.box 1 25 (.t 0) 0, none, false, .unit⟩,
 ⟨.alloc 2 41 [.int .i64 0, .int .i64 0, .slice none 0 0, .slice none 0 0] false, none, false, .unit⟩] false)
(.seq (.reg [⟨.alloc 3 41 [.int .i64 0, .int .i64 0, .slice none 0 0, .slice none 0 0] false, none, false, .unit⟩] false)
(.seq (.reg [⟨.fad 4 25 0 0 1 (.t 1), none, false, .unit⟩,
 ⟨.ld 5 2 1 false (.t 4) false, none, false, .unit⟩,
 ⟨.fad 6 41 0 0 1 (.t 3), none, false, .unit⟩,
 ⟨.st 2 1 (.t 6) (.t 5) false, none, false, .unit⟩] false)
(.seq (.reg [⟨.fad 7 25 1 1 1 (.t 1), none, false, .unit⟩,
 ⟨.ld 8 2 1 false (.t 7) false, none, false, .unit⟩,
 ⟨.fad 9 41 1 1 1 (.t 3), none, false, .unit⟩,
 ⟨.st 2 1 (.t 9) (.t 8) false, none, false, .unit⟩] false)
(.seq (.reg [⟨.fad 10 25 2 2 1 (.t 1), none, false, .unit⟩,
 ⟨.ld 11 22 1 false (.t 10) false, none, false, .unit⟩,
 ⟨.call (some 12) 62 [(.t 11)] false, none, false, .unit⟩,
 ⟨.fad 13 41 2 2 1 (.t 3), none, false, .unit⟩,
 ⟨.st 38 1 (.t 13) (.t 12) false, none, false, .unit⟩] false)
(.seq (.reg [⟨.fad 14 25 3 3 1 (.t 1), none, false, .unit⟩,
 ⟨.ld 15 23 1 false (.t 14) false, none, false, .unit⟩,
 ⟨.call (some 16) 63 [(.t 15)] false, none, false, .unit⟩,
 ⟨.fad 17 41 3 3 1 (.t 3), none, false, .unit⟩,
 ⟨.st 39 1 (.t 17) (.t 16) false, none, false, .unit⟩] false)
(.seq (.reg [⟨.ld 18 41 4 true (.t 3) false, none, false, .unit⟩,
 ⟨.st 41 4 (.t 2) (.t 18) false, none, false, .unit⟩] false)
(.ret))))))), [.cell 2 41 4 true]⟩
theorem M16 : mkF Tryz.prog 16 A16 = some A16 := by kernel_rfl
def A64 : AF :=
⟨1, .seq (.reg [⟨.box 1 112 (.t 0) 0, none, false, .unit⟩,
 ⟨.alloc 2 123 [.string ⟨#[]⟩, .int .i64 0, .int .i64 0] false, none, false, .unit⟩] false)
(.seq (.reg [⟨.alloc 3 123 [.string ⟨#[]⟩, .int .i64 0, .int .i64 0] false, none, false, .unit⟩] false)
(.seq (.reg [⟨.fad 4 112 0 0 1 (.t 1), none, false, .unit⟩,
 ⟨.ld 5 9 1 false (.t 4) false, none, false, .unit⟩,
 ⟨.fad 6 123 0 0 1 (.t 3), none, false, .unit⟩,
 ⟨.st 9 1 (.t 6) (.t 5) false, none, false, .unit⟩] false)
(.seq (.reg [⟨.fad 7 112 1 1 1 (.t 1), none, false, .unit⟩,
 ⟨.ld 8 2 1 false (.t 7) false, none, false, .unit⟩,
 ⟨.fad 9 123 1 1 1 (.t 3), none, false, .unit⟩,
 ⟨.st 2 1 (.t 9) (.t 8) false, none, false, .unit⟩] false)
(.seq (.reg [⟨.fad 10 112 2 2 1 (.t 1), none, false, .unit⟩,
 ⟨.ld 11 2 1 false (.t 10) false, none, false, .unit⟩,
 ⟨.fad 12 123 2 2 1 (.t 3), none, false, .unit⟩,
 ⟨.st 2 1 (.t 12) (.t 11) false, none, false, .unit⟩] false)
(.seq (.reg [⟨.ld 13 123 3 true (.t 3) false, none, false, .unit⟩,
 ⟨.st 123 3 (.t 2) (.t 13) false, none, false, .unit⟩] false)
(.ret)))))), [.cell 2 123 3 true]⟩
theorem M64 : mkF Tryz.prog 64 A64 = some A64 := by kernel_rfl
def A17 : AF :=
⟨1, .seq (.reg [⟨.mv 2 (.k (.slice none 0 0)) false, none, false, .unit⟩] false)
(.seq (.reg [⟨.mv 5 (.t 0) false, none, false, .unit⟩,
 ⟨.len 6 false (.t 5), none, false, .unit⟩,
 ⟨.mks 7 42 3 [.string ⟨#[]⟩, .int .i64 0, .int .i64 0] (.t 6) (.t 6) true, none, false, (.pair .str (.pair (.int .i64) (.int .i64)))⟩,
 ⟨.mv 3 (.t 7) false, none, false, .unit⟩] false)
(.seq (.seq (.reg [⟨.mv 4 (.k (.int .i64 0)) false, none, false, .unit⟩] false)
(.block 0 (.loop ⟨[.sl 0 (.c (.lst (.pair .str (.pair (.int .i64) (.int .i64))))), .sl 3 (.larr 7), .sl 4 (.c (.int .i64)), .lo 7 (.many (.pair .str (.pair (.int .i64) (.int .i64))))], 0⟩ [((.exit 0), ⟨[.sl 3 (.larr 7), .lo 7 (.many (.pair .str (.pair (.int .i64) (.int .i64))))], 0⟩)] (.seq (.seq (.reg [⟨.mv 8 (.t 4) false, none, false, .unit⟩,
 ⟨.mv 9 (.t 0) false, none, false, .unit⟩,
 ⟨.len 10 false (.t 9), none, false, .unit⟩,
 ⟨.bin 11 .lss 3 (.t 8) (.t 10), none, false, .unit⟩] false)
(.cond (.t 11) (.skip)
(.exit 0)))
(.seq (.block 1 (.reg [⟨.mv 14 (.t 3) false, none, false, .unit⟩,
 ⟨.mv 15 (.t 4) false, none, false, .unit⟩,
 ⟨.mv 16 (.t 0) false, none, false, .unit⟩,
 ⟨.mv 17 (.t 4) false, none, false, .unit⟩,
 ⟨.iad 18 26 3 (.t 16) (.t 17), none, false, .unit⟩,
 ⟨.ld 19 112 3 true (.t 18) false, none, false, .unit⟩,
 ⟨.call (some 20) 64 [(.t 19)] false, none, false, .unit⟩,
 ⟨.iad 21 42 3 (.t 14) (.t 15), none, false, .unit⟩,
 ⟨.st 123 3 (.t 21) (.t 20) false, none, false, .unit⟩] false))
(.reg [⟨.mv 12 (.t 4) false, none, false, .unit⟩,
 ⟨.bin 13 .add 3 (.t 12) (.k (.int .i64 1)), none, false, .unit⟩,
 ⟨.mv 4 (.t 13) false, none, false, .unit⟩] false))))))
(.seq (.reg [⟨.mv 22 (.t 3) false, none, false, .unit⟩,
 ⟨.mv 2 (.t 22) false, none, false, .unit⟩] false)
(.frz 7 (.scope [(.ret, ⟨[.sl 2 (.c (.lst (.pair .str (.pair (.int .i64) (.int .i64)))))], 0⟩)] .ret))))), [.tmp 2]⟩
theorem M17 : mkF Tryz.prog 17 A17 = some A17 := by kernel_rfl
def A40 : AF :=
⟨1, .seq (.reg [⟨.box 1 28 (.t 0) 0, none, false, .unit⟩,
 ⟨.alloc 2 44 [.int .i64 0, .int .i64 0, .slice none 0 0, .slice none 0 0, .slice none 0 0] false, none, false, .unit⟩] false)
(.seq (.reg [⟨.alloc 3 44 [.int .i64 0, .int .i64 0, .slice none 0 0, .slice none 0 0, .slice none 0 0] false, none, false, .unit⟩] false)
(.seq (.reg [⟨.fad 4 28 0 0 4 (.t 1), none, false, .unit⟩,
 ⟨.ld 5 25 4 true (.t 4) false, none, false, .unit⟩,
 ⟨.call (some 6) 16 [(.t 5)] false, none, false, .unit⟩,
 ⟨.fad 7 44 0 0 4 (.t 3), none, false, .unit⟩,
 ⟨.st 41 4 (.t 7) (.t 6) false, none, false, .unit⟩] false)
(.seq (.reg [⟨.fad 8 28 1 4 1 (.t 1), none, false, .unit⟩,
 ⟨.ld 9 26 1 false (.t 8) false, none, false, .unit⟩,
 ⟨.call (some 10) 17 [(.t 9)] false, none, false, .unit⟩,
 ⟨.fad 11 44 1 4 1 (.t 3), none, false, .unit⟩,
 ⟨.st 42 1 (.t 11) (.t 10) false, none, false, .unit⟩] false)
(.seq (.reg [⟨.ld 12 44 5 true (.t 3) false, none, false, .unit⟩,
 ⟨.st 44 5 (.t 2) (.t 12) false, none, false, .unit⟩] false)
(.ret))))), [.cell 2 44 5 true]⟩
theorem M40 : mkF Tryz.prog 40 A40 = some A40 := by kernel_rfl
def A173 : AF :=
⟨1, .seq (.reg [⟨.box 1 258 (.t 0) 0, none, false, .unit⟩,
 ⟨.alloc 2 234 [.int .i64 0, .int .i64 0, .int .i64 0, .int .i64 0] false, none, false, .unit⟩] false)
(.seq (.reg [⟨.alloc 3 234 [.int .i64 0, .int .i64 0, .int .i64 0, .int .i64 0] false, none, false, .unit⟩] false)
(.seq (.reg [⟨.fad 4 258 0 0 1 (.t 1), none, false, .unit⟩,
 ⟨.ld 5 2 1 false (.t 4) false, none, false, .unit⟩,
 ⟨.fad 6 234 0 0 1 (.t 3), none, false, .unit⟩,
 ⟨.st 2 1 (.t 6) (.t 5) false, none, false, .unit⟩] false)
(.seq (.reg [⟨.fad 7 258 1 1 1 (.t 1), none, false, .unit⟩,
 ⟨.ld 8 2 1 false (.t 7) false, none, false, .unit⟩,
 ⟨.fad 9 234 1 1 1 (.t 3), none, false, .unit⟩,
 ⟨.st 2 1 (.t 9) (.t 8) false, none, false, .unit⟩] false)
(.seq (.reg [⟨.fad 10 258 2 2 1 (.t 1), none, false, .unit⟩,
 ⟨.ld 11 2 1 false (.t 10) false, none, false, .unit⟩,
 ⟨.fad 12 234 2 2 1 (.t 3), none, false, .unit⟩,
 ⟨.st 2 1 (.t 12) (.t 11) false, none, false, .unit⟩] false)
(.seq (.reg [⟨.fad 13 258 3 3 1 (.t 1), none, false, .unit⟩,
 ⟨.ld 14 2 1 false (.t 13) false, none, false, .unit⟩,
 ⟨.fad 15 234 3 3 1 (.t 3), none, false, .unit⟩,
 ⟨.st 2 1 (.t 15) (.t 14) false, none, false, .unit⟩] false)
(.seq (.reg [⟨.ld 16 234 4 true (.t 3) false, none, false, .unit⟩,
 ⟨.st 234 4 (.t 2) (.t 16) false, none, false, .unit⟩] false)
(.ret))))))), [.cell 2 234 4 true]⟩
theorem M173 : mkF Tryz.prog 173 A173 = some A173 := by kernel_rfl
def A142 : AF :=
⟨1, .seq (.reg [⟨.mv 2 (.k (.slice none 0 0)) false, none, false, .unit⟩] false)
(.seq (.reg [⟨.mv 5 (.t 0) false, none, false, .unit⟩,
 ⟨.len 6 false (.t 5), none, false, .unit⟩,
 ⟨.mks 7 162 4 [.int .i64 0, .int .i64 0, .int .i64 0, .int .i64 0] (.t 6) (.t 6) true, none, false, (.pair (.int .i64) (.pair (.int .i64) (.pair (.int .i64) (.int .i64))))⟩,
 ⟨.mv 3 (.t 7) false, none, false, .unit⟩] false)
(.seq (.seq (.reg [⟨.mv 4 (.k (.int .i64 0)) false, none, false, .unit⟩] false)
(.block 0 (.loop ⟨[.sl 0 (.c (.lst (.pair (.int .i64) (.pair (.int .i64) (.pair (.int .i64) (.int .i64)))))), .sl 3 (.larr 7), .sl 4 (.c (.int .i64)), .lo 7 (.many (.pair (.int .i64) (.pair (.int .i64) (.pair (.int .i64) (.int .i64)))))], 0⟩ [((.exit 0), ⟨[.sl 3 (.larr 7), .lo 7 (.many (.pair (.int .i64) (.pair (.int .i64) (.pair (.int .i64) (.int .i64)))))], 0⟩)] (.seq (.seq (.reg [⟨.mv 8 (.t 4) false, none, false, .unit⟩,
 ⟨.mv 9 (.t 0) false, none, false, .unit⟩,
 ⟨.len 10 false (.t 9), none, false, .unit⟩,
 ⟨.bin 11 .lss 3 (.t 8) (.t 10), none, false, .unit⟩] false)
(.cond (.t 11) (.skip)
(.exit 0)))
(.seq (.block 1 (.reg [⟨.mv 14 (.t 3) false, none, false, .unit⟩,
 ⟨.mv 15 (.t 4) false, none, false, .unit⟩,
 ⟨.mv 16 (.t 0) false, none, false, .unit⟩,
 ⟨.mv 17 (.t 4) false, none, false, .unit⟩,
 ⟨.iad 18 151 4 (.t 16) (.t 17), none, false, .unit⟩,
 ⟨.ld 19 258 4 true (.t 18) false, none, false, .unit⟩,
 ⟨.call (some 20) 173 [(.t 19)] false, none, false, .unit⟩,
 ⟨.iad 21 162 4 (.t 14) (.t 15), none, false, .unit⟩,
 ⟨.st 234 4 (.t 21) (.t 20) false, none, false, .unit⟩] false))
(.reg [⟨.mv 12 (.t 4) false, none, false, .unit⟩,
 ⟨.bin 13 .add 3 (.t 12) (.k (.int .i64 1)), none, false, .unit⟩,
 ⟨.mv 4 (.t 13) false, none, false, .unit⟩] false))))))
(.seq (.reg [⟨.mv 22 (.t 3) false, none, false, .unit⟩,
 ⟨.mv 2 (.t 22) false, none, false, .unit⟩] false)
(.frz 7 (.scope [(.ret, ⟨[.sl 2 (.c (.lst (.pair (.int .i64) (.pair (.int .i64) (.pair (.int .i64) (.int .i64))))))], 0⟩)] .ret))))), [.tmp 2]⟩
theorem M142 : mkF Tryz.prog 142 A142 = some A142 := by kernel_rfl
def A96 : AF :=
⟨1, .seq (.reg [⟨.box 1 153 (.t 0) 0, none, false, .unit⟩,
 ⟨.alloc 2 164 [.string ⟨#[]⟩, .string ⟨#[]⟩, .int .i64 0, .string ⟨#[]⟩, .int .i64 0, .int .i64 0, .int .i64 0, .int .i64 0, .slice none 0 0] false, none, false, .unit⟩] false)
(.seq (.reg [⟨.alloc 3 164 [.string ⟨#[]⟩, .string ⟨#[]⟩, .int .i64 0, .string ⟨#[]⟩, .int .i64 0, .int .i64 0, .int .i64 0, .int .i64 0, .slice none 0 0] false, none, false, .unit⟩] false)
(.seq (.reg [⟨.fad 4 153 0 0 1 (.t 1), none, false, .unit⟩,
 ⟨.ld 5 9 1 false (.t 4) false, none, false, .unit⟩,
 ⟨.fad 6 164 0 0 1 (.t 3), none, false, .unit⟩,
 ⟨.st 9 1 (.t 6) (.t 5) false, none, false, .unit⟩] false)
(.seq (.reg [⟨.fad 7 153 1 1 1 (.t 1), none, false, .unit⟩,
 ⟨.ld 8 9 1 false (.t 7) false, none, false, .unit⟩,
 ⟨.fad 9 164 1 1 1 (.t 3), none, false, .unit⟩,
 ⟨.st 9 1 (.t 9) (.t 8) false, none, false, .unit⟩] false)
(.seq (.reg [⟨.fad 10 153 2 2 1 (.t 1), none, false, .unit⟩,
 ⟨.ld 11 2 1 false (.t 10) false, none, false, .unit⟩,
 ⟨.fad 12 164 2 2 1 (.t 3), none, false, .unit⟩,
 ⟨.st 2 1 (.t 12) (.t 11) false, none, false, .unit⟩] false)
(.seq (.reg [⟨.fad 13 153 3 3 3 (.t 1), none, false, .unit⟩,
 ⟨.ld 14 112 3 true (.t 13) false, none, false, .unit⟩,
 ⟨.call (some 15) 64 [(.t 14)] false, none, false, .unit⟩,
 ⟨.fad 16 164 3 3 3 (.t 3), none, false, .unit⟩,
 ⟨.st 123 3 (.t 16) (.t 15) false, none, false, .unit⟩] false)
(.seq (.reg [⟨.fad 17 153 4 6 1 (.t 1), none, false, .unit⟩,
 ⟨.ld 18 2 1 false (.t 17) false, none, false, .unit⟩,
 ⟨.fad 19 164 4 6 1 (.t 3), none, false, .unit⟩,
 ⟨.st 2 1 (.t 19) (.t 18) false, none, false, .unit⟩] false)
(.seq (.reg [⟨.fad 20 153 5 7 1 (.t 1), none, false, .unit⟩,
 ⟨.ld 21 2 1 false (.t 20) false, none, false, .unit⟩,
 ⟨.fad 22 164 5 7 1 (.t 3), none, false, .unit⟩,
 ⟨.st 2 1 (.t 22) (.t 21) false, none, false, .unit⟩] false)
(.seq (.reg [⟨.fad 23 153 6 8 1 (.t 1), none, false, .unit⟩,
 ⟨.ld 24 151 1 false (.t 23) false, none, false, .unit⟩,
 ⟨.call (some 25) 142 [(.t 24)] false, none, false, .unit⟩,
 ⟨.fad 26 164 6 8 1 (.t 3), none, false, .unit⟩,
 ⟨.st 162 1 (.t 26) (.t 25) false, none, false, .unit⟩] false)
(.seq (.reg [⟨.ld 27 164 9 true (.t 3) false, none, false, .unit⟩,
 ⟨.st 164 9 (.t 2) (.t 27) false, none, false, .unit⟩] false)
(.ret)))))))))), [.cell 2 164 9 true]⟩
theorem M96 : mkF Tryz.prog 96 A96 = some A96 := by kernel_rfl
def A41 : AF :=
⟨1, .seq (.reg [⟨.mv 2 (.k (.slice none 0 0)) false, none, false, .unit⟩] false)
(.seq (.reg [⟨.mv 5 (.t 0) false, none, false, .unit⟩,
 ⟨.len 6 false (.t 5), none, false, .unit⟩,
 ⟨.mks 7 45 9 [.string ⟨#[]⟩, .string ⟨#[]⟩, .int .i64 0, .string ⟨#[]⟩, .int .i64 0, .int .i64 0, .int .i64 0, .int .i64 0, .slice none 0 0] (.t 6) (.t 6) true, none, false, (.pair .str (.pair .str (.pair (.int .i64) (.pair (.pair .str (.pair (.int .i64) (.int .i64))) (.pair (.int .i64) (.pair (.int .i64) (.lst (.pair (.int .i64) (.pair (.int .i64) (.pair (.int .i64) (.int .i64)))))))))))⟩,
 ⟨.mv 3 (.t 7) false, none, false, .unit⟩] false)
(.seq (.seq (.reg [⟨.mv 4 (.k (.int .i64 0)) false, none, false, .unit⟩] false)
(.block 0 (.loop ⟨[.sl 0 (.c (.lst (.pair .str (.pair .str (.pair (.int .i64) (.pair (.pair .str (.pair (.int .i64) (.int .i64))) (.pair (.int .i64) (.pair (.int .i64) (.lst (.pair (.int .i64) (.pair (.int .i64) (.pair (.int .i64) (.int .i64))))))))))))), .sl 3 (.larr 7), .sl 4 (.c (.int .i64)), .lo 7 (.many (.pair .str (.pair .str (.pair (.int .i64) (.pair (.pair .str (.pair (.int .i64) (.int .i64))) (.pair (.int .i64) (.pair (.int .i64) (.lst (.pair (.int .i64) (.pair (.int .i64) (.pair (.int .i64) (.int .i64))))))))))))], 0⟩ [((.exit 0), ⟨[.sl 3 (.larr 7), .lo 7 (.many (.pair .str (.pair .str (.pair (.int .i64) (.pair (.pair .str (.pair (.int .i64) (.int .i64))) (.pair (.int .i64) (.pair (.int .i64) (.lst (.pair (.int .i64) (.pair (.int .i64) (.pair (.int .i64) (.int .i64))))))))))))], 0⟩)] (.seq (.seq (.reg [⟨.mv 8 (.t 4) false, none, false, .unit⟩,
 ⟨.mv 9 (.t 0) false, none, false, .unit⟩,
 ⟨.len 10 false (.t 9), none, false, .unit⟩,
 ⟨.bin 11 .lss 3 (.t 8) (.t 10), none, false, .unit⟩] false)
(.cond (.t 11) (.skip)
(.exit 0)))
(.seq (.block 1 (.reg [⟨.mv 14 (.t 3) false, none, false, .unit⟩,
 ⟨.mv 15 (.t 4) false, none, false, .unit⟩,
 ⟨.mv 16 (.t 0) false, none, false, .unit⟩,
 ⟨.mv 17 (.t 4) false, none, false, .unit⟩,
 ⟨.iad 18 29 9 (.t 16) (.t 17), none, false, .unit⟩,
 ⟨.ld 19 153 9 true (.t 18) false, none, false, .unit⟩,
 ⟨.call (some 20) 96 [(.t 19)] false, none, false, .unit⟩,
 ⟨.iad 21 45 9 (.t 14) (.t 15), none, false, .unit⟩,
 ⟨.st 164 9 (.t 21) (.t 20) false, none, false, .unit⟩] false))
(.reg [⟨.mv 12 (.t 4) false, none, false, .unit⟩,
 ⟨.bin 13 .add 3 (.t 12) (.k (.int .i64 1)), none, false, .unit⟩,
 ⟨.mv 4 (.t 13) false, none, false, .unit⟩] false))))))
(.seq (.reg [⟨.mv 22 (.t 3) false, none, false, .unit⟩,
 ⟨.mv 2 (.t 22) false, none, false, .unit⟩] false)
(.frz 7 (.scope [(.ret, ⟨[.sl 2 (.c (.lst (.pair .str (.pair .str (.pair (.int .i64) (.pair (.pair .str (.pair (.int .i64) (.int .i64))) (.pair (.int .i64) (.pair (.int .i64) (.lst (.pair (.int .i64) (.pair (.int .i64) (.pair (.int .i64) (.int .i64)))))))))))))], 0⟩)] .ret))))), [.tmp 2]⟩
theorem M41 : mkF Tryz.prog 41 A41 = some A41 := by kernel_rfl
def A97 : AF :=
⟨1, .seq (.reg [⟨.box 1 167 (.t 0) 0, none, false, .unit⟩,
 ⟨.alloc 2 101 [.int .i64 0, .int .i64 0, .int .i64 0, .int .i64 0, .int .i64 0] false, none, false, .unit⟩] false)
(.seq (.reg [⟨.alloc 3 101 [.int .i64 0, .int .i64 0, .int .i64 0, .int .i64 0, .int .i64 0] false, none, false, .unit⟩] false)
(.seq (.reg [⟨.fad 4 167 0 0 1 (.t 1), none, false, .unit⟩,
 ⟨.ld 5 2 1 false (.t 4) false, none, false, .unit⟩,
 ⟨.fad 6 101 0 0 1 (.t 3), none, false, .unit⟩,
 ⟨.st 2 1 (.t 6) (.t 5) false, none, false, .unit⟩] false)
(.seq (.reg [⟨.fad 7 167 1 1 1 (.t 1), none, false, .unit⟩,
 ⟨.ld 8 2 1 false (.t 7) false, none, false, .unit⟩,
 ⟨.fad 9 101 1 1 1 (.t 3), none, false, .unit⟩,
 ⟨.st 2 1 (.t 9) (.t 8) false, none, false, .unit⟩] false)
(.seq (.reg [⟨.fad 10 167 2 2 1 (.t 1), none, false, .unit⟩,
 ⟨.ld 11 2 1 false (.t 10) false, none, false, .unit⟩,
 ⟨.fad 12 101 2 2 1 (.t 3), none, false, .unit⟩,
 ⟨.st 2 1 (.t 12) (.t 11) false, none, false, .unit⟩] false)
(.seq (.reg [⟨.fad 13 167 3 3 1 (.t 1), none, false, .unit⟩,
 ⟨.ld 14 2 1 false (.t 13) false, none, false, .unit⟩,
 ⟨.fad 15 101 3 3 1 (.t 3), none, false, .unit⟩,
 ⟨.st 2 1 (.t 15) (.t 14) false, none, false, .unit⟩] false)
(.seq (.reg [⟨.fad 16 167 4 4 1 (.t 1), none, false, .unit⟩,
 ⟨.ld 17 2 1 false (.t 16) false, none, false, .unit⟩,
 ⟨.fad 18 101 4 4 1 (.t 3), none, false, .unit⟩,
 ⟨.st 2 1 (.t 18) (.t 17) false, none, false, .unit⟩] false)
(.seq (.reg [⟨.ld 19 101 5 true (.t 3) false, none, false, .unit⟩,
 ⟨.st 101 5 (.t 2) (.t 19) false, none, false, .unit⟩] false)
(.ret)))))))), [.cell 2 101 5 true]⟩
theorem M97 : mkF Tryz.prog 97 A97 = some A97 := by kernel_rfl
def A42 : AF :=
⟨1, .seq (.reg [⟨.mv 2 (.k (.slice none 0 0)) false, none, false, .unit⟩] false)
(.seq (.reg [⟨.mv 5 (.t 0) false, none, false, .unit⟩,
 ⟨.len 6 false (.t 5), none, false, .unit⟩,
 ⟨.mks 7 46 5 [.int .i64 0, .int .i64 0, .int .i64 0, .int .i64 0, .int .i64 0] (.t 6) (.t 6) true, none, false, (.pair (.int .i64) (.pair (.int .i64) (.pair (.int .i64) (.pair (.int .i64) (.int .i64)))))⟩,
 ⟨.mv 3 (.t 7) false, none, false, .unit⟩] false)
(.seq (.seq (.reg [⟨.mv 4 (.k (.int .i64 0)) false, none, false, .unit⟩] false)
(.block 0 (.loop ⟨[.sl 0 (.c (.lst (.pair (.int .i64) (.pair (.int .i64) (.pair (.int .i64) (.pair (.int .i64) (.int .i64))))))), .sl 3 (.larr 7), .sl 4 (.c (.int .i64)), .lo 7 (.many (.pair (.int .i64) (.pair (.int .i64) (.pair (.int .i64) (.pair (.int .i64) (.int .i64))))))], 0⟩ [((.exit 0), ⟨[.sl 3 (.larr 7), .lo 7 (.many (.pair (.int .i64) (.pair (.int .i64) (.pair (.int .i64) (.pair (.int .i64) (.int .i64))))))], 0⟩)] (.seq (.seq (.reg [⟨.mv 8 (.t 4) false, none, false, .unit⟩,
 ⟨.mv 9 (.t 0) false, none, false, .unit⟩,
 ⟨.len 10 false (.t 9), none, false, .unit⟩,
 ⟨.bin 11 .lss 3 (.t 8) (.t 10), none, false, .unit⟩] false)
(.cond (.t 11) (.skip)
(.exit 0)))
(.seq (.block 1 (.reg [⟨.mv 14 (.t 3) false, none, false, .unit⟩,
 ⟨.mv 15 (.t 4) false, none, false, .unit⟩,
 ⟨.mv 16 (.t 0) false, none, false, .unit⟩,
 ⟨.mv 17 (.t 4) false, none, false, .unit⟩,
 ⟨.iad 18 30 5 (.t 16) (.t 17), none, false, .unit⟩,
 ⟨.ld 19 167 5 true (.t 18) false, none, false, .unit⟩,
 ⟨.call (some 20) 97 [(.t 19)] false, none, false, .unit⟩,
 ⟨.iad 21 46 5 (.t 14) (.t 15), none, false, .unit⟩,
 ⟨.st 101 5 (.t 21) (.t 20) false, none, false, .unit⟩] false))
(.reg [⟨.mv 12 (.t 4) false, none, false, .unit⟩,
 ⟨.bin 13 .add 3 (.t 12) (.k (.int .i64 1)), none, false, .unit⟩,
 ⟨.mv 4 (.t 13) false, none, false, .unit⟩] false))))))
(.seq (.reg [⟨.mv 22 (.t 3) false, none, false, .unit⟩,
 ⟨.mv 2 (.t 22) false, none, false, .unit⟩] false)
(.frz 7 (.scope [(.ret, ⟨[.sl 2 (.c (.lst (.pair (.int .i64) (.pair (.int .i64) (.pair (.int .i64) (.pair (.int .i64) (.int .i64)))))))], 0⟩)] .ret))))), [.tmp 2]⟩
theorem M42 : mkF Tryz.prog 42 A42 = some A42 := by kernel_rfl
def A43 : AF :=
⟨1, .seq (.reg [⟨.box 1 32 (.t 0) 0, none, false, .unit⟩,
 ⟨.alloc 2 47 [.int .i64 0, .int .i64 0, .int .i64 0, .int .i64 0] false, none, false, .unit⟩] false)
(.seq (.reg [⟨.alloc 3 47 [.int .i64 0, .int .i64 0, .int .i64 0, .int .i64 0] false, none, false, .unit⟩] false)
(.seq (.reg [⟨.fad 4 32 0 0 1 (.t 1), none, false, .unit⟩,
 ⟨.ld 5 2 1 false (.t 4) false, none, false, .unit⟩,
 ⟨.fad 6 47 0 0 1 (.t 3), none, false, .unit⟩,
 ⟨.st 2 1 (.t 6) (.t 5) false, none, false, .unit⟩] false)
(.seq (.reg [⟨.fad 7 32 1 1 1 (.t 1), none, false, .unit⟩,
 ⟨.ld 8 2 1 false (.t 7) false, none, false, .unit⟩,
 ⟨.fad 9 47 1 1 1 (.t 3), none, false, .unit⟩,
 ⟨.st 2 1 (.t 9) (.t 8) false, none, false, .unit⟩] false)
(.seq (.reg [⟨.fad 10 32 2 2 1 (.t 1), none, false, .unit⟩,
 ⟨.ld 11 2 1 false (.t 10) false, none, false, .unit⟩,
 ⟨.fad 12 47 2 2 1 (.t 3), none, false, .unit⟩,
 ⟨.st 2 1 (.t 12) (.t 11) false, none, false, .unit⟩] false)
(.seq (.reg [⟨.fad 13 32 3 3 1 (.t 1), none, false, .unit⟩,
 ⟨.ld 14 2 1 false (.t 13) false, none, false, .unit⟩,
 ⟨.fad 15 47 3 3 1 (.t 3), none, false, .unit⟩,
 ⟨.st 2 1 (.t 15) (.t 14) false, none, false, .unit⟩] false)
(.seq (.reg [⟨.ld 16 47 4 true (.t 3) false, none, false, .unit⟩,
 ⟨.st 47 4 (.t 2) (.t 16) false, none, false, .unit⟩] false)
(.ret))))))), [.cell 2 47 4 true]⟩
theorem M43 : mkF Tryz.prog 43 A43 = some A43 := by kernel_rfl
def A10 : AF :=
⟨1, .seq (.reg [⟨.box 1 35 (.t 0) 0, none, false, .unit⟩,
 ⟨.alloc 2 49 [.int .i64 0, .int .i64 0, .slice none 0 0, .slice none 0 0, .slice none 0 0, .slice none 0 0, .slice none 0 0, .int .i64 0, .int .i64 0, .int .i64 0, .int .i64 0, .int .i64 0, .int .i64 0, .int .i64 0, .int .i64 0, .slice none 0 0, .slice none 0 0] false, none, false, .unit⟩] false)
(.seq (.reg [⟨.alloc 3 49 [.int .i64 0, .int .i64 0, .slice none 0 0, .slice none 0 0, .slice none 0 0, .slice none 0 0, .slice none 0 0, .int .i64 0, .int .i64 0, .int .i64 0, .int .i64 0, .int .i64 0, .int .i64 0, .int .i64 0, .int .i64 0, .slice none 0 0, .slice none 0 0] false, none, false, .unit⟩] false)
(.seq (.reg [⟨.fad 4 35 0 0 5 (.t 1), none, false, .unit⟩,
 ⟨.ld 5 28 5 true (.t 4) false, none, false, .unit⟩,
 ⟨.call (some 6) 40 [(.t 5)] false, none, false, .unit⟩,
 ⟨.fad 7 49 0 0 5 (.t 3), none, false, .unit⟩,
 ⟨.st 44 5 (.t 7) (.t 6) false, none, false, .unit⟩] false)
(.seq (.reg [⟨.fad 8 35 1 5 1 (.t 1), none, false, .unit⟩,
 ⟨.ld 9 29 1 false (.t 8) false, none, false, .unit⟩,
 ⟨.call (some 10) 41 [(.t 9)] false, none, false, .unit⟩,
 ⟨.fad 11 49 1 5 1 (.t 3), none, false, .unit⟩,
 ⟨.st 45 1 (.t 11) (.t 10) false, none, false, .unit⟩] false)
(.seq (.reg [⟨.fad 12 35 2 6 1 (.t 1), none, false, .unit⟩,
 ⟨.ld 13 30 1 false (.t 12) false, none, false, .unit⟩,
 ⟨.call (some 14) 42 [(.t 13)] false, none, false, .unit⟩,
 ⟨.fad 15 49 2 6 1 (.t 3), none, false, .unit⟩,
 ⟨.st 46 1 (.t 15) (.t 14) false, none, false, .unit⟩] false)
(.seq (.reg [⟨.fad 16 35 3 7 4 (.t 1), none, false, .unit⟩,
 ⟨.ld 17 32 4 true (.t 16) false, none, false, .unit⟩,
 ⟨.call (some 18) 43 [(.t 17)] false, none, false, .unit⟩,
 ⟨.fad 19 49 3 7 4 (.t 3), none, false, .unit⟩,
 ⟨.st 47 4 (.t 19) (.t 18) false, none, false, .unit⟩] false)
(.seq (.reg [⟨.fad 20 35 4 11 1 (.t 1), none, false, .unit⟩,
 ⟨.ld 21 2 1 false (.t 20) false, none, false, .unit⟩,
 ⟨.fad 22 49 4 11 1 (.t 3), none, false, .unit⟩,
 ⟨.st 2 1 (.t 22) (.t 21) false, none, false, .unit⟩] false)
(.seq (.reg [⟨.fad 23 35 5 12 1 (.t 1), none, false, .unit⟩,
 ⟨.ld 24 2 1 false (.t 23) false, none, false, .unit⟩,
 ⟨.fad 25 49 5 12 1 (.t 3), none, false, .unit⟩,
 ⟨.st 2 1 (.t 25) (.t 24) false, none, false, .unit⟩] false)
(.seq (.reg [⟨.fad 26 35 6 13 1 (.t 1), none, false, .unit⟩,
 ⟨.ld 27 2 1 false (.t 26) false, none, false, .unit⟩,
 ⟨.fad 28 49 6 13 1 (.t 3), none, false, .unit⟩,
 ⟨.st 2 1 (.t 28) (.t 27) false, none, false, .unit⟩] false)
(.seq (.reg [⟨.fad 29 35 7 14 1 (.t 1), none, false, .unit⟩,
 ⟨.ld 30 2 1 false (.t 29) false, none, false, .unit⟩,
 ⟨.fad 31 49 7 14 1 (.t 3), none, false, .unit⟩,
 ⟨.st 2 1 (.t 31) (.t 30) false, none, false, .unit⟩] false)
(.seq (.reg [⟨.fad 32 35 8 15 1 (.t 1), none, false, .unit⟩,
 ⟨.ld 33 33 1 false (.t 32) false, none, false, .unit⟩,
 ⟨.call (some 34) 44 [(.t 33)] false, none, false, .unit⟩,
 ⟨.fad 35 49 8 15 1 (.t 3), none, false, .unit⟩,
 ⟨.st 33 1 (.t 35) (.t 34) false, none, false, .unit⟩] false)
(.seq (.reg [⟨.fad 36 35 9 16 1 (.t 1), none, false, .unit⟩,
 ⟨.ld 37 33 1 false (.t 36) false, none, false, .unit⟩,
 ⟨.call (some 38) 44 [(.t 37)] false, none, false, .unit⟩,
 ⟨.fad 39 49 9 16 1 (.t 3), none, false, .unit⟩,
 ⟨.st 33 1 (.t 39) (.t 38) false, none, false, .unit⟩] false)
(.seq (.reg [⟨.ld 40 49 17 true (.t 3) false, none, false, .unit⟩,
 ⟨.st 49 17 (.t 2) (.t 40) false, none, false, .unit⟩] false)
(.ret))))))))))))), [.cell 2 49 17 true]⟩
theorem M10 : mkF Tryz.prog 10 A10 = some A10 := by kernel_rfl
def A130 : AF :=
⟨1, .seq (.reg [⟨.box 1 203 (.t 0) 0, none, false, .unit⟩,
 ⟨.alloc 2 209 [.string ⟨#[]⟩, .int .i64 0, .int .i64 0, .int .i64 0] false, none, false, .unit⟩] false)
(.seq (.reg [⟨.alloc 3 209 [.string ⟨#[]⟩, .int .i64 0, .int .i64 0, .int .i64 0] false, none, false, .unit⟩] false)
(.seq (.reg [⟨.fad 4 203 0 0 1 (.t 1), none, false, .unit⟩,
 ⟨.ld 5 9 1 false (.t 4) false, none, false, .unit⟩,
 ⟨.fad 6 209 0 0 1 (.t 3), none, false, .unit⟩,
 ⟨.st 9 1 (.t 6) (.t 5) false, none, false, .unit⟩] false)
(.seq (.reg [⟨.fad 7 203 1 1 1 (.t 1), none, false, .unit⟩,
 ⟨.ld 8 2 1 false (.t 7) false, none, false, .unit⟩,
 ⟨.fad 9 209 1 1 1 (.t 3), none, false, .unit⟩,
 ⟨.st 2 1 (.t 9) (.t 8) false, none, false, .unit⟩] false)
(.seq (.reg [⟨.fad 10 203 2 2 1 (.t 1), none, false, .unit⟩,
 ⟨.ld 11 2 1 false (.t 10) false, none, false, .unit⟩,
 ⟨.fad 12 209 2 2 1 (.t 3), none, false, .unit⟩,
 ⟨.st 2 1 (.t 12) (.t 11) false, none, false, .unit⟩] false)
(.seq (.reg [⟨.fad 13 203 3 3 1 (.t 1), none, false, .unit⟩,
 ⟨.ld 14 2 1 false (.t 13) false, none, false, .unit⟩,
 ⟨.fad 15 209 3 3 1 (.t 3), none, false, .unit⟩,
 ⟨.st 2 1 (.t 15) (.t 14) false, none, false, .unit⟩] false)
(.seq (.reg [⟨.ld 16 209 4 true (.t 3) false, none, false, .unit⟩,
 ⟨.st 209 4 (.t 2) (.t 16) false, none, false, .unit⟩] false)
(.ret))))))), [.cell 2 209 4 true]⟩
theorem M130 : mkF Tryz.prog 130 A130 = some A130 := by kernel_rfl
def A77 : AF :=
⟨1, .seq (.reg [⟨.mv 2 (.k (.slice none 0 0)) false, none, false, .unit⟩] false)
(.seq (.reg [⟨.mv 5 (.t 0) false, none, false, .unit⟩,
 ⟨.len 6 false (.t 5), none, false, .unit⟩,
 ⟨.mks 7 78 4 [.string ⟨#[]⟩, .int .i64 0, .int .i64 0, .int .i64 0] (.t 6) (.t 6) true, none, false, (.pair .str (.pair (.int .i64) (.pair (.int .i64) (.int .i64))))⟩,
 ⟨.mv 3 (.t 7) false, none, false, .unit⟩] false)
(.seq (.seq (.reg [⟨.mv 4 (.k (.int .i64 0)) false, none, false, .unit⟩] false)
(.block 0 (.loop ⟨[.sl 0 (.c (.lst (.pair .str (.pair (.int .i64) (.pair (.int .i64) (.int .i64)))))), .sl 3 (.larr 7), .sl 4 (.c (.int .i64)), .lo 7 (.many (.pair .str (.pair (.int .i64) (.pair (.int .i64) (.int .i64)))))], 0⟩ [((.exit 0), ⟨[.sl 3 (.larr 7), .lo 7 (.many (.pair .str (.pair (.int .i64) (.pair (.int .i64) (.int .i64)))))], 0⟩)] (.seq (.seq (.reg [⟨.mv 8 (.t 4) false, none, false, .unit⟩,
 ⟨.mv 9 (.t 0) false, none, false, .unit⟩,
 ⟨.len 10 false (.t 9), none, false, .unit⟩,
 ⟨.bin 11 .lss 3 (.t 8) (.t 10), none, false, .unit⟩] false)
(.cond (.t 11) (.skip)
(.exit 0)))
(.seq (.block 1 (.reg [⟨.mv 14 (.t 3) false, none, false, .unit⟩,
 ⟨.mv 15 (.t 4) false, none, false, .unit⟩,
 ⟨.mv 16 (.t 0) false, none, false, .unit⟩,
 ⟨.mv 17 (.t 4) false, none, false, .unit⟩,
 ⟨.iad 18 70 4 (.t 16) (.t 17), none, false, .unit⟩,
 ⟨.ld 19 203 4 true (.t 18) false, none, false, .unit⟩,
 ⟨.call (some 20) 130 [(.t 19)] false, none, false, .unit⟩,
 ⟨.iad 21 78 4 (.t 14) (.t 15), none, false, .unit⟩,
 ⟨.st 209 4 (.t 21) (.t 20) false, none, false, .unit⟩] false))
(.reg [⟨.mv 12 (.t 4) false, none, false, .unit⟩,
 ⟨.bin 13 .add 3 (.t 12) (.k (.int .i64 1)), none, false, .unit⟩,
 ⟨.mv 4 (.t 13) false, none, false, .unit⟩] false))))))
(.seq (.reg [⟨.mv 22 (.t 3) false, none, false, .unit⟩,
 ⟨.mv 2 (.t 22) false, none, false, .unit⟩] false)
(.frz 7 (.scope [(.ret, ⟨[.sl 2 (.c (.lst (.pair .str (.pair (.int .i64) (.pair (.int .i64) (.int .i64))))))], 0⟩)] .ret))))), [.tmp 2]⟩
theorem M77 : mkF Tryz.prog 77 A77 = some A77 := by kernel_rfl
def A131 : AF :=
⟨1, .seq (.reg [⟨.box 1 206 (.t 0) 0, none, false, .unit⟩,
 ⟨.alloc 2 211 [.string ⟨#[]⟩, .int .i64 0, .int .i64 0, .int .i64 0] false, none, false, .unit⟩] false)
(.seq (.reg [⟨.alloc 3 211 [.string ⟨#[]⟩, .int .i64 0, .int .i64 0, .int .i64 0] false, none, false, .unit⟩] false)
(.seq (.reg [⟨.fad 4 206 0 0 1 (.t 1), none, false, .unit⟩,
 ⟨.ld 5 9 1 false (.t 4) false, none, false, .unit⟩,
 ⟨.fad 6 211 0 0 1 (.t 3), none, false, .unit⟩,
 ⟨.st 9 1 (.t 6) (.t 5) false, none, false, .unit⟩] false)
(.seq (.reg [⟨.fad 7 206 1 1 1 (.t 1), none, false, .unit⟩,
 ⟨.ld 8 2 1 false (.t 7) false, none, false, .unit⟩,
 ⟨.fad 9 211 1 1 1 (.t 3), none, false, .unit⟩,
 ⟨.st 2 1 (.t 9) (.t 8) false, none, false, .unit⟩] false)
(.seq (.reg [⟨.fad 10 206 2 2 1 (.t 1), none, false, .unit⟩,
 ⟨.ld 11 2 1 false (.t 10) false, none, false, .unit⟩,
 ⟨.fad 12 211 2 2 1 (.t 3), none, false, .unit⟩,
 ⟨.st 2 1 (.t 12) (.t 11) false, none, false, .unit⟩] false)
(.seq (.reg [⟨.fad 13 206 3 3 1 (.t 1), none, false, .unit⟩,
 ⟨.ld 14 2 1 false (.t 13) false, none, false, .unit⟩,
 ⟨.fad 15 211 3 3 1 (.t 3), none, false, .unit⟩,
 ⟨.st 2 1 (.t 15) (.t 14) false, none, false, .unit⟩] false)
(.seq (.reg [⟨.ld 16 211 4 true (.t 3) false, none, false, .unit⟩,
 ⟨.st 211 4 (.t 2) (.t 16) false, none, false, .unit⟩] false)
(.ret))))))), [.cell 2 211 4 true]⟩
theorem M131 : mkF Tryz.prog 131 A131 = some A131 := by kernel_rfl
def A78 : AF :=
⟨1, .seq (.reg [⟨.mv 2 (.k (.slice none 0 0)) false, none, false, .unit⟩] false)
(.seq (.reg [⟨.mv 5 (.t 0) false, none, false, .unit⟩,
 ⟨.len 6 false (.t 5), none, false, .unit⟩,
 ⟨.mks 7 79 4 [.string ⟨#[]⟩, .int .i64 0, .int .i64 0, .int .i64 0] (.t 6) (.t 6) true, none, false, (.pair .str (.pair (.int .i64) (.pair (.int .i64) (.int .i64))))⟩,
 ⟨.mv 3 (.t 7) false, none, false, .unit⟩] false)
(.seq (.seq (.reg [⟨.mv 4 (.k (.int .i64 0)) false, none, false, .unit⟩] false)
(.block 0 (.loop ⟨[.sl 0 (.c (.lst (.pair .str (.pair (.int .i64) (.pair (.int .i64) (.int .i64)))))), .sl 3 (.larr 7), .sl 4 (.c (.int .i64)), .lo 7 (.many (.pair .str (.pair (.int .i64) (.pair (.int .i64) (.int .i64)))))], 0⟩ [((.exit 0), ⟨[.sl 3 (.larr 7), .lo 7 (.many (.pair .str (.pair (.int .i64) (.pair (.int .i64) (.int .i64)))))], 0⟩)] (.seq (.seq (.reg [⟨.mv 8 (.t 4) false, none, false, .unit⟩,
 ⟨.mv 9 (.t 0) false, none, false, .unit⟩,
 ⟨.len 10 false (.t 9), none, false, .unit⟩,
 ⟨.bin 11 .lss 3 (.t 8) (.t 10), none, false, .unit⟩] false)
(.cond (.t 11) (.skip)
(.exit 0)))
(.seq (.block 1 (.reg [⟨.mv 14 (.t 3) false, none, false, .unit⟩,
 ⟨.mv 15 (.t 4) false, none, false, .unit⟩,
 ⟨.mv 16 (.t 0) false, none, false, .unit⟩,
 ⟨.mv 17 (.t 4) false, none, false, .unit⟩,
 ⟨.iad 18 71 4 (.t 16) (.t 17), none, false, .unit⟩,
 ⟨.ld 19 206 4 true (.t 18) false, none, false, .unit⟩,
 ⟨.call (some 20) 131 [(.t 19)] false, none, false, .unit⟩,
 ⟨.iad 21 79 4 (.t 14) (.t 15), none, false, .unit⟩,
 ⟨.st 211 4 (.t 21) (.t 20) false, none, false, .unit⟩] false))
(.reg [⟨.mv 12 (.t 4) false, none, false, .unit⟩,
 ⟨.bin 13 .add 3 (.t 12) (.k (.int .i64 1)), none, false, .unit⟩,
 ⟨.mv 4 (.t 13) false, none, false, .unit⟩] false))))))
(.seq (.reg [⟨.mv 22 (.t 3) false, none, false, .unit⟩,
 ⟨.mv 2 (.t 22) false, none, false, .unit⟩] false)
(.frz 7 (.scope [(.ret, ⟨[.sl 2 (.c (.lst (.pair .str (.pair (.int .i64) (.pair (.int .i64) (.int .i64))))))], 0⟩)] .ret))))), [.tmp 2]⟩
theorem M78 : mkF Tryz.prog 78 A78 = some A78 := by kernel_rfl
def A79 : AF :=
⟨1, .seq (.reg [⟨.box 1 73 (.t 0) 0, none, false, .unit⟩,
 ⟨.alloc 2 80 [.int .i64 0, .int .i64 0, .int .i64 0, .int .i64 0, .int .i64 0] false, none, false, .unit⟩] false)
(.seq (.reg [⟨.alloc 3 80 [.int .i64 0, .int .i64 0, .int .i64 0, .int .i64 0, .int .i64 0] false, none, false, .unit⟩] false)
(.seq (.reg [⟨.fad 4 73 0 0 1 (.t 1), none, false, .unit⟩,
 ⟨.ld 5 2 1 false (.t 4) false, none, false, .unit⟩,
 ⟨.fad 6 80 0 0 1 (.t 3), none, false, .unit⟩,
 ⟨.st 2 1 (.t 6) (.t 5) false, none, false, .unit⟩] false)
(.seq (.reg [⟨.fad 7 73 1 1 1 (.t 1), none, false, .unit⟩,
 ⟨.ld 8 2 1 false (.t 7) false, none, false, .unit⟩,
 ⟨.fad 9 80 1 1 1 (.t 3), none, false, .unit⟩,
 ⟨.st 2 1 (.t 9) (.t 8) false, none, false, .unit⟩] false)
(.seq (.reg [⟨.fad 10 73 2 2 1 (.t 1), none, false, .unit⟩,
 ⟨.ld 11 2 1 false (.t 10) false, none, false, .unit⟩,
 ⟨.fad 12 80 2 2 1 (.t 3), none, false, .unit⟩,
 ⟨.st 2 1 (.t 12) (.t 11) false, none, false, .unit⟩] false)
(.seq (.reg [⟨.fad 13 73 3 3 1 (.t 1), none, false, .unit⟩,
 ⟨.ld 14 2 1 false (.t 13) false, none, false, .unit⟩,
 ⟨.fad 15 80 3 3 1 (.t 3), none, false, .unit⟩,
 ⟨.st 2 1 (.t 15) (.t 14) false, none, false, .unit⟩] false)
(.seq (.reg [⟨.fad 16 73 4 4 1 (.t 1), none, false, .unit⟩,
 ⟨.ld 17 2 1 false (.t 16) false, none, false, .unit⟩,
 ⟨.fad 18 80 4 4 1 (.t 3), none, false, .unit⟩,
 ⟨.st 2 1 (.t 18) (.t 17) false, none, false, .unit⟩] false)
(.seq (.reg [⟨.ld 19 80 5 true (.t 3) false, none, false, .unit⟩,
 ⟨.st 80 5 (.t 2) (.t 19) false, none, false, .unit⟩] false)
(.ret)))))))), [.cell 2 80 5 true]⟩
theorem M79 : mkF Tryz.prog 79 A79 = some A79 := by kernel_rfl
def A32 : AF :=
⟨1, .seq (.reg [⟨.box 1 75 (.t 0) 0, none, false, .unit⟩,
 ⟨.alloc 2 82 [.int .i64 0, .int .i64 0, .slice none 0 0, .slice none 0 0, .slice none 0 0, .slice none 0 0, .slice none 0 0, .int .i64 0, .int .i64 0, .int .i64 0, .int .i64 0, .int .i64 0, .int .i64 0, .int .i64 0, .int .i64 0, .slice none 0 0, .slice none 0 0, .slice none 0 0, .slice none 0 0, .int .i64 0, .int .i64 0, .int .i64 0, .int .i64 0, .int .i64 0] false, none, false, .unit⟩] false)
(.seq (.reg [⟨.alloc 3 82 [.int .i64 0, .int .i64 0, .slice none 0 0, .slice none 0 0, .slice none 0 0, .slice none 0 0, .slice none 0 0, .int .i64 0, .int .i64 0, .int .i64 0, .int .i64 0, .int .i64 0, .int .i64 0, .int .i64 0, .int .i64 0, .slice none 0 0, .slice none 0 0, .slice none 0 0, .slice none 0 0, .int .i64 0, .int .i64 0, .int .i64 0, .int .i64 0, .int .i64 0] false, none, false, .unit⟩] false)
(.seq (.reg [⟨.fad 4 75 0 0 17 (.t 1), none, false, .unit⟩,
 ⟨.ld 5 35 17 true (.t 4) false, none, false, .unit⟩,
 ⟨.call (some 6) 10 [(.t 5)] false, none, false, .unit⟩,
 ⟨.fad 7 82 0 0 17 (.t 3), none, false, .unit⟩,
 ⟨.st 49 17 (.t 7) (.t 6) false, none, false, .unit⟩] false)
(.seq (.reg [⟨.fad 8 75 1 17 1 (.t 1), none, false, .unit⟩,
 ⟨.ld 9 70 1 false (.t 8) false, none, false, .unit⟩,
 ⟨.call (some 10) 77 [(.t 9)] false, none, false, .unit⟩,
 ⟨.fad 11 82 1 17 1 (.t 3), none, false, .unit⟩,
 ⟨.st 78 1 (.t 11) (.t 10) false, none, false, .unit⟩] false)
(.seq (.reg [⟨.fad 12 75 2 18 1 (.t 1), none, false, .unit⟩,
 ⟨.ld 13 71 1 false (.t 12) false, none, false, .unit⟩,
 ⟨.call (some 14) 78 [(.t 13)] false, none, false, .unit⟩,
 ⟨.fad 15 82 2 18 1 (.t 3), none, false, .unit⟩,
 ⟨.st 79 1 (.t 15) (.t 14) false, none, false, .unit⟩] false)
(.seq (.reg [⟨.fad 16 75 3 19 5 (.t 1), none, false, .unit⟩,
 ⟨.ld 17 73 5 true (.t 16) false, none, false, .unit⟩,
 ⟨.call (some 18) 79 [(.t 17)] false, none, false, .unit⟩,
 ⟨.fad 19 82 3 19 5 (.t 3), none, false, .unit⟩,
 ⟨.st 80 5 (.t 19) (.t 18) false, none, false, .unit⟩] false)
(.seq (.reg [⟨.ld 20 82 24 true (.t 3) false, none, false, .unit⟩,
 ⟨.st 82 24 (.t 2) (.t 20) false, none, false, .unit⟩] false)
(.ret))))))), [.cell 2 82 24 true]⟩
theorem M32 : mkF Tryz.prog 32 A32 = some A32 := by kernel_rfl
def A108 : AF :=
⟨3, .seq (.reg [⟨.mv 6 (.k (.bool false)) false, none, false, .unit⟩] false)
(.seq (.reg [⟨.mv 7 (.t 0) false, none, false, .unit⟩,
 ⟨.mv 8 (.t 1) false, none, false, .unit⟩,
 ⟨.bin 9 .geq 2 (.t 7) (.t 8), none, false, .unit⟩,
 ⟨.mv 10 (.t 9) false, none, false, .unit⟩,
 ⟨.mv 11 (.t 0) false, some (10, true), false, .unit⟩,
 ⟨.mv 12 (.t 2) false, some (10, true), false, .unit⟩,
 ⟨.bin 13 .leq 2 (.t 11) (.t 12), some (10, true), false, .unit⟩,
 ⟨.pick 14 (.t 10) (.t 13) (.k (.bool false)), none, false, .unit⟩,
 ⟨.mv 6 (.t 14) false, none, false, .unit⟩] false)
(.ret)), [.tmp 6]⟩
theorem M108 : mkF Tryz.prog 108 A108 = some A108 := by kernel_rfl
def A155 : AF :=
⟨1, .seq (.reg [⟨.mv 2 (.k (.bool false)) false, none, false, .unit⟩] false)
(.seq (.seq (.reg [⟨.mv 5 (.t 0) false, none, false, .unit⟩,
 ⟨.nilc 6 (.t 5), none, false, .unit⟩,
 ⟨.fad 7 41 2 2 1 (.t 6), none, false, .unit⟩,
 ⟨.ld 8 38 1 false (.t 7) false, none, false, .unit⟩,
 ⟨.len 9 false (.t 8), none, false, .unit⟩,
 ⟨.bin 10 .gtr 3 (.t 9) (.k (.int .i64 48)), none, false, .unit⟩] false)
(.cond (.t 10) (.seq (.reg [⟨.mv 2 (.k (.bool false)) false, none, false, .unit⟩] false)
(.ret))
(.skip)))
(.seq (.seq (.reg [⟨.mv 3 (.k (.int .i64 0)) false, none, false, .unit⟩] false)
(.block 0 (.loop ⟨[.sl 0 (.c (.pim (.pair (.int .i64) (.pair (.int .i64) (.pair (.lst (.pair (.int .i64) (.int .i64))) (.lst (.pair .str (.lst (.int .i64))))))))), .sl 3 (.c (.int .i64))], 0⟩ [((.exit 0), ⟨[], 0⟩), (.ret, ⟨[.sl 2 (.c .bool)], 0⟩)] (.seq (.seq (.reg [⟨.mv 11 (.t 3) false, none, false, .unit⟩,
 ⟨.mv 12 (.t 0) false, none, false, .unit⟩,
 ⟨.nilc 13 (.t 12), none, false, .unit⟩,
 ⟨.fad 14 41 2 2 1 (.t 13), none, false, .unit⟩,
 ⟨.ld 15 38 1 false (.t 14) false, none, false, .unit⟩,
 ⟨.len 16 false (.t 15), none, false, .unit⟩,
 ⟨.bin 17 .lss 3 (.t 11) (.t 16), none, false, .unit⟩] false)
(.cond (.t 17) (.skip)
(.exit 0)))
(.seq (.block 1 (.seq (.seq (.reg [⟨.mv 20 (.t 0) false, none, true, .unit⟩,
 ⟨.nilc 21 (.t 20), none, true, .unit⟩,
 ⟨.fad 22 41 2 2 1 (.t 21), none, true, .unit⟩,
 ⟨.ld 23 38 1 false (.t 22) false, none, true, .unit⟩,
 ⟨.mv 24 (.t 3) false, none, true, .unit⟩,
 ⟨.iad 25 38 2 (.t 23) (.t 24), none, true, .unit⟩,
 ⟨.fad 26 184 0 0 1 (.t 25), none, true, .unit⟩,
 ⟨.ld 27 2 1 false (.t 26) false, none, true, .unit⟩,
 ⟨.mv 28 (.t 0) false, none, true, .unit⟩,
 ⟨.nilc 29 (.t 28), none, true, .unit⟩,
 ⟨.fad 30 41 0 0 1 (.t 29), none, true, .unit⟩,
 ⟨.ld 31 2 1 false (.t 30) false, none, true, .unit⟩,
 ⟨.call (some 32) 108 [(.t 27), (.k (.int .i64 0)), (.t 31)] false, none, true, .unit⟩,
 ⟨.un 33 .not (.t 32), none, true, .unit⟩,
 ⟨.mv 34 (.t 33) false, none, true, .unit⟩,
 ⟨.mv 35 (.t 0) false, some (34, false), true, .unit⟩,
 ⟨.nilc 36 (.t 35), some (34, false), true, .unit⟩,
 ⟨.fad 37 41 2 2 1 (.t 36), some (34, false), true, .unit⟩,
 ⟨.ld 38 38 1 false (.t 37) false, some (34, false), true, .unit⟩,
 ⟨.mv 39 (.t 3) false, some (34, false), true, .unit⟩,
 ⟨.iad 40 38 2 (.t 38) (.t 39), some (34, false), true, .unit⟩,
 ⟨.fad 41 184 1 1 1 (.t 40), some (34, false), true, .unit⟩,
 ⟨.ld 42 2 1 false (.t 41) false, some (34, false), true, .unit⟩,
 ⟨.mv 43 (.t 0) false, some (34, false), true, .unit⟩,
 ⟨.nilc 44 (.t 43), some (34, false), true, .unit⟩,
 ⟨.fad 45 41 1 1 1 (.t 44), some (34, false), true, .unit⟩,
 ⟨.ld 46 2 1 false (.t 45) false, some (34, false), true, .unit⟩,
 ⟨.call (some 47) 108 [(.t 42), (.k (.int .i64 0)), (.t 46)] false, some (34, false), true, .unit⟩,
 ⟨.un 48 .not (.t 47), some (34, false), true, .unit⟩,
 ⟨.pick 49 (.t 34) (.k (.bool true)) (.t 48), none, true, .unit⟩] true)
(.cond (.t 49) (.seq (.reg [⟨.mv 2 (.k (.bool false)) false, none, false, .unit⟩] false)
(.ret))
(.skip)))
(.seq (.reg [⟨.mv 4 (.k (.int .i64 0)) false, none, false, .unit⟩] false)
(.block 2 (.loop ⟨[.sl 0 (.c (.pim (.pair (.int .i64) (.pair (.int .i64) (.pair (.lst (.pair (.int .i64) (.int .i64))) (.lst (.pair .str (.lst (.int .i64))))))))), .sl 3 (.c (.int .i64)), .sl 4 (.c (.int .i64))], 0⟩ [((.exit 2), ⟨[.sl 0 (.c (.pim (.pair (.int .i64) (.pair (.int .i64) (.pair (.lst (.pair (.int .i64) (.int .i64))) (.lst (.pair .str (.lst (.int .i64))))))))), .sl 3 (.c (.int .i64))], 0⟩), (.ret, ⟨[.sl 2 (.c .bool)], 0⟩)] (.seq (.seq (.reg [⟨.mv 50 (.t 4) false, none, false, .unit⟩,
 ⟨.mv 51 (.t 3) false, none, false, .unit⟩,
 ⟨.bin 52 .lss 3 (.t 50) (.t 51), none, false, .unit⟩] false)
(.cond (.t 52) (.skip)
(.exit 2)))
(.seq (.block 3 (.seq (.reg [⟨.mv 55 (.t 0) false, none, true, .unit⟩,
 ⟨.nilc 56 (.t 55), none, true, .unit⟩,
 ⟨.fad 57 41 2 2 1 (.t 56), none, true, .unit⟩,
 ⟨.ld 58 38 1 false (.t 57) false, none, true, .unit⟩,
 ⟨.mv 59 (.t 3) false, none, true, .unit⟩,
 ⟨.iad 60 38 2 (.t 58) (.t 59), none, true, .unit⟩,
 ⟨.ld 61 184 2 true (.t 60) false, none, true, .unit⟩,
 ⟨.mv 62 (.t 0) false, none, true, .unit⟩,
 ⟨.nilc 63 (.t 62), none, true, .unit⟩,
 ⟨.fad 64 41 2 2 1 (.t 63), none, true, .unit⟩,
 ⟨.ld 65 38 1 false (.t 64) false, none, true, .unit⟩,
 ⟨.mv 66 (.t 4) false, none, true, .unit⟩,
 ⟨.iad 67 38 2 (.t 65) (.t 66), none, true, .unit⟩,
 ⟨.ld 68 184 2 true (.t 67) false, none, true, .unit⟩,
 ⟨.bin 69 .eql 184 (.t 61) (.t 68), none, true, .unit⟩] true)
(.cond (.t 69) (.seq (.reg [⟨.mv 2 (.k (.bool false)) false, none, false, .unit⟩] false)
(.ret))
(.skip))))
(.reg [⟨.mv 53 (.t 4) false, none, false, .unit⟩,
 ⟨.bin 54 .add 3 (.t 53) (.k (.int .i64 1)), none, false, .unit⟩,
 ⟨.mv 4 (.t 54) false, none, false, .unit⟩] false))))))))
(.reg [⟨.mv 18 (.t 3) false, none, false, .unit⟩,
 ⟨.bin 19 .add 3 (.t 18) (.k (.int .i64 1)), none, false, .unit⟩,
 ⟨.mv 3 (.t 19) false, none, false, .unit⟩] false))))))
(.seq (.reg [⟨.mv 2 (.k (.bool true)) false, none, false, .unit⟩] false)
(.ret)))), [.tmp 2]⟩
theorem M155 : mkF Tryz.prog 155 A155 = some A155 := by kernel_rfl
def A183 : AF :=
⟨1, .seq (.reg [⟨.mv 2 (.k (.bool false)) false, none, false, .unit⟩] false)
(.seq (.reg [⟨.mv 3 (.t 0) false, none, false, .unit⟩,
 ⟨.bin 4 .geq 5 (.t 3) (.k (.int .u8 97)), none, false, .unit⟩,
 ⟨.mv 5 (.t 4) false, none, false, .unit⟩,
 ⟨.mv 6 (.t 0) false, some (5, true), false, .unit⟩,
 ⟨.bin 7 .leq 5 (.t 6) (.k (.int .u8 122)), some (5, true), false, .unit⟩,
 ⟨.pick 8 (.t 5) (.t 7) (.k (.bool false)), none, false, .unit⟩,
 ⟨.mv 2 (.t 8) false, none, false, .unit⟩] false)
(.ret)), [.tmp 2]⟩
theorem M183 : mkF Tryz.prog 183 A183 = some A183 := by kernel_rfl
def A184 : AF :=
⟨1, .seq (.reg [⟨.mv 2 (.k (.bool false)) false, none, false, .unit⟩] false)
(.seq (.reg [⟨.mv 3 (.t 0) false, none, false, .unit⟩,
 ⟨.bin 4 .geq 5 (.t 3) (.k (.int .u8 48)), none, false, .unit⟩,
 ⟨.mv 5 (.t 4) false, none, false, .unit⟩,
 ⟨.mv 6 (.t 0) false, some (5, true), false, .unit⟩,
 ⟨.bin 7 .leq 5 (.t 6) (.k (.int .u8 57)), some (5, true), false, .unit⟩,
 ⟨.pick 8 (.t 5) (.t 7) (.k (.bool false)), none, false, .unit⟩,
 ⟨.mv 2 (.t 8) false, none, false, .unit⟩] false)
(.ret)), [.tmp 2]⟩
theorem M184 : mkF Tryz.prog 184 A184 = some A184 := by kernel_rfl
def A156 : AF :=
⟨1, .seq (.reg [⟨.mv 2 (.k (.bool false)) false, none, false, .unit⟩] false)
(.seq (.seq (.reg [⟨.mv 4 (.t 0) false, none, false, .unit⟩,
 ⟨.bin 5 .eql 9 (.t 4) (.k (.string ⟨#[]⟩)), none, false, .unit⟩,
 ⟨.mv 6 (.t 5) false, none, false, .unit⟩,
 ⟨.mv 7 (.t 0) false, some (6, false), false, .unit⟩,
 ⟨.len 8 true (.t 7), some (6, false), false, .unit⟩,
 ⟨.bin 9 .gtr 3 (.t 8) (.k (.int .i64 10)), some (6, false), false, .unit⟩,
 ⟨.pick 10 (.t 6) (.k (.bool true)) (.t 9), none, false, .unit⟩,
 ⟨.mv 11 (.t 10) false, none, false, .unit⟩,
 ⟨.mv 12 (.t 0) false, some (11, false), false, .unit⟩,
 ⟨.idx 13 9 (.t 12) (.k (.int .i64 0)), some (11, false), false, .unit⟩,
 ⟨.call (some 14) 183 [(.t 13)] false, some (11, false), false, .unit⟩,
 ⟨.un 15 .not (.t 14), some (11, false), false, .unit⟩,
 ⟨.pick 16 (.t 11) (.k (.bool true)) (.t 15), none, false, .unit⟩] false)
(.cond (.t 16) (.seq (.reg [⟨.mv 2 (.k (.bool false)) false, none, false, .unit⟩] false)
(.ret))
(.skip)))
(.seq (.seq (.reg [⟨.mv 3 (.k (.int .i64 0)) false, none, false, .unit⟩] false)
(.block 0 (.loop ⟨[.sl 0 (.c .str), .sl 3 (.c (.int .i64))], 0⟩ [((.exit 0), ⟨[], 0⟩), (.ret, ⟨[.sl 2 (.c .bool)], 0⟩)] (.seq (.seq (.reg [⟨.mv 17 (.t 3) false, none, false, .unit⟩,
 ⟨.mv 18 (.t 0) false, none, false, .unit⟩,
 ⟨.len 19 true (.t 18), none, false, .unit⟩,
 ⟨.bin 20 .lss 3 (.t 17) (.t 19), none, false, .unit⟩] false)
(.cond (.t 20) (.skip)
(.exit 0)))
(.seq (.block 1 (.seq (.reg [⟨.mv 23 (.t 0) false, none, false, .unit⟩,
 ⟨.mv 24 (.t 3) false, none, false, .unit⟩,
 ⟨.idx 25 9 (.t 23) (.t 24), none, false, .unit⟩,
 ⟨.call (some 26) 183 [(.t 25)] false, none, false, .unit⟩,
 ⟨.un 27 .not (.t 26), none, false, .unit⟩,
 ⟨.mv 28 (.t 27) false, none, false, .unit⟩,
 ⟨.mv 29 (.t 0) false, some (28, true), false, .unit⟩,
 ⟨.mv 30 (.t 3) false, some (28, true), false, .unit⟩,
 ⟨.idx 31 9 (.t 29) (.t 30), some (28, true), false, .unit⟩,
 ⟨.call (some 32) 184 [(.t 31)] false, some (28, true), false, .unit⟩,
 ⟨.un 33 .not (.t 32), some (28, true), false, .unit⟩,
 ⟨.pick 34 (.t 28) (.t 33) (.k (.bool false)), none, false, .unit⟩] false)
(.cond (.t 34) (.seq (.reg [⟨.mv 2 (.k (.bool false)) false, none, false, .unit⟩] false)
(.ret))
(.skip))))
(.reg [⟨.mv 21 (.t 3) false, none, false, .unit⟩,
 ⟨.bin 22 .add 3 (.t 21) (.k (.int .i64 1)), none, false, .unit⟩,
 ⟨.mv 3 (.t 22) false, none, false, .unit⟩] false))))))
(.seq (.reg [⟨.mv 2 (.k (.bool true)) false, none, false, .unit⟩] false)
(.ret)))), [.tmp 2]⟩
theorem M156 : mkF Tryz.prog 156 A156 = some A156 := by kernel_rfl
def A157 : AF :=
⟨2, .seq (.reg [⟨.mv 4 (.k (.slice none 0 0)) false, none, false, .unit⟩,
 ⟨.mv 5 (.k (.bool false)) false, none, false, .unit⟩] false)
(.seq (.reg [⟨.bsl 8 38 2 [.int .i64 0, .int .i64 0] 0 [], none, false, (.pair (.int .i64) (.int .i64))⟩,
 ⟨.mv 6 (.t 8) true, none, false, .unit⟩] false)
(.seq (.seq (.reg [⟨.mv 7 (.k (.int .i64 0)) false, none, false, .unit⟩] false)
(.block 0 (.loop ⟨[.sl 0 (.c (.pim (.pair (.int .i64) (.pair (.int .i64) (.pair (.lst (.pair (.int .i64) (.int .i64))) (.lst (.pair .str (.lst (.int .i64))))))))), .sl 1 (.c (.lst (.int .i64))), .sl 6 (.own (.pair (.int .i64) (.int .i64))), .sl 7 (.c (.int .i64))], 0⟩ [((.exit 0), ⟨[.sl 6 (.own (.pair (.int .i64) (.int .i64)))], 0⟩), (.ret, ⟨[.sl 4 (.own (.pair (.int .i64) (.int .i64))), .sl 5 (.c .bool)], 0⟩)] (.seq (.seq (.reg [⟨.mv 9 (.t 7) false, none, false, .unit⟩,
 ⟨.mv 10 (.t 1) false, none, false, .unit⟩,
 ⟨.len 11 false (.t 10), none, false, .unit⟩,
 ⟨.bin 12 .lss 3 (.t 9) (.t 11), none, false, .unit⟩] false)
(.cond (.t 12) (.skip)
(.exit 0)))
(.seq (.block 1 (.seq (.seq (.reg [⟨.mv 15 (.t 1) false, none, true, .unit⟩,
 ⟨.mv 16 (.t 7) false, none, true, .unit⟩,
 ⟨.iad 17 33 1 (.t 15) (.t 16), none, true, .unit⟩,
 ⟨.ld 18 2 1 false (.t 17) false, none, true, .unit⟩,
 ⟨.mv 19 (.t 0) false, none, true, .unit⟩,
 ⟨.nilc 20 (.t 19), none, true, .unit⟩,
 ⟨.fad 21 41 2 2 1 (.t 20), none, true, .unit⟩,
 ⟨.ld 22 38 1 false (.t 21) false, none, true, .unit⟩,
 ⟨.len 23 false (.t 22), none, true, .unit⟩,
 ⟨.bin 24 .sub 2 (.t 23) (.k (.int .i64 1)), none, true, .unit⟩,
 ⟨.call (some 25) 108 [(.t 18), (.k (.int .i64 0)), (.t 24)] false, none, true, .unit⟩,
 ⟨.un 26 .not (.t 25), none, true, .unit⟩] true)
(.cond (.t 26) (.seq (.reg [⟨.mv 4 (.k (.slice none 0 0)) false, none, false, .unit⟩,
 ⟨.mv 5 (.k (.bool false)) false, none, false, .unit⟩] false)
(.ret))
(.skip)))
(.reg [⟨.mv 27 (.t 6) true, none, false, .unit⟩,
 ⟨.mv 28 (.t 0) false, none, true, .unit⟩,
 ⟨.nilc 29 (.t 28), none, true, .unit⟩,
 ⟨.fad 30 41 2 2 1 (.t 29), none, true, .unit⟩,
 ⟨.ld 31 38 1 false (.t 30) false, none, true, .unit⟩,
 ⟨.mv 32 (.t 1) false, none, true, .unit⟩,
 ⟨.mv 33 (.t 7) false, none, true, .unit⟩,
 ⟨.iad 34 33 1 (.t 32) (.t 33), none, true, .unit⟩,
 ⟨.ld 35 2 1 false (.t 34) false, none, true, .unit⟩,
 ⟨.iad 36 38 2 (.t 31) (.t 35), none, true, .unit⟩,
 ⟨.ld 37 184 2 true (.t 36) false, none, true, .unit⟩,
 ⟨.bsl 38 38 2 [.int .i64 0, .int .i64 0] 1 [(0, (.t 37))], none, true, (.pair (.int .i64) (.int .i64))⟩,
 ⟨.app 39 38 2 (.t 27) (.t 38), none, true, (.pair (.int .i64) (.int .i64))⟩,
 ⟨.mv 6 (.t 39) true, none, false, .unit⟩] true)))
(.reg [⟨.mv 13 (.t 7) false, none, false, .unit⟩,
 ⟨.bin 14 .add 3 (.t 13) (.k (.int .i64 1)), none, false, .unit⟩,
 ⟨.mv 7 (.t 14) false, none, false, .unit⟩] false))))))
(.seq (.reg [⟨.mv 40 (.t 6) true, none, false, .unit⟩,
 ⟨.mv 4 (.t 40) true, none, false, .unit⟩,
 ⟨.mv 5 (.k (.bool true)) false, none, false, .unit⟩] false)
(.ret)))), [.tmp 4, .tmp 5]⟩
theorem M157 : mkF Tryz.prog 157 A157 = some A157 := by kernel_rfl
def A185 : AF :=
⟨1, .seq (.reg [⟨.box 1 184 (.t 0) 0, none, false, .unit⟩,
 ⟨.mv 2 (.k (.bool false)) false, none, false, .unit⟩] false)
(.seq (.reg [⟨.fad 3 184 0 0 1 (.t 1), none, false, .unit⟩,
 ⟨.ld 4 2 1 false (.t 3) false, none, false, .unit⟩,
 ⟨.call (some 5) 108 [(.t 4), (.k (.int .i64 0)), (.k (.int .i64 20000))] false, none, false, .unit⟩,
 ⟨.mv 6 (.t 5) false, none, false, .unit⟩,
 ⟨.fad 7 184 1 1 1 (.t 1), some (6, true), false, .unit⟩,
 ⟨.ld 8 2 1 false (.t 7) false, some (6, true), false, .unit⟩,
 ⟨.call (some 9) 108 [(.t 8), (.k (.int .i64 0)), (.k (.int .i64 20000))] false, some (6, true), false, .unit⟩,
 ⟨.pick 10 (.t 6) (.t 9) (.k (.bool false)), none, false, .unit⟩,
 ⟨.mv 2 (.t 10) false, none, false, .unit⟩] false)
(.ret)), [.tmp 2]⟩
theorem M185 : mkF Tryz.prog 185 A185 = some A185 := by kernel_rfl
def A218 : AF :=
⟨3, .seq (.reg [⟨.box 3 184 (.t 0) 0, none, false, .unit⟩,
 ⟨.box 4 184 (.t 1) 0, none, false, .unit⟩,
 ⟨.box 5 184 (.t 2) 0, none, false, .unit⟩,
 ⟨.mv 6 (.k (.int .i64 0)) false, none, false, .unit⟩] false)
(.seq (.reg [⟨.fad 7 184 0 0 1 (.t 4), none, false, .unit⟩,
 ⟨.ld 8 2 1 false (.t 7) false, none, false, .unit⟩,
 ⟨.fad 9 184 0 0 1 (.t 3), none, false, .unit⟩,
 ⟨.ld 10 2 1 false (.t 9) false, none, false, .unit⟩,
 ⟨.bin 11 .sub 2 (.t 8) (.t 10), none, false, .unit⟩,
 ⟨.fad 12 184 1 1 1 (.t 5), none, false, .unit⟩,
 ⟨.ld 13 2 1 false (.t 12) false, none, false, .unit⟩,
 ⟨.fad 14 184 1 1 1 (.t 3), none, false, .unit⟩,
 ⟨.ld 15 2 1 false (.t 14) false, none, false, .unit⟩,
 ⟨.bin 16 .sub 2 (.t 13) (.t 15), none, false, .unit⟩,
 ⟨.bin 17 .mul 2 (.t 11) (.t 16), none, false, .unit⟩,
 ⟨.fad 18 184 1 1 1 (.t 4), none, false, .unit⟩,
 ⟨.ld 19 2 1 false (.t 18) false, none, false, .unit⟩,
 ⟨.fad 20 184 1 1 1 (.t 3), none, false, .unit⟩,
 ⟨.ld 21 2 1 false (.t 20) false, none, false, .unit⟩,
 ⟨.bin 22 .sub 2 (.t 19) (.t 21), none, false, .unit⟩,
 ⟨.fad 23 184 0 0 1 (.t 5), none, false, .unit⟩,
 ⟨.ld 24 2 1 false (.t 23) false, none, false, .unit⟩,
 ⟨.fad 25 184 0 0 1 (.t 3), none, false, .unit⟩,
 ⟨.ld 26 2 1 false (.t 25) false, none, false, .unit⟩,
 ⟨.bin 27 .sub 2 (.t 24) (.t 26), none, false, .unit⟩,
 ⟨.bin 28 .mul 2 (.t 22) (.t 27), none, false, .unit⟩,
 ⟨.bin 29 .sub 2 (.t 17) (.t 28), none, false, .unit⟩,
 ⟨.mv 6 (.t 29) false, none, false, .unit⟩] false)
(.ret)), [.tmp 6]⟩
theorem M218 : mkF Tryz.prog 218 A218 = some A218 := by kernel_rfl
def A209 : AF :=
⟨3, .seq (.reg [⟨.box 3 184 (.t 0) 0, none, false, .unit⟩,
 ⟨.box 4 184 (.t 1) 0, none, false, .unit⟩,
 ⟨.box 5 184 (.t 2) 0, none, false, .unit⟩,
 ⟨.mv 6 (.k (.int .i64 0)) false, none, false, .unit⟩] false)
(.seq (.reg [⟨.ld 8 184 2 true (.t 3) false, none, false, .unit⟩,
 ⟨.ld 9 184 2 true (.t 4) false, none, false, .unit⟩,
 ⟨.ld 10 184 2 true (.t 5) false, none, false, .unit⟩,
 ⟨.call (some 11) 218 [(.t 8), (.t 9), (.t 10)] false, none, false, .unit⟩,
 ⟨.mv 7 (.t 11) false, none, false, .unit⟩] false)
(.seq (.seq (.reg [⟨.mv 12 (.t 7) false, none, false, .unit⟩,
 ⟨.bin 13 .gtr 2 (.t 12) (.k (.int .i64 0)), none, false, .unit⟩] false)
(.cond (.t 13) (.seq (.reg [⟨.mv 6 (.k (.int .i64 1)) false, none, false, .unit⟩] false)
(.ret))
(.skip)))
(.seq (.seq (.reg [⟨.mv 14 (.t 7) false, none, false, .unit⟩,
 ⟨.bin 15 .lss 2 (.t 14) (.k (.int .i64 0)), none, false, .unit⟩] false)
(.cond (.t 15) (.seq (.reg [⟨.mv 6 (.k (.int .i64 (-1))) false, none, false, .unit⟩] false)
(.ret))
(.skip)))
(.seq (.reg [⟨.mv 6 (.k (.int .i64 0)) false, none, false, .unit⟩] false)
(.ret))))), [.tmp 6]⟩
theorem M209 : mkF Tryz.prog 209 A209 = some A209 := by kernel_rfl
def A193 : AF :=
⟨2, .seq (.reg [⟨.mv 4 (.k (.int .i64 0)) false, none, false, .unit⟩] false)
(.seq (.seq (.reg [⟨.mv 5 (.t 0) false, none, false, .unit⟩,
 ⟨.mv 6 (.t 1) false, none, false, .unit⟩,
 ⟨.bin 7 .lss 2 (.t 5) (.t 6), none, false, .unit⟩] false)
(.cond (.t 7) (.seq (.reg [⟨.mv 8 (.t 0) false, none, false, .unit⟩,
 ⟨.mv 4 (.t 8) false, none, false, .unit⟩] false)
(.ret))
(.skip)))
(.seq (.reg [⟨.mv 9 (.t 1) false, none, false, .unit⟩,
 ⟨.mv 4 (.t 9) false, none, false, .unit⟩] false)
(.ret))), [.tmp 4]⟩
theorem M193 : mkF Tryz.prog 193 A193 = some A193 := by kernel_rfl
def A161 : AF :=
⟨2, .seq (.reg [⟨.mv 4 (.k (.int .i64 0)) false, none, false, .unit⟩] false)
(.seq (.seq (.reg [⟨.mv 5 (.t 0) false, none, false, .unit⟩,
 ⟨.mv 6 (.t 1) false, none, false, .unit⟩,
 ⟨.bin 7 .gtr 2 (.t 5) (.t 6), none, false, .unit⟩] false)
(.cond (.t 7) (.seq (.reg [⟨.mv 8 (.t 0) false, none, false, .unit⟩,
 ⟨.mv 4 (.t 8) false, none, false, .unit⟩] false)
(.ret))
(.skip)))
(.seq (.reg [⟨.mv 9 (.t 1) false, none, false, .unit⟩,
 ⟨.mv 4 (.t 9) false, none, false, .unit⟩] false)
(.ret))), [.tmp 4]⟩
theorem M161 : mkF Tryz.prog 161 A161 = some A161 := by kernel_rfl
def A186 : AF :=
⟨3, .seq (.reg [⟨.box 3 184 (.t 0) 0, none, false, .unit⟩,
 ⟨.box 4 184 (.t 1) 0, none, false, .unit⟩,
 ⟨.box 5 184 (.t 2) 0, none, false, .unit⟩,
 ⟨.mv 6 (.k (.bool false)) false, none, false, .unit⟩] false)
(.seq (.reg [⟨.ld 7 184 2 true (.t 3) false, none, true, .unit⟩,
 ⟨.ld 8 184 2 true (.t 4) false, none, true, .unit⟩,
 ⟨.ld 9 184 2 true (.t 5) false, none, true, .unit⟩,
 ⟨.call (some 10) 209 [(.t 7), (.t 8), (.t 9)] false, none, true, .unit⟩,
 ⟨.bin 11 .eql 2 (.t 10) (.k (.int .i64 0)), none, true, .unit⟩,
 ⟨.mv 12 (.t 11) false, none, true, .unit⟩,
 ⟨.fad 13 184 0 0 1 (.t 5), some (12, true), true, .unit⟩,
 ⟨.ld 14 2 1 false (.t 13) false, some (12, true), true, .unit⟩,
 ⟨.fad 15 184 0 0 1 (.t 3), some (12, true), true, .unit⟩,
 ⟨.ld 16 2 1 false (.t 15) false, some (12, true), true, .unit⟩,
 ⟨.fad 17 184 0 0 1 (.t 4), some (12, true), true, .unit⟩,
 ⟨.ld 18 2 1 false (.t 17) false, some (12, true), true, .unit⟩,
 ⟨.call (some 19) 193 [(.t 16), (.t 18)] false, some (12, true), true, .unit⟩,
 ⟨.fad 20 184 0 0 1 (.t 3), some (12, true), true, .unit⟩,
 ⟨.ld 21 2 1 false (.t 20) false, some (12, true), true, .unit⟩,
 ⟨.fad 22 184 0 0 1 (.t 4), some (12, true), true, .unit⟩,
 ⟨.ld 23 2 1 false (.t 22) false, some (12, true), true, .unit⟩,
 ⟨.call (some 24) 161 [(.t 21), (.t 23)] false, some (12, true), true, .unit⟩,
 ⟨.call (some 25) 108 [(.t 14), (.t 19), (.t 24)] false, some (12, true), true, .unit⟩,
 ⟨.pick 26 (.t 12) (.t 25) (.k (.bool false)), none, true, .unit⟩,
 ⟨.mv 27 (.t 26) false, none, true, .unit⟩,
 ⟨.fad 28 184 1 1 1 (.t 5), some (27, true), true, .unit⟩,
 ⟨.ld 29 2 1 false (.t 28) false, some (27, true), true, .unit⟩,
 ⟨.fad 30 184 1 1 1 (.t 3), some (27, true), true, .unit⟩,
 ⟨.ld 31 2 1 false (.t 30) false, some (27, true), true, .unit⟩,
 ⟨.fad 32 184 1 1 1 (.t 4), some (27, true), true, .unit⟩,
 ⟨.ld 33 2 1 false (.t 32) false, some (27, true), true, .unit⟩,
 ⟨.call (some 34) 193 [(.t 31), (.t 33)] false, some (27, true), true, .unit⟩,
 ⟨.fad 35 184 1 1 1 (.t 3), some (27, true), true, .unit⟩,
 ⟨.ld 36 2 1 false (.t 35) false, some (27, true), true, .unit⟩,
 ⟨.fad 37 184 1 1 1 (.t 4), some (27, true), true, .unit⟩,
 ⟨.ld 38 2 1 false (.t 37) false, some (27, true), true, .unit⟩,
 ⟨.call (some 39) 161 [(.t 36), (.t 38)] false, some (27, true), true, .unit⟩,
 ⟨.call (some 40) 108 [(.t 29), (.t 34), (.t 39)] false, some (27, true), true, .unit⟩,
 ⟨.pick 41 (.t 27) (.t 40) (.k (.bool false)), none, true, .unit⟩,
 ⟨.mv 6 (.t 41) false, none, true, .unit⟩] true)
(.ret)), [.tmp 6]⟩
theorem M186 : mkF Tryz.prog 186 A186 = some A186 := by kernel_rfl
def A210 : AF :=
⟨4, .seq (.reg [⟨.box 4 184 (.t 0) 0, none, false, .unit⟩,
 ⟨.box 5 184 (.t 1) 0, none, false, .unit⟩,
 ⟨.box 6 184 (.t 2) 0, none, false, .unit⟩,
 ⟨.box 7 184 (.t 3) 0, none, false, .unit⟩,
 ⟨.mv 8 (.k (.bool false)) false, none, false, .unit⟩] false)
(.seq (.reg [⟨.ld 9 184 2 true (.t 4) false, none, true, .unit⟩,
 ⟨.ld 10 184 2 true (.t 5) false, none, true, .unit⟩,
 ⟨.ld 11 184 2 true (.t 6) false, none, true, .unit⟩,
 ⟨.call (some 12) 209 [(.t 9), (.t 10), (.t 11)] false, none, true, .unit⟩,
 ⟨.ld 13 184 2 true (.t 4) false, none, true, .unit⟩,
 ⟨.ld 14 184 2 true (.t 5) false, none, true, .unit⟩,
 ⟨.ld 15 184 2 true (.t 7) false, none, true, .unit⟩,
 ⟨.call (some 16) 209 [(.t 13), (.t 14), (.t 15)] false, none, true, .unit⟩,
 ⟨.bin 17 .mul 2 (.t 12) (.t 16), none, true, .unit⟩,
 ⟨.bin 18 .lss 2 (.t 17) (.k (.int .i64 0)), none, true, .unit⟩,
 ⟨.mv 19 (.t 18) false, none, true, .unit⟩,
 ⟨.ld 20 184 2 true (.t 6) false, some (19, true), true, .unit⟩,
 ⟨.ld 21 184 2 true (.t 7) false, some (19, true), true, .unit⟩,
 ⟨.ld 22 184 2 true (.t 4) false, some (19, true), true, .unit⟩,
 ⟨.call (some 23) 209 [(.t 20), (.t 21), (.t 22)] false, some (19, true), true, .unit⟩,
 ⟨.ld 24 184 2 true (.t 6) false, some (19, true), true, .unit⟩,
 ⟨.ld 25 184 2 true (.t 7) false, some (19, true), true, .unit⟩,
 ⟨.ld 26 184 2 true (.t 5) false, some (19, true), true, .unit⟩,
 ⟨.call (some 27) 209 [(.t 24), (.t 25), (.t 26)] false, some (19, true), true, .unit⟩,
 ⟨.bin 28 .mul 2 (.t 23) (.t 27), some (19, true), true, .unit⟩,
 ⟨.bin 29 .lss 2 (.t 28) (.k (.int .i64 0)), some (19, true), true, .unit⟩,
 ⟨.pick 30 (.t 19) (.t 29) (.k (.bool false)), none, true, .unit⟩,
 ⟨.mv 8 (.t 30) false, none, true, .unit⟩] true)
(.ret)), [.tmp 8]⟩
theorem M210 : mkF Tryz.prog 210 A210 = some A210 := by kernel_rfl
def A187 : AF :=
⟨4, .seq (.reg [⟨.box 4 184 (.t 0) 0, none, false, .unit⟩,
 ⟨.box 5 184 (.t 1) 0, none, false, .unit⟩,
 ⟨.box 6 184 (.t 2) 0, none, false, .unit⟩,
 ⟨.box 7 184 (.t 3) 0, none, false, .unit⟩,
 ⟨.mv 8 (.k (.bool false)) false, none, false, .unit⟩] false)
(.seq (.reg [⟨.ld 9 184 2 true (.t 4) false, none, false, .unit⟩,
 ⟨.ld 10 184 2 true (.t 5) false, none, false, .unit⟩,
 ⟨.ld 11 184 2 true (.t 6) false, none, false, .unit⟩,
 ⟨.ld 12 184 2 true (.t 7) false, none, false, .unit⟩,
 ⟨.call (some 13) 210 [(.t 9), (.t 10), (.t 11), (.t 12)] false, none, false, .unit⟩,
 ⟨.mv 14 (.t 13) false, none, false, .unit⟩,
 ⟨.ld 15 184 2 true (.t 4) false, some (14, false), false, .unit⟩,
 ⟨.ld 16 184 2 true (.t 5) false, some (14, false), false, .unit⟩,
 ⟨.ld 17 184 2 true (.t 6) false, some (14, false), false, .unit⟩,
 ⟨.call (some 18) 186 [(.t 15), (.t 16), (.t 17)] false, some (14, false), false, .unit⟩,
 ⟨.pick 19 (.t 14) (.k (.bool true)) (.t 18), none, false, .unit⟩,
 ⟨.mv 20 (.t 19) false, none, false, .unit⟩,
 ⟨.ld 21 184 2 true (.t 4) false, some (20, false), false, .unit⟩,
 ⟨.ld 22 184 2 true (.t 5) false, some (20, false), false, .unit⟩,
 ⟨.ld 23 184 2 true (.t 7) false, some (20, false), false, .unit⟩,
 ⟨.call (some 24) 186 [(.t 21), (.t 22), (.t 23)] false, some (20, false), false, .unit⟩,
 ⟨.pick 25 (.t 20) (.k (.bool true)) (.t 24), none, false, .unit⟩,
 ⟨.mv 26 (.t 25) false, none, false, .unit⟩,
 ⟨.ld 27 184 2 true (.t 6) false, some (26, false), false, .unit⟩,
 ⟨.ld 28 184 2 true (.t 7) false, some (26, false), false, .unit⟩,
 ⟨.ld 29 184 2 true (.t 4) false, some (26, false), false, .unit⟩,
 ⟨.call (some 30) 186 [(.t 27), (.t 28), (.t 29)] false, some (26, false), false, .unit⟩,
 ⟨.pick 31 (.t 26) (.k (.bool true)) (.t 30), none, false, .unit⟩,
 ⟨.mv 32 (.t 31) false, none, false, .unit⟩,
 ⟨.ld 33 184 2 true (.t 6) false, some (32, false), false, .unit⟩,
 ⟨.ld 34 184 2 true (.t 7) false, some (32, false), false, .unit⟩,
 ⟨.ld 35 184 2 true (.t 5) false, some (32, false), false, .unit⟩,
 ⟨.call (some 36) 186 [(.t 33), (.t 34), (.t 35)] false, some (32, false), false, .unit⟩,
 ⟨.pick 37 (.t 32) (.k (.bool true)) (.t 36), none, false, .unit⟩,
 ⟨.mv 8 (.t 37) false, none, false, .unit⟩] false)
(.ret)), [.tmp 8]⟩
theorem M187 : mkF Tryz.prog 187 A187 = some A187 := by kernel_rfl
def A188 : AF :=
⟨1, .seq (.reg [⟨.mv 2 (.k (.int .i64 0)) false, none, false, .unit⟩] false)
(.seq (.reg [⟨.mv 3 (.k (.int .i64 0)) false, none, false, .unit⟩] false)
(.seq (.seq (.reg [⟨.mv 4 (.k (.int .i64 0)) false, none, false, .unit⟩] false)
(.block 0 (.loop ⟨[.sl 0 (.c (.lst (.pair (.int .i64) (.int .i64)))), .sl 3 (.c (.int .i64)), .sl 4 (.c (.int .i64))], 0⟩ [((.exit 0), ⟨[.sl 3 (.c (.int .i64))], 0⟩)] (.seq (.seq (.reg [⟨.mv 6 (.t 4) false, none, false, .unit⟩,
 ⟨.mv 7 (.t 0) false, none, false, .unit⟩,
 ⟨.len 8 false (.t 7), none, false, .unit⟩,
 ⟨.bin 9 .lss 3 (.t 6) (.t 8), none, false, .unit⟩] false)
(.cond (.t 9) (.skip)
(.exit 0)))
(.seq (.block 1 (.seq (.reg [⟨.mv 12 (.t 0) false, none, false, .unit⟩,
 ⟨.mv 13 (.t 4) false, none, false, .unit⟩,
 ⟨.bin 14 .add 3 (.t 13) (.k (.int .i64 1)), none, false, .unit⟩,
 ⟨.mv 15 (.t 0) false, none, false, .unit⟩,
 ⟨.len 16 false (.t 15), none, false, .unit⟩,
 ⟨.bin 17 .rem 3 (.t 14) (.t 16), none, false, .unit⟩,
 ⟨.iad 18 38 2 (.t 12) (.t 17), none, false, .unit⟩,
 ⟨.ld 19 184 2 true (.t 18) false, none, false, .unit⟩,
 ⟨.alloc 5 184 [.int .i64 0, .int .i64 0] false, none, false, .unit⟩,
 ⟨.st 184 2 (.t 5) (.t 19) false, none, false, .unit⟩] false)
(.reg [⟨.mv 20 (.t 3) false, none, true, .unit⟩,
 ⟨.mv 21 (.t 0) false, none, true, .unit⟩,
 ⟨.mv 22 (.t 4) false, none, true, .unit⟩,
 ⟨.iad 23 38 2 (.t 21) (.t 22), none, true, .unit⟩,
 ⟨.fad 24 184 0 0 1 (.t 23), none, true, .unit⟩,
 ⟨.ld 25 2 1 false (.t 24) false, none, true, .unit⟩,
 ⟨.fad 26 184 1 1 1 (.t 5), none, true, .unit⟩,
 ⟨.ld 27 2 1 false (.t 26) false, none, false, .unit⟩,
 ⟨.bin 28 .mul 2 (.t 25) (.t 27), none, true, .unit⟩,
 ⟨.mv 29 (.t 0) false, none, true, .unit⟩,
 ⟨.mv 30 (.t 4) false, none, true, .unit⟩,
 ⟨.iad 31 38 2 (.t 29) (.t 30), none, true, .unit⟩,
 ⟨.fad 32 184 1 1 1 (.t 31), none, true, .unit⟩,
 ⟨.ld 33 2 1 false (.t 32) false, none, true, .unit⟩,
 ⟨.fad 34 184 0 0 1 (.t 5), none, true, .unit⟩,
 ⟨.ld 35 2 1 false (.t 34) false, none, false, .unit⟩,
 ⟨.bin 36 .mul 2 (.t 33) (.t 35), none, true, .unit⟩,
 ⟨.bin 37 .sub 2 (.t 28) (.t 36), none, true, .unit⟩,
 ⟨.bin 38 .add 2 (.t 20) (.t 37), none, true, .unit⟩,
 ⟨.mv 3 (.t 38) false, none, true, .unit⟩] true)))
(.reg [⟨.mv 10 (.t 4) false, none, false, .unit⟩,
 ⟨.bin 11 .add 3 (.t 10) (.k (.int .i64 1)), none, false, .unit⟩,
 ⟨.mv 4 (.t 11) false, none, false, .unit⟩] false))))))
(.seq (.reg [⟨.mv 39 (.t 3) false, none, false, .unit⟩,
 ⟨.mv 2 (.t 39) false, none, false, .unit⟩] false)
(.ret)))), [.tmp 2]⟩
theorem M188 : mkF Tryz.prog 188 A188 = some A188 := by kernel_rfl
def A158 : AF :=
⟨1, .seq (.reg [⟨.mv 2 (.k (.bool false)) false, none, false, .unit⟩] false)
(.seq (.reg [⟨.mv 10 (.t 0) false, none, false, .unit⟩,
 ⟨.len 11 false (.t 10), none, false, .unit⟩,
 ⟨.mv 3 (.t 11) false, none, false, .unit⟩] false)
(.seq (.seq (.reg [⟨.mv 12 (.t 3) false, none, false, .unit⟩,
 ⟨.bin 13 .lss 3 (.t 12) (.k (.int .i64 3)), none, false, .unit⟩,
 ⟨.mv 14 (.t 13) false, none, false, .unit⟩,
 ⟨.mv 15 (.t 3) false, some (14, false), false, .unit⟩,
 ⟨.bin 16 .gtr 3 (.t 15) (.k (.int .i64 24)), some (14, false), false, .unit⟩,
 ⟨.pick 17 (.t 14) (.k (.bool true)) (.t 16), none, false, .unit⟩] false)
(.cond (.t 17) (.seq (.reg [⟨.mv 2 (.k (.bool false)) false, none, false, .unit⟩] false)
(.ret))
(.skip)))
(.seq (.seq (.reg [⟨.mv 4 (.k (.int .i64 0)) false, none, false, .unit⟩] false)
(.block 0 (.loop ⟨[.sl 0 (.c (.lst (.pair (.int .i64) (.int .i64)))), .sl 3 (.c (.int .i64)), .sl 4 (.c (.int .i64))], 0⟩ [((.exit 0), ⟨[.sl 0 (.c (.lst (.pair (.int .i64) (.int .i64)))), .sl 3 (.c (.int .i64))], 0⟩), (.ret, ⟨[.sl 2 (.c .bool)], 0⟩)] (.seq (.seq (.reg [⟨.mv 18 (.t 4) false, none, false, .unit⟩,
 ⟨.mv 19 (.t 3) false, none, false, .unit⟩,
 ⟨.bin 20 .lss 3 (.t 18) (.t 19), none, false, .unit⟩] false)
(.cond (.t 20) (.skip)
(.exit 0)))
(.seq (.block 1 (.seq (.reg [⟨.mv 23 (.t 0) false, none, false, .unit⟩,
 ⟨.mv 24 (.t 4) false, none, false, .unit⟩,
 ⟨.iad 25 38 2 (.t 23) (.t 24), none, false, .unit⟩,
 ⟨.ld 26 184 2 true (.t 25) false, none, false, .unit⟩,
 ⟨.call (some 27) 185 [(.t 26)] false, none, false, .unit⟩,
 ⟨.un 28 .not (.t 27), none, false, .unit⟩] false)
(.cond (.t 28) (.seq (.reg [⟨.mv 2 (.k (.bool false)) false, none, false, .unit⟩] false)
(.ret))
(.skip))))
(.reg [⟨.mv 21 (.t 4) false, none, false, .unit⟩,
 ⟨.bin 22 .add 3 (.t 21) (.k (.int .i64 1)), none, false, .unit⟩,
 ⟨.mv 4 (.t 22) false, none, false, .unit⟩] false))))))
(.seq (.seq (.reg [⟨.mv 5 (.k (.int .i64 0)) false, none, false, .unit⟩] false)
(.block 2 (.loop ⟨[.sl 0 (.c (.lst (.pair (.int .i64) (.int .i64)))), .sl 3 (.c (.int .i64)), .sl 5 (.c (.int .i64))], 0⟩ [((.exit 2), ⟨[.sl 0 (.c (.lst (.pair (.int .i64) (.int .i64))))], 0⟩), (.ret, ⟨[.sl 2 (.c .bool)], 0⟩)] (.seq (.seq (.reg [⟨.mv 29 (.t 5) false, none, false, .unit⟩,
 ⟨.mv 30 (.t 3) false, none, false, .unit⟩,
 ⟨.bin 31 .lss 3 (.t 29) (.t 30), none, false, .unit⟩] false)
(.cond (.t 31) (.skip)
(.exit 2)))
(.seq (.block 3 (.seq (.reg [⟨.mv 34 (.t 0) false, none, false, .unit⟩,
 ⟨.mv 35 (.t 5) false, none, false, .unit⟩,
 ⟨.iad 36 38 2 (.t 34) (.t 35), none, false, .unit⟩,
 ⟨.ld 37 184 2 true (.t 36) false, none, false, .unit⟩,
 ⟨.alloc 6 184 [.int .i64 0, .int .i64 0] false, none, false, .unit⟩,
 ⟨.st 184 2 (.t 6) (.t 37) false, none, false, .unit⟩] false)
(.seq (.reg [⟨.mv 38 (.t 0) false, none, false, .unit⟩,
 ⟨.mv 39 (.t 5) false, none, false, .unit⟩,
 ⟨.bin 40 .add 3 (.t 39) (.k (.int .i64 1)), none, false, .unit⟩,
 ⟨.mv 41 (.t 3) false, none, false, .unit⟩,
 ⟨.bin 42 .rem 3 (.t 40) (.t 41), none, false, .unit⟩,
 ⟨.iad 43 38 2 (.t 38) (.t 42), none, false, .unit⟩,
 ⟨.ld 44 184 2 true (.t 43) false, none, false, .unit⟩,
 ⟨.alloc 7 184 [.int .i64 0, .int .i64 0] false, none, false, .unit⟩,
 ⟨.st 184 2 (.t 7) (.t 44) false, none, false, .unit⟩] false)
(.seq (.reg [⟨.mv 45 (.t 0) false, none, false, .unit⟩,
 ⟨.mv 46 (.t 5) false, none, false, .unit⟩,
 ⟨.bin 47 .add 3 (.t 46) (.k (.int .i64 2)), none, false, .unit⟩,
 ⟨.mv 48 (.t 3) false, none, false, .unit⟩,
 ⟨.bin 49 .rem 3 (.t 47) (.t 48), none, false, .unit⟩,
 ⟨.iad 50 38 2 (.t 45) (.t 49), none, false, .unit⟩,
 ⟨.ld 51 184 2 true (.t 50) false, none, false, .unit⟩,
 ⟨.alloc 8 184 [.int .i64 0, .int .i64 0] false, none, false, .unit⟩,
 ⟨.st 184 2 (.t 8) (.t 51) false, none, false, .unit⟩] false)
(.seq (.seq (.reg [⟨.ld 52 184 2 true (.t 6) false, none, false, .unit⟩,
 ⟨.ld 53 184 2 true (.t 7) false, none, false, .unit⟩,
 ⟨.bin 54 .eql 184 (.t 52) (.t 53), none, false, .unit⟩,
 ⟨.mv 55 (.t 54) false, none, false, .unit⟩,
 ⟨.ld 56 184 2 true (.t 6) false, some (55, false), false, .unit⟩,
 ⟨.ld 57 184 2 true (.t 7) false, some (55, false), false, .unit⟩,
 ⟨.ld 58 184 2 true (.t 8) false, some (55, false), false, .unit⟩,
 ⟨.call (some 59) 186 [(.t 56), (.t 57), (.t 58)] false, some (55, false), false, .unit⟩,
 ⟨.pick 60 (.t 55) (.k (.bool true)) (.t 59), none, false, .unit⟩,
 ⟨.mv 61 (.t 60) false, none, false, .unit⟩,
 ⟨.ld 62 184 2 true (.t 7) false, some (61, false), false, .unit⟩,
 ⟨.ld 63 184 2 true (.t 8) false, some (61, false), false, .unit⟩,
 ⟨.ld 64 184 2 true (.t 6) false, some (61, false), false, .unit⟩,
 ⟨.call (some 65) 186 [(.t 62), (.t 63), (.t 64)] false, some (61, false), false, .unit⟩,
 ⟨.pick 66 (.t 61) (.k (.bool true)) (.t 65), none, false, .unit⟩] false)
(.cond (.t 66) (.seq (.reg [⟨.mv 2 (.k (.bool false)) false, none, false, .unit⟩] false)
(.ret))
(.skip)))
(.seq (.reg [⟨.mv 67 (.t 5) false, none, false, .unit⟩,
 ⟨.bin 68 .add 3 (.t 67) (.k (.int .i64 2)), none, false, .unit⟩,
 ⟨.mv 9 (.t 68) false, none, false, .unit⟩] false)
(.block 4 (.loop ⟨[.sl 0 (.c (.lst (.pair (.int .i64) (.int .i64)))), .sl 3 (.c (.int .i64)), .sl 5 (.c (.int .i64)), .sl 6 (.gr (.lref 6 0 0)), .sl 7 (.gr (.lref 7 0 0)), .sl 9 (.c (.int .i64)), .lo 6 (.one [(.c (.int .i64)), (.c (.int .i64))]), .lo 7 (.one [(.c (.int .i64)), (.c (.int .i64))])], 0⟩ [((.exit 4), ⟨[.sl 0 (.c (.lst (.pair (.int .i64) (.int .i64)))), .sl 3 (.c (.int .i64)), .sl 5 (.c (.int .i64))], 0⟩), (.ret, ⟨[.sl 2 (.c .bool)], 0⟩)] (.seq (.seq (.reg [⟨.mv 69 (.t 9) false, none, false, .unit⟩,
 ⟨.mv 70 (.t 3) false, none, false, .unit⟩,
 ⟨.bin 71 .lss 3 (.t 69) (.t 70), none, false, .unit⟩] false)
(.cond (.t 71) (.skip)
(.exit 4)))
(.seq (.block 5 (.seq (.reg [⟨.mv 74 (.t 9) false, none, true, .unit⟩,
 ⟨.bin 75 .add 3 (.t 74) (.k (.int .i64 1)), none, true, .unit⟩,
 ⟨.mv 76 (.t 3) false, none, true, .unit⟩,
 ⟨.bin 77 .rem 3 (.t 75) (.t 76), none, true, .unit⟩,
 ⟨.mv 78 (.t 5) false, none, true, .unit⟩,
 ⟨.bin 79 .neq 3 (.t 77) (.t 78), none, true, .unit⟩,
 ⟨.mv 80 (.t 79) false, none, true, .unit⟩,
 ⟨.ld 81 184 2 true (.t 6) false, some (80, true), false, .unit⟩,
 ⟨.ld 82 184 2 true (.t 7) false, some (80, true), false, .unit⟩,
 ⟨.mv 83 (.t 0) false, some (80, true), true, .unit⟩,
 ⟨.mv 84 (.t 9) false, some (80, true), true, .unit⟩,
 ⟨.iad 85 38 2 (.t 83) (.t 84), some (80, true), true, .unit⟩,
 ⟨.ld 86 184 2 true (.t 85) false, some (80, true), true, .unit⟩,
 ⟨.mv 87 (.t 0) false, some (80, true), true, .unit⟩,
 ⟨.mv 88 (.t 9) false, some (80, true), true, .unit⟩,
 ⟨.bin 89 .add 3 (.t 88) (.k (.int .i64 1)), some (80, true), true, .unit⟩,
 ⟨.mv 90 (.t 3) false, some (80, true), true, .unit⟩,
 ⟨.bin 91 .rem 3 (.t 89) (.t 90), some (80, true), true, .unit⟩,
 ⟨.iad 92 38 2 (.t 87) (.t 91), some (80, true), true, .unit⟩,
 ⟨.ld 93 184 2 true (.t 92) false, some (80, true), true, .unit⟩,
 ⟨.call (some 94) 187 [(.t 81), (.t 82), (.t 86), (.t 93)] false, some (80, true), true, .unit⟩,
 ⟨.pick 95 (.t 80) (.t 94) (.k (.bool false)), none, true, .unit⟩] true)
(.cond (.t 95) (.seq (.reg [⟨.mv 2 (.k (.bool false)) false, none, false, .unit⟩] false)
(.ret))
(.skip))))
(.reg [⟨.mv 72 (.t 9) false, none, false, .unit⟩,
 ⟨.bin 73 .add 3 (.t 72) (.k (.int .i64 1)), none, false, .unit⟩,
 ⟨.mv 9 (.t 73) false, none, false, .unit⟩] false)))))))))))
(.reg [⟨.mv 32 (.t 5) false, none, false, .unit⟩,
 ⟨.bin 33 .add 3 (.t 32) (.k (.int .i64 1)), none, false, .unit⟩,
 ⟨.mv 5 (.t 33) false, none, false, .unit⟩] false))))))
(.seq (.reg [⟨.mv 96 (.t 0) false, none, false, .unit⟩,
 ⟨.call (some 97) 188 [(.t 96)] false, none, false, .unit⟩,
 ⟨.bin 98 .gtr 2 (.t 97) (.k (.int .i64 0)), none, false, .unit⟩,
 ⟨.mv 2 (.t 98) false, none, false, .unit⟩] false)
(.ret)))))), [.tmp 2]⟩
theorem M158 : mkF Tryz.prog 158 A158 = some A158 := by kernel_rfl
def A106 : AF :=
⟨1, .seq (.reg [⟨.mv 2 (.k (.bool false)) false, none, false, .unit⟩] false)
(.seq (.seq (.reg [⟨.mv 6 (.t 0) false, none, false, .unit⟩,
 ⟨.nilc 7 (.t 6), none, false, .unit⟩,
 ⟨.fad 8 41 0 0 1 (.t 7), none, false, .unit⟩,
 ⟨.ld 9 2 1 false (.t 8) false, none, false, .unit⟩,
 ⟨.call (some 10) 108 [(.t 9), (.k (.int .i64 10)), (.k (.int .i64 20000))] false, none, false, .unit⟩,
 ⟨.un 11 .not (.t 10), none, false, .unit⟩,
 ⟨.mv 12 (.t 11) false, none, false, .unit⟩,
 ⟨.mv 13 (.t 0) false, some (12, false), false, .unit⟩,
 ⟨.nilc 14 (.t 13), some (12, false), false, .unit⟩,
 ⟨.fad 15 41 1 1 1 (.t 14), some (12, false), false, .unit⟩,
 ⟨.ld 16 2 1 false (.t 15) false, some (12, false), false, .unit⟩,
 ⟨.call (some 17) 108 [(.t 16), (.k (.int .i64 10)), (.k (.int .i64 20000))] false, some (12, false), false, .unit⟩,
 ⟨.un 18 .not (.t 17), some (12, false), false, .unit⟩,
 ⟨.pick 19 (.t 12) (.k (.bool true)) (.t 18), none, false, .unit⟩,
 ⟨.mv 20 (.t 19) false, none, false, .unit⟩,
 ⟨.mv 21 (.t 0) false, some (20, false), false, .unit⟩,
 ⟨.call (some 22) 155 [(.t 21)] false, some (20, false), false, .unit⟩,
 ⟨.un 23 .not (.t 22), some (20, false), false, .unit⟩,
 ⟨.pick 24 (.t 20) (.k (.bool true)) (.t 23), none, false, .unit⟩,
 ⟨.mv 25 (.t 24) false, none, false, .unit⟩,
 ⟨.mv 26 (.t 0) false, some (25, false), false, .unit⟩,
 ⟨.nilc 27 (.t 26), some (25, false), false, .unit⟩,
 ⟨.fad 28 41 3 3 1 (.t 27), some (25, false), false, .unit⟩,
 ⟨.ld 29 39 1 false (.t 28) false, some (25, false), false, .unit⟩,
 ⟨.len 30 false (.t 29), some (25, false), false, .unit⟩,
 ⟨.bin 31 .gtr 3 (.t 30) (.k (.int .i64 24)), some (25, false), false, .unit⟩,
 ⟨.pick 32 (.t 25) (.k (.bool true)) (.t 31), none, false, .unit⟩] false)
(.cond (.t 32) (.seq (.reg [⟨.mv 2 (.k (.bool false)) false, none, false, .unit⟩] false)
(.ret))
(.skip)))
(.seq (.seq (.reg [⟨.mv 3 (.k (.int .i64 0)) false, none, false, .unit⟩] false)
(.block 0 (.loop ⟨[.sl 0 (.c (.pim (.pair (.int .i64) (.pair (.int .i64) (.pair (.lst (.pair (.int .i64) (.int .i64))) (.lst (.pair .str (.lst (.int .i64))))))))), .sl 3 (.c (.int .i64))], 0⟩ [((.exit 0), ⟨[], 0⟩), (.ret, ⟨[.sl 2 (.c .bool)], 0⟩)] (.seq (.seq (.reg [⟨.mv 33 (.t 3) false, none, false, .unit⟩,
 ⟨.mv 34 (.t 0) false, none, false, .unit⟩,
 ⟨.nilc 35 (.t 34), none, false, .unit⟩,
 ⟨.fad 36 41 3 3 1 (.t 35), none, false, .unit⟩,
 ⟨.ld 37 39 1 false (.t 36) false, none, false, .unit⟩,
 ⟨.len 38 false (.t 37), none, false, .unit⟩,
 ⟨.bin 39 .lss 3 (.t 33) (.t 38), none, false, .unit⟩] false)
(.cond (.t 39) (.skip)
(.exit 0)))
(.seq (.block 1 (.seq (.scope [(.normal, ⟨[.sl 0 (.c (.pim (.pair (.int .i64) (.pair (.int .i64) (.pair (.lst (.pair (.int .i64) (.int .i64))) (.lst (.pair .str (.lst (.int .i64))))))))), .sl 3 (.c (.int .i64))], 0⟩), (.ret, ⟨[.sl 2 (.c .bool)], 0⟩)] (.seq (.reg [⟨.mv 42 (.t 0) false, none, true, .unit⟩,
 ⟨.nilc 43 (.t 42), none, true, .unit⟩,
 ⟨.fad 44 41 3 3 1 (.t 43), none, true, .unit⟩,
 ⟨.ld 45 39 1 false (.t 44) false, none, true, .unit⟩,
 ⟨.mv 46 (.t 3) false, none, true, .unit⟩,
 ⟨.iad 47 39 2 (.t 45) (.t 46), none, true, .unit⟩,
 ⟨.fad 48 187 0 0 1 (.t 47), none, true, .unit⟩,
 ⟨.ld 49 9 1 false (.t 48) false, none, true, .unit⟩,
 ⟨.call (some 50) 156 [(.t 49)] false, none, true, .unit⟩,
 ⟨.un 51 .not (.t 50), none, true, .unit⟩,
 ⟨.mv 52 (.t 51) false, none, true, .unit⟩,
 ⟨.mv 53 (.t 3) false, some (52, false), true, .unit⟩,
 ⟨.bin 54 .gtr 3 (.t 53) (.k (.int .i64 0)), some (52, false), true, .unit⟩,
 ⟨.mv 55 (.t 54) false, some (52, false), true, .unit⟩,
 ⟨.mv 56 (.t 0) false, some (55, true), true, .unit⟩,
 ⟨.nilc 57 (.t 56), some (55, true), true, .unit⟩,
 ⟨.fad 58 41 3 3 1 (.t 57), some (55, true), true, .unit⟩,
 ⟨.ld 59 39 1 false (.t 58) false, some (55, true), true, .unit⟩,
 ⟨.mv 60 (.t 3) false, some (55, true), true, .unit⟩,
 ⟨.bin 61 .sub 3 (.t 60) (.k (.int .i64 1)), some (55, true), true, .unit⟩,
 ⟨.iad 62 39 2 (.t 59) (.t 61), some (55, true), true, .unit⟩,
 ⟨.fad 63 187 0 0 1 (.t 62), some (55, true), true, .unit⟩,
 ⟨.ld 64 9 1 false (.t 63) false, some (55, true), true, .unit⟩,
 ⟨.mv 65 (.t 0) false, some (55, true), true, .unit⟩,
 ⟨.nilc 66 (.t 65), some (55, true), true, .unit⟩,
 ⟨.fad 67 41 3 3 1 (.t 66), some (55, true), true, .unit⟩,
 ⟨.ld 68 39 1 false (.t 67) false, some (55, true), true, .unit⟩,
 ⟨.mv 69 (.t 3) false, some (55, true), true, .unit⟩,
 ⟨.iad 70 39 2 (.t 68) (.t 69), some (55, true), true, .unit⟩,
 ⟨.fad 71 187 0 0 1 (.t 70), some (55, true), true, .unit⟩,
 ⟨.ld 72 9 1 false (.t 71) false, some (55, true), true, .unit⟩,
 ⟨.bin 73 .geq 9 (.t 64) (.t 72), some (55, true), true, .unit⟩,
 ⟨.pick 74 (.t 55) (.t 73) (.k (.bool false)), some (52, false), true, .unit⟩,
 ⟨.pick 75 (.t 52) (.k (.bool true)) (.t 74), none, true, .unit⟩] true)
(.cond (.t 75) (.seq (.reg [⟨.mv 2 (.k (.bool false)) false, none, false, .unit⟩] false)
(.ret))
(.skip))))
(.seq (.reg [⟨.mv 77 (.t 0) false, none, false, .unit⟩,
 ⟨.mv 78 (.t 0) false, none, false, .unit⟩,
 ⟨.nilc 79 (.t 78), none, false, .unit⟩,
 ⟨.fad 80 41 3 3 1 (.t 79), none, false, .unit⟩,
 ⟨.ld 81 39 1 false (.t 80) false, none, false, .unit⟩,
 ⟨.mv 82 (.t 3) false, none, false, .unit⟩,
 ⟨.iad 83 39 2 (.t 81) (.t 82), none, false, .unit⟩,
 ⟨.fad 84 187 1 1 1 (.t 83), none, false, .unit⟩,
 ⟨.ld 85 33 1 false (.t 84) false, none, false, .unit⟩,
 ⟨.call (some 86) 157 [(.t 77), (.t 85)] false, none, false, .unit⟩,
 ⟨.mv 76 (.t 86) false, none, false, .unit⟩,
 ⟨.ext 87 (.t 76) 0, none, false, .unit⟩,
 ⟨.ext 88 (.t 76) 1, none, false, .unit⟩,
 ⟨.mv 4 (.t 87) false, none, false, .unit⟩,
 ⟨.mv 5 (.t 88) false, none, false, .unit⟩] false)
(.seq (.reg [⟨.mv 89 (.t 5) false, none, false, .unit⟩,
 ⟨.un 90 .not (.t 89), none, false, .unit⟩,
 ⟨.mv 91 (.t 90) false, none, false, .unit⟩,
 ⟨.mv 92 (.t 4) false, some (91, false), false, .unit⟩,
 ⟨.call (some 93) 158 [(.t 92)] false, some (91, false), false, .unit⟩,
 ⟨.un 94 .not (.t 93), some (91, false), false, .unit⟩,
 ⟨.pick 95 (.t 91) (.k (.bool true)) (.t 94), none, false, .unit⟩] false)
(.cond (.t 95) (.seq (.reg [⟨.mv 2 (.k (.bool false)) false, none, false, .unit⟩] false)
(.ret))
(.skip))))))
(.reg [⟨.mv 40 (.t 3) false, none, false, .unit⟩,
 ⟨.bin 41 .add 3 (.t 40) (.k (.int .i64 1)), none, false, .unit⟩,
 ⟨.mv 3 (.t 41) false, none, false, .unit⟩] false))))))
(.seq (.reg [⟨.mv 2 (.k (.bool true)) false, none, false, .unit⟩] false)
(.ret)))), [.tmp 2]⟩
theorem M106 : mkF Tryz.prog 106 A106 = some A106 := by kernel_rfl
def A211 : AF :=
⟨0, .seq (.reg [⟨.mv 0 (.k (.slice none 0 0)) false, none, false, .unit⟩] false)
(.seq (.reg [⟨.bsl 1 289 1 [.string ⟨#[]⟩] 10 [(0, (.k (.string ⟨#[97, 115, 104]⟩))), (1, (.k (.string ⟨#[98, 101, 101, 99, 104]⟩))), (2, (.k (.string ⟨#[98, 105, 114, 99, 104]⟩))), (3, (.k (.string ⟨#[99, 104, 101, 114, 114, 121]⟩))), (4, (.k (.string ⟨#[101, 98, 111, 110, 121]⟩))), (5, (.k (.string ⟨#[104, 111, 108, 108, 121]⟩))), (6, (.k (.string ⟨#[109, 97, 112, 108, 101]⟩))), (7, (.k (.string ⟨#[111, 97, 107]⟩))), (8, (.k (.string ⟨#[114, 111, 115, 101, 119, 111, 111, 100]⟩))), (9, (.k (.string ⟨#[119, 97, 108, 110, 117, 116]⟩)))], none, false, .str⟩,
 ⟨.mv 0 (.t 1) true, none, false, .unit⟩] false)
(.ret)), [.tmp 0]⟩
theorem M211 : mkF Tryz.prog 211 A211 = some A211 := by kernel_rfl
def A189 : AF :=
⟨1, .seq (.reg [⟨.mv 2 (.k (.int .i64 0)) false, none, false, .unit⟩] false)
(.seq (.reg [⟨.call (some 5) 211 [] false, none, false, .unit⟩,
 ⟨.mv 3 (.t 5) true, none, false, .unit⟩] false)
(.seq (.seq (.reg [⟨.mv 4 (.k (.int .i64 0)) false, none, false, .unit⟩] false)
(.block 0 (.loop ⟨[.sl 0 (.c .str), .sl 3 (.own .str), .sl 4 (.c (.int .i64))], 0⟩ [((.exit 0), ⟨[], 0⟩), (.ret, ⟨[.sl 2 (.c (.int .i64))], 0⟩)] (.seq (.seq (.reg [⟨.mv 6 (.t 4) false, none, false, .unit⟩,
 ⟨.mv 7 (.t 3) false, none, false, .unit⟩,
 ⟨.len 8 false (.t 7), none, false, .unit⟩,
 ⟨.bin 9 .lss 3 (.t 6) (.t 8), none, false, .unit⟩] false)
(.cond (.t 9) (.skip)
(.exit 0)))
(.seq (.block 1 (.seq (.reg [⟨.mv 12 (.t 3) false, none, false, .unit⟩,
 ⟨.mv 13 (.t 4) false, none, false, .unit⟩,
 ⟨.iad 14 289 1 (.t 12) (.t 13), none, false, .unit⟩,
 ⟨.ld 15 9 1 false (.t 14) false, none, false, .unit⟩,
 ⟨.mv 16 (.t 0) false, none, false, .unit⟩,
 ⟨.bin 17 .eql 9 (.t 15) (.t 16), none, false, .unit⟩] false)
(.cond (.t 17) (.seq (.reg [⟨.mv 18 (.t 4) false, none, false, .unit⟩,
 ⟨.mv 2 (.t 18) false, none, false, .unit⟩] false)
(.ret))
(.skip))))
(.reg [⟨.mv 10 (.t 4) false, none, false, .unit⟩,
 ⟨.bin 11 .add 3 (.t 10) (.k (.int .i64 1)), none, false, .unit⟩,
 ⟨.mv 4 (.t 11) false, none, false, .unit⟩] false))))))
(.seq (.reg [⟨.mv 2 (.k (.int .i64 (-1))) false, none, false, .unit⟩] false)
(.ret)))), [.tmp 2]⟩
theorem M189 : mkF Tryz.prog 189 A189 = some A189 := by kernel_rfl
def A190 : AF :=
⟨0, .seq (.reg [⟨.mv 0 (.k (.slice none 0 0)) false, none, false, .unit⟩] false)
(.seq (.reg [⟨.bsl 1 33 1 [.int .i64 0] 3 [(0, (.k (.int .i64 20))), (1, (.k (.int .i64 40))), (2, (.k (.int .i64 310)))], none, false, (.int .i64)⟩,
 ⟨.bsl 2 33 1 [.int .i64 0] 3 [(0, (.k (.int .i64 35))), (1, (.k (.int .i64 45))), (2, (.k (.int .i64 410)))], none, false, (.int .i64)⟩,
 ⟨.bsl 3 33 1 [.int .i64 0] 3 [(0, (.k (.int .i64 15))), (1, (.k (.int .i64 33))), (2, (.k (.int .i64 280)))], none, false, (.int .i64)⟩,
 ⟨.bsl 4 33 1 [.int .i64 0] 3 [(0, (.k (.int .i64 50))), (1, (.k (.int .i64 36))), (2, (.k (.int .i64 240)))], none, false, (.int .i64)⟩,
 ⟨.bsl 5 33 1 [.int .i64 0] 3 [(0, (.k (.int .i64 95))), (1, (.k (.int .i64 85))), (2, (.k (.int .i64 270)))], none, false, (.int .i64)⟩,
 ⟨.bsl 6 33 1 [.int .i64 0] 3 [(0, (.k (.int .i64 5))), (1, (.k (.int .i64 35))), (2, (.k (.int .i64 370)))], none, false, (.int .i64)⟩,
 ⟨.bsl 7 33 1 [.int .i64 0] 3 [(0, (.k (.int .i64 10))), (1, (.k (.int .i64 42))), (2, (.k (.int .i64 290)))], none, false, (.int .i64)⟩,
 ⟨.bsl 8 33 1 [.int .i64 0] 3 [(0, (.k (.int .i64 40))), (1, (.k (.int .i64 40))), (2, (.k (.int .i64 330)))], none, false, (.int .i64)⟩,
 ⟨.bsl 9 33 1 [.int .i64 0] 3 [(0, (.k (.int .i64 80))), (1, (.k (.int .i64 60))), (2, (.k (.int .i64 220)))], none, false, (.int .i64)⟩,
 ⟨.bsl 10 33 1 [.int .i64 0] 3 [(0, (.k (.int .i64 70))), (1, (.k (.int .i64 38))), (2, (.k (.int .i64 260)))], none, false, (.int .i64)⟩,
 ⟨.bsl 11 118 1 [.slice none 0 0] 10 [(0, (.t 1)), (1, (.t 2)), (2, (.t 3)), (3, (.t 4)), (4, (.t 5)), (5, (.t 6)), (6, (.t 7)), (7, (.t 8)), (8, (.t 9)), (9, (.t 10))], none, false, (.lst (.int .i64))⟩,
 ⟨.mv 0 (.t 11) true, none, false, .unit⟩] false)
(.ret)), [.tmp 0]⟩
theorem M190 : mkF Tryz.prog 190 A190 = some A190 := by kernel_rfl
def A191 : AF :=
⟨1, .seq (.reg [⟨.mv 2 (.k (.bool false)) false, none, false, .unit⟩] false)
(.seq (.reg [⟨.mv 3 (.t 0) false, none, false, .unit⟩,
 ⟨.call (some 4) 108 [(.t 3), (.k (.int .i64 0)), (.k (.int .i64 179))] false, none, false, .unit⟩,
 ⟨.mv 2 (.t 4) false, none, false, .unit⟩] false)
(.ret)), [.tmp 2]⟩
theorem M191 : mkF Tryz.prog 191 A191 = some A191 := by kernel_rfl
def A159 : AF :=
⟨1, .seq (.reg [⟨.mv 2 (.k (.bool false)) false, none, false, .unit⟩] false)
(.seq (.reg [⟨.mv 5 (.t 0) false, none, false, .unit⟩,
 ⟨.nilc 6 (.t 5), none, false, .unit⟩,
 ⟨.fad 7 123 0 0 1 (.t 6), none, false, .unit⟩,
 ⟨.ld 8 9 1 false (.t 7) false, none, false, .unit⟩,
 ⟨.call (some 9) 189 [(.t 8)] false, none, false, .unit⟩,
 ⟨.mv 3 (.t 9) false, none, false, .unit⟩] false)
(.seq (.seq (.reg [⟨.mv 10 (.t 3) false, none, false, .unit⟩,
 ⟨.bin 11 .lss 3 (.t 10) (.k (.int .i64 0)), none, false, .unit⟩,
 ⟨.mv 12 (.t 11) false, none, false, .unit⟩,
 ⟨.mv 13 (.t 0) false, some (12, false), false, .unit⟩,
 ⟨.nilc 14 (.t 13), some (12, false), false, .unit⟩,
 ⟨.fad 15 123 1 1 1 (.t 14), some (12, false), false, .unit⟩,
 ⟨.ld 16 2 1 false (.t 15) false, some (12, false), false, .unit⟩,
 ⟨.call (some 17) 108 [(.t 16), (.k (.int .i64 0)), (.k (.int .i64 100))] false, some (12, false), false, .unit⟩,
 ⟨.un 18 .not (.t 17), some (12, false), false, .unit⟩,
 ⟨.pick 19 (.t 12) (.k (.bool true)) (.t 18), none, false, .unit⟩] false)
(.cond (.t 19) (.seq (.reg [⟨.mv 2 (.k (.bool false)) false, none, false, .unit⟩] false)
(.ret))
(.skip)))
(.seq (.reg [⟨.call (some 20) 190 [] false, none, false, .unit⟩,
 ⟨.mv 21 (.t 3) false, none, false, .unit⟩,
 ⟨.iad 22 118 1 (.t 20) (.t 21), none, false, .unit⟩,
 ⟨.ld 23 33 1 false (.t 22) false, none, false, .unit⟩,
 ⟨.iad 24 33 1 (.t 23) (.k (.int .i64 0)), none, false, .unit⟩,
 ⟨.ld 25 2 1 false (.t 24) false, none, false, .unit⟩,
 ⟨.mv 4 (.t 25) false, none, false, .unit⟩] false)
(.seq (.reg [⟨.mv 26 (.t 0) false, none, false, .unit⟩,
 ⟨.nilc 27 (.t 26), none, false, .unit⟩,
 ⟨.fad 28 123 1 1 1 (.t 27), none, false, .unit⟩,
 ⟨.ld 29 2 1 false (.t 28) false, none, false, .unit⟩,
 ⟨.mv 30 (.t 4) false, none, false, .unit⟩,
 ⟨.bin 31 .sub 2 (.t 30) (.k (.int .i64 15)), none, false, .unit⟩,
 ⟨.mv 32 (.t 4) false, none, false, .unit⟩,
 ⟨.bin 33 .add 2 (.t 32) (.k (.int .i64 15)), none, false, .unit⟩,
 ⟨.call (some 34) 108 [(.t 29), (.t 31), (.t 33)] false, none, false, .unit⟩,
 ⟨.mv 35 (.t 34) false, none, false, .unit⟩,
 ⟨.mv 36 (.t 0) false, some (35, true), false, .unit⟩,
 ⟨.nilc 37 (.t 36), some (35, true), false, .unit⟩,
 ⟨.fad 38 123 2 2 1 (.t 37), some (35, true), false, .unit⟩,
 ⟨.ld 39 2 1 false (.t 38) false, some (35, true), false, .unit⟩,
 ⟨.call (some 40) 191 [(.t 39)] false, some (35, true), false, .unit⟩,
 ⟨.pick 41 (.t 35) (.t 40) (.k (.bool false)), none, false, .unit⟩,
 ⟨.mv 2 (.t 41) false, none, false, .unit⟩] false)
(.ret))))), [.tmp 2]⟩
theorem M159 : mkF Tryz.prog 159 A159 = some A159 := by kernel_rfl
def A107 : AF :=
⟨1, .seq (.reg [⟨.mv 2 (.k (.bool false)) false, none, false, .unit⟩] false)
(.seq (.seq (.reg [⟨.mv 3 (.k (.int .i64 0)) false, none, false, .unit⟩] false)
(.block 0 (.loop ⟨[.sl 0 (.c (.lst (.pair .str (.pair (.int .i64) (.int .i64))))), .sl 3 (.c (.int .i64))], 0⟩ [((.exit 0), ⟨[], 0⟩), (.ret, ⟨[.sl 2 (.c .bool)], 0⟩)] (.seq (.seq (.reg [⟨.mv 4 (.t 3) false, none, false, .unit⟩,
 ⟨.mv 5 (.t 0) false, none, false, .unit⟩,
 ⟨.len 6 false (.t 5), none, false, .unit⟩,
 ⟨.bin 7 .lss 3 (.t 4) (.t 6), none, false, .unit⟩] false)
(.cond (.t 7) (.skip)
(.exit 0)))
(.seq (.block 1 (.seq (.reg [⟨.mv 10 (.t 0) false, none, false, .unit⟩,
 ⟨.mv 11 (.t 3) false, none, false, .unit⟩,
 ⟨.iad 12 42 3 (.t 10) (.t 11), none, false, .unit⟩,
 ⟨.call (some 13) 159 [(.t 12)] false, none, false, .unit⟩,
 ⟨.un 14 .not (.t 13), none, false, .unit⟩] false)
(.cond (.t 14) (.seq (.reg [⟨.mv 2 (.k (.bool false)) false, none, false, .unit⟩] false)
(.ret))
(.skip))))
(.reg [⟨.mv 8 (.t 3) false, none, false, .unit⟩,
 ⟨.bin 9 .add 3 (.t 8) (.k (.int .i64 1)), none, false, .unit⟩,
 ⟨.mv 3 (.t 9) false, none, false, .unit⟩] false))))))
(.seq (.reg [⟨.mv 2 (.k (.bool true)) false, none, false, .unit⟩] false)
(.ret))), [.tmp 2]⟩
theorem M107 : mkF Tryz.prog 107 A107 = some A107 := by kernel_rfl
def A87 : AF :=
⟨1, .seq (.reg [⟨.mv 2 (.k (.bool false)) false, none, false, .unit⟩] false)
(.seq (.reg [⟨.mv 3 (.t 0) false, none, true, .unit⟩,
 ⟨.nilc 4 (.t 3), none, true, .unit⟩,
 ⟨.fad 5 44 0 0 4 (.t 4), none, true, .unit⟩,
 ⟨.call (some 6) 106 [(.t 5)] false, none, true, .unit⟩,
 ⟨.mv 7 (.t 6) false, none, true, .unit⟩,
 ⟨.mv 8 (.t 0) false, some (7, true), true, .unit⟩,
 ⟨.nilc 9 (.t 8), some (7, true), true, .unit⟩,
 ⟨.fad 10 44 1 4 1 (.t 9), some (7, true), true, .unit⟩,
 ⟨.ld 11 42 1 false (.t 10) false, some (7, true), true, .unit⟩,
 ⟨.call (some 12) 107 [(.t 11)] false, some (7, true), true, .unit⟩,
 ⟨.pick 13 (.t 7) (.t 12) (.k (.bool false)), none, true, .unit⟩,
 ⟨.mv 14 (.t 13) false, none, true, .unit⟩,
 ⟨.mv 15 (.t 0) false, some (14, true), true, .unit⟩,
 ⟨.nilc 16 (.t 15), some (14, true), true, .unit⟩,
 ⟨.fad 17 44 1 4 1 (.t 16), some (14, true), true, .unit⟩,
 ⟨.ld 18 42 1 false (.t 17) false, some (14, true), true, .unit⟩,
 ⟨.len 19 false (.t 18), some (14, true), true, .unit⟩,
 ⟨.mv 20 (.t 0) false, some (14, true), true, .unit⟩,
 ⟨.nilc 21 (.t 20), some (14, true), true, .unit⟩,
 ⟨.fad 22 44 0 0 4 (.t 21), some (14, true), true, .unit⟩,
 ⟨.fad 23 41 3 3 1 (.t 22), some (14, true), true, .unit⟩,
 ⟨.ld 24 39 1 false (.t 23) false, some (14, true), true, .unit⟩,
 ⟨.len 25 false (.t 24), some (14, true), true, .unit⟩,
 ⟨.bin 26 .eql 3 (.t 19) (.t 25), some (14, true), true, .unit⟩,
 ⟨.pick 27 (.t 14) (.t 26) (.k (.bool false)), none, true, .unit⟩,
 ⟨.mv 2 (.t 27) false, none, true, .unit⟩] true)
(.ret)), [.tmp 2]⟩
theorem M87 : mkF Tryz.prog 87 A87 = some A87 := by kernel_rfl
def A171 : AF :=
⟨3, .seq (.reg [⟨.mv 6 (.k (.bool false)) false, none, false, .unit⟩] false)
(.seq (.reg [⟨.mv 7 (.t 0) false, none, true, .unit⟩,
 ⟨.nilc 8 (.t 7), none, true, .unit⟩,
 ⟨.fad 9 234 0 0 1 (.t 8), none, true, .unit⟩,
 ⟨.ld 10 2 1 false (.t 9) false, none, true, .unit⟩,
 ⟨.mv 11 (.t 1) false, none, true, .unit⟩,
 ⟨.call (some 12) 108 [(.t 10), (.k (.int .i64 0)), (.t 11)] false, none, true, .unit⟩,
 ⟨.mv 13 (.t 12) false, none, true, .unit⟩,
 ⟨.mv 14 (.t 0) false, some (13, true), true, .unit⟩,
 ⟨.nilc 15 (.t 14), some (13, true), true, .unit⟩,
 ⟨.fad 16 234 1 1 1 (.t 15), some (13, true), true, .unit⟩,
 ⟨.ld 17 2 1 false (.t 16) false, some (13, true), true, .unit⟩,
 ⟨.mv 18 (.t 2) false, some (13, true), true, .unit⟩,
 ⟨.call (some 19) 108 [(.t 17), (.k (.int .i64 0)), (.t 18)] false, some (13, true), true, .unit⟩,
 ⟨.pick 20 (.t 13) (.t 19) (.k (.bool false)), none, true, .unit⟩,
 ⟨.mv 21 (.t 20) false, none, true, .unit⟩,
 ⟨.mv 22 (.t 0) false, some (21, true), true, .unit⟩,
 ⟨.nilc 23 (.t 22), some (21, true), true, .unit⟩,
 ⟨.fad 24 234 2 2 1 (.t 23), some (21, true), true, .unit⟩,
 ⟨.ld 25 2 1 false (.t 24) false, some (21, true), true, .unit⟩,
 ⟨.mv 26 (.t 1) false, some (21, true), true, .unit⟩,
 ⟨.mv 27 (.t 0) false, some (21, true), true, .unit⟩,
 ⟨.nilc 28 (.t 27), some (21, true), true, .unit⟩,
 ⟨.fad 29 234 0 0 1 (.t 28), some (21, true), true, .unit⟩,
 ⟨.ld 30 2 1 false (.t 29) false, some (21, true), true, .unit⟩,
 ⟨.bin 31 .sub 2 (.t 26) (.t 30), some (21, true), true, .unit⟩,
 ⟨.call (some 32) 108 [(.t 25), (.k (.int .i64 1)), (.t 31)] false, some (21, true), true, .unit⟩,
 ⟨.pick 33 (.t 21) (.t 32) (.k (.bool false)), none, true, .unit⟩,
 ⟨.mv 34 (.t 33) false, none, true, .unit⟩,
 ⟨.mv 35 (.t 0) false, some (34, true), true, .unit⟩,
 ⟨.nilc 36 (.t 35), some (34, true), true, .unit⟩,
 ⟨.fad 37 234 3 3 1 (.t 36), some (34, true), true, .unit⟩,
 ⟨.ld 38 2 1 false (.t 37) false, some (34, true), true, .unit⟩,
 ⟨.mv 39 (.t 2) false, some (34, true), true, .unit⟩,
 ⟨.mv 40 (.t 0) false, some (34, true), true, .unit⟩,
 ⟨.nilc 41 (.t 40), some (34, true), true, .unit⟩,
 ⟨.fad 42 234 1 1 1 (.t 41), some (34, true), true, .unit⟩,
 ⟨.ld 43 2 1 false (.t 42) false, some (34, true), true, .unit⟩,
 ⟨.bin 44 .sub 2 (.t 39) (.t 43), some (34, true), true, .unit⟩,
 ⟨.call (some 45) 108 [(.t 38), (.k (.int .i64 1)), (.t 44)] false, some (34, true), true, .unit⟩,
 ⟨.pick 46 (.t 34) (.t 45) (.k (.bool false)), none, true, .unit⟩,
 ⟨.mv 6 (.t 46) false, none, true, .unit⟩] true)
(.ret)), [.tmp 6]⟩
theorem M171 : mkF Tryz.prog 171 A171 = some A171 := by kernel_rfl
def A139 : AF :=
⟨1, .seq (.reg [⟨.mv 2 (.k (.bool false)) false, none, false, .unit⟩] false)
(.seq (.seq (.reg [⟨.mv 4 (.t 0) false, none, false, .unit⟩,
 ⟨.nilc 5 (.t 4), none, false, .unit⟩,
 ⟨.fad 6 164 0 0 1 (.t 5), none, false, .unit⟩,
 ⟨.ld 7 9 1 false (.t 6) false, none, false, .unit⟩,
 ⟨.call (some 8) 156 [(.t 7)] false, none, false, .unit⟩,
 ⟨.un 9 .not (.t 8), none, false, .unit⟩,
 ⟨.mv 10 (.t 9) false, none, false, .unit⟩,
 ⟨.mv 11 (.t 0) false, some (10, false), false, .unit⟩,
 ⟨.nilc 12 (.t 11), some (10, false), false, .unit⟩,
 ⟨.fad 13 164 1 1 1 (.t 12), some (10, false), false, .unit⟩,
 ⟨.ld 14 9 1 false (.t 13) false, some (10, false), false, .unit⟩,
 ⟨.call (some 15) 156 [(.t 14)] false, some (10, false), false, .unit⟩,
 ⟨.un 16 .not (.t 15), some (10, false), false, .unit⟩,
 ⟨.pick 17 (.t 10) (.k (.bool true)) (.t 16), none, false, .unit⟩,
 ⟨.mv 18 (.t 17) false, none, false, .unit⟩,
 ⟨.mv 19 (.t 0) false, some (18, false), false, .unit⟩,
 ⟨.nilc 20 (.t 19), some (18, false), false, .unit⟩,
 ⟨.fad 21 164 2 2 1 (.t 20), some (18, false), false, .unit⟩,
 ⟨.ld 22 2 1 false (.t 21) false, some (18, false), false, .unit⟩,
 ⟨.call (some 23) 108 [(.t 22), (.k (.int .i64 0)), (.k (.int .i64 999))] false, some (18, false), false, .unit⟩,
 ⟨.un 24 .not (.t 23), some (18, false), false, .unit⟩,
 ⟨.pick 25 (.t 18) (.k (.bool true)) (.t 24), none, false, .unit⟩,
 ⟨.mv 26 (.t 25) false, none, false, .unit⟩,
 ⟨.mv 27 (.t 0) false, some (26, false), false, .unit⟩,
 ⟨.nilc 28 (.t 27), some (26, false), false, .unit⟩,
 ⟨.fad 29 164 3 3 3 (.t 28), some (26, false), false, .unit⟩,
 ⟨.call (some 30) 159 [(.t 29)] false, some (26, false), false, .unit⟩,
 ⟨.un 31 .not (.t 30), some (26, false), false, .unit⟩,
 ⟨.pick 32 (.t 26) (.k (.bool true)) (.t 31), none, false, .unit⟩] false)
(.cond (.t 32) (.seq (.reg [⟨.mv 2 (.k (.bool false)) false, none, false, .unit⟩] false)
(.ret))
(.skip)))
(.seq (.seq (.reg [⟨.mv 33 (.t 0) false, none, false, .unit⟩,
 ⟨.nilc 34 (.t 33), none, false, .unit⟩,
 ⟨.fad 35 164 4 6 1 (.t 34), none, false, .unit⟩,
 ⟨.ld 36 2 1 false (.t 35) false, none, false, .unit⟩,
 ⟨.call (some 37) 108 [(.t 36), (.k (.int .i64 10)), (.k (.int .i64 20000))] false, none, false, .unit⟩,
 ⟨.un 38 .not (.t 37), none, false, .unit⟩,
 ⟨.mv 39 (.t 38) false, none, false, .unit⟩,
 ⟨.mv 40 (.t 0) false, some (39, false), false, .unit⟩,
 ⟨.nilc 41 (.t 40), some (39, false), false, .unit⟩,
 ⟨.fad 42 164 5 7 1 (.t 41), some (39, false), false, .unit⟩,
 ⟨.ld 43 2 1 false (.t 42) false, some (39, false), false, .unit⟩,
 ⟨.call (some 44) 108 [(.t 43), (.k (.int .i64 10)), (.k (.int .i64 20000))] false, some (39, false), false, .unit⟩,
 ⟨.un 45 .not (.t 44), some (39, false), false, .unit⟩,
 ⟨.pick 46 (.t 39) (.k (.bool true)) (.t 45), none, false, .unit⟩,
 ⟨.mv 47 (.t 46) false, none, false, .unit⟩,
 ⟨.mv 48 (.t 0) false, some (47, false), false, .unit⟩,
 ⟨.nilc 49 (.t 48), some (47, false), false, .unit⟩,
 ⟨.fad 50 164 6 8 1 (.t 49), some (47, false), false, .unit⟩,
 ⟨.ld 51 162 1 false (.t 50) false, some (47, false), false, .unit⟩,
 ⟨.len 52 false (.t 51), some (47, false), false, .unit⟩,
 ⟨.bin 53 .gtr 3 (.t 52) (.k (.int .i64 6)), some (47, false), false, .unit⟩,
 ⟨.pick 54 (.t 47) (.k (.bool true)) (.t 53), none, false, .unit⟩] false)
(.cond (.t 54) (.seq (.reg [⟨.mv 2 (.k (.bool false)) false, none, false, .unit⟩] false)
(.ret))
(.skip)))
(.seq (.seq (.reg [⟨.mv 3 (.k (.int .i64 0)) false, none, false, .unit⟩] false)
(.block 0 (.loop ⟨[.sl 0 (.c (.pim (.pair .str (.pair .str (.pair (.int .i64) (.pair (.pair .str (.pair (.int .i64) (.int .i64))) (.pair (.int .i64) (.pair (.int .i64) (.lst (.pair (.int .i64) (.pair (.int .i64) (.pair (.int .i64) (.int .i64))))))))))))), .sl 3 (.c (.int .i64))], 0⟩ [((.exit 0), ⟨[], 0⟩), (.ret, ⟨[.sl 2 (.c .bool)], 0⟩)] (.seq (.seq (.reg [⟨.mv 55 (.t 3) false, none, false, .unit⟩,
 ⟨.mv 56 (.t 0) false, none, false, .unit⟩,
 ⟨.nilc 57 (.t 56), none, false, .unit⟩,
 ⟨.fad 58 164 6 8 1 (.t 57), none, false, .unit⟩,
 ⟨.ld 59 162 1 false (.t 58) false, none, false, .unit⟩,
 ⟨.len 60 false (.t 59), none, false, .unit⟩,
 ⟨.bin 61 .lss 3 (.t 55) (.t 60), none, false, .unit⟩] false)
(.cond (.t 61) (.skip)
(.exit 0)))
(.seq (.block 1 (.seq (.reg [⟨.mv 64 (.t 0) false, none, true, .unit⟩,
 ⟨.nilc 65 (.t 64), none, true, .unit⟩,
 ⟨.fad 66 164 6 8 1 (.t 65), none, true, .unit⟩,
 ⟨.ld 67 162 1 false (.t 66) false, none, true, .unit⟩,
 ⟨.mv 68 (.t 3) false, none, true, .unit⟩,
 ⟨.iad 69 162 4 (.t 67) (.t 68), none, true, .unit⟩,
 ⟨.mv 70 (.t 0) false, none, true, .unit⟩,
 ⟨.nilc 71 (.t 70), none, true, .unit⟩,
 ⟨.fad 72 164 4 6 1 (.t 71), none, true, .unit⟩,
 ⟨.ld 73 2 1 false (.t 72) false, none, true, .unit⟩,
 ⟨.mv 74 (.t 0) false, none, true, .unit⟩,
 ⟨.nilc 75 (.t 74), none, true, .unit⟩,
 ⟨.fad 76 164 5 7 1 (.t 75), none, true, .unit⟩,
 ⟨.ld 77 2 1 false (.t 76) false, none, true, .unit⟩,
 ⟨.call (some 78) 171 [(.t 69), (.t 73), (.t 77)] false, none, true, .unit⟩,
 ⟨.un 79 .not (.t 78), none, true, .unit⟩] true)
(.cond (.t 79) (.seq (.reg [⟨.mv 2 (.k (.bool false)) false, none, false, .unit⟩] false)
(.ret))
(.skip))))
(.reg [⟨.mv 62 (.t 3) false, none, false, .unit⟩,
 ⟨.bin 63 .add 3 (.t 62) (.k (.int .i64 1)), none, false, .unit⟩,
 ⟨.mv 3 (.t 63) false, none, false, .unit⟩] false))))))
(.seq (.reg [⟨.mv 2 (.k (.bool true)) false, none, false, .unit⟩] false)
(.ret))))), [.tmp 2]⟩
theorem M139 : mkF Tryz.prog 139 A139 = some A139 := by kernel_rfl
def A88 : AF :=
⟨1, .seq (.reg [⟨.mv 2 (.k (.bool false)) false, none, false, .unit⟩] false)
(.seq (.seq (.reg [⟨.mv 3 (.k (.int .i64 0)) false, none, false, .unit⟩] false)
(.block 0 (.loop ⟨[.sl 0 (.c (.lst (.pair .str (.pair .str (.pair (.int .i64) (.pair (.pair .str (.pair (.int .i64) (.int .i64))) (.pair (.int .i64) (.pair (.int .i64) (.lst (.pair (.int .i64) (.pair (.int .i64) (.pair (.int .i64) (.int .i64))))))))))))), .sl 3 (.c (.int .i64))], 0⟩ [((.exit 0), ⟨[.sl 0 (.c (.lst (.pair .str (.pair .str (.pair (.int .i64) (.pair (.pair .str (.pair (.int .i64) (.int .i64))) (.pair (.int .i64) (.pair (.int .i64) (.lst (.pair (.int .i64) (.pair (.int .i64) (.pair (.int .i64) (.int .i64)))))))))))))], 0⟩), (.ret, ⟨[.sl 2 (.c .bool)], 0⟩)] (.seq (.seq (.reg [⟨.mv 4 (.t 3) false, none, false, .unit⟩,
 ⟨.mv 5 (.t 0) false, none, false, .unit⟩,
 ⟨.len 6 false (.t 5), none, false, .unit⟩,
 ⟨.bin 7 .lss 3 (.t 4) (.t 6), none, false, .unit⟩] false)
(.cond (.t 7) (.skip)
(.exit 0)))
(.seq (.block 1 (.seq (.reg [⟨.mv 10 (.t 0) false, none, true, .unit⟩,
 ⟨.mv 11 (.t 3) false, none, true, .unit⟩,
 ⟨.iad 12 45 9 (.t 10) (.t 11), none, true, .unit⟩,
 ⟨.call (some 13) 139 [(.t 12)] false, none, true, .unit⟩,
 ⟨.un 14 .not (.t 13), none, true, .unit⟩,
 ⟨.mv 15 (.t 14) false, none, true, .unit⟩,
 ⟨.mv 16 (.t 3) false, some (15, false), true, .unit⟩,
 ⟨.bin 17 .gtr 3 (.t 16) (.k (.int .i64 0)), some (15, false), true, .unit⟩,
 ⟨.mv 18 (.t 17) false, some (15, false), true, .unit⟩,
 ⟨.mv 19 (.t 0) false, some (18, true), true, .unit⟩,
 ⟨.mv 20 (.t 3) false, some (18, true), true, .unit⟩,
 ⟨.bin 21 .sub 3 (.t 20) (.k (.int .i64 1)), some (18, true), true, .unit⟩,
 ⟨.iad 22 45 9 (.t 19) (.t 21), some (18, true), true, .unit⟩,
 ⟨.fad 23 164 0 0 1 (.t 22), some (18, true), true, .unit⟩,
 ⟨.ld 24 9 1 false (.t 23) false, some (18, true), true, .unit⟩,
 ⟨.mv 25 (.t 0) false, some (18, true), true, .unit⟩,
 ⟨.mv 26 (.t 3) false, some (18, true), true, .unit⟩,
 ⟨.iad 27 45 9 (.t 25) (.t 26), some (18, true), true, .unit⟩,
 ⟨.fad 28 164 0 0 1 (.t 27), some (18, true), true, .unit⟩,
 ⟨.ld 29 9 1 false (.t 28) false, some (18, true), true, .unit⟩,
 ⟨.bin 30 .geq 9 (.t 24) (.t 29), some (18, true), true, .unit⟩,
 ⟨.pick 31 (.t 18) (.t 30) (.k (.bool false)), some (15, false), true, .unit⟩,
 ⟨.pick 32 (.t 15) (.k (.bool true)) (.t 31), none, true, .unit⟩] true)
(.cond (.t 32) (.seq (.reg [⟨.mv 2 (.k (.bool false)) false, none, false, .unit⟩] false)
(.ret))
(.skip))))
(.reg [⟨.mv 8 (.t 3) false, none, false, .unit⟩,
 ⟨.bin 9 .add 3 (.t 8) (.k (.int .i64 1)), none, false, .unit⟩,
 ⟨.mv 3 (.t 9) false, none, false, .unit⟩] false))))))
(.seq (.reg [⟨.mv 33 (.t 0) false, none, false, .unit⟩,
 ⟨.len 34 false (.t 33), none, false, .unit⟩,
 ⟨.bin 35 .leq 3 (.t 34) (.k (.int .i64 16)), none, false, .unit⟩,
 ⟨.mv 2 (.t 35) false, none, false, .unit⟩] false)
(.ret))), [.tmp 2]⟩
theorem M88 : mkF Tryz.prog 88 A88 = some A88 := by kernel_rfl
def A172 : AF :=
⟨1, .seq (.reg [⟨.mv 2 (.k (.bool false)) false, none, false, .unit⟩] false)
(.seq (.reg [⟨.mv 3 (.t 0) false, none, false, .unit⟩,
 ⟨.call (some 4) 108 [(.t 3), (.k (.int .i64 0)), (.k (.int .i64 7))] false, none, false, .unit⟩,
 ⟨.mv 2 (.t 4) false, none, false, .unit⟩] false)
(.ret)), [.tmp 2]⟩
theorem M172 : mkF Tryz.prog 172 A172 = some A172 := by kernel_rfl
def A140 : AF :=
⟨1, .seq (.reg [⟨.mv 2 (.k (.bool false)) false, none, false, .unit⟩] false)
(.seq (.reg [⟨.mv 3 (.t 0) false, none, false, .unit⟩,
 ⟨.nilc 4 (.t 3), none, false, .unit⟩,
 ⟨.fad 5 101 0 0 1 (.t 4), none, false, .unit⟩,
 ⟨.ld 6 2 1 false (.t 5) false, none, false, .unit⟩,
 ⟨.call (some 7) 108 [(.t 6), (.k (.int .i64 0)), (.k (.int .i64 23))] false, none, false, .unit⟩,
 ⟨.mv 8 (.t 7) false, none, false, .unit⟩,
 ⟨.mv 9 (.t 0) false, some (8, true), false, .unit⟩,
 ⟨.nilc 10 (.t 9), some (8, true), false, .unit⟩,
 ⟨.fad 11 101 1 1 1 (.t 10), some (8, true), false, .unit⟩,
 ⟨.ld 12 2 1 false (.t 11) false, some (8, true), false, .unit⟩,
 ⟨.call (some 13) 108 [(.t 12), (.k (.int .i64 0)), (.k (.int .i64 15))] false, some (8, true), false, .unit⟩,
 ⟨.pick 14 (.t 8) (.t 13) (.k (.bool false)), none, false, .unit⟩,
 ⟨.mv 15 (.t 14) false, none, false, .unit⟩,
 ⟨.mv 16 (.t 0) false, some (15, true), false, .unit⟩,
 ⟨.nilc 17 (.t 16), some (15, true), false, .unit⟩,
 ⟨.fad 18 101 2 2 1 (.t 17), some (15, true), false, .unit⟩,
 ⟨.ld 19 2 1 false (.t 18) false, some (15, true), false, .unit⟩,
 ⟨.call (some 20) 108 [(.t 19), (.k (.int .i64 0)), (.k (.int .i64 20000))] false, some (15, true), false, .unit⟩,
 ⟨.pick 21 (.t 15) (.t 20) (.k (.bool false)), none, false, .unit⟩,
 ⟨.mv 22 (.t 21) false, none, false, .unit⟩,
 ⟨.mv 23 (.t 0) false, some (22, true), false, .unit⟩,
 ⟨.nilc 24 (.t 23), some (22, true), false, .unit⟩,
 ⟨.fad 25 101 3 3 1 (.t 24), some (22, true), false, .unit⟩,
 ⟨.ld 26 2 1 false (.t 25) false, some (22, true), false, .unit⟩,
 ⟨.call (some 27) 108 [(.t 26), (.k (.int .i64 0)), (.k (.int .i64 20000))] false, some (22, true), false, .unit⟩,
 ⟨.pick 28 (.t 22) (.t 27) (.k (.bool false)), none, false, .unit⟩,
 ⟨.mv 29 (.t 28) false, none, false, .unit⟩,
 ⟨.mv 30 (.t 0) false, some (29, true), false, .unit⟩,
 ⟨.nilc 31 (.t 30), some (29, true), false, .unit⟩,
 ⟨.fad 32 101 4 4 1 (.t 31), some (29, true), false, .unit⟩,
 ⟨.ld 33 2 1 false (.t 32) false, some (29, true), false, .unit⟩,
 ⟨.call (some 34) 172 [(.t 33)] false, some (29, true), false, .unit⟩,
 ⟨.pick 35 (.t 29) (.t 34) (.k (.bool false)), none, false, .unit⟩,
 ⟨.mv 2 (.t 35) false, none, false, .unit⟩] false)
(.ret)), [.tmp 2]⟩
theorem M140 : mkF Tryz.prog 140 A140 = some A140 := by kernel_rfl
def A89 : AF :=
⟨1, .seq (.reg [⟨.mv 2 (.k (.bool false)) false, none, false, .unit⟩] false)
(.seq (.seq (.reg [⟨.mv 3 (.k (.int .i64 0)) false, none, false, .unit⟩] false)
(.block 0 (.loop ⟨[.sl 0 (.c (.lst (.pair (.int .i64) (.pair (.int .i64) (.pair (.int .i64) (.pair (.int .i64) (.int .i64))))))), .sl 3 (.c (.int .i64))], 0⟩ [((.exit 0), ⟨[.sl 0 (.c (.lst (.pair (.int .i64) (.pair (.int .i64) (.pair (.int .i64) (.pair (.int .i64) (.int .i64)))))))], 0⟩), (.ret, ⟨[.sl 2 (.c .bool)], 0⟩)] (.seq (.seq (.reg [⟨.mv 4 (.t 3) false, none, false, .unit⟩,
 ⟨.mv 5 (.t 0) false, none, false, .unit⟩,
 ⟨.len 6 false (.t 5), none, false, .unit⟩,
 ⟨.bin 7 .lss 3 (.t 4) (.t 6), none, false, .unit⟩] false)
(.cond (.t 7) (.skip)
(.exit 0)))
(.seq (.block 1 (.seq (.reg [⟨.mv 10 (.t 0) false, none, true, .unit⟩,
 ⟨.mv 11 (.t 3) false, none, true, .unit⟩,
 ⟨.iad 12 46 5 (.t 10) (.t 11), none, true, .unit⟩,
 ⟨.call (some 13) 140 [(.t 12)] false, none, true, .unit⟩,
 ⟨.un 14 .not (.t 13), none, true, .unit⟩,
 ⟨.mv 15 (.t 14) false, none, true, .unit⟩,
 ⟨.mv 16 (.t 3) false, some (15, false), true, .unit⟩,
 ⟨.bin 17 .gtr 3 (.t 16) (.k (.int .i64 0)), some (15, false), true, .unit⟩,
 ⟨.mv 18 (.t 17) false, some (15, false), true, .unit⟩,
 ⟨.mv 19 (.t 0) false, some (18, true), true, .unit⟩,
 ⟨.mv 20 (.t 3) false, some (18, true), true, .unit⟩,
 ⟨.bin 21 .sub 3 (.t 20) (.k (.int .i64 1)), some (18, true), true, .unit⟩,
 ⟨.iad 22 46 5 (.t 19) (.t 21), some (18, true), true, .unit⟩,
 ⟨.fad 23 101 0 0 1 (.t 22), some (18, true), true, .unit⟩,
 ⟨.ld 24 2 1 false (.t 23) false, some (18, true), true, .unit⟩,
 ⟨.mv 25 (.t 0) false, some (18, true), true, .unit⟩,
 ⟨.mv 26 (.t 3) false, some (18, true), true, .unit⟩,
 ⟨.iad 27 46 5 (.t 25) (.t 26), some (18, true), true, .unit⟩,
 ⟨.fad 28 101 0 0 1 (.t 27), some (18, true), true, .unit⟩,
 ⟨.ld 29 2 1 false (.t 28) false, some (18, true), true, .unit⟩,
 ⟨.bin 30 .geq 2 (.t 24) (.t 29), some (18, true), true, .unit⟩,
 ⟨.pick 31 (.t 18) (.t 30) (.k (.bool false)), some (15, false), true, .unit⟩,
 ⟨.pick 32 (.t 15) (.k (.bool true)) (.t 31), none, true, .unit⟩] true)
(.cond (.t 32) (.seq (.reg [⟨.mv 2 (.k (.bool false)) false, none, false, .unit⟩] false)
(.ret))
(.skip))))
(.reg [⟨.mv 8 (.t 3) false, none, false, .unit⟩,
 ⟨.bin 9 .add 3 (.t 8) (.k (.int .i64 1)), none, false, .unit⟩,
 ⟨.mv 3 (.t 9) false, none, false, .unit⟩] false))))))
(.seq (.reg [⟨.mv 33 (.t 0) false, none, false, .unit⟩,
 ⟨.len 34 false (.t 33), none, false, .unit⟩,
 ⟨.bin 35 .leq 3 (.t 34) (.k (.int .i64 24)), none, false, .unit⟩,
 ⟨.mv 2 (.t 35) false, none, false, .unit⟩] false)
(.ret))), [.tmp 2]⟩
theorem M89 : mkF Tryz.prog 89 A89 = some A89 := by kernel_rfl
def A141 : AF :=
⟨2, .seq (.reg [⟨.mv 4 (.k (.bool false)) false, none, false, .unit⟩] false)
(.seq (.reg [⟨.mv 5 (.t 1) false, none, false, .unit⟩,
 ⟨.mv 6 (.t 0) false, none, false, .unit⟩,
 ⟨.nilc 7 (.t 6), none, false, .unit⟩,
 ⟨.fad 8 41 3 3 1 (.t 7), none, false, .unit⟩,
 ⟨.ld 9 39 1 false (.t 8) false, none, false, .unit⟩,
 ⟨.len 10 false (.t 9), none, false, .unit⟩,
 ⟨.bin 11 .sub 2 (.t 10) (.k (.int .i64 1)), none, false, .unit⟩,
 ⟨.call (some 12) 108 [(.t 5), (.k (.int .i64 0)), (.t 11)] false, none, false, .unit⟩,
 ⟨.mv 4 (.t 12) false, none, false, .unit⟩] false)
(.ret)), [.tmp 4]⟩
theorem M141 : mkF Tryz.prog 141 A141 = some A141 := by kernel_rfl
def A90 : AF :=
⟨2, .seq (.reg [⟨.mv 4 (.k (.bool false)) false, none, false, .unit⟩] false)
(.seq (.seq (.reg [⟨.mv 5 (.k (.int .i64 0)) false, none, false, .unit⟩] false)
(.block 0 (.loop ⟨[.sl 0 (.c (.pim (.pair (.pair (.int .i64) (.pair (.int .i64) (.pair (.lst (.pair (.int .i64) (.int .i64))) (.lst (.pair .str (.lst (.int .i64))))))) (.lst (.pair .str (.pair (.int .i64) (.int .i64))))))), .sl 1 (.c (.lst (.pair (.int .i64) (.pair (.int .i64) (.pair (.int .i64) (.pair (.int .i64) (.int .i64))))))), .sl 5 (.c (.int .i64))], 0⟩ [((.exit 0), ⟨[], 0⟩), (.ret, ⟨[.sl 4 (.c .bool)], 0⟩)] (.seq (.seq (.reg [⟨.mv 6 (.t 5) false, none, false, .unit⟩,
 ⟨.mv 7 (.t 1) false, none, false, .unit⟩,
 ⟨.len 8 false (.t 7), none, false, .unit⟩,
 ⟨.bin 9 .lss 3 (.t 6) (.t 8), none, false, .unit⟩] false)
(.cond (.t 9) (.skip)
(.exit 0)))
(.seq (.block 1 (.seq (.reg [⟨.mv 12 (.t 0) false, none, true, .unit⟩,
 ⟨.nilc 13 (.t 12), none, true, .unit⟩,
 ⟨.fad 14 44 0 0 4 (.t 13), none, true, .unit⟩,
 ⟨.mv 15 (.t 1) false, none, true, .unit⟩,
 ⟨.mv 16 (.t 5) false, none, true, .unit⟩,
 ⟨.iad 17 46 5 (.t 15) (.t 16), none, true, .unit⟩,
 ⟨.fad 18 101 0 0 1 (.t 17), none, true, .unit⟩,
 ⟨.ld 19 2 1 false (.t 18) false, none, true, .unit⟩,
 ⟨.call (some 20) 141 [(.t 14), (.t 19)] false, none, true, .unit⟩,
 ⟨.un 21 .not (.t 20), none, true, .unit⟩] true)
(.cond (.t 21) (.seq (.reg [⟨.mv 4 (.k (.bool false)) false, none, false, .unit⟩] false)
(.ret))
(.skip))))
(.reg [⟨.mv 10 (.t 5) false, none, false, .unit⟩,
 ⟨.bin 11 .add 3 (.t 10) (.k (.int .i64 1)), none, false, .unit⟩,
 ⟨.mv 5 (.t 11) false, none, false, .unit⟩] false))))))
(.seq (.reg [⟨.mv 4 (.k (.bool true)) false, none, false, .unit⟩] false)
(.ret))), [.tmp 4]⟩
theorem M90 : mkF Tryz.prog 90 A90 = some A90 := by kernel_rfl
def A91 : AF :=
⟨1, .seq (.reg [⟨.mv 2 (.k (.bool false)) false, none, false, .unit⟩] false)
(.seq (.reg [⟨.mv 3 (.t 0) false, none, false, .unit⟩,
 ⟨.nilc 4 (.t 3), none, false, .unit⟩,
 ⟨.fad 5 47 0 0 1 (.t 4), none, false, .unit⟩,
 ⟨.ld 6 2 1 false (.t 5) false, none, false, .unit⟩,
 ⟨.call (some 7) 108 [(.t 6), (.k (.int .i64 0)), (.k (.int .i64 500))] false, none, false, .unit⟩,
 ⟨.mv 8 (.t 7) false, none, false, .unit⟩,
 ⟨.mv 9 (.t 0) false, some (8, true), false, .unit⟩,
 ⟨.nilc 10 (.t 9), some (8, true), false, .unit⟩,
 ⟨.fad 11 47 1 1 1 (.t 10), some (8, true), false, .unit⟩,
 ⟨.ld 12 2 1 false (.t 11) false, some (8, true), false, .unit⟩,
 ⟨.call (some 13) 108 [(.t 12), (.k (.int .i64 0)), (.k (.int .i64 500))] false, some (8, true), false, .unit⟩,
 ⟨.pick 14 (.t 8) (.t 13) (.k (.bool false)), none, false, .unit⟩,
 ⟨.mv 15 (.t 14) false, none, false, .unit⟩,
 ⟨.mv 16 (.t 0) false, some (15, true), false, .unit⟩,
 ⟨.nilc 17 (.t 16), some (15, true), false, .unit⟩,
 ⟨.fad 18 47 2 2 1 (.t 17), some (15, true), false, .unit⟩,
 ⟨.ld 19 2 1 false (.t 18) false, some (15, true), false, .unit⟩,
 ⟨.call (some 20) 108 [(.t 19), (.k (.int .i64 0)), (.k (.int .i64 90))] false, some (15, true), false, .unit⟩,
 ⟨.pick 21 (.t 15) (.t 20) (.k (.bool false)), none, false, .unit⟩,
 ⟨.mv 22 (.t 21) false, none, false, .unit⟩,
 ⟨.mv 23 (.t 0) false, some (22, true), false, .unit⟩,
 ⟨.nilc 24 (.t 23), some (22, true), false, .unit⟩,
 ⟨.fad 25 47 3 3 1 (.t 24), some (22, true), false, .unit⟩,
 ⟨.ld 26 2 1 false (.t 25) false, some (22, true), false, .unit⟩,
 ⟨.call (some 27) 108 [(.t 26), (.k (.int .i64 0)), (.k (.int .i64 100))] false, some (22, true), false, .unit⟩,
 ⟨.pick 28 (.t 22) (.t 27) (.k (.bool false)), none, false, .unit⟩,
 ⟨.mv 2 (.t 28) false, none, false, .unit⟩] false)
(.ret)), [.tmp 2]⟩
theorem M91 : mkF Tryz.prog 91 A91 = some A91 := by kernel_rfl
def A92 : AF :=
⟨2, .seq (.reg [⟨.mv 4 (.k (.bool false)) false, none, false, .unit⟩] false)
(.seq (.reg [⟨.mv 5 (.t 0) false, none, false, .unit⟩,
 ⟨.call (some 6) 108 [(.t 5), (.k (.int .i64 1)), (.k (.int .i64 1000))] false, none, false, .unit⟩,
 ⟨.mv 7 (.t 6) false, none, false, .unit⟩,
 ⟨.mv 8 (.t 1) false, some (7, true), false, .unit⟩,
 ⟨.call (some 9) 108 [(.t 8), (.k (.int .i64 0)), (.k (.int .i64 200))] false, some (7, true), false, .unit⟩,
 ⟨.pick 10 (.t 7) (.t 9) (.k (.bool false)), none, false, .unit⟩,
 ⟨.mv 4 (.t 10) false, none, false, .unit⟩] false)
(.ret)), [.tmp 4]⟩
theorem M92 : mkF Tryz.prog 92 A92 = some A92 := by kernel_rfl
def A93 : AF :=
⟨1, .seq (.reg [⟨.mv 2 (.k (.bool false)) false, none, false, .unit⟩] false)
(.seq (.reg [⟨.mv 3 (.t 0) false, none, false, .unit⟩,
 ⟨.call (some 4) 108 [(.t 3), (.k (.int .i64 0)), (.k (.int .i64 30))] false, none, false, .unit⟩,
 ⟨.mv 2 (.t 4) false, none, false, .unit⟩] false)
(.ret)), [.tmp 2]⟩
theorem M93 : mkF Tryz.prog 93 A93 = some A93 := by kernel_rfl
def A94 : AF :=
⟨1, .seq (.reg [⟨.mv 2 (.k (.bool false)) false, none, false, .unit⟩] false)
(.seq (.reg [⟨.mv 3 (.t 0) false, none, false, .unit⟩,
 ⟨.call (some 4) 108 [(.t 3), (.k (.int .i64 0)), (.k (.int .i64 200))] false, none, false, .unit⟩,
 ⟨.mv 2 (.t 4) false, none, false, .unit⟩] false)
(.ret)), [.tmp 2]⟩
theorem M94 : mkF Tryz.prog 94 A94 = some A94 := by kernel_rfl
def A112 : AF :=
⟨2, .seq (.reg [⟨.mv 4 (.k (.bool false)) false, none, false, .unit⟩] false)
(.seq (.seq (.reg [⟨.mv 5 (.k (.int .i64 0)) false, none, false, .unit⟩] false)
(.block 0 (.loop ⟨[.sl 0 (.c (.lst (.int .i64))), .sl 1 (.c (.int .i64)), .sl 5 (.c (.int .i64))], 0⟩ [((.exit 0), ⟨[], 0⟩), (.ret, ⟨[.sl 4 (.c .bool)], 0⟩)] (.seq (.seq (.reg [⟨.mv 6 (.t 5) false, none, false, .unit⟩,
 ⟨.mv 7 (.t 0) false, none, false, .unit⟩,
 ⟨.len 8 false (.t 7), none, false, .unit⟩,
 ⟨.bin 9 .lss 3 (.t 6) (.t 8), none, false, .unit⟩] false)
(.cond (.t 9) (.skip)
(.exit 0)))
(.seq (.block 1 (.seq (.reg [⟨.mv 12 (.t 0) false, none, false, .unit⟩,
 ⟨.mv 13 (.t 5) false, none, false, .unit⟩,
 ⟨.iad 14 33 1 (.t 12) (.t 13), none, false, .unit⟩,
 ⟨.ld 15 2 1 false (.t 14) false, none, false, .unit⟩,
 ⟨.mv 16 (.t 1) false, none, false, .unit⟩,
 ⟨.bin 17 .eql 2 (.t 15) (.t 16), none, false, .unit⟩] false)
(.cond (.t 17) (.seq (.reg [⟨.mv 4 (.k (.bool true)) false, none, false, .unit⟩] false)
(.ret))
(.skip))))
(.reg [⟨.mv 10 (.t 5) false, none, false, .unit⟩,
 ⟨.bin 11 .add 3 (.t 10) (.k (.int .i64 1)), none, false, .unit⟩,
 ⟨.mv 5 (.t 11) false, none, false, .unit⟩] false))))))
(.seq (.reg [⟨.mv 4 (.k (.bool false)) false, none, false, .unit⟩] false)
(.ret))), [.tmp 4]⟩
theorem M112 : mkF Tryz.prog 112 A112 = some A112 := by kernel_rfl
def A95 : AF :=
⟨2, .seq (.reg [⟨.mv 4 (.k (.bool false)) false, none, false, .unit⟩] false)
(.seq (.seq (.reg [⟨.mv 5 (.k (.int .i64 0)) false, none, false, .unit⟩] false)
(.block 0 (.loop ⟨[.sl 0 (.c (.pim (.pair (.int .i64) (.pair (.int .i64) (.pair (.lst (.pair (.int .i64) (.int .i64))) (.lst (.pair .str (.lst (.int .i64))))))))), .sl 1 (.c (.lst (.int .i64))), .sl 5 (.c (.int .i64))], 0⟩ [((.exit 0), ⟨[], 0⟩), (.ret, ⟨[.sl 4 (.c .bool)], 0⟩)] (.seq (.seq (.reg [⟨.mv 6 (.t 5) false, none, false, .unit⟩,
 ⟨.mv 7 (.t 1) false, none, false, .unit⟩,
 ⟨.len 8 false (.t 7), none, false, .unit⟩,
 ⟨.bin 9 .lss 3 (.t 6) (.t 8), none, false, .unit⟩] false)
(.cond (.t 9) (.skip)
(.exit 0)))
(.seq (.block 1 (.seq (.reg [⟨.mv 12 (.t 0) false, none, true, .unit⟩,
 ⟨.mv 13 (.t 1) false, none, true, .unit⟩,
 ⟨.mv 14 (.t 5) false, none, true, .unit⟩,
 ⟨.iad 15 33 1 (.t 13) (.t 14), none, true, .unit⟩,
 ⟨.ld 16 2 1 false (.t 15) false, none, true, .unit⟩,
 ⟨.call (some 17) 141 [(.t 12), (.t 16)] false, none, true, .unit⟩,
 ⟨.un 18 .not (.t 17), none, true, .unit⟩,
 ⟨.mv 19 (.t 18) false, none, true, .unit⟩,
 ⟨.mv 20 (.t 1) false, some (19, false), true, .unit⟩,
 ⟨.mv 21 (.t 5) false, some (19, false), true, .unit⟩,
 ⟨.slc 22 33 false 1 (.t 20) none (some (.t 21)) none, some (19, false), true, .unit⟩,
 ⟨.mv 23 (.t 1) false, some (19, false), true, .unit⟩,
 ⟨.mv 24 (.t 5) false, some (19, false), true, .unit⟩,
 ⟨.iad 25 33 1 (.t 23) (.t 24), some (19, false), true, .unit⟩,
 ⟨.ld 26 2 1 false (.t 25) false, some (19, false), true, .unit⟩,
 ⟨.call (some 27) 112 [(.t 22), (.t 26)] false, some (19, false), true, .unit⟩,
 ⟨.pick 28 (.t 19) (.k (.bool true)) (.t 27), none, true, .unit⟩] true)
(.cond (.t 28) (.seq (.reg [⟨.mv 4 (.k (.bool false)) false, none, false, .unit⟩] false)
(.ret))
(.skip))))
(.reg [⟨.mv 10 (.t 5) false, none, false, .unit⟩,
 ⟨.bin 11 .add 3 (.t 10) (.k (.int .i64 1)), none, false, .unit⟩,
 ⟨.mv 5 (.t 11) false, none, false, .unit⟩] false))))))
(.seq (.reg [⟨.mv 4 (.k (.bool true)) false, none, false, .unit⟩] false)
(.ret))), [.tmp 4]⟩
theorem M95 : mkF Tryz.prog 95 A95 = some A95 := by kernel_rfl
def A39 : AF :=
⟨1, .seq (.reg [⟨.mv 2 (.k (.bool false)) false, none, false, .unit⟩] false)
(.seq (.seq (.reg [⟨.mv 3 (.t 0) false, none, true, .unit⟩,
 ⟨.nilc 4 (.t 3), none, true, .unit⟩,
 ⟨.fad 5 49 0 0 5 (.t 4), none, true, .unit⟩,
 ⟨.call (some 6) 87 [(.t 5)] false, none, true, .unit⟩,
 ⟨.un 7 .not (.t 6), none, true, .unit⟩,
 ⟨.mv 8 (.t 7) false, none, true, .unit⟩,
 ⟨.mv 9 (.t 0) false, some (8, false), true, .unit⟩,
 ⟨.nilc 10 (.t 9), some (8, false), true, .unit⟩,
 ⟨.fad 11 49 1 5 1 (.t 10), some (8, false), true, .unit⟩,
 ⟨.ld 12 45 1 false (.t 11) false, some (8, false), true, .unit⟩,
 ⟨.call (some 13) 88 [(.t 12)] false, some (8, false), true, .unit⟩,
 ⟨.un 14 .not (.t 13), some (8, false), true, .unit⟩,
 ⟨.pick 15 (.t 8) (.k (.bool true)) (.t 14), none, true, .unit⟩,
 ⟨.mv 16 (.t 15) false, none, true, .unit⟩,
 ⟨.mv 17 (.t 0) false, some (16, false), true, .unit⟩,
 ⟨.nilc 18 (.t 17), some (16, false), true, .unit⟩,
 ⟨.fad 19 49 2 6 1 (.t 18), some (16, false), true, .unit⟩,
 ⟨.ld 20 46 1 false (.t 19) false, some (16, false), true, .unit⟩,
 ⟨.call (some 21) 89 [(.t 20)] false, some (16, false), true, .unit⟩,
 ⟨.un 22 .not (.t 21), some (16, false), true, .unit⟩,
 ⟨.pick 23 (.t 16) (.k (.bool true)) (.t 22), none, true, .unit⟩,
 ⟨.mv 24 (.t 23) false, none, true, .unit⟩,
 ⟨.mv 25 (.t 0) false, some (24, false), true, .unit⟩,
 ⟨.nilc 26 (.t 25), some (24, false), true, .unit⟩,
 ⟨.fad 27 49 0 0 5 (.t 26), some (24, false), true, .unit⟩,
 ⟨.mv 28 (.t 0) false, some (24, false), true, .unit⟩,
 ⟨.nilc 29 (.t 28), some (24, false), true, .unit⟩,
 ⟨.fad 30 49 2 6 1 (.t 29), some (24, false), true, .unit⟩,
 ⟨.ld 31 46 1 false (.t 30) false, some (24, false), true, .unit⟩,
 ⟨.call (some 32) 90 [(.t 27), (.t 31)] false, some (24, false), true, .unit⟩,
 ⟨.un 33 .not (.t 32), some (24, false), true, .unit⟩,
 ⟨.pick 34 (.t 24) (.k (.bool true)) (.t 33), none, true, .unit⟩,
 ⟨.mv 35 (.t 34) false, none, true, .unit⟩,
 ⟨.mv 36 (.t 0) false, some (35, false), true, .unit⟩,
 ⟨.nilc 37 (.t 36), some (35, false), true, .unit⟩,
 ⟨.fad 38 49 3 7 4 (.t 37), some (35, false), true, .unit⟩,
 ⟨.call (some 39) 91 [(.t 38)] false, some (35, false), true, .unit⟩,
 ⟨.un 40 .not (.t 39), some (35, false), true, .unit⟩,
 ⟨.pick 41 (.t 35) (.k (.bool true)) (.t 40), none, true, .unit⟩] true)
(.cond (.t 41) (.seq (.reg [⟨.mv 2 (.k (.bool false)) false, none, false, .unit⟩] false)
(.ret))
(.skip)))
(.seq (.reg [⟨.mv 42 (.t 0) false, none, true, .unit⟩,
 ⟨.nilc 43 (.t 42), none, true, .unit⟩,
 ⟨.fad 44 49 4 11 1 (.t 43), none, true, .unit⟩,
 ⟨.ld 45 2 1 false (.t 44) false, none, true, .unit⟩,
 ⟨.mv 46 (.t 0) false, none, true, .unit⟩,
 ⟨.nilc 47 (.t 46), none, true, .unit⟩,
 ⟨.fad 48 49 5 12 1 (.t 47), none, true, .unit⟩,
 ⟨.ld 49 2 1 false (.t 48) false, none, true, .unit⟩,
 ⟨.call (some 50) 92 [(.t 45), (.t 49)] false, none, true, .unit⟩,
 ⟨.mv 51 (.t 50) false, none, true, .unit⟩,
 ⟨.mv 52 (.t 0) false, some (51, true), true, .unit⟩,
 ⟨.nilc 53 (.t 52), some (51, true), true, .unit⟩,
 ⟨.fad 54 49 6 13 1 (.t 53), some (51, true), true, .unit⟩,
 ⟨.ld 55 2 1 false (.t 54) false, some (51, true), true, .unit⟩,
 ⟨.call (some 56) 93 [(.t 55)] false, some (51, true), true, .unit⟩,
 ⟨.pick 57 (.t 51) (.t 56) (.k (.bool false)), none, true, .unit⟩,
 ⟨.mv 58 (.t 57) false, none, true, .unit⟩,
 ⟨.mv 59 (.t 0) false, some (58, true), true, .unit⟩,
 ⟨.nilc 60 (.t 59), some (58, true), true, .unit⟩,
 ⟨.fad 61 49 7 14 1 (.t 60), some (58, true), true, .unit⟩,
 ⟨.ld 62 2 1 false (.t 61) false, some (58, true), true, .unit⟩,
 ⟨.call (some 63) 94 [(.t 62)] false, some (58, true), true, .unit⟩,
 ⟨.pick 64 (.t 58) (.t 63) (.k (.bool false)), none, true, .unit⟩,
 ⟨.mv 65 (.t 64) false, none, true, .unit⟩,
 ⟨.mv 66 (.t 0) false, some (65, true), true, .unit⟩,
 ⟨.nilc 67 (.t 66), some (65, true), true, .unit⟩,
 ⟨.fad 68 49 0 0 5 (.t 67), some (65, true), true, .unit⟩,
 ⟨.fad 69 44 0 0 4 (.t 68), some (65, true), true, .unit⟩,
 ⟨.mv 70 (.t 0) false, some (65, true), true, .unit⟩,
 ⟨.nilc 71 (.t 70), some (65, true), true, .unit⟩,
 ⟨.fad 72 49 8 15 1 (.t 71), some (65, true), true, .unit⟩,
 ⟨.ld 73 33 1 false (.t 72) false, some (65, true), true, .unit⟩,
 ⟨.call (some 74) 95 [(.t 69), (.t 73)] false, some (65, true), true, .unit⟩,
 ⟨.pick 75 (.t 65) (.t 74) (.k (.bool false)), none, true, .unit⟩,
 ⟨.mv 2 (.t 75) false, none, true, .unit⟩] true)
(.ret))), [.tmp 2]⟩
theorem M39 : mkF Tryz.prog 39 A39 = some A39 := by kernel_rfl
def A168 : AF :=
⟨1, .seq (.reg [⟨.mv 2 (.k (.bool false)) false, none, false, .unit⟩] false)
(.seq (.reg [⟨.mv 3 (.t 0) false, none, true, .unit⟩,
 ⟨.nilc 4 (.t 3), none, true, .unit⟩,
 ⟨.fad 5 209 0 0 1 (.t 4), none, true, .unit⟩,
 ⟨.ld 6 9 1 false (.t 5) false, none, true, .unit⟩,
 ⟨.call (some 7) 156 [(.t 6)] false, none, true, .unit⟩,
 ⟨.mv 8 (.t 7) false, none, true, .unit⟩,
 ⟨.mv 9 (.t 0) false, some (8, true), true, .unit⟩,
 ⟨.nilc 10 (.t 9), some (8, true), true, .unit⟩,
 ⟨.fad 11 209 1 1 1 (.t 10), some (8, true), true, .unit⟩,
 ⟨.ld 12 2 1 false (.t 11) false, some (8, true), true, .unit⟩,
 ⟨.call (some 13) 108 [(.t 12), (.k (.int .i64 1)), (.k (.int .i64 120))] false, some (8, true), true, .unit⟩,
 ⟨.pick 14 (.t 8) (.t 13) (.k (.bool false)), none, true, .unit⟩,
 ⟨.mv 15 (.t 14) false, none, true, .unit⟩,
 ⟨.mv 16 (.t 0) false, some (15, true), true, .unit⟩,
 ⟨.nilc 17 (.t 16), some (15, true), true, .unit⟩,
 ⟨.fad 18 209 2 2 1 (.t 17), some (15, true), true, .unit⟩,
 ⟨.ld 19 2 1 false (.t 18) false, some (15, true), true, .unit⟩,
 ⟨.mv 20 (.t 0) false, some (15, true), true, .unit⟩,
 ⟨.nilc 21 (.t 20), some (15, true), true, .unit⟩,
 ⟨.fad 22 209 1 1 1 (.t 21), some (15, true), true, .unit⟩,
 ⟨.ld 23 2 1 false (.t 22) false, some (15, true), true, .unit⟩,
 ⟨.call (some 24) 108 [(.t 19), (.t 23), (.k (.int .i64 240))] false, some (15, true), true, .unit⟩,
 ⟨.pick 25 (.t 15) (.t 24) (.k (.bool false)), none, true, .unit⟩,
 ⟨.mv 26 (.t 25) false, none, true, .unit⟩,
 ⟨.mv 27 (.t 0) false, some (26, true), true, .unit⟩,
 ⟨.nilc 28 (.t 27), some (26, true), true, .unit⟩,
 ⟨.fad 29 209 3 3 1 (.t 28), some (26, true), true, .unit⟩,
 ⟨.ld 30 2 1 false (.t 29) false, some (26, true), true, .unit⟩,
 ⟨.call (some 31) 108 [(.t 30), (.k (.int .i64 1)), (.k (.int .i64 1440))] false, some (26, true), true, .unit⟩,
 ⟨.pick 32 (.t 26) (.t 31) (.k (.bool false)), none, true, .unit⟩,
 ⟨.mv 2 (.t 32) false, none, true, .unit⟩] true)
(.ret)), [.tmp 2]⟩
theorem M168 : mkF Tryz.prog 168 A168 = some A168 := by kernel_rfl
def A127 : AF :=
⟨1, .seq (.reg [⟨.mv 2 (.k (.bool false)) false, none, false, .unit⟩] false)
(.seq (.seq (.reg [⟨.mv 3 (.k (.int .i64 0)) false, none, false, .unit⟩] false)
(.block 0 (.loop ⟨[.sl 0 (.c (.lst (.pair .str (.pair (.int .i64) (.pair (.int .i64) (.int .i64)))))), .sl 3 (.c (.int .i64))], 0⟩ [((.exit 0), ⟨[.sl 0 (.c (.lst (.pair .str (.pair (.int .i64) (.pair (.int .i64) (.int .i64))))))], 0⟩), (.ret, ⟨[.sl 2 (.c .bool)], 0⟩)] (.seq (.seq (.reg [⟨.mv 4 (.t 3) false, none, false, .unit⟩,
 ⟨.mv 5 (.t 0) false, none, false, .unit⟩,
 ⟨.len 6 false (.t 5), none, false, .unit⟩,
 ⟨.bin 7 .lss 3 (.t 4) (.t 6), none, false, .unit⟩] false)
(.cond (.t 7) (.skip)
(.exit 0)))
(.seq (.block 1 (.seq (.reg [⟨.mv 10 (.t 0) false, none, true, .unit⟩,
 ⟨.mv 11 (.t 3) false, none, true, .unit⟩,
 ⟨.iad 12 78 4 (.t 10) (.t 11), none, true, .unit⟩,
 ⟨.call (some 13) 168 [(.t 12)] false, none, true, .unit⟩,
 ⟨.un 14 .not (.t 13), none, true, .unit⟩,
 ⟨.mv 15 (.t 14) false, none, true, .unit⟩,
 ⟨.mv 16 (.t 3) false, some (15, false), true, .unit⟩,
 ⟨.bin 17 .gtr 3 (.t 16) (.k (.int .i64 0)), some (15, false), true, .unit⟩,
 ⟨.mv 18 (.t 17) false, some (15, false), true, .unit⟩,
 ⟨.mv 19 (.t 0) false, some (18, true), true, .unit⟩,
 ⟨.mv 20 (.t 3) false, some (18, true), true, .unit⟩,
 ⟨.bin 21 .sub 3 (.t 20) (.k (.int .i64 1)), some (18, true), true, .unit⟩,
 ⟨.iad 22 78 4 (.t 19) (.t 21), some (18, true), true, .unit⟩,
 ⟨.fad 23 209 0 0 1 (.t 22), some (18, true), true, .unit⟩,
 ⟨.ld 24 9 1 false (.t 23) false, some (18, true), true, .unit⟩,
 ⟨.mv 25 (.t 0) false, some (18, true), true, .unit⟩,
 ⟨.mv 26 (.t 3) false, some (18, true), true, .unit⟩,
 ⟨.iad 27 78 4 (.t 25) (.t 26), some (18, true), true, .unit⟩,
 ⟨.fad 28 209 0 0 1 (.t 27), some (18, true), true, .unit⟩,
 ⟨.ld 29 9 1 false (.t 28) false, some (18, true), true, .unit⟩,
 ⟨.bin 30 .geq 9 (.t 24) (.t 29), some (18, true), true, .unit⟩,
 ⟨.pick 31 (.t 18) (.t 30) (.k (.bool false)), some (15, false), true, .unit⟩,
 ⟨.pick 32 (.t 15) (.k (.bool true)) (.t 31), none, true, .unit⟩] true)
(.cond (.t 32) (.seq (.reg [⟨.mv 2 (.k (.bool false)) false, none, false, .unit⟩] false)
(.ret))
(.skip))))
(.reg [⟨.mv 8 (.t 3) false, none, false, .unit⟩,
 ⟨.bin 9 .add 3 (.t 8) (.k (.int .i64 1)), none, false, .unit⟩,
 ⟨.mv 3 (.t 9) false, none, false, .unit⟩] false))))))
(.seq (.reg [⟨.mv 33 (.t 0) false, none, false, .unit⟩,
 ⟨.len 34 false (.t 33), none, false, .unit⟩,
 ⟨.bin 35 .leq 3 (.t 34) (.k (.int .i64 12)), none, false, .unit⟩,
 ⟨.mv 2 (.t 35) false, none, false, .unit⟩] false)
(.ret))), [.tmp 2]⟩
theorem M127 : mkF Tryz.prog 127 A127 = some A127 := by kernel_rfl
def A169 : AF :=
⟨1, .seq (.reg [⟨.mv 2 (.k (.bool false)) false, none, false, .unit⟩] false)
(.seq (.reg [⟨.mv 3 (.t 0) false, none, true, .unit⟩,
 ⟨.nilc 4 (.t 3), none, true, .unit⟩,
 ⟨.fad 5 211 0 0 1 (.t 4), none, true, .unit⟩,
 ⟨.ld 6 9 1 false (.t 5) false, none, true, .unit⟩,
 ⟨.call (some 7) 156 [(.t 6)] false, none, true, .unit⟩,
 ⟨.mv 8 (.t 7) false, none, true, .unit⟩,
 ⟨.mv 9 (.t 0) false, some (8, true), true, .unit⟩,
 ⟨.nilc 10 (.t 9), some (8, true), true, .unit⟩,
 ⟨.fad 11 211 1 1 1 (.t 10), some (8, true), true, .unit⟩,
 ⟨.ld 12 2 1 false (.t 11) false, some (8, true), true, .unit⟩,
 ⟨.call (some 13) 108 [(.t 12), (.k (.int .i64 1)), (.k (.int .i64 32))] false, some (8, true), true, .unit⟩,
 ⟨.pick 14 (.t 8) (.t 13) (.k (.bool false)), none, true, .unit⟩,
 ⟨.mv 15 (.t 14) false, none, true, .unit⟩,
 ⟨.mv 16 (.t 0) false, some (15, true), true, .unit⟩,
 ⟨.nilc 17 (.t 16), some (15, true), true, .unit⟩,
 ⟨.fad 18 211 2 2 1 (.t 17), some (15, true), true, .unit⟩,
 ⟨.ld 19 2 1 false (.t 18) false, some (15, true), true, .unit⟩,
 ⟨.call (some 20) 108 [(.t 19), (.k (.int .i64 0)), (.k (.int .i64 400))] false, some (15, true), true, .unit⟩,
 ⟨.pick 21 (.t 15) (.t 20) (.k (.bool false)), none, true, .unit⟩,
 ⟨.mv 22 (.t 21) false, none, true, .unit⟩,
 ⟨.mv 23 (.t 0) false, some (22, true), true, .unit⟩,
 ⟨.nilc 24 (.t 23), some (22, true), true, .unit⟩,
 ⟨.fad 25 211 3 3 1 (.t 24), some (22, true), true, .unit⟩,
 ⟨.ld 26 2 1 false (.t 25) false, some (22, true), true, .unit⟩,
 ⟨.mv 27 (.t 0) false, some (22, true), true, .unit⟩,
 ⟨.nilc 28 (.t 27), some (22, true), true, .unit⟩,
 ⟨.fad 29 211 2 2 1 (.t 28), some (22, true), true, .unit⟩,
 ⟨.ld 30 2 1 false (.t 29) false, some (22, true), true, .unit⟩,
 ⟨.call (some 31) 108 [(.t 26), (.t 30), (.k (.int .i64 800))] false, some (22, true), true, .unit⟩,
 ⟨.pick 32 (.t 22) (.t 31) (.k (.bool false)), none, true, .unit⟩,
 ⟨.mv 2 (.t 32) false, none, true, .unit⟩] true)
(.ret)), [.tmp 2]⟩
theorem M169 : mkF Tryz.prog 169 A169 = some A169 := by kernel_rfl
def A128 : AF :=
⟨1, .seq (.reg [⟨.mv 2 (.k (.bool false)) false, none, false, .unit⟩] false)
(.seq (.seq (.reg [⟨.mv 3 (.k (.int .i64 0)) false, none, false, .unit⟩] false)
(.block 0 (.loop ⟨[.sl 0 (.c (.lst (.pair .str (.pair (.int .i64) (.pair (.int .i64) (.int .i64)))))), .sl 3 (.c (.int .i64))], 0⟩ [((.exit 0), ⟨[.sl 0 (.c (.lst (.pair .str (.pair (.int .i64) (.pair (.int .i64) (.int .i64))))))], 0⟩), (.ret, ⟨[.sl 2 (.c .bool)], 0⟩)] (.seq (.seq (.reg [⟨.mv 4 (.t 3) false, none, false, .unit⟩,
 ⟨.mv 5 (.t 0) false, none, false, .unit⟩,
 ⟨.len 6 false (.t 5), none, false, .unit⟩,
 ⟨.bin 7 .lss 3 (.t 4) (.t 6), none, false, .unit⟩] false)
(.cond (.t 7) (.skip)
(.exit 0)))
(.seq (.block 1 (.seq (.reg [⟨.mv 10 (.t 0) false, none, false, .unit⟩,
 ⟨.mv 11 (.t 3) false, none, false, .unit⟩,
 ⟨.iad 12 79 4 (.t 10) (.t 11), none, false, .unit⟩,
 ⟨.call (some 13) 169 [(.t 12)] false, none, false, .unit⟩,
 ⟨.un 14 .not (.t 13), none, false, .unit⟩] false)
(.cond (.t 14) (.seq (.reg [⟨.mv 2 (.k (.bool false)) false, none, false, .unit⟩] false)
(.ret))
(.skip))))
(.reg [⟨.mv 8 (.t 3) false, none, false, .unit⟩,
 ⟨.bin 9 .add 3 (.t 8) (.k (.int .i64 1)), none, false, .unit⟩,
 ⟨.mv 3 (.t 9) false, none, false, .unit⟩] false))))))
(.seq (.reg [⟨.mv 15 (.t 0) false, none, false, .unit⟩,
 ⟨.len 16 false (.t 15), none, false, .unit⟩,
 ⟨.bin 17 .leq 3 (.t 16) (.k (.int .i64 8)), none, false, .unit⟩,
 ⟨.mv 2 (.t 17) false, none, false, .unit⟩] false)
(.ret))), [.tmp 2]⟩
theorem M128 : mkF Tryz.prog 128 A128 = some A128 := by kernel_rfl
def A129 : AF :=
⟨1, .seq (.reg [⟨.mv 2 (.k (.bool false)) false, none, false, .unit⟩] false)
(.seq (.reg [⟨.mv 3 (.t 0) false, none, false, .unit⟩,
 ⟨.nilc 4 (.t 3), none, false, .unit⟩,
 ⟨.fad 5 80 0 0 1 (.t 4), none, false, .unit⟩,
 ⟨.ld 6 2 1 false (.t 5) false, none, false, .unit⟩,
 ⟨.call (some 7) 108 [(.t 6), (.k (.int .i64 0)), (.k (.int .i64 100000))] false, none, false, .unit⟩,
 ⟨.mv 8 (.t 7) false, none, false, .unit⟩,
 ⟨.mv 9 (.t 0) false, some (8, true), false, .unit⟩,
 ⟨.nilc 10 (.t 9), some (8, true), false, .unit⟩,
 ⟨.fad 11 80 1 1 1 (.t 10), some (8, true), false, .unit⟩,
 ⟨.ld 12 2 1 false (.t 11) false, some (8, true), false, .unit⟩,
 ⟨.call (some 13) 108 [(.t 12), (.k (.int .i64 0)), (.k (.int .i64 1000))] false, some (8, true), false, .unit⟩,
 ⟨.pick 14 (.t 8) (.t 13) (.k (.bool false)), none, false, .unit⟩,
 ⟨.mv 15 (.t 14) false, none, false, .unit⟩,
 ⟨.mv 16 (.t 0) false, some (15, true), false, .unit⟩,
 ⟨.nilc 17 (.t 16), some (15, true), false, .unit⟩,
 ⟨.fad 18 80 2 2 1 (.t 17), some (15, true), false, .unit⟩,
 ⟨.ld 19 2 1 false (.t 18) false, some (15, true), false, .unit⟩,
 ⟨.call (some 20) 108 [(.t 19), (.k (.int .i64 0)), (.k (.int .i64 1000))] false, some (15, true), false, .unit⟩,
 ⟨.pick 21 (.t 15) (.t 20) (.k (.bool false)), none, false, .unit⟩,
 ⟨.mv 22 (.t 21) false, none, false, .unit⟩,
 ⟨.mv 23 (.t 0) false, some (22, true), false, .unit⟩,
 ⟨.nilc 24 (.t 23), some (22, true), false, .unit⟩,
 ⟨.fad 25 80 3 3 1 (.t 24), some (22, true), false, .unit⟩,
 ⟨.ld 26 2 1 false (.t 25) false, some (22, true), false, .unit⟩,
 ⟨.call (some 27) 108 [(.t 26), (.k (.int .i64 0)), (.k (.int .i64 300))] false, some (22, true), false, .unit⟩,
 ⟨.pick 28 (.t 22) (.t 27) (.k (.bool false)), none, false, .unit⟩,
 ⟨.mv 29 (.t 28) false, none, false, .unit⟩,
 ⟨.mv 30 (.t 0) false, some (29, true), false, .unit⟩,
 ⟨.nilc 31 (.t 30), some (29, true), false, .unit⟩,
 ⟨.fad 32 80 4 4 1 (.t 31), some (29, true), false, .unit⟩,
 ⟨.ld 33 2 1 false (.t 32) false, some (29, true), false, .unit⟩,
 ⟨.call (some 34) 108 [(.t 33), (.k (.int .i64 0)), (.k (.int .i64 200))] false, some (29, true), false, .unit⟩,
 ⟨.pick 35 (.t 29) (.t 34) (.k (.bool false)), none, false, .unit⟩,
 ⟨.mv 2 (.t 35) false, none, false, .unit⟩] false)
(.ret)), [.tmp 2]⟩
theorem M129 : mkF Tryz.prog 129 A129 = some A129 := by kernel_rfl
def A76 : AF :=
⟨1, .seq (.reg [⟨.mv 2 (.k (.bool false)) false, none, false, .unit⟩] false)
(.seq (.reg [⟨.mv 3 (.t 0) false, none, false, .unit⟩,
 ⟨.nilc 4 (.t 3), none, false, .unit⟩,
 ⟨.fad 5 82 0 0 17 (.t 4), none, false, .unit⟩,
 ⟨.call (some 6) 39 [(.t 5)] false, none, false, .unit⟩,
 ⟨.mv 7 (.t 6) false, none, false, .unit⟩,
 ⟨.mv 8 (.t 0) false, some (7, true), false, .unit⟩,
 ⟨.nilc 9 (.t 8), some (7, true), false, .unit⟩,
 ⟨.fad 10 82 1 17 1 (.t 9), some (7, true), false, .unit⟩,
 ⟨.ld 11 78 1 false (.t 10) false, some (7, true), false, .unit⟩,
 ⟨.call (some 12) 127 [(.t 11)] false, some (7, true), false, .unit⟩,
 ⟨.pick 13 (.t 7) (.t 12) (.k (.bool false)), none, false, .unit⟩,
 ⟨.mv 14 (.t 13) false, none, false, .unit⟩,
 ⟨.mv 15 (.t 0) false, some (14, true), false, .unit⟩,
 ⟨.nilc 16 (.t 15), some (14, true), false, .unit⟩,
 ⟨.fad 17 82 2 18 1 (.t 16), some (14, true), false, .unit⟩,
 ⟨.ld 18 79 1 false (.t 17) false, some (14, true), false, .unit⟩,
 ⟨.call (some 19) 128 [(.t 18)] false, some (14, true), false, .unit⟩,
 ⟨.pick 20 (.t 14) (.t 19) (.k (.bool false)), none, false, .unit⟩,
 ⟨.mv 21 (.t 20) false, none, false, .unit⟩,
 ⟨.mv 22 (.t 0) false, some (21, true), false, .unit⟩,
 ⟨.nilc 23 (.t 22), some (21, true), false, .unit⟩,
 ⟨.fad 24 82 3 19 5 (.t 23), some (21, true), false, .unit⟩,
 ⟨.call (some 25) 129 [(.t 24)] false, some (21, true), false, .unit⟩,
 ⟨.pick 26 (.t 21) (.t 25) (.k (.bool false)), none, false, .unit⟩,
 ⟨.mv 2 (.t 26) false, none, false, .unit⟩] false)
(.ret)), [.tmp 2]⟩
theorem M76 : mkF Tryz.prog 76 A76 = some A76 := by kernel_rfl
def A31 : AF :=
⟨1, .seq (.reg [⟨.box 1 82 (.t 0) 0, none, false, .unit⟩,
 ⟨.mv 2 (.k (.bool false)) false, none, false, .unit⟩] false)
(.seq (.reg [⟨.call (some 3) 76 [(.t 1)] false, none, false, .unit⟩,
 ⟨.mv 2 (.t 3) false, none, false, .unit⟩] false)
(.ret)), [.tmp 2]⟩
theorem M31 : mkF Tryz.prog 31 A31 = some A31 := by kernel_rfl
def A49 : AF :=
⟨3, .seq (.reg [⟨.mv 6 (.k (.bool false)) false, none, false, .unit⟩] false)
(.seq (.reg [⟨.mv 7 (.t 0) false, none, false, .unit⟩,
 ⟨.mv 8 (.t 1) false, none, false, .unit⟩,
 ⟨.bin 9 .geq 2 (.t 7) (.t 8), none, false, .unit⟩,
 ⟨.mv 10 (.t 9) false, none, false, .unit⟩,
 ⟨.mv 11 (.t 0) false, some (10, true), false, .unit⟩,
 ⟨.mv 12 (.t 2) false, some (10, true), false, .unit⟩,
 ⟨.bin 13 .leq 2 (.t 11) (.t 12), some (10, true), false, .unit⟩,
 ⟨.pick 14 (.t 10) (.t 13) (.k (.bool false)), none, false, .unit⟩,
 ⟨.mv 6 (.t 14) false, none, false, .unit⟩] false)
(.ret)), [.tmp 6]⟩
theorem M49 : mkF Tryz.prog 49 A49 = some A49 := by kernel_rfl
def A174 : AF :=
⟨2, .seq (.reg [⟨.box 3 184 (.t 1) 0, none, false, .unit⟩,
 ⟨.mv 4 (.k (.int .i64 0)) false, none, false, .unit⟩] false)
(.seq (.seq (.reg [⟨.mv 6 (.t 0) false, none, false, .unit⟩,
 ⟨.len 7 false (.t 6), none, false, .unit⟩,
 ⟨.mv 8 (.k (.int .i64 0)) false, none, false, .unit⟩] false)
(.block 0 (.loop ⟨[.sl 0 (.c (.lst (.pair (.int .i64) (.int .i64)))), .sl 3 (.c (.pim (.pair (.int .i64) (.int .i64)))), .sl 7 (.c (.int .i64)), .sl 8 (.c (.int .i64))], 0⟩ [((.exit 0), ⟨[], 0⟩), (.ret, ⟨[.sl 4 (.c (.int .i64))], 0⟩)] (.seq (.reg [⟨.bin 9 .lss 3 (.t 8) (.t 7), none, false, .unit⟩] false)
(.seq (.cond (.t 9) (.skip)
(.exit 0))
(.seq (.block 1 (.seq (.reg [⟨.mv 10 (.t 8) false, none, false, .unit⟩,
 ⟨.mv 5 (.t 10) false, none, false, .unit⟩] false)
(.seq (.reg [⟨.ld 11 184 2 true (.t 3) false, none, true, .unit⟩,
 ⟨.mv 12 (.t 0) false, none, true, .unit⟩,
 ⟨.mv 13 (.t 5) false, none, true, .unit⟩,
 ⟨.iad 14 38 2 (.t 12) (.t 13), none, true, .unit⟩,
 ⟨.ld 15 184 2 true (.t 14) false, none, true, .unit⟩,
 ⟨.bin 16 .eql 184 (.t 11) (.t 15), none, true, .unit⟩] true)
(.cond (.t 16) (.seq (.reg [⟨.mv 17 (.t 5) false, none, false, .unit⟩,
 ⟨.mv 4 (.t 17) false, none, false, .unit⟩] false)
(.ret))
(.skip)))))
(.reg [⟨.bin 18 .add 3 (.t 8) (.k (.int .i64 1)), none, false, .unit⟩,
 ⟨.mv 8 (.t 18) false, none, false, .unit⟩] false)))))))
(.seq (.reg [⟨.mv 4 (.k (.int .i64 (-1))) false, none, false, .unit⟩] false)
(.ret))), [.tmp 4]⟩
theorem M174 : mkF Tryz.prog 174 A174 = some A174 := by kernel_rfl
def A143 : AF :=
⟨2, .seq (.reg [⟨.box 3 184 (.t 1) 0, none, false, .unit⟩,
 ⟨.mv 4 (.k (.bool false)) false, none, false, .unit⟩] false)
(.seq (.reg [⟨.mv 5 (.t 0) false, none, false, .unit⟩,
 ⟨.ld 6 184 2 true (.t 3) false, none, false, .unit⟩,
 ⟨.call (some 7) 174 [(.t 5), (.t 6)] false, none, false, .unit⟩,
 ⟨.bin 8 .geq 3 (.t 7) (.k (.int .i64 0)), none, false, .unit⟩,
 ⟨.mv 4 (.t 8) false, none, false, .unit⟩] false)
(.ret)), [.tmp 4]⟩
theorem M143 : mkF Tryz.prog 143 A143 = some A143 := by kernel_rfl
def A144 : AF :=
⟨1, .seq (.reg [⟨.mv 2 (.k (.bool false)) false, none, false, .unit⟩] false)
(.seq (.seq (.reg [⟨.mv 4 (.t 0) false, none, false, .unit⟩,
 ⟨.len 5 true (.t 4), none, false, .unit⟩,
 ⟨.bin 6 .lss 3 (.t 5) (.k (.int .i64 1)), none, false, .unit⟩,
 ⟨.mv 7 (.t 6) false, none, false, .unit⟩,
 ⟨.mv 8 (.t 0) false, some (7, false), false, .unit⟩,
 ⟨.len 9 true (.t 8), some (7, false), false, .unit⟩,
 ⟨.bin 10 .gtr 3 (.t 9) (.k (.int .i64 10)), some (7, false), false, .unit⟩,
 ⟨.pick 11 (.t 7) (.k (.bool true)) (.t 10), none, false, .unit⟩,
 ⟨.mv 12 (.t 11) false, none, false, .unit⟩,
 ⟨.mv 13 (.t 0) false, some (12, false), false, .unit⟩,
 ⟨.idx 14 9 (.t 13) (.k (.int .i64 0)), some (12, false), false, .unit⟩,
 ⟨.bin 15 .lss 5 (.t 14) (.k (.int .u8 97)), some (12, false), false, .unit⟩,
 ⟨.pick 16 (.t 12) (.k (.bool true)) (.t 15), none, false, .unit⟩,
 ⟨.mv 17 (.t 16) false, none, false, .unit⟩,
 ⟨.mv 18 (.t 0) false, some (17, false), false, .unit⟩,
 ⟨.idx 19 9 (.t 18) (.k (.int .i64 0)), some (17, false), false, .unit⟩,
 ⟨.bin 20 .gtr 5 (.t 19) (.k (.int .u8 122)), some (17, false), false, .unit⟩,
 ⟨.pick 21 (.t 17) (.k (.bool true)) (.t 20), none, false, .unit⟩] false)
(.cond (.t 21) (.seq (.reg [⟨.mv 2 (.k (.bool false)) false, none, false, .unit⟩] false)
(.ret))
(.skip)))
(.seq (.seq (.reg [⟨.mv 3 (.k (.int .i64 0)) false, none, false, .unit⟩] false)
(.block 0 (.loop ⟨[.sl 0 (.c .str), .sl 3 (.c (.int .i64))], 0⟩ [((.exit 0), ⟨[], 0⟩), (.ret, ⟨[.sl 2 (.c .bool)], 0⟩)] (.seq (.seq (.reg [⟨.mv 22 (.t 3) false, none, false, .unit⟩,
 ⟨.mv 23 (.t 0) false, none, false, .unit⟩,
 ⟨.len 24 true (.t 23), none, false, .unit⟩,
 ⟨.bin 25 .lss 3 (.t 22) (.t 24), none, false, .unit⟩] false)
(.cond (.t 25) (.skip)
(.exit 0)))
(.seq (.block 1 (.seq (.reg [⟨.mv 28 (.t 0) false, none, false, .unit⟩,
 ⟨.mv 29 (.t 3) false, none, false, .unit⟩,
 ⟨.idx 30 9 (.t 28) (.t 29), none, false, .unit⟩,
 ⟨.bin 31 .lss 5 (.t 30) (.k (.int .u8 97)), none, false, .unit⟩,
 ⟨.mv 32 (.t 31) false, none, false, .unit⟩,
 ⟨.mv 33 (.t 0) false, some (32, false), false, .unit⟩,
 ⟨.mv 34 (.t 3) false, some (32, false), false, .unit⟩,
 ⟨.idx 35 9 (.t 33) (.t 34), some (32, false), false, .unit⟩,
 ⟨.bin 36 .gtr 5 (.t 35) (.k (.int .u8 122)), some (32, false), false, .unit⟩,
 ⟨.pick 37 (.t 32) (.k (.bool true)) (.t 36), none, false, .unit⟩,
 ⟨.mv 38 (.t 37) false, none, false, .unit⟩,
 ⟨.mv 39 (.t 0) false, some (38, true), false, .unit⟩,
 ⟨.mv 40 (.t 3) false, some (38, true), false, .unit⟩,
 ⟨.idx 41 9 (.t 39) (.t 40), some (38, true), false, .unit⟩,
 ⟨.bin 42 .lss 5 (.t 41) (.k (.int .u8 48)), some (38, true), false, .unit⟩,
 ⟨.mv 43 (.t 42) false, some (38, true), false, .unit⟩,
 ⟨.mv 44 (.t 0) false, some (43, false), false, .unit⟩,
 ⟨.mv 45 (.t 3) false, some (43, false), false, .unit⟩,
 ⟨.idx 46 9 (.t 44) (.t 45), some (43, false), false, .unit⟩,
 ⟨.bin 47 .gtr 5 (.t 46) (.k (.int .u8 57)), some (43, false), false, .unit⟩,
 ⟨.pick 48 (.t 43) (.k (.bool true)) (.t 47), some (38, true), false, .unit⟩,
 ⟨.pick 49 (.t 38) (.t 48) (.k (.bool false)), none, false, .unit⟩] false)
(.cond (.t 49) (.seq (.reg [⟨.mv 2 (.k (.bool false)) false, none, false, .unit⟩] false)
(.ret))
(.skip))))
(.reg [⟨.mv 26 (.t 3) false, none, false, .unit⟩,
 ⟨.bin 27 .add 3 (.t 26) (.k (.int .i64 1)), none, false, .unit⟩,
 ⟨.mv 3 (.t 27) false, none, false, .unit⟩] false))))))
(.seq (.reg [⟨.mv 2 (.k (.bool true)) false, none, false, .unit⟩] false)
(.ret)))), [.tmp 2]⟩
theorem M144 : mkF Tryz.prog 144 A144 = some A144 := by kernel_rfl
def A145 : AF :=
⟨2, .seq (.reg [⟨.mv 4 (.k (.slice none 0 0)) false, none, false, .unit⟩,
 ⟨.mv 5 (.k (.bool false)) false, none, false, .unit⟩] false)
(.seq (.reg [⟨.bsl 9 38 2 [.int .i64 0, .int .i64 0] 0 [], none, false, (.pair (.int .i64) (.int .i64))⟩,
 ⟨.mv 6 (.t 9) true, none, false, .unit⟩] false)
(.seq (.seq (.reg [⟨.mv 10 (.t 1) false, none, false, .unit⟩,
 ⟨.len 11 false (.t 10), none, false, .unit⟩,
 ⟨.mv 12 (.k (.int .i64 0)) false, none, false, .unit⟩] false)
(.block 0 (.loop ⟨[.sl 0 (.c (.lst (.pair (.int .i64) (.int .i64)))), .sl 6 (.own (.pair (.int .i64) (.int .i64))), .sl 10 (.c (.lst (.int .i64))), .sl 11 (.c (.int .i64)), .sl 12 (.c (.int .i64))], 0⟩ [((.exit 0), ⟨[.sl 6 (.own (.pair (.int .i64) (.int .i64)))], 0⟩), (.ret, ⟨[.sl 4 (.own (.pair (.int .i64) (.int .i64))), .sl 5 (.c .bool)], 0⟩)] (.seq (.reg [⟨.bin 13 .lss 3 (.t 12) (.t 11), none, false, .unit⟩] false)
(.seq (.cond (.t 13) (.skip)
(.exit 0))
(.seq (.block 1 (.seq (.reg [⟨.iad 14 33 1 (.t 10) (.t 12), none, false, .unit⟩,
 ⟨.ld 15 2 1 false (.t 14) false, none, false, .unit⟩,
 ⟨.mv 8 (.t 15) false, none, false, .unit⟩] false)
(.seq (.seq (.reg [⟨.mv 16 (.t 8) false, none, false, .unit⟩,
 ⟨.mv 17 (.t 0) false, none, false, .unit⟩,
 ⟨.len 18 false (.t 17), none, false, .unit⟩,
 ⟨.bin 19 .sub 2 (.t 18) (.k (.int .i64 1)), none, false, .unit⟩,
 ⟨.call (some 20) 49 [(.t 16), (.k (.int .i64 0)), (.t 19)] false, none, false, .unit⟩,
 ⟨.un 21 .not (.t 20), none, false, .unit⟩] false)
(.cond (.t 21) (.seq (.reg [⟨.mv 4 (.k (.slice none 0 0)) false, none, false, .unit⟩,
 ⟨.mv 5 (.k (.bool false)) false, none, false, .unit⟩] false)
(.ret))
(.skip)))
(.reg [⟨.mv 22 (.t 6) true, none, false, .unit⟩,
 ⟨.mv 23 (.t 0) false, none, false, .unit⟩,
 ⟨.mv 24 (.t 8) false, none, false, .unit⟩,
 ⟨.iad 25 38 2 (.t 23) (.t 24), none, false, .unit⟩,
 ⟨.ld 26 184 2 true (.t 25) false, none, false, .unit⟩,
 ⟨.bsl 27 38 2 [.int .i64 0, .int .i64 0] 1 [(0, (.t 26))], none, false, (.pair (.int .i64) (.int .i64))⟩,
 ⟨.app 28 38 2 (.t 22) (.t 27), none, false, (.pair (.int .i64) (.int .i64))⟩,
 ⟨.mv 6 (.t 28) true, none, false, .unit⟩] false))))
(.reg [⟨.bin 29 .add 3 (.t 12) (.k (.int .i64 1)), none, false, .unit⟩,
 ⟨.mv 12 (.t 29) false, none, false, .unit⟩] false)))))))
(.seq (.reg [⟨.mv 30 (.t 6) true, none, false, .unit⟩,
 ⟨.mv 4 (.t 30) true, none, false, .unit⟩,
 ⟨.mv 5 (.k (.bool true)) false, none, false, .unit⟩] false)
(.ret)))), [.tmp 4, .tmp 5]⟩
theorem M145 : mkF Tryz.prog 145 A145 = some A145 := by kernel_rfl
def A205 : AF :=
⟨1, .seq (.reg [⟨.box 1 184 (.t 0) 0, none, false, .unit⟩,
 ⟨.mv 2 (.k (.bool false)) false, none, false, .unit⟩] false)
(.seq (.reg [⟨.fad 3 184 0 0 1 (.t 1), none, false, .unit⟩,
 ⟨.ld 4 2 1 false (.t 3) false, none, false, .unit⟩,
 ⟨.call (some 5) 49 [(.t 4), (.k (.int .i64 0)), (.k (.int .i64 20000))] false, none, false, .unit⟩,
 ⟨.mv 6 (.t 5) false, none, false, .unit⟩,
 ⟨.fad 7 184 1 1 1 (.t 1), some (6, true), false, .unit⟩,
 ⟨.ld 8 2 1 false (.t 7) false, some (6, true), false, .unit⟩,
 ⟨.call (some 9) 49 [(.t 8), (.k (.int .i64 0)), (.k (.int .i64 20000))] false, some (6, true), false, .unit⟩,
 ⟨.pick 10 (.t 6) (.t 9) (.k (.bool false)), none, false, .unit⟩,
 ⟨.mv 2 (.t 10) false, none, false, .unit⟩] false)
(.ret)), [.tmp 2]⟩
theorem M205 : mkF Tryz.prog 205 A205 = some A205 := by kernel_rfl
def A175 : AF :=
⟨1, .seq (.reg [⟨.mv 2 (.k (.bool false)) false, none, false, .unit⟩] false)
(.seq (.seq (.reg [⟨.mv 5 (.t 0) false, none, false, .unit⟩,
 ⟨.len 6 false (.t 5), none, false, .unit⟩,
 ⟨.mv 7 (.k (.int .i64 0)) false, none, false, .unit⟩] false)
(.block 0 (.loop ⟨[.sl 5 (.c (.lst (.pair (.int .i64) (.int .i64)))), .sl 6 (.c (.int .i64)), .sl 7 (.c (.int .i64))], 0⟩ [((.exit 0), ⟨[], 0⟩), (.ret, ⟨[.sl 2 (.c .bool)], 0⟩)] (.seq (.reg [⟨.bin 8 .lss 3 (.t 7) (.t 6), none, false, .unit⟩] false)
(.seq (.cond (.t 8) (.skip)
(.exit 0))
(.seq (.block 1 (.seq (.reg [⟨.iad 9 38 2 (.t 5) (.t 7), none, false, .unit⟩,
 ⟨.ld 10 184 2 true (.t 9) false, none, false, .unit⟩,
 ⟨.alloc 4 184 [.int .i64 0, .int .i64 0] false, none, false, .unit⟩,
 ⟨.st 184 2 (.t 4) (.t 10) false, none, false, .unit⟩] false)
(.seq (.reg [⟨.ld 11 184 2 true (.t 4) false, none, false, .unit⟩,
 ⟨.call (some 12) 205 [(.t 11)] false, none, false, .unit⟩,
 ⟨.un 13 .not (.t 12), none, false, .unit⟩] false)
(.cond (.t 13) (.seq (.reg [⟨.mv 2 (.k (.bool false)) false, none, false, .unit⟩] false)
(.ret))
(.skip)))))
(.reg [⟨.bin 14 .add 3 (.t 7) (.k (.int .i64 1)), none, false, .unit⟩,
 ⟨.mv 7 (.t 14) false, none, false, .unit⟩] false)))))))
(.seq (.reg [⟨.mv 2 (.k (.bool true)) false, none, false, .unit⟩] false)
(.ret))), [.tmp 2]⟩
theorem M175 : mkF Tryz.prog 175 A175 = some A175 := by kernel_rfl
def A206 : AF :=
⟨3, .seq (.reg [⟨.box 3 184 (.t 0) 0, none, false, .unit⟩,
 ⟨.box 4 184 (.t 1) 0, none, false, .unit⟩,
 ⟨.box 5 184 (.t 2) 0, none, false, .unit⟩,
 ⟨.mv 6 (.k (.int .i64 0)) false, none, false, .unit⟩] false)
(.seq (.reg [⟨.fad 8 184 0 0 1 (.t 4), none, false, .unit⟩,
 ⟨.ld 9 2 1 false (.t 8) false, none, false, .unit⟩,
 ⟨.fad 10 184 0 0 1 (.t 3), none, false, .unit⟩,
 ⟨.ld 11 2 1 false (.t 10) false, none, false, .unit⟩,
 ⟨.bin 12 .sub 2 (.t 9) (.t 11), none, false, .unit⟩,
 ⟨.fad 13 184 1 1 1 (.t 5), none, false, .unit⟩,
 ⟨.ld 14 2 1 false (.t 13) false, none, false, .unit⟩,
 ⟨.fad 15 184 1 1 1 (.t 3), none, false, .unit⟩,
 ⟨.ld 16 2 1 false (.t 15) false, none, false, .unit⟩,
 ⟨.bin 17 .sub 2 (.t 14) (.t 16), none, false, .unit⟩,
 ⟨.bin 18 .mul 2 (.t 12) (.t 17), none, false, .unit⟩,
 ⟨.fad 19 184 1 1 1 (.t 4), none, false, .unit⟩,
 ⟨.ld 20 2 1 false (.t 19) false, none, false, .unit⟩,
 ⟨.fad 21 184 1 1 1 (.t 3), none, false, .unit⟩,
 ⟨.ld 22 2 1 false (.t 21) false, none, false, .unit⟩,
 ⟨.bin 23 .sub 2 (.t 20) (.t 22), none, false, .unit⟩,
 ⟨.fad 24 184 0 0 1 (.t 5), none, false, .unit⟩,
 ⟨.ld 25 2 1 false (.t 24) false, none, false, .unit⟩,
 ⟨.fad 26 184 0 0 1 (.t 3), none, false, .unit⟩,
 ⟨.ld 27 2 1 false (.t 26) false, none, false, .unit⟩,
 ⟨.bin 28 .sub 2 (.t 25) (.t 27), none, false, .unit⟩,
 ⟨.bin 29 .mul 2 (.t 23) (.t 28), none, false, .unit⟩,
 ⟨.bin 30 .sub 2 (.t 18) (.t 29), none, false, .unit⟩,
 ⟨.mv 7 (.t 30) false, none, false, .unit⟩] false)
(.seq (.block 0 (.seq (.reg [⟨.mv 32 (.t 7) false, none, false, .unit⟩,
 ⟨.bin 33 .gtr 2 (.t 32) (.k (.int .i64 0)), none, false, .unit⟩,
 ⟨.mv 31 (.t 33) false, none, false, .unit⟩] false)
(.cond (.t 31) (.seq (.reg [⟨.mv 6 (.k (.int .i64 1)) false, none, false, .unit⟩] false)
(.ret))
(.seq (.reg [⟨.mv 35 (.t 7) false, none, false, .unit⟩,
 ⟨.bin 36 .lss 2 (.t 35) (.k (.int .i64 0)), none, false, .unit⟩,
 ⟨.mv 34 (.t 36) false, none, false, .unit⟩] false)
(.cond (.t 34) (.seq (.reg [⟨.mv 6 (.k (.int .i64 (-1))) false, none, false, .unit⟩] false)
(.ret))
(.skip))))))
(.seq (.reg [⟨.mv 6 (.k (.int .i64 0)) false, none, false, .unit⟩] false)
(.ret)))), [.tmp 6]⟩
theorem M206 : mkF Tryz.prog 206 A206 = some A206 := by kernel_rfl
def A176 : AF :=
⟨3, .seq (.reg [⟨.box 3 184 (.t 0) 0, none, false, .unit⟩,
 ⟨.box 4 184 (.t 1) 0, none, false, .unit⟩,
 ⟨.box 5 184 (.t 2) 0, none, false, .unit⟩,
 ⟨.mv 6 (.k (.bool false)) false, none, false, .unit⟩] false)
(.seq (.reg [⟨.ld 7 184 2 true (.t 3) false, none, false, .unit⟩,
 ⟨.ld 8 184 2 true (.t 4) false, none, false, .unit⟩,
 ⟨.ld 9 184 2 true (.t 5) false, none, false, .unit⟩,
 ⟨.call (some 10) 206 [(.t 7), (.t 8), (.t 9)] false, none, false, .unit⟩,
 ⟨.bin 11 .eql 2 (.t 10) (.k (.int .i64 0)), none, false, .unit⟩,
 ⟨.mv 12 (.t 11) false, none, false, .unit⟩,
 ⟨.fad 13 184 0 0 1 (.t 5), some (12, true), false, .unit⟩,
 ⟨.ld 14 2 1 false (.t 13) false, some (12, true), false, .unit⟩,
 ⟨.fad 15 184 0 0 1 (.t 3), some (12, true), false, .unit⟩,
 ⟨.ld 16 2 1 false (.t 15) false, some (12, true), false, .unit⟩,
 ⟨.fad 17 184 0 0 1 (.t 4), some (12, true), false, .unit⟩,
 ⟨.ld 18 2 1 false (.t 17) false, some (12, true), false, .unit⟩,
 ⟨.mnx 19 false [(.t 16), (.t 18)], some (12, true), false, .unit⟩,
 ⟨.fad 20 184 0 0 1 (.t 3), some (12, true), false, .unit⟩,
 ⟨.ld 21 2 1 false (.t 20) false, some (12, true), false, .unit⟩,
 ⟨.fad 22 184 0 0 1 (.t 4), some (12, true), false, .unit⟩,
 ⟨.ld 23 2 1 false (.t 22) false, some (12, true), false, .unit⟩,
 ⟨.mnx 24 true [(.t 21), (.t 23)], some (12, true), false, .unit⟩,
 ⟨.call (some 25) 49 [(.t 14), (.t 19), (.t 24)] false, some (12, true), false, .unit⟩,
 ⟨.pick 26 (.t 12) (.t 25) (.k (.bool false)), none, false, .unit⟩,
 ⟨.mv 27 (.t 26) false, none, false, .unit⟩,
 ⟨.fad 28 184 1 1 1 (.t 5), some (27, true), false, .unit⟩,
 ⟨.ld 29 2 1 false (.t 28) false, some (27, true), false, .unit⟩,
 ⟨.fad 30 184 1 1 1 (.t 3), some (27, true), false, .unit⟩,
 ⟨.ld 31 2 1 false (.t 30) false, some (27, true), false, .unit⟩,
 ⟨.fad 32 184 1 1 1 (.t 4), some (27, true), false, .unit⟩,
 ⟨.ld 33 2 1 false (.t 32) false, some (27, true), false, .unit⟩,
 ⟨.mnx 34 false [(.t 31), (.t 33)], some (27, true), false, .unit⟩,
 ⟨.fad 35 184 1 1 1 (.t 3), some (27, true), false, .unit⟩,
 ⟨.ld 36 2 1 false (.t 35) false, some (27, true), false, .unit⟩,
 ⟨.fad 37 184 1 1 1 (.t 4), some (27, true), false, .unit⟩,
 ⟨.ld 38 2 1 false (.t 37) false, some (27, true), false, .unit⟩,
 ⟨.mnx 39 true [(.t 36), (.t 38)], some (27, true), false, .unit⟩,
 ⟨.call (some 40) 49 [(.t 29), (.t 34), (.t 39)] false, some (27, true), false, .unit⟩,
 ⟨.pick 41 (.t 27) (.t 40) (.k (.bool false)), none, false, .unit⟩,
 ⟨.mv 6 (.t 41) false, none, false, .unit⟩] false)
(.ret)), [.tmp 6]⟩
theorem M176 : mkF Tryz.prog 176 A176 = some A176 := by kernel_rfl
def A207 : AF :=
⟨4, .seq (.reg [⟨.box 4 184 (.t 0) 0, none, false, .unit⟩,
 ⟨.box 5 184 (.t 1) 0, none, false, .unit⟩,
 ⟨.box 6 184 (.t 2) 0, none, false, .unit⟩,
 ⟨.box 7 184 (.t 3) 0, none, false, .unit⟩,
 ⟨.mv 8 (.k (.bool false)) false, none, false, .unit⟩] false)
(.seq (.reg [⟨.ld 9 184 2 true (.t 4) false, none, true, .unit⟩,
 ⟨.ld 10 184 2 true (.t 5) false, none, true, .unit⟩,
 ⟨.ld 11 184 2 true (.t 6) false, none, true, .unit⟩,
 ⟨.call (some 12) 206 [(.t 9), (.t 10), (.t 11)] false, none, true, .unit⟩,
 ⟨.ld 13 184 2 true (.t 4) false, none, true, .unit⟩,
 ⟨.ld 14 184 2 true (.t 5) false, none, true, .unit⟩,
 ⟨.ld 15 184 2 true (.t 7) false, none, true, .unit⟩,
 ⟨.call (some 16) 206 [(.t 13), (.t 14), (.t 15)] false, none, true, .unit⟩,
 ⟨.bin 17 .mul 2 (.t 12) (.t 16), none, true, .unit⟩,
 ⟨.bin 18 .lss 2 (.t 17) (.k (.int .i64 0)), none, true, .unit⟩,
 ⟨.mv 19 (.t 18) false, none, true, .unit⟩,
 ⟨.ld 20 184 2 true (.t 6) false, some (19, true), true, .unit⟩,
 ⟨.ld 21 184 2 true (.t 7) false, some (19, true), true, .unit⟩,
 ⟨.ld 22 184 2 true (.t 4) false, some (19, true), true, .unit⟩,
 ⟨.call (some 23) 206 [(.t 20), (.t 21), (.t 22)] false, some (19, true), true, .unit⟩,
 ⟨.ld 24 184 2 true (.t 6) false, some (19, true), true, .unit⟩,
 ⟨.ld 25 184 2 true (.t 7) false, some (19, true), true, .unit⟩,
 ⟨.ld 26 184 2 true (.t 5) false, some (19, true), true, .unit⟩,
 ⟨.call (some 27) 206 [(.t 24), (.t 25), (.t 26)] false, some (19, true), true, .unit⟩,
 ⟨.bin 28 .mul 2 (.t 23) (.t 27), some (19, true), true, .unit⟩,
 ⟨.bin 29 .lss 2 (.t 28) (.k (.int .i64 0)), some (19, true), true, .unit⟩,
 ⟨.pick 30 (.t 19) (.t 29) (.k (.bool false)), none, true, .unit⟩,
 ⟨.mv 8 (.t 30) false, none, true, .unit⟩] true)
(.ret)), [.tmp 8]⟩
theorem M207 : mkF Tryz.prog 207 A207 = some A207 := by kernel_rfl
def A177 : AF :=
⟨4, .seq (.reg [⟨.box 4 184 (.t 0) 0, none, false, .unit⟩,
 ⟨.box 5 184 (.t 1) 0, none, false, .unit⟩,
 ⟨.box 6 184 (.t 2) 0, none, false, .unit⟩,
 ⟨.box 7 184 (.t 3) 0, none, false, .unit⟩,
 ⟨.mv 8 (.k (.bool false)) false, none, false, .unit⟩] false)
(.seq (.reg [⟨.ld 9 184 2 true (.t 4) false, none, false, .unit⟩,
 ⟨.ld 10 184 2 true (.t 5) false, none, false, .unit⟩,
 ⟨.ld 11 184 2 true (.t 6) false, none, false, .unit⟩,
 ⟨.ld 12 184 2 true (.t 7) false, none, false, .unit⟩,
 ⟨.call (some 13) 207 [(.t 9), (.t 10), (.t 11), (.t 12)] false, none, false, .unit⟩,
 ⟨.mv 14 (.t 13) false, none, false, .unit⟩,
 ⟨.ld 15 184 2 true (.t 4) false, some (14, false), false, .unit⟩,
 ⟨.ld 16 184 2 true (.t 5) false, some (14, false), false, .unit⟩,
 ⟨.ld 17 184 2 true (.t 6) false, some (14, false), false, .unit⟩,
 ⟨.call (some 18) 176 [(.t 15), (.t 16), (.t 17)] false, some (14, false), false, .unit⟩,
 ⟨.pick 19 (.t 14) (.k (.bool true)) (.t 18), none, false, .unit⟩,
 ⟨.mv 20 (.t 19) false, none, false, .unit⟩,
 ⟨.ld 21 184 2 true (.t 4) false, some (20, false), false, .unit⟩,
 ⟨.ld 22 184 2 true (.t 5) false, some (20, false), false, .unit⟩,
 ⟨.ld 23 184 2 true (.t 7) false, some (20, false), false, .unit⟩,
 ⟨.call (some 24) 176 [(.t 21), (.t 22), (.t 23)] false, some (20, false), false, .unit⟩,
 ⟨.pick 25 (.t 20) (.k (.bool true)) (.t 24), none, false, .unit⟩,
 ⟨.mv 26 (.t 25) false, none, false, .unit⟩,
 ⟨.ld 27 184 2 true (.t 6) false, some (26, false), false, .unit⟩,
 ⟨.ld 28 184 2 true (.t 7) false, some (26, false), false, .unit⟩,
 ⟨.ld 29 184 2 true (.t 4) false, some (26, false), false, .unit⟩,
 ⟨.call (some 30) 176 [(.t 27), (.t 28), (.t 29)] false, some (26, false), false, .unit⟩,
 ⟨.pick 31 (.t 26) (.k (.bool true)) (.t 30), none, false, .unit⟩,
 ⟨.mv 32 (.t 31) false, none, false, .unit⟩,
 ⟨.ld 33 184 2 true (.t 6) false, some (32, false), false, .unit⟩,
 ⟨.ld 34 184 2 true (.t 7) false, some (32, false), false, .unit⟩,
 ⟨.ld 35 184 2 true (.t 5) false, some (32, false), false, .unit⟩,
 ⟨.call (some 36) 176 [(.t 33), (.t 34), (.t 35)] false, some (32, false), false, .unit⟩,
 ⟨.pick 37 (.t 32) (.k (.bool true)) (.t 36), none, false, .unit⟩,
 ⟨.mv 8 (.t 37) false, none, false, .unit⟩] false)
(.ret)), [.tmp 8]⟩
theorem M177 : mkF Tryz.prog 177 A177 = some A177 := by kernel_rfl
def A178 : AF :=
⟨1, .seq (.reg [⟨.mv 2 (.k (.int .i64 0)) false, none, false, .unit⟩] false)
(.seq (.reg [⟨.mv 3 (.k (.int .i64 0)) false, none, false, .unit⟩] false)
(.seq (.seq (.reg [⟨.mv 7 (.t 0) false, none, false, .unit⟩,
 ⟨.len 8 false (.t 7), none, false, .unit⟩,
 ⟨.mv 9 (.k (.int .i64 0)) false, none, false, .unit⟩] false)
(.block 0 (.loop ⟨[.sl 0 (.c (.lst (.pair (.int .i64) (.int .i64)))), .sl 3 (.c (.int .i64)), .sl 7 (.c (.lst (.pair (.int .i64) (.int .i64)))), .sl 8 (.c (.int .i64)), .sl 9 (.c (.int .i64))], 0⟩ [((.exit 0), ⟨[.sl 3 (.c (.int .i64))], 0⟩)] (.seq (.reg [⟨.bin 10 .lss 3 (.t 9) (.t 8), none, false, .unit⟩] false)
(.seq (.cond (.t 10) (.skip)
(.exit 0))
(.seq (.block 1 (.seq (.reg [⟨.mv 11 (.t 9) false, none, false, .unit⟩,
 ⟨.iad 12 38 2 (.t 7) (.t 9), none, false, .unit⟩,
 ⟨.ld 13 184 2 true (.t 12) false, none, false, .unit⟩,
 ⟨.alloc 5 184 [.int .i64 0, .int .i64 0] false, none, false, .unit⟩,
 ⟨.mv 4 (.t 11) false, none, false, .unit⟩,
 ⟨.st 184 2 (.t 5) (.t 13) false, none, false, .unit⟩] false)
(.seq (.reg [⟨.mv 14 (.t 0) false, none, false, .unit⟩,
 ⟨.mv 15 (.t 4) false, none, false, .unit⟩,
 ⟨.bin 16 .add 3 (.t 15) (.k (.int .i64 1)), none, false, .unit⟩,
 ⟨.mv 17 (.t 0) false, none, false, .unit⟩,
 ⟨.len 18 false (.t 17), none, false, .unit⟩,
 ⟨.bin 19 .rem 3 (.t 16) (.t 18), none, false, .unit⟩,
 ⟨.iad 20 38 2 (.t 14) (.t 19), none, false, .unit⟩,
 ⟨.ld 21 184 2 true (.t 20) false, none, false, .unit⟩,
 ⟨.alloc 6 184 [.int .i64 0, .int .i64 0] false, none, false, .unit⟩,
 ⟨.st 184 2 (.t 6) (.t 21) false, none, false, .unit⟩] false)
(.reg [⟨.mv 22 (.t 3) false, none, false, .unit⟩,
 ⟨.fad 23 184 0 0 1 (.t 5), none, false, .unit⟩,
 ⟨.ld 24 2 1 false (.t 23) false, none, false, .unit⟩,
 ⟨.fad 25 184 1 1 1 (.t 6), none, false, .unit⟩,
 ⟨.ld 26 2 1 false (.t 25) false, none, false, .unit⟩,
 ⟨.bin 27 .mul 2 (.t 24) (.t 26), none, false, .unit⟩,
 ⟨.fad 28 184 1 1 1 (.t 5), none, false, .unit⟩,
 ⟨.ld 29 2 1 false (.t 28) false, none, false, .unit⟩,
 ⟨.fad 30 184 0 0 1 (.t 6), none, false, .unit⟩,
 ⟨.ld 31 2 1 false (.t 30) false, none, false, .unit⟩,
 ⟨.bin 32 .mul 2 (.t 29) (.t 31), none, false, .unit⟩,
 ⟨.bin 33 .sub 2 (.t 27) (.t 32), none, false, .unit⟩,
 ⟨.bin 34 .add 2 (.t 22) (.t 33), none, false, .unit⟩,
 ⟨.mv 3 (.t 34) false, none, false, .unit⟩] false))))
(.reg [⟨.bin 35 .add 3 (.t 9) (.k (.int .i64 1)), none, false, .unit⟩,
 ⟨.mv 9 (.t 35) false, none, false, .unit⟩] false)))))))
(.seq (.reg [⟨.mv 36 (.t 3) false, none, false, .unit⟩,
 ⟨.mv 2 (.t 36) false, none, false, .unit⟩] false)
(.ret)))), [.tmp 2]⟩
theorem M178 : mkF Tryz.prog 178 A178 = some A178 := by kernel_rfl
def A146 : AF :=
⟨1, .seq (.reg [⟨.mv 2 (.k (.bool false)) false, none, false, .unit⟩] false)
(.seq (.reg [⟨.mv 9 (.t 0) false, none, false, .unit⟩,
 ⟨.len 10 false (.t 9), none, false, .unit⟩,
 ⟨.mv 3 (.t 10) false, none, false, .unit⟩] false)
(.seq (.seq (.reg [⟨.mv 11 (.t 3) false, none, false, .unit⟩,
 ⟨.bin 12 .lss 3 (.t 11) (.k (.int .i64 3)), none, false, .unit⟩,
 ⟨.mv 13 (.t 12) false, none, false, .unit⟩,
 ⟨.mv 14 (.t 3) false, some (13, false), false, .unit⟩,
 ⟨.bin 15 .gtr 3 (.t 14) (.k (.int .i64 24)), some (13, false), false, .unit⟩,
 ⟨.pick 16 (.t 13) (.k (.bool true)) (.t 15), none, false, .unit⟩,
 ⟨.mv 17 (.t 16) false, none, false, .unit⟩,
 ⟨.mv 18 (.t 0) false, some (17, false), false, .unit⟩,
 ⟨.call (some 19) 175 [(.t 18)] false, some (17, false), false, .unit⟩,
 ⟨.un 20 .not (.t 19), some (17, false), false, .unit⟩,
 ⟨.pick 21 (.t 17) (.k (.bool true)) (.t 20), none, false, .unit⟩] false)
(.cond (.t 21) (.seq (.reg [⟨.mv 2 (.k (.bool false)) false, none, false, .unit⟩] false)
(.ret))
(.skip)))
(.seq (.seq (.reg [⟨.mv 22 (.t 0) false, none, false, .unit⟩,
 ⟨.len 23 false (.t 22), none, false, .unit⟩,
 ⟨.mv 24 (.k (.int .i64 0)) false, none, false, .unit⟩] false)
(.block 0 (.loop ⟨[.sl 0 (.c (.lst (.pair (.int .i64) (.int .i64)))), .sl 3 (.c (.int .i64)), .sl 23 (.c (.int .i64)), .sl 24 (.c (.int .i64))], 0⟩ [((.exit 0), ⟨[.sl 0 (.c (.lst (.pair (.int .i64) (.int .i64))))], 0⟩), (.ret, ⟨[.sl 2 (.c .bool)], 0⟩)] (.seq (.reg [⟨.bin 25 .lss 3 (.t 24) (.t 23), none, false, .unit⟩] false)
(.seq (.cond (.t 25) (.skip)
(.exit 0))
(.seq (.block 1 (.seq (.reg [⟨.mv 26 (.t 24) false, none, false, .unit⟩,
 ⟨.mv 4 (.t 26) false, none, false, .unit⟩] false)
(.seq (.reg [⟨.mv 27 (.t 0) false, none, true, .unit⟩,
 ⟨.mv 28 (.t 4) false, none, true, .unit⟩,
 ⟨.iad 29 38 2 (.t 27) (.t 28), none, true, .unit⟩,
 ⟨.ld 30 184 2 true (.t 29) false, none, true, .unit⟩,
 ⟨.mv 31 (.t 0) false, none, true, .unit⟩,
 ⟨.mv 32 (.t 4) false, none, true, .unit⟩,
 ⟨.bin 33 .add 3 (.t 32) (.k (.int .i64 1)), none, true, .unit⟩,
 ⟨.mv 34 (.t 3) false, none, true, .unit⟩,
 ⟨.bin 35 .rem 3 (.t 33) (.t 34), none, true, .unit⟩,
 ⟨.iad 36 38 2 (.t 31) (.t 35), none, true, .unit⟩,
 ⟨.ld 37 184 2 true (.t 36) false, none, true, .unit⟩,
 ⟨.mv 38 (.t 0) false, none, true, .unit⟩,
 ⟨.mv 39 (.t 4) false, none, true, .unit⟩,
 ⟨.bin 40 .add 3 (.t 39) (.k (.int .i64 2)), none, true, .unit⟩,
 ⟨.mv 41 (.t 3) false, none, true, .unit⟩,
 ⟨.bin 42 .rem 3 (.t 40) (.t 41), none, true, .unit⟩,
 ⟨.iad 43 38 2 (.t 38) (.t 42), none, true, .unit⟩,
 ⟨.ld 44 184 2 true (.t 43) false, none, true, .unit⟩,
 ⟨.alloc 5 184 [.int .i64 0, .int .i64 0] false, none, false, .unit⟩,
 ⟨.alloc 6 184 [.int .i64 0, .int .i64 0] false, none, false, .unit⟩,
 ⟨.alloc 7 184 [.int .i64 0, .int .i64 0] false, none, false, .unit⟩,
 ⟨.st 184 2 (.t 5) (.t 30) false, none, false, .unit⟩,
 ⟨.st 184 2 (.t 6) (.t 37) false, none, false, .unit⟩,
 ⟨.st 184 2 (.t 7) (.t 44) false, none, false, .unit⟩] true)
(.seq (.seq (.reg [⟨.ld 45 184 2 true (.t 5) false, none, false, .unit⟩,
 ⟨.ld 46 184 2 true (.t 6) false, none, false, .unit⟩,
 ⟨.bin 47 .eql 184 (.t 45) (.t 46), none, false, .unit⟩,
 ⟨.mv 48 (.t 47) false, none, false, .unit⟩,
 ⟨.ld 49 184 2 true (.t 5) false, some (48, false), false, .unit⟩,
 ⟨.ld 50 184 2 true (.t 6) false, some (48, false), false, .unit⟩,
 ⟨.ld 51 184 2 true (.t 7) false, some (48, false), false, .unit⟩,
 ⟨.call (some 52) 176 [(.t 49), (.t 50), (.t 51)] false, some (48, false), false, .unit⟩,
 ⟨.pick 53 (.t 48) (.k (.bool true)) (.t 52), none, false, .unit⟩,
 ⟨.mv 54 (.t 53) false, none, false, .unit⟩,
 ⟨.ld 55 184 2 true (.t 6) false, some (54, false), false, .unit⟩,
 ⟨.ld 56 184 2 true (.t 7) false, some (54, false), false, .unit⟩,
 ⟨.ld 57 184 2 true (.t 5) false, some (54, false), false, .unit⟩,
 ⟨.call (some 58) 176 [(.t 55), (.t 56), (.t 57)] false, some (54, false), false, .unit⟩,
 ⟨.pick 59 (.t 54) (.k (.bool true)) (.t 58), none, false, .unit⟩] false)
(.cond (.t 59) (.seq (.reg [⟨.mv 2 (.k (.bool false)) false, none, false, .unit⟩] false)
(.ret))
(.skip)))
(.seq (.reg [⟨.mv 60 (.t 4) false, none, false, .unit⟩,
 ⟨.bin 61 .add 3 (.t 60) (.k (.int .i64 2)), none, false, .unit⟩,
 ⟨.mv 8 (.t 61) false, none, false, .unit⟩] false)
(.block 2 (.loop ⟨[.sl 0 (.c (.lst (.pair (.int .i64) (.int .i64)))), .sl 3 (.c (.int .i64)), .sl 4 (.c (.int .i64)), .sl 5 (.gr (.lref 5 0 0)), .sl 6 (.gr (.lref 6 0 0)), .sl 8 (.c (.int .i64)), .sl 23 (.c (.int .i64)), .sl 24 (.c (.int .i64)), .lo 5 (.one [(.c (.int .i64)), (.c (.int .i64))]), .lo 6 (.one [(.c (.int .i64)), (.c (.int .i64))])], 0⟩ [((.exit 2), ⟨[.sl 0 (.c (.lst (.pair (.int .i64) (.int .i64)))), .sl 3 (.c (.int .i64)), .sl 23 (.c (.int .i64)), .sl 24 (.c (.int .i64))], 0⟩), (.ret, ⟨[.sl 2 (.c .bool)], 0⟩)] (.seq (.seq (.reg [⟨.mv 62 (.t 8) false, none, false, .unit⟩,
 ⟨.mv 63 (.t 3) false, none, false, .unit⟩,
 ⟨.bin 64 .lss 3 (.t 62) (.t 63), none, false, .unit⟩] false)
(.cond (.t 64) (.skip)
(.exit 2)))
(.seq (.block 3 (.seq (.reg [⟨.mv 67 (.t 8) false, none, true, .unit⟩,
 ⟨.bin 68 .add 3 (.t 67) (.k (.int .i64 1)), none, true, .unit⟩,
 ⟨.mv 69 (.t 3) false, none, true, .unit⟩,
 ⟨.bin 70 .rem 3 (.t 68) (.t 69), none, true, .unit⟩,
 ⟨.mv 71 (.t 4) false, none, true, .unit⟩,
 ⟨.bin 72 .neq 3 (.t 70) (.t 71), none, true, .unit⟩,
 ⟨.mv 73 (.t 72) false, none, true, .unit⟩,
 ⟨.ld 74 184 2 true (.t 5) false, some (73, true), false, .unit⟩,
 ⟨.ld 75 184 2 true (.t 6) false, some (73, true), false, .unit⟩,
 ⟨.mv 76 (.t 0) false, some (73, true), true, .unit⟩,
 ⟨.mv 77 (.t 8) false, some (73, true), true, .unit⟩,
 ⟨.iad 78 38 2 (.t 76) (.t 77), some (73, true), true, .unit⟩,
 ⟨.ld 79 184 2 true (.t 78) false, some (73, true), true, .unit⟩,
 ⟨.mv 80 (.t 0) false, some (73, true), true, .unit⟩,
 ⟨.mv 81 (.t 8) false, some (73, true), true, .unit⟩,
 ⟨.bin 82 .add 3 (.t 81) (.k (.int .i64 1)), some (73, true), true, .unit⟩,
 ⟨.mv 83 (.t 3) false, some (73, true), true, .unit⟩,
 ⟨.bin 84 .rem 3 (.t 82) (.t 83), some (73, true), true, .unit⟩,
 ⟨.iad 85 38 2 (.t 80) (.t 84), some (73, true), true, .unit⟩,
 ⟨.ld 86 184 2 true (.t 85) false, some (73, true), true, .unit⟩,
 ⟨.call (some 87) 177 [(.t 74), (.t 75), (.t 79), (.t 86)] false, some (73, true), true, .unit⟩,
 ⟨.pick 88 (.t 73) (.t 87) (.k (.bool false)), none, true, .unit⟩] true)
(.cond (.t 88) (.seq (.reg [⟨.mv 2 (.k (.bool false)) false, none, false, .unit⟩] false)
(.ret))
(.skip))))
(.reg [⟨.mv 65 (.t 8) false, none, false, .unit⟩,
 ⟨.bin 66 .add 3 (.t 65) (.k (.int .i64 1)), none, false, .unit⟩,
 ⟨.mv 8 (.t 66) false, none, false, .unit⟩] false))))))))))
(.reg [⟨.bin 89 .add 3 (.t 24) (.k (.int .i64 1)), none, false, .unit⟩,
 ⟨.mv 24 (.t 89) false, none, false, .unit⟩] false)))))))
(.seq (.reg [⟨.mv 90 (.t 0) false, none, false, .unit⟩,
 ⟨.call (some 91) 178 [(.t 90)] false, none, false, .unit⟩,
 ⟨.bin 92 .gtr 2 (.t 91) (.k (.int .i64 0)), none, false, .unit⟩,
 ⟨.mv 2 (.t 92) false, none, false, .unit⟩] false)
(.ret))))), [.tmp 2]⟩
theorem M146 : mkF Tryz.prog 146 A146 = some A146 := by kernel_rfl
def A98 : AF :=
⟨1, .seq (.reg [⟨.box 1 41 (.t 0) 0, none, false, .unit⟩,
 ⟨.mv 2 (.k (.bool false)) false, none, false, .unit⟩] false)
(.seq (.seq (.reg [⟨.fad 9 41 0 0 1 (.t 1), none, false, .unit⟩,
 ⟨.ld 10 2 1 false (.t 9) false, none, false, .unit⟩,
 ⟨.call (some 11) 49 [(.t 10), (.k (.int .i64 10)), (.k (.int .i64 20000))] false, none, false, .unit⟩,
 ⟨.un 12 .not (.t 11), none, false, .unit⟩,
 ⟨.mv 13 (.t 12) false, none, false, .unit⟩,
 ⟨.fad 14 41 1 1 1 (.t 1), some (13, false), false, .unit⟩,
 ⟨.ld 15 2 1 false (.t 14) false, some (13, false), false, .unit⟩,
 ⟨.call (some 16) 49 [(.t 15), (.k (.int .i64 10)), (.k (.int .i64 20000))] false, some (13, false), false, .unit⟩,
 ⟨.un 17 .not (.t 16), some (13, false), false, .unit⟩,
 ⟨.pick 18 (.t 13) (.k (.bool true)) (.t 17), none, false, .unit⟩,
 ⟨.mv 19 (.t 18) false, none, false, .unit⟩,
 ⟨.fad 20 41 2 2 1 (.t 1), some (19, false), false, .unit⟩,
 ⟨.ld 21 38 1 false (.t 20) false, some (19, false), false, .unit⟩,
 ⟨.len 22 false (.t 21), some (19, false), false, .unit⟩,
 ⟨.bin 23 .gtr 3 (.t 22) (.k (.int .i64 48)), some (19, false), false, .unit⟩,
 ⟨.pick 24 (.t 19) (.k (.bool true)) (.t 23), none, false, .unit⟩,
 ⟨.mv 25 (.t 24) false, none, false, .unit⟩,
 ⟨.fad 26 41 3 3 1 (.t 1), some (25, false), false, .unit⟩,
 ⟨.ld 27 39 1 false (.t 26) false, some (25, false), false, .unit⟩,
 ⟨.len 28 false (.t 27), some (25, false), false, .unit⟩,
 ⟨.bin 29 .gtr 3 (.t 28) (.k (.int .i64 24)), some (25, false), false, .unit⟩,
 ⟨.pick 30 (.t 25) (.k (.bool true)) (.t 29), none, false, .unit⟩] false)
(.cond (.t 30) (.seq (.reg [⟨.mv 2 (.k (.bool false)) false, none, false, .unit⟩] false)
(.ret))
(.skip)))
(.seq (.seq (.reg [⟨.fad 31 41 2 2 1 (.t 1), none, false, .unit⟩,
 ⟨.ld 32 38 1 false (.t 31) false, none, false, .unit⟩,
 ⟨.len 33 false (.t 32), none, false, .unit⟩,
 ⟨.mv 34 (.k (.int .i64 0)) false, none, false, .unit⟩] false)
(.block 0 (.loop ⟨[.sl 1 (.c (.pim (.pair (.int .i64) (.pair (.int .i64) (.pair (.lst (.pair (.int .i64) (.int .i64))) (.lst (.pair .str (.lst (.int .i64))))))))), .sl 32 (.c (.lst (.pair (.int .i64) (.int .i64)))), .sl 33 (.c (.int .i64)), .sl 34 (.c (.int .i64))], 0⟩ [((.exit 0), ⟨[.sl 1 (.c (.pim (.pair (.int .i64) (.pair (.int .i64) (.pair (.lst (.pair (.int .i64) (.int .i64))) (.lst (.pair .str (.lst (.int .i64)))))))))], 0⟩), (.ret, ⟨[.sl 2 (.c .bool)], 0⟩)] (.seq (.reg [⟨.bin 35 .lss 3 (.t 34) (.t 33), none, false, .unit⟩] false)
(.seq (.cond (.t 35) (.skip)
(.exit 0))
(.seq (.block 1 (.seq (.reg [⟨.mv 36 (.t 34) false, none, false, .unit⟩,
 ⟨.iad 37 38 2 (.t 32) (.t 34), none, false, .unit⟩,
 ⟨.ld 38 184 2 true (.t 37) false, none, false, .unit⟩,
 ⟨.alloc 4 184 [.int .i64 0, .int .i64 0] false, none, false, .unit⟩,
 ⟨.mv 3 (.t 36) false, none, false, .unit⟩,
 ⟨.st 184 2 (.t 4) (.t 38) false, none, false, .unit⟩] false)
(.seq (.reg [⟨.fad 39 184 0 0 1 (.t 4), none, true, .unit⟩,
 ⟨.ld 40 2 1 false (.t 39) false, none, false, .unit⟩,
 ⟨.fad 41 41 0 0 1 (.t 1), none, true, .unit⟩,
 ⟨.ld 42 2 1 false (.t 41) false, none, true, .unit⟩,
 ⟨.call (some 43) 49 [(.t 40), (.k (.int .i64 0)), (.t 42)] false, none, true, .unit⟩,
 ⟨.un 44 .not (.t 43), none, true, .unit⟩,
 ⟨.mv 45 (.t 44) false, none, true, .unit⟩,
 ⟨.fad 46 184 1 1 1 (.t 4), some (45, false), true, .unit⟩,
 ⟨.ld 47 2 1 false (.t 46) false, some (45, false), false, .unit⟩,
 ⟨.fad 48 41 1 1 1 (.t 1), some (45, false), true, .unit⟩,
 ⟨.ld 49 2 1 false (.t 48) false, some (45, false), true, .unit⟩,
 ⟨.call (some 50) 49 [(.t 47), (.k (.int .i64 0)), (.t 49)] false, some (45, false), true, .unit⟩,
 ⟨.un 51 .not (.t 50), some (45, false), true, .unit⟩,
 ⟨.pick 52 (.t 45) (.k (.bool true)) (.t 51), none, true, .unit⟩,
 ⟨.mv 53 (.t 52) false, none, true, .unit⟩,
 ⟨.fad 54 41 2 2 1 (.t 1), some (53, false), true, .unit⟩,
 ⟨.ld 55 38 1 false (.t 54) false, some (53, false), true, .unit⟩,
 ⟨.mv 56 (.t 3) false, some (53, false), true, .unit⟩,
 ⟨.slc 57 38 false 2 (.t 55) none (some (.t 56)) none, some (53, false), true, .unit⟩,
 ⟨.ld 58 184 2 true (.t 4) false, some (53, false), false, .unit⟩,
 ⟨.call (some 59) 143 [(.t 57), (.t 58)] false, some (53, false), true, .unit⟩,
 ⟨.pick 60 (.t 53) (.k (.bool true)) (.t 59), none, true, .unit⟩] true)
(.cond (.t 60) (.seq (.reg [⟨.mv 2 (.k (.bool false)) false, none, false, .unit⟩] false)
(.ret))
(.skip)))))
(.reg [⟨.bin 61 .add 3 (.t 34) (.k (.int .i64 1)), none, false, .unit⟩,
 ⟨.mv 34 (.t 61) false, none, false, .unit⟩] false)))))))
(.seq (.seq (.reg [⟨.fad 62 41 3 3 1 (.t 1), none, false, .unit⟩,
 ⟨.ld 63 39 1 false (.t 62) false, none, false, .unit⟩,
 ⟨.len 64 false (.t 63), none, false, .unit⟩,
 ⟨.mv 65 (.k (.int .i64 0)) false, none, false, .unit⟩] false)
(.block 2 (.loop ⟨[.sl 1 (.c (.pim (.pair (.int .i64) (.pair (.int .i64) (.pair (.lst (.pair (.int .i64) (.int .i64))) (.lst (.pair .str (.lst (.int .i64))))))))), .sl 63 (.c (.lst (.pair .str (.lst (.int .i64))))), .sl 64 (.c (.int .i64)), .sl 65 (.c (.int .i64))], 0⟩ [((.exit 2), ⟨[], 0⟩), (.ret, ⟨[.sl 2 (.c .bool)], 0⟩)] (.seq (.reg [⟨.bin 66 .lss 3 (.t 65) (.t 64), none, false, .unit⟩] false)
(.seq (.cond (.t 66) (.skip)
(.exit 2))
(.seq (.block 3 (.seq (.reg [⟨.mv 67 (.t 65) false, none, false, .unit⟩,
 ⟨.iad 68 39 2 (.t 63) (.t 65), none, false, .unit⟩,
 ⟨.ld 69 187 2 true (.t 68) false, none, false, .unit⟩,
 ⟨.alloc 6 187 [.string ⟨#[]⟩, .slice none 0 0] false, none, false, .unit⟩,
 ⟨.mv 5 (.t 67) false, none, false, .unit⟩,
 ⟨.st 187 2 (.t 6) (.t 69) false, none, false, .unit⟩] false)
(.seq (.scope [(.normal, ⟨[.sl 1 (.c (.pim (.pair (.int .i64) (.pair (.int .i64) (.pair (.lst (.pair (.int .i64) (.int .i64))) (.lst (.pair .str (.lst (.int .i64))))))))), .sl 6 (.gr (.lref 6 0 0)), .sl 63 (.c (.lst (.pair .str (.lst (.int .i64))))), .sl 64 (.c (.int .i64)), .sl 65 (.c (.int .i64)), .lo 6 (.one [(.c .str), (.c (.lst (.int .i64)))])], 0⟩), (.ret, ⟨[.sl 2 (.c .bool)], 0⟩)] (.seq (.reg [⟨.fad 70 187 0 0 1 (.t 6), none, true, .unit⟩,
 ⟨.ld 71 9 1 false (.t 70) false, none, false, .unit⟩,
 ⟨.call (some 72) 144 [(.t 71)] false, none, true, .unit⟩,
 ⟨.un 73 .not (.t 72), none, true, .unit⟩,
 ⟨.mv 74 (.t 73) false, none, true, .unit⟩,
 ⟨.mv 75 (.t 5) false, some (74, false), true, .unit⟩,
 ⟨.bin 76 .gtr 3 (.t 75) (.k (.int .i64 0)), some (74, false), true, .unit⟩,
 ⟨.mv 77 (.t 76) false, some (74, false), true, .unit⟩,
 ⟨.fad 78 41 3 3 1 (.t 1), some (77, true), true, .unit⟩,
 ⟨.ld 79 39 1 false (.t 78) false, some (77, true), true, .unit⟩,
 ⟨.mv 80 (.t 5) false, some (77, true), true, .unit⟩,
 ⟨.bin 81 .sub 3 (.t 80) (.k (.int .i64 1)), some (77, true), true, .unit⟩,
 ⟨.iad 82 39 2 (.t 79) (.t 81), some (77, true), true, .unit⟩,
 ⟨.fad 83 187 0 0 1 (.t 82), some (77, true), true, .unit⟩,
 ⟨.ld 84 9 1 false (.t 83) false, some (77, true), true, .unit⟩,
 ⟨.fad 85 187 0 0 1 (.t 6), some (77, true), true, .unit⟩,
 ⟨.ld 86 9 1 false (.t 85) false, some (77, true), false, .unit⟩,
 ⟨.bin 87 .geq 9 (.t 84) (.t 86), some (77, true), true, .unit⟩,
 ⟨.pick 88 (.t 77) (.t 87) (.k (.bool false)), some (74, false), true, .unit⟩,
 ⟨.pick 89 (.t 74) (.k (.bool true)) (.t 88), none, true, .unit⟩] true)
(.cond (.t 89) (.seq (.reg [⟨.mv 2 (.k (.bool false)) false, none, false, .unit⟩] false)
(.ret))
(.skip))))
(.seq (.reg [⟨.fad 91 41 2 2 1 (.t 1), none, false, .unit⟩,
 ⟨.ld 92 38 1 false (.t 91) false, none, false, .unit⟩,
 ⟨.fad 93 187 1 1 1 (.t 6), none, false, .unit⟩,
 ⟨.ld 94 33 1 false (.t 93) false, none, false, .unit⟩,
 ⟨.call (some 95) 145 [(.t 92), (.t 94)] false, none, false, .unit⟩,
 ⟨.mv 90 (.t 95) false, none, false, .unit⟩,
 ⟨.ext 96 (.t 90) 0, none, false, .unit⟩,
 ⟨.ext 97 (.t 90) 1, none, false, .unit⟩,
 ⟨.mv 7 (.t 96) false, none, false, .unit⟩,
 ⟨.mv 8 (.t 97) false, none, false, .unit⟩] false)
(.seq (.reg [⟨.mv 98 (.t 8) false, none, false, .unit⟩,
 ⟨.un 99 .not (.t 98), none, false, .unit⟩,
 ⟨.mv 100 (.t 99) false, none, false, .unit⟩,
 ⟨.mv 101 (.t 7) false, some (100, false), false, .unit⟩,
 ⟨.call (some 102) 146 [(.t 101)] false, some (100, false), false, .unit⟩,
 ⟨.un 103 .not (.t 102), some (100, false), false, .unit⟩,
 ⟨.pick 104 (.t 100) (.k (.bool true)) (.t 103), none, false, .unit⟩] false)
(.cond (.t 104) (.seq (.reg [⟨.mv 2 (.k (.bool false)) false, none, false, .unit⟩] false)
(.ret))
(.skip)))))))
(.reg [⟨.bin 105 .add 3 (.t 65) (.k (.int .i64 1)), none, false, .unit⟩,
 ⟨.mv 65 (.t 105) false, none, false, .unit⟩] false)))))))
(.seq (.reg [⟨.mv 2 (.k (.bool true)) false, none, false, .unit⟩] false)
(.ret))))), [.tmp 2]⟩
theorem M98 : mkF Tryz.prog 98 A98 = some A98 := by kernel_rfl
def A208 : AF :=
⟨1, .seq (.reg [⟨.mv 2 (.k (.int .i64 0)) false, none, false, .unit⟩,
 ⟨.mv 3 (.k (.int .i64 0)) false, none, false, .unit⟩,
 ⟨.mv 4 (.k (.int .i64 0)) false, none, false, .unit⟩,
 ⟨.mv 5 (.k (.int .i64 0)) false, none, false, .unit⟩] false)
(.seq (.seq (.reg [⟨.mv 6 (.t 0) false, none, false, .unit⟩] false)
(.block 0 (.seq (.reg [⟨.bin 8 .eql 9 (.t 6) (.k (.string ⟨#[97, 115, 104]⟩)), none, false, .unit⟩,
 ⟨.mv 7 (.t 8) false, none, false, .unit⟩] false)
(.cond (.t 7) (.seq (.reg [⟨.mv 2 (.k (.int .i64 20)) false, none, false, .unit⟩,
 ⟨.mv 3 (.k (.int .i64 40)) false, none, false, .unit⟩,
 ⟨.mv 4 (.k (.int .i64 310)) false, none, false, .unit⟩,
 ⟨.mv 5 (.k (.int .i64 0)) false, none, false, .unit⟩] false)
(.ret))
(.seq (.reg [⟨.bin 10 .eql 9 (.t 6) (.k (.string ⟨#[98, 101, 101, 99, 104]⟩)), none, false, .unit⟩,
 ⟨.mv 9 (.t 10) false, none, false, .unit⟩] false)
(.cond (.t 9) (.seq (.reg [⟨.mv 2 (.k (.int .i64 35)) false, none, false, .unit⟩,
 ⟨.mv 3 (.k (.int .i64 45)) false, none, false, .unit⟩,
 ⟨.mv 4 (.k (.int .i64 410)) false, none, false, .unit⟩,
 ⟨.mv 5 (.k (.int .i64 0)) false, none, false, .unit⟩] false)
(.ret))
(.seq (.reg [⟨.bin 12 .eql 9 (.t 6) (.k (.string ⟨#[98, 105, 114, 99, 104]⟩)), none, false, .unit⟩,
 ⟨.mv 11 (.t 12) false, none, false, .unit⟩] false)
(.cond (.t 11) (.seq (.reg [⟨.mv 2 (.k (.int .i64 15)) false, none, false, .unit⟩,
 ⟨.mv 3 (.k (.int .i64 33)) false, none, false, .unit⟩,
 ⟨.mv 4 (.k (.int .i64 280)) false, none, false, .unit⟩,
 ⟨.mv 5 (.k (.int .i64 0)) false, none, false, .unit⟩] false)
(.ret))
(.seq (.reg [⟨.bin 14 .eql 9 (.t 6) (.k (.string ⟨#[99, 104, 101, 114, 114, 121]⟩)), none, false, .unit⟩,
 ⟨.mv 13 (.t 14) false, none, false, .unit⟩] false)
(.cond (.t 13) (.seq (.reg [⟨.mv 2 (.k (.int .i64 50)) false, none, false, .unit⟩,
 ⟨.mv 3 (.k (.int .i64 36)) false, none, false, .unit⟩,
 ⟨.mv 4 (.k (.int .i64 240)) false, none, false, .unit⟩,
 ⟨.mv 5 (.k (.int .i64 0)) false, none, false, .unit⟩] false)
(.ret))
(.seq (.reg [⟨.bin 16 .eql 9 (.t 6) (.k (.string ⟨#[101, 98, 111, 110, 121]⟩)), none, false, .unit⟩,
 ⟨.mv 15 (.t 16) false, none, false, .unit⟩] false)
(.cond (.t 15) (.seq (.reg [⟨.mv 2 (.k (.int .i64 95)) false, none, false, .unit⟩,
 ⟨.mv 3 (.k (.int .i64 85)) false, none, false, .unit⟩,
 ⟨.mv 4 (.k (.int .i64 270)) false, none, false, .unit⟩,
 ⟨.mv 5 (.k (.int .i64 0)) false, none, false, .unit⟩] false)
(.ret))
(.seq (.reg [⟨.bin 18 .eql 9 (.t 6) (.k (.string ⟨#[104, 111, 108, 108, 121]⟩)), none, false, .unit⟩,
 ⟨.mv 17 (.t 18) false, none, false, .unit⟩] false)
(.cond (.t 17) (.seq (.reg [⟨.mv 2 (.k (.int .i64 5)) false, none, false, .unit⟩,
 ⟨.mv 3 (.k (.int .i64 35)) false, none, false, .unit⟩,
 ⟨.mv 4 (.k (.int .i64 370)) false, none, false, .unit⟩,
 ⟨.mv 5 (.k (.int .i64 0)) false, none, false, .unit⟩] false)
(.ret))
(.seq (.reg [⟨.bin 20 .eql 9 (.t 6) (.k (.string ⟨#[109, 97, 112, 108, 101]⟩)), none, false, .unit⟩,
 ⟨.mv 19 (.t 20) false, none, false, .unit⟩] false)
(.cond (.t 19) (.seq (.reg [⟨.mv 2 (.k (.int .i64 10)) false, none, false, .unit⟩,
 ⟨.mv 3 (.k (.int .i64 42)) false, none, false, .unit⟩,
 ⟨.mv 4 (.k (.int .i64 290)) false, none, false, .unit⟩,
 ⟨.mv 5 (.k (.int .i64 0)) false, none, false, .unit⟩] false)
(.ret))
(.seq (.reg [⟨.bin 22 .eql 9 (.t 6) (.k (.string ⟨#[111, 97, 107]⟩)), none, false, .unit⟩,
 ⟨.mv 21 (.t 22) false, none, false, .unit⟩] false)
(.cond (.t 21) (.seq (.reg [⟨.mv 2 (.k (.int .i64 40)) false, none, false, .unit⟩,
 ⟨.mv 3 (.k (.int .i64 40)) false, none, false, .unit⟩,
 ⟨.mv 4 (.k (.int .i64 330)) false, none, false, .unit⟩,
 ⟨.mv 5 (.k (.int .i64 0)) false, none, false, .unit⟩] false)
(.ret))
(.seq (.reg [⟨.bin 24 .eql 9 (.t 6) (.k (.string ⟨#[114, 111, 115, 101, 119, 111, 111, 100]⟩)), none, false, .unit⟩,
 ⟨.mv 23 (.t 24) false, none, false, .unit⟩] false)
(.cond (.t 23) (.seq (.reg [⟨.mv 2 (.k (.int .i64 80)) false, none, false, .unit⟩,
 ⟨.mv 3 (.k (.int .i64 60)) false, none, false, .unit⟩,
 ⟨.mv 4 (.k (.int .i64 220)) false, none, false, .unit⟩,
 ⟨.mv 5 (.k (.int .i64 0)) false, none, false, .unit⟩] false)
(.ret))
(.seq (.reg [⟨.bin 26 .eql 9 (.t 6) (.k (.string ⟨#[119, 97, 108, 110, 117, 116]⟩)), none, false, .unit⟩,
 ⟨.mv 25 (.t 26) false, none, false, .unit⟩] false)
(.cond (.t 25) (.seq (.reg [⟨.mv 2 (.k (.int .i64 70)) false, none, false, .unit⟩,
 ⟨.mv 3 (.k (.int .i64 38)) false, none, false, .unit⟩,
 ⟨.mv 4 (.k (.int .i64 260)) false, none, false, .unit⟩,
 ⟨.mv 5 (.k (.int .i64 0)) false, none, false, .unit⟩] false)
(.ret))
(.skip)))))))))))))))))))))))
(.seq (.reg [⟨.mv 2 (.k (.int .i64 0)) false, none, false, .unit⟩,
 ⟨.mv 3 (.k (.int .i64 0)) false, none, false, .unit⟩,
 ⟨.mv 4 (.k (.int .i64 0)) false, none, false, .unit⟩,
 ⟨.mv 5 (.k (.int .i64 3)) false, none, false, .unit⟩] false)
(.ret))), [.tmp 2, .tmp 3, .tmp 4, .tmp 5]⟩
theorem M208 : mkF Tryz.prog 208 A208 = some A208 := by kernel_rfl
def A180 : AF :=
⟨1, .seq (.reg [⟨.mv 2 (.k (.int .i64 0)) false, none, false, .unit⟩,
 ⟨.mv 3 (.k (.bool false)) false, none, false, .unit⟩] false)
(.seq (.reg [⟨.mv 9 (.t 0) false, none, false, .unit⟩,
 ⟨.call (some 10) 208 [(.t 9)] false, none, false, .unit⟩,
 ⟨.mv 8 (.t 10) false, none, false, .unit⟩,
 ⟨.ext 11 (.t 8) 0, none, false, .unit⟩,
 ⟨.ext 12 (.t 8) 1, none, false, .unit⟩,
 ⟨.ext 13 (.t 8) 2, none, false, .unit⟩,
 ⟨.ext 14 (.t 8) 3, none, false, .unit⟩,
 ⟨.mv 4 (.t 11) false, none, false, .unit⟩,
 ⟨.mv 5 (.t 12) false, none, false, .unit⟩,
 ⟨.mv 6 (.t 13) false, none, false, .unit⟩,
 ⟨.mv 7 (.t 14) false, none, false, .unit⟩] false)
(.seq (.reg [⟨.mv 15 (.t 4) false, none, false, .unit⟩,
 ⟨.mv 16 (.t 7) false, none, false, .unit⟩,
 ⟨.bin 17 .eql 2 (.t 16) (.k (.int .i64 0)), none, false, .unit⟩,
 ⟨.mv 2 (.t 15) false, none, false, .unit⟩,
 ⟨.mv 3 (.t 17) false, none, false, .unit⟩] false)
(.ret))), [.tmp 2, .tmp 3]⟩
theorem M180 : mkF Tryz.prog 180 A180 = some A180 := by kernel_rfl
def A149 : AF :=
⟨1, .seq (.reg [⟨.box 1 123 (.t 0) 0, none, false, .unit⟩,
 ⟨.mv 2 (.k (.bool false)) false, none, false, .unit⟩] false)
(.seq (.reg [⟨.fad 6 123 0 0 1 (.t 1), none, false, .unit⟩,
 ⟨.ld 7 9 1 false (.t 6) false, none, false, .unit⟩,
 ⟨.call (some 8) 180 [(.t 7)] false, none, false, .unit⟩,
 ⟨.mv 5 (.t 8) false, none, false, .unit⟩,
 ⟨.ext 9 (.t 5) 0, none, false, .unit⟩,
 ⟨.ext 10 (.t 5) 1, none, false, .unit⟩,
 ⟨.mv 3 (.t 9) false, none, false, .unit⟩,
 ⟨.mv 4 (.t 10) false, none, false, .unit⟩] false)
(.seq (.reg [⟨.mv 11 (.t 4) false, none, false, .unit⟩,
 ⟨.mv 12 (.t 11) false, none, false, .unit⟩,
 ⟨.fad 13 123 1 1 1 (.t 1), some (12, true), false, .unit⟩,
 ⟨.ld 14 2 1 false (.t 13) false, some (12, true), false, .unit⟩,
 ⟨.call (some 15) 49 [(.t 14), (.k (.int .i64 0)), (.k (.int .i64 100))] false, some (12, true), false, .unit⟩,
 ⟨.pick 16 (.t 12) (.t 15) (.k (.bool false)), none, false, .unit⟩,
 ⟨.mv 17 (.t 16) false, none, false, .unit⟩,
 ⟨.fad 18 123 1 1 1 (.t 1), some (17, true), false, .unit⟩,
 ⟨.ld 19 2 1 false (.t 18) false, some (17, true), false, .unit⟩,
 ⟨.mv 20 (.t 3) false, some (17, true), false, .unit⟩,
 ⟨.bin 21 .sub 2 (.t 19) (.t 20), some (17, true), false, .unit⟩,
 ⟨.call (some 22) 49 [(.t 21), (.k (.int .i64 (-15))), (.k (.int .i64 15))] false, some (17, true), false, .unit⟩,
 ⟨.pick 23 (.t 17) (.t 22) (.k (.bool false)), none, false, .unit⟩,
 ⟨.mv 24 (.t 23) false, none, false, .unit⟩,
 ⟨.fad 25 123 2 2 1 (.t 1), some (24, true), false, .unit⟩,
 ⟨.ld 26 2 1 false (.t 25) false, some (24, true), false, .unit⟩,
 ⟨.call (some 27) 49 [(.t 26), (.k (.int .i64 0)), (.k (.int .i64 179))] false, some (24, true), false, .unit⟩,
 ⟨.pick 28 (.t 24) (.t 27) (.k (.bool false)), none, false, .unit⟩,
 ⟨.mv 2 (.t 28) false, none, false, .unit⟩] false)
(.ret))), [.tmp 2]⟩
theorem M149 : mkF Tryz.prog 149 A149 = some A149 := by kernel_rfl
def A148 : AF :=
⟨1, .seq (.reg [⟨.box 1 123 (.t 0) 0, none, false, .unit⟩,
 ⟨.mv 2 (.k (.bool false)) false, none, false, .unit⟩] false)
(.seq (.reg [⟨.ld 3 123 3 true (.t 1) false, none, false, .unit⟩,
 ⟨.call (some 4) 149 [(.t 3)] false, none, false, .unit⟩,
 ⟨.un 5 .not (.t 4), none, false, .unit⟩,
 ⟨.mv 2 (.t 5) false, none, false, .unit⟩] false)
(.ret)), [.tmp 2]⟩
theorem M148 : mkF Tryz.prog 148 A148 = some A148 := by kernel_rfl
def A179 : AF :=
⟨2, .seq (.reg [⟨.mv 4 (.k (.int .i64 0)) false, none, false, .unit⟩] false)
(.seq (.seq (.reg [⟨.mv 6 (.t 0) false, none, false, .unit⟩,
 ⟨.len 7 false (.t 6), none, false, .unit⟩,
 ⟨.mv 8 (.k (.int .i64 0)) false, none, false, .unit⟩] false)
(.block 0 (.loop ⟨[.sl 0 (.c (.lst (.pair .str (.pair (.int .i64) (.int .i64))))), .sl 1 (.gr (.clo 148 [])), .sl 7 (.c (.int .i64)), .sl 8 (.c (.int .i64))], 0⟩ [((.exit 0), ⟨[], 0⟩), (.ret, ⟨[.sl 4 (.c (.int .i64))], 0⟩)] (.seq (.reg [⟨.bin 9 .lss 3 (.t 8) (.t 7), none, false, .unit⟩] false)
(.seq (.cond (.t 9) (.skip)
(.exit 0))
(.seq (.block 1 (.seq (.reg [⟨.mv 10 (.t 8) false, none, false, .unit⟩,
 ⟨.mv 5 (.t 10) false, none, false, .unit⟩] false)
(.seq (.reg [⟨.mv 11 (.t 1) false, none, false, .unit⟩,
 ⟨.mv 12 (.t 0) false, none, false, .unit⟩,
 ⟨.mv 13 (.t 5) false, none, false, .unit⟩,
 ⟨.iad 14 42 3 (.t 12) (.t 13), none, false, .unit⟩,
 ⟨.ld 15 123 3 true (.t 14) false, none, false, .unit⟩,
 ⟨.callv (some 16) (.t 11) [(.t 15)] false, none, false, .unit⟩] false)
(.cond (.t 16) (.seq (.reg [⟨.mv 17 (.t 5) false, none, false, .unit⟩,
 ⟨.mv 4 (.t 17) false, none, false, .unit⟩] false)
(.ret))
(.skip)))))
(.reg [⟨.bin 18 .add 3 (.t 8) (.k (.int .i64 1)), none, false, .unit⟩,
 ⟨.mv 8 (.t 18) false, none, false, .unit⟩] false)))))))
(.seq (.reg [⟨.mv 4 (.k (.int .i64 (-1))) false, none, false, .unit⟩] false)
(.ret))), [.tmp 4]⟩
theorem M179 : mkF Tryz.prog 179 A179 = some A179 := by kernel_rfl
def A147 : AF :=
⟨2, .seq (.reg [⟨.mv 4 (.k (.bool false)) false, none, false, .unit⟩] false)
(.seq (.reg [⟨.mv 5 (.t 0) false, none, false, .unit⟩,
 ⟨.mv 6 (.t 1) false, none, false, .unit⟩,
 ⟨.call (some 7) 179 [(.t 5), (.t 6)] false, none, false, .unit⟩,
 ⟨.bin 8 .geq 3 (.t 7) (.k (.int .i64 0)), none, false, .unit⟩,
 ⟨.mv 4 (.t 8) false, none, false, .unit⟩] false)
(.ret)), [.tmp 4]⟩
theorem M147 : mkF Tryz.prog 147 A147 = some A147 := by kernel_rfl
def A99 : AF :=
⟨1, .seq (.reg [⟨.mv 2 (.k (.bool false)) false, none, false, .unit⟩] false)
(.seq (.reg [⟨.mv 3 (.t 0) false, none, false, .unit⟩,
 ⟨.call (some 4) 147 [(.t 3), (.f 148)] false, none, false, .unit⟩,
 ⟨.un 5 .not (.t 4), none, false, .unit⟩,
 ⟨.mv 2 (.t 5) false, none, false, .unit⟩] false)
(.ret)), [.tmp 2]⟩
theorem M99 : mkF Tryz.prog 99 A99 = some A99 := by kernel_rfl
def A45 : AF :=
⟨1, .seq (.reg [⟨.box 1 44 (.t 0) 0, none, false, .unit⟩,
 ⟨.mv 2 (.k (.bool false)) false, none, false, .unit⟩] false)
(.seq (.reg [⟨.fad 3 44 0 0 4 (.t 1), none, false, .unit⟩,
 ⟨.ld 4 41 4 true (.t 3) false, none, false, .unit⟩,
 ⟨.call (some 5) 98 [(.t 4)] false, none, false, .unit⟩,
 ⟨.mv 6 (.t 5) false, none, false, .unit⟩,
 ⟨.fad 7 44 1 4 1 (.t 1), some (6, true), false, .unit⟩,
 ⟨.ld 8 42 1 false (.t 7) false, some (6, true), false, .unit⟩,
 ⟨.len 9 false (.t 8), some (6, true), false, .unit⟩,
 ⟨.fad 10 44 0 0 4 (.t 1), some (6, true), false, .unit⟩,
 ⟨.fad 11 41 3 3 1 (.t 10), some (6, true), false, .unit⟩,
 ⟨.ld 12 39 1 false (.t 11) false, some (6, true), false, .unit⟩,
 ⟨.len 13 false (.t 12), some (6, true), false, .unit⟩,
 ⟨.bin 14 .eql 3 (.t 9) (.t 13), some (6, true), false, .unit⟩,
 ⟨.pick 15 (.t 6) (.t 14) (.k (.bool false)), none, false, .unit⟩,
 ⟨.mv 16 (.t 15) false, none, false, .unit⟩,
 ⟨.fad 17 44 1 4 1 (.t 1), some (16, true), false, .unit⟩,
 ⟨.ld 18 42 1 false (.t 17) false, some (16, true), false, .unit⟩,
 ⟨.call (some 19) 99 [(.t 18)] false, some (16, true), false, .unit⟩,
 ⟨.pick 20 (.t 16) (.t 19) (.k (.bool false)), none, false, .unit⟩,
 ⟨.mv 2 (.t 20) false, none, false, .unit⟩] false)
(.ret)), [.tmp 2]⟩
theorem M45 : mkF Tryz.prog 45 A45 = some A45 := by kernel_rfl
def A152 : AF :=
⟨3, .seq (.reg [⟨.box 3 234 (.t 0) 0, none, false, .unit⟩,
 ⟨.mv 6 (.k (.bool false)) false, none, false, .unit⟩] false)
(.seq (.reg [⟨.fad 7 234 0 0 1 (.t 3), none, false, .unit⟩,
 ⟨.ld 8 2 1 false (.t 7) false, none, false, .unit⟩,
 ⟨.mv 9 (.t 1) false, none, false, .unit⟩,
 ⟨.call (some 10) 49 [(.t 8), (.k (.int .i64 0)), (.t 9)] false, none, false, .unit⟩,
 ⟨.mv 11 (.t 10) false, none, false, .unit⟩,
 ⟨.fad 12 234 1 1 1 (.t 3), some (11, true), false, .unit⟩,
 ⟨.ld 13 2 1 false (.t 12) false, some (11, true), false, .unit⟩,
 ⟨.mv 14 (.t 2) false, some (11, true), false, .unit⟩,
 ⟨.call (some 15) 49 [(.t 13), (.k (.int .i64 0)), (.t 14)] false, some (11, true), false, .unit⟩,
 ⟨.pick 16 (.t 11) (.t 15) (.k (.bool false)), none, false, .unit⟩,
 ⟨.mv 17 (.t 16) false, none, false, .unit⟩,
 ⟨.fad 18 234 2 2 1 (.t 3), some (17, true), false, .unit⟩,
 ⟨.ld 19 2 1 false (.t 18) false, some (17, true), false, .unit⟩,
 ⟨.mv 20 (.t 1) false, some (17, true), false, .unit⟩,
 ⟨.fad 21 234 0 0 1 (.t 3), some (17, true), false, .unit⟩,
 ⟨.ld 22 2 1 false (.t 21) false, some (17, true), false, .unit⟩,
 ⟨.bin 23 .sub 2 (.t 20) (.t 22), some (17, true), false, .unit⟩,
 ⟨.call (some 24) 49 [(.t 19), (.k (.int .i64 1)), (.t 23)] false, some (17, true), false, .unit⟩,
 ⟨.pick 25 (.t 17) (.t 24) (.k (.bool false)), none, false, .unit⟩,
 ⟨.mv 26 (.t 25) false, none, false, .unit⟩,
 ⟨.fad 27 234 3 3 1 (.t 3), some (26, true), false, .unit⟩,
 ⟨.ld 28 2 1 false (.t 27) false, some (26, true), false, .unit⟩,
 ⟨.mv 29 (.t 2) false, some (26, true), false, .unit⟩,
 ⟨.fad 30 234 1 1 1 (.t 3), some (26, true), false, .unit⟩,
 ⟨.ld 31 2 1 false (.t 30) false, some (26, true), false, .unit⟩,
 ⟨.bin 32 .sub 2 (.t 29) (.t 31), some (26, true), false, .unit⟩,
 ⟨.call (some 33) 49 [(.t 28), (.k (.int .i64 1)), (.t 32)] false, some (26, true), false, .unit⟩,
 ⟨.pick 34 (.t 26) (.t 33) (.k (.bool false)), none, false, .unit⟩,
 ⟨.mv 6 (.t 34) false, none, false, .unit⟩] false)
(.ret)), [.tmp 6]⟩
theorem M152 : mkF Tryz.prog 152 A152 = some A152 := by kernel_rfl
def A151 : AF :=
⟨2, .seq (.reg [⟨.box 2 234 (.t 0) 0, none, false, .unit⟩,
 ⟨.mv 3 (.k (.bool false)) false, none, false, .unit⟩] false)
(.seq (.reg [⟨.ld 4 234 4 true (.t 2) false, none, false, .unit⟩,
 ⟨.fad 5 164 4 6 1 (.t 1), none, false, .unit⟩,
 ⟨.ld 6 2 1 false (.t 5) false, none, false, .unit⟩,
 ⟨.fad 7 164 5 7 1 (.t 1), none, false, .unit⟩,
 ⟨.ld 8 2 1 false (.t 7) false, none, false, .unit⟩,
 ⟨.call (some 9) 152 [(.t 4), (.t 6), (.t 8)] false, none, false, .unit⟩,
 ⟨.un 10 .not (.t 9), none, false, .unit⟩,
 ⟨.mv 3 (.t 10) false, none, false, .unit⟩] false)
(.ret)), [.tmp 3]⟩
theorem M151 : mkF Tryz.prog 151 A151 = some A151 := by kernel_rfl
def A181 : AF :=
⟨2, .seq (.reg [⟨.mv 4 (.k (.int .i64 0)) false, none, false, .unit⟩] false)
(.seq (.seq (.reg [⟨.mv 6 (.t 0) false, none, false, .unit⟩,
 ⟨.len 7 false (.t 6), none, false, .unit⟩,
 ⟨.mv 8 (.k (.int .i64 0)) false, none, false, .unit⟩] false)
(.block 0 (.loop ⟨[.sl 0 (.c (.lst (.pair (.int .i64) (.pair (.int .i64) (.pair (.int .i64) (.int .i64)))))), .sl 1 (.c (.clo 151 (.pim (.pair .str (.pair .str (.pair (.int .i64) (.pair .str (.pair (.int .i64) (.pair (.int .i64) (.pair (.int .i64) (.pair (.int .i64) (.lst (.pair (.int .i64) (.pair (.int .i64) (.pair (.int .i64) (.int .i64)))))))))))))))), .sl 7 (.c (.int .i64)), .sl 8 (.c (.int .i64))], 0⟩ [((.exit 0), ⟨[], 0⟩), (.ret, ⟨[.sl 4 (.c (.int .i64))], 0⟩)] (.seq (.reg [⟨.bin 9 .lss 3 (.t 8) (.t 7), none, false, .unit⟩] false)
(.seq (.cond (.t 9) (.skip)
(.exit 0))
(.seq (.block 1 (.seq (.reg [⟨.mv 10 (.t 8) false, none, false, .unit⟩,
 ⟨.mv 5 (.t 10) false, none, false, .unit⟩] false)
(.seq (.reg [⟨.mv 11 (.t 1) false, none, false, .unit⟩,
 ⟨.mv 12 (.t 0) false, none, false, .unit⟩,
 ⟨.mv 13 (.t 5) false, none, false, .unit⟩,
 ⟨.iad 14 162 4 (.t 12) (.t 13), none, false, .unit⟩,
 ⟨.ld 15 234 4 true (.t 14) false, none, false, .unit⟩,
 ⟨.callv (some 16) (.t 11) [(.t 15)] false, none, false, .unit⟩] false)
(.cond (.t 16) (.seq (.reg [⟨.mv 17 (.t 5) false, none, false, .unit⟩,
 ⟨.mv 4 (.t 17) false, none, false, .unit⟩] false)
(.ret))
(.skip)))))
(.reg [⟨.bin 18 .add 3 (.t 8) (.k (.int .i64 1)), none, false, .unit⟩,
 ⟨.mv 8 (.t 18) false, none, false, .unit⟩] false)))))))
(.seq (.reg [⟨.mv 4 (.k (.int .i64 (-1))) false, none, false, .unit⟩] false)
(.ret))), [.tmp 4]⟩
theorem M181 : mkF Tryz.prog 181 A181 = some A181 := by kernel_rfl
def A150 : AF :=
⟨2, .seq (.reg [⟨.mv 4 (.k (.bool false)) false, none, false, .unit⟩] false)
(.seq (.reg [⟨.mv 5 (.t 0) false, none, false, .unit⟩,
 ⟨.mv 6 (.t 1) false, none, false, .unit⟩,
 ⟨.call (some 7) 181 [(.t 5), (.t 6)] false, none, false, .unit⟩,
 ⟨.bin 8 .geq 3 (.t 7) (.k (.int .i64 0)), none, false, .unit⟩,
 ⟨.mv 4 (.t 8) false, none, false, .unit⟩] false)
(.ret)), [.tmp 4]⟩
theorem M150 : mkF Tryz.prog 150 A150 = some A150 := by kernel_rfl
def A100 : AF :=
⟨1, .seq (.reg [⟨.box 1 164 (.t 0) 0, none, false, .unit⟩,
 ⟨.mv 2 (.k (.bool false)) false, none, false, .unit⟩] false)
(.seq (.seq (.reg [⟨.fad 3 164 0 0 1 (.t 1), none, false, .unit⟩,
 ⟨.ld 4 9 1 false (.t 3) false, none, false, .unit⟩,
 ⟨.call (some 5) 144 [(.t 4)] false, none, false, .unit⟩,
 ⟨.un 6 .not (.t 5), none, false, .unit⟩,
 ⟨.mv 7 (.t 6) false, none, false, .unit⟩,
 ⟨.fad 8 164 1 1 1 (.t 1), some (7, false), false, .unit⟩,
 ⟨.ld 9 9 1 false (.t 8) false, some (7, false), false, .unit⟩,
 ⟨.call (some 10) 144 [(.t 9)] false, some (7, false), false, .unit⟩,
 ⟨.un 11 .not (.t 10), some (7, false), false, .unit⟩,
 ⟨.pick 12 (.t 7) (.k (.bool true)) (.t 11), none, false, .unit⟩,
 ⟨.mv 13 (.t 12) false, none, false, .unit⟩,
 ⟨.fad 14 164 2 2 1 (.t 1), some (13, false), false, .unit⟩,
 ⟨.ld 15 2 1 false (.t 14) false, some (13, false), false, .unit⟩,
 ⟨.call (some 16) 49 [(.t 15), (.k (.int .i64 0)), (.k (.int .i64 999))] false, some (13, false), false, .unit⟩,
 ⟨.un 17 .not (.t 16), some (13, false), false, .unit⟩,
 ⟨.pick 18 (.t 13) (.k (.bool true)) (.t 17), none, false, .unit⟩,
 ⟨.mv 19 (.t 18) false, none, false, .unit⟩,
 ⟨.fad 20 164 3 3 3 (.t 1), some (19, false), false, .unit⟩,
 ⟨.ld 21 123 3 true (.t 20) false, some (19, false), false, .unit⟩,
 ⟨.call (some 22) 149 [(.t 21)] false, some (19, false), false, .unit⟩,
 ⟨.un 23 .not (.t 22), some (19, false), false, .unit⟩,
 ⟨.pick 24 (.t 19) (.k (.bool true)) (.t 23), none, false, .unit⟩] false)
(.cond (.t 24) (.seq (.reg [⟨.mv 2 (.k (.bool false)) false, none, false, .unit⟩] false)
(.ret))
(.skip)))
(.seq (.seq (.reg [⟨.fad 25 164 4 6 1 (.t 1), none, false, .unit⟩,
 ⟨.ld 26 2 1 false (.t 25) false, none, false, .unit⟩,
 ⟨.call (some 27) 49 [(.t 26), (.k (.int .i64 10)), (.k (.int .i64 20000))] false, none, false, .unit⟩,
 ⟨.un 28 .not (.t 27), none, false, .unit⟩,
 ⟨.mv 29 (.t 28) false, none, false, .unit⟩,
 ⟨.fad 30 164 5 7 1 (.t 1), some (29, false), false, .unit⟩,
 ⟨.ld 31 2 1 false (.t 30) false, some (29, false), false, .unit⟩,
 ⟨.call (some 32) 49 [(.t 31), (.k (.int .i64 10)), (.k (.int .i64 20000))] false, some (29, false), false, .unit⟩,
 ⟨.un 33 .not (.t 32), some (29, false), false, .unit⟩,
 ⟨.pick 34 (.t 29) (.k (.bool true)) (.t 33), none, false, .unit⟩,
 ⟨.mv 35 (.t 34) false, none, false, .unit⟩,
 ⟨.fad 36 164 6 8 1 (.t 1), some (35, false), false, .unit⟩,
 ⟨.ld 37 162 1 false (.t 36) false, some (35, false), false, .unit⟩,
 ⟨.len 38 false (.t 37), some (35, false), false, .unit⟩,
 ⟨.bin 39 .gtr 3 (.t 38) (.k (.int .i64 6)), some (35, false), false, .unit⟩,
 ⟨.pick 40 (.t 35) (.k (.bool true)) (.t 39), none, false, .unit⟩] false)
(.cond (.t 40) (.seq (.reg [⟨.mv 2 (.k (.bool false)) false, none, false, .unit⟩] false)
(.ret))
(.skip)))
(.seq (.reg [⟨.fad 41 164 6 8 1 (.t 1), none, false, .unit⟩,
 ⟨.ld 42 162 1 false (.t 41) false, none, false, .unit⟩,
 ⟨.mkf 43 151 [(.t 1)], none, false, .unit⟩,
 ⟨.call (some 44) 150 [(.t 42), (.t 43)] false, none, false, .unit⟩,
 ⟨.un 45 .not (.t 44), none, false, .unit⟩,
 ⟨.mv 2 (.t 45) false, none, false, .unit⟩] false)
(.ret)))), [.tmp 2]⟩
theorem M100 : mkF Tryz.prog 100 A100 = some A100 := by kernel_rfl
def A46 : AF :=
⟨1, .seq (.reg [⟨.mv 2 (.k (.bool false)) false, none, false, .unit⟩] false)
(.seq (.seq (.reg [⟨.mv 5 (.t 0) false, none, false, .unit⟩,
 ⟨.len 6 false (.t 5), none, false, .unit⟩,
 ⟨.mv 7 (.k (.int .i64 0)) false, none, false, .unit⟩] false)
(.block 0 (.loop ⟨[.sl 0 (.c (.lst (.pair .str (.pair .str (.pair (.int .i64) (.pair (.pair .str (.pair (.int .i64) (.int .i64))) (.pair (.int .i64) (.pair (.int .i64) (.lst (.pair (.int .i64) (.pair (.int .i64) (.pair (.int .i64) (.int .i64))))))))))))), .sl 5 (.c (.lst (.pair .str (.pair .str (.pair (.int .i64) (.pair (.pair .str (.pair (.int .i64) (.int .i64))) (.pair (.int .i64) (.pair (.int .i64) (.lst (.pair (.int .i64) (.pair (.int .i64) (.pair (.int .i64) (.int .i64))))))))))))), .sl 6 (.c (.int .i64)), .sl 7 (.c (.int .i64))], 0⟩ [((.exit 0), ⟨[.sl 0 (.c (.lst (.pair .str (.pair .str (.pair (.int .i64) (.pair (.pair .str (.pair (.int .i64) (.int .i64))) (.pair (.int .i64) (.pair (.int .i64) (.lst (.pair (.int .i64) (.pair (.int .i64) (.pair (.int .i64) (.int .i64)))))))))))))], 0⟩), (.ret, ⟨[.sl 2 (.c .bool)], 0⟩)] (.seq (.reg [⟨.bin 8 .lss 3 (.t 7) (.t 6), none, false, .unit⟩] false)
(.seq (.cond (.t 8) (.skip)
(.exit 0))
(.seq (.block 1 (.seq (.reg [⟨.mv 9 (.t 7) false, none, false, .unit⟩,
 ⟨.iad 10 45 9 (.t 5) (.t 7), none, false, .unit⟩,
 ⟨.ld 11 164 9 true (.t 10) false, none, false, .unit⟩,
 ⟨.alloc 4 164 [.string ⟨#[]⟩, .string ⟨#[]⟩, .int .i64 0, .string ⟨#[]⟩, .int .i64 0, .int .i64 0, .int .i64 0, .int .i64 0, .slice none 0 0] false, none, false, .unit⟩,
 ⟨.mv 3 (.t 9) false, none, false, .unit⟩,
 ⟨.st 164 9 (.t 4) (.t 11) false, none, false, .unit⟩] false)
(.seq (.reg [⟨.ld 12 164 9 true (.t 4) false, none, false, .unit⟩,
 ⟨.call (some 13) 100 [(.t 12)] false, none, true, .unit⟩,
 ⟨.un 14 .not (.t 13), none, true, .unit⟩,
 ⟨.mv 15 (.t 14) false, none, true, .unit⟩,
 ⟨.mv 16 (.t 3) false, some (15, false), true, .unit⟩,
 ⟨.bin 17 .gtr 3 (.t 16) (.k (.int .i64 0)), some (15, false), true, .unit⟩,
 ⟨.mv 18 (.t 17) false, some (15, false), true, .unit⟩,
 ⟨.mv 19 (.t 0) false, some (18, true), true, .unit⟩,
 ⟨.mv 20 (.t 3) false, some (18, true), true, .unit⟩,
 ⟨.bin 21 .sub 3 (.t 20) (.k (.int .i64 1)), some (18, true), true, .unit⟩,
 ⟨.iad 22 45 9 (.t 19) (.t 21), some (18, true), true, .unit⟩,
 ⟨.fad 23 164 0 0 1 (.t 22), some (18, true), true, .unit⟩,
 ⟨.ld 24 9 1 false (.t 23) false, some (18, true), true, .unit⟩,
 ⟨.fad 25 164 0 0 1 (.t 4), some (18, true), true, .unit⟩,
 ⟨.ld 26 9 1 false (.t 25) false, some (18, true), false, .unit⟩,
 ⟨.bin 27 .geq 9 (.t 24) (.t 26), some (18, true), true, .unit⟩,
 ⟨.pick 28 (.t 18) (.t 27) (.k (.bool false)), some (15, false), true, .unit⟩,
 ⟨.pick 29 (.t 15) (.k (.bool true)) (.t 28), none, true, .unit⟩] true)
(.cond (.t 29) (.seq (.reg [⟨.mv 2 (.k (.bool false)) false, none, false, .unit⟩] false)
(.ret))
(.skip)))))
(.reg [⟨.bin 30 .add 3 (.t 7) (.k (.int .i64 1)), none, false, .unit⟩,
 ⟨.mv 7 (.t 30) false, none, false, .unit⟩] false)))))))
(.seq (.reg [⟨.mv 31 (.t 0) false, none, false, .unit⟩,
 ⟨.len 32 false (.t 31), none, false, .unit⟩,
 ⟨.bin 33 .leq 3 (.t 32) (.k (.int .i64 16)), none, false, .unit⟩,
 ⟨.mv 2 (.t 33) false, none, false, .unit⟩] false)
(.ret))), [.tmp 2]⟩
theorem M46 : mkF Tryz.prog 46 A46 = some A46 := by kernel_rfl
end Go.Proofs.YtnglcmfgkcdgcaaGreat
