/- The abstract interpreter of this work and its uses, part 6: AshCodeRef1. -/
import Derived.Test.YtaojijahpdnjhaaAshP05
set_option linter.all false
/- The code of functions of the given program, printed by a program of this work out of the dump (codes.py): data alone. -/
namespace Go.Ash
set_option maxRecDepth 10000
def l_ashlarref1_From_0 : RCode := (.loop [false, true, true, true, true] (.seq (.seq (.region [⟨.mov, [.v 4], none, none, []⟩,
 ⟨.faddr 1, [.v 1], none, none, []⟩,
 ⟨.load false 1, [.p 0], none, none, []⟩,
 ⟨.len false, [.p 0], none, none, []⟩,
 ⟨.bin .lss, [.p 3, .p 0], none, none, []⟩] false)
(.cond (.p 0) .skip (.exit 0)))
(.seq (.block 1 (.region [⟨.mov, [.v 3], none, none, []⟩,
 ⟨.faddr 1, [.v 1], none, none, []⟩,
 ⟨.load false 1, [.p 0], none, none, []⟩,
 ⟨.mov, [.v 4], none, none, []⟩,
 ⟨.iaddr 1, [.p 1, .p 0], none, none, []⟩,
 ⟨.load false 1, [.p 0], none, none, []⟩,
 ⟨.bin .rem, [.p 0, .c (.int .u32 65536)], none, none, []⟩,
 ⟨.conv .i64, [.p 0], none, none, []⟩,
 ⟨.faddr 1, [.v 1], none, none, []⟩,
 ⟨.load false 1, [.p 0], none, none, []⟩,
 ⟨.mov, [.v 4], none, none, []⟩,
 ⟨.iaddr 1, [.p 1, .p 0], none, none, []⟩,
 ⟨.load false 1, [.p 0], none, none, []⟩,
 ⟨.bin .quo, [.p 0, .c (.int .u32 65536)], none, none, []⟩,
 ⟨.conv .i64, [.p 0], none, none, []⟩,
 ⟨.bslice 1 (.int .i64 0) 2 [0, 1], [.p 7, .p 0], none, none, []⟩,
 ⟨.app 8 1, [.p 15, .p 0], none, none, []⟩,
 ⟨.mov, [.p 0], some 3, none, []⟩] true))
(.region [⟨.mov, [.v 4], none, none, []⟩,
 ⟨.bin .add, [.p 0, .c (.int .i64 1)], none, none, []⟩,
 ⟨.mov, [.p 0], some 4, none, []⟩] false))))
def c_ashlarref1_From : RFunc := ⟨1, [0, 1, 2, 3, 4],
(.seq (.region [⟨.box, [.v 0], some 1, none, []⟩,
 ⟨.alloc (.agg [.bool false, .slc true []]), [], some 2, none, []⟩] false)
(.seq (.region [⟨.mov, [.c (.slc true [])], some 3, none, []⟩] false)
(.seq (.seq (.region [⟨.mov, [.c (.int .i64 0)], some 4, none, []⟩] false)
(.block 0 l_ashlarref1_From_0))
(.seq (.region [⟨.faddr 0, [.v 1], none, none, []⟩,
 ⟨.load false 1, [.p 0], none, none, []⟩,
 ⟨.mov, [.v 3], none, none, []⟩,
 ⟨.call false 71, [.p 1, .p 0], none, none, []⟩,
 ⟨.store 2, [.v 2, .p 0], none, none, []⟩] false)
.ret)))),
[.cell 2 true 2]⟩
def c_ashlarref1_Sign : RFunc := ⟨1, [0, 1, 2],
(.seq (.region [⟨.box, [.v 0], some 1, none, []⟩,
 ⟨.mov, [.c (.int .i64 0)], some 2, none, []⟩] false)
(.seq (.seq (.region [⟨.faddr 1, [.v 1], none, none, []⟩,
 ⟨.load false 1, [.p 0], none, none, []⟩,
 ⟨.len false, [.p 0], none, none, []⟩,
 ⟨.bin .eql, [.p 0, .c (.int .i64 0)], none, none, []⟩] false)
(.cond (.p 0) (.seq (.region [⟨.mov, [.c (.int .i64 0)], some 2, none, []⟩] false)
.ret) .skip))
(.seq (.seq (.region [⟨.faddr 0, [.v 1], none, none, []⟩,
 ⟨.load false 1, [.p 0], none, none, []⟩] false)
(.cond (.p 0) (.seq (.region [⟨.mov, [.c (.int .i64 (-1))], some 2, none, []⟩] false)
.ret) .skip))
(.seq (.region [⟨.mov, [.c (.int .i64 1)], some 2, none, []⟩] false)
.ret)))),
[.v 2]⟩
def c_ashlarref1_Cmp : RFunc := ⟨2, [0, 1, 2, 3, 4, 5, 6],
(.seq (.region [⟨.box, [.v 0], some 2, none, []⟩,
 ⟨.box, [.v 1], some 3, none, []⟩,
 ⟨.mov, [.c (.int .i64 0)], some 4, none, []⟩] false)
(.seq (.region [⟨.load true 2, [.v 2], none, none, []⟩,
 ⟨.call false 25, [.p 0], none, none, []⟩,
 ⟨.mov, [.p 0], some 5, none, []⟩] false)
(.seq (.region [⟨.load true 2, [.v 3], none, none, []⟩,
 ⟨.call false 25, [.p 0], none, none, []⟩,
 ⟨.mov, [.p 0], some 6, none, []⟩] false)
(.seq (.seq (.region [⟨.mov, [.v 5], none, none, []⟩,
 ⟨.mov, [.v 6], none, none, []⟩,
 ⟨.bin .neq, [.p 1, .p 0], none, none, []⟩] false)
(.cond (.p 0) (.seq (.seq (.region [⟨.mov, [.v 5], none, none, []⟩,
 ⟨.mov, [.v 6], none, none, []⟩,
 ⟨.bin .lss, [.p 1, .p 0], none, none, []⟩] false)
(.cond (.p 0) (.seq (.region [⟨.mov, [.c (.int .i64 (-1))], some 4, none, []⟩] false)
.ret) .skip))
(.seq (.region [⟨.mov, [.c (.int .i64 1)], some 4, none, []⟩] false)
.ret)) .skip))
(.seq (.region [⟨.mov, [.v 5], none, none, []⟩,
 ⟨.faddr 1, [.v 2], none, none, []⟩,
 ⟨.load false 1, [.p 0], none, none, []⟩,
 ⟨.faddr 1, [.v 3], none, none, []⟩,
 ⟨.load false 1, [.p 0], none, none, []⟩,
 ⟨.call false 90, [.p 2, .p 0], none, none, []⟩,
 ⟨.bin .mul, [.p 5, .p 0], none, none, []⟩,
 ⟨.mov, [.p 0], some 4, none, []⟩] false)
.ret))))),
[.v 4]⟩
def c_ashlarref1_Add : RFunc := ⟨2, [0, 1, 2, 3, 4],
(.seq (.region [⟨.box, [.v 0], some 2, none, []⟩,
 ⟨.box, [.v 1], some 3, none, []⟩,
 ⟨.alloc (.agg [.bool false, .slc true []]), [], some 4, none, []⟩] false)
(.seq (.seq (.region [⟨.faddr 0, [.v 2], none, none, []⟩,
 ⟨.load false 1, [.p 0], none, none, []⟩,
 ⟨.faddr 0, [.v 3], none, none, []⟩,
 ⟨.load false 1, [.p 0], none, none, []⟩,
 ⟨.beq false, [.p 2, .p 0], none, none, []⟩] false)
(.cond (.p 0) (.seq (.region [⟨.faddr 0, [.v 2], none, none, []⟩,
 ⟨.load false 1, [.p 0], none, none, []⟩,
 ⟨.faddr 1, [.v 2], none, none, []⟩,
 ⟨.load false 1, [.p 0], none, none, []⟩,
 ⟨.faddr 1, [.v 3], none, none, []⟩,
 ⟨.load false 1, [.p 0], none, none, []⟩,
 ⟨.call false 91, [.p 2, .p 0], none, none, []⟩,
 ⟨.call false 71, [.p 5, .p 0], none, none, []⟩,
 ⟨.store 2, [.v 4, .p 0], none, none, []⟩] true)
.ret) .skip))
(.seq (.seq (.region [⟨.faddr 1, [.v 2], none, none, []⟩,
 ⟨.load false 1, [.p 0], none, none, []⟩,
 ⟨.faddr 1, [.v 3], none, none, []⟩,
 ⟨.load false 1, [.p 0], none, none, []⟩,
 ⟨.call false 90, [.p 2, .p 0], none, none, []⟩,
 ⟨.bin .geq, [.p 0, .c (.int .i64 0)], none, none, []⟩] false)
(.cond (.p 0) (.seq (.region [⟨.faddr 0, [.v 2], none, none, []⟩,
 ⟨.load false 1, [.p 0], none, none, []⟩,
 ⟨.faddr 1, [.v 2], none, none, []⟩,
 ⟨.load false 1, [.p 0], none, none, []⟩,
 ⟨.faddr 1, [.v 3], none, none, []⟩,
 ⟨.load false 1, [.p 0], none, none, []⟩,
 ⟨.call false 92, [.p 2, .p 0], none, none, []⟩,
 ⟨.call false 71, [.p 5, .p 0], none, none, []⟩,
 ⟨.store 2, [.v 4, .p 0], none, none, []⟩] true)
.ret) .skip))
(.seq (.region [⟨.faddr 0, [.v 3], none, none, []⟩,
 ⟨.load false 1, [.p 0], none, none, []⟩,
 ⟨.faddr 1, [.v 3], none, none, []⟩,
 ⟨.load false 1, [.p 0], none, none, []⟩,
 ⟨.faddr 1, [.v 2], none, none, []⟩,
 ⟨.load false 1, [.p 0], none, none, []⟩,
 ⟨.call false 92, [.p 2, .p 0], none, none, []⟩,
 ⟨.call false 71, [.p 5, .p 0], none, none, []⟩,
 ⟨.store 2, [.v 4, .p 0], none, none, []⟩] true)
.ret)))),
[.cell 4 true 2]⟩
def l_ashlarref1_Mul_0 : RCode := (.loop [false, false, true, true, true, true, true, true, true] (.seq (.seq (.region [⟨.mov, [.v 8], none, none, []⟩,
 ⟨.faddr 1, [.v 3], none, none, []⟩,
 ⟨.load false 1, [.p 0], none, none, []⟩,
 ⟨.len false, [.p 0], none, none, []⟩,
 ⟨.bin .lss, [.p 3, .p 0], none, none, []⟩] false)
(.cond (.p 0) .skip (.exit 2)))
(.seq (.block 3 (.seq (.region [⟨.mov, [.v 7], none, none, []⟩,
 ⟨.mov, [.v 5], none, none, []⟩,
 ⟨.mov, [.v 6], none, none, []⟩,
 ⟨.mov, [.v 8], none, none, []⟩,
 ⟨.bin .add, [.p 1, .p 0], none, none, []⟩,
 ⟨.iaddr 1, [.p 3, .p 0], none, none, []⟩,
 ⟨.load false 1, [.p 0], none, none, []⟩,
 ⟨.faddr 1, [.v 2], none, none, []⟩,
 ⟨.load false 1, [.p 0], none, none, []⟩,
 ⟨.mov, [.v 6], none, none, []⟩,
 ⟨.iaddr 1, [.p 1, .p 0], none, none, []⟩,
 ⟨.load false 1, [.p 0], none, none, []⟩,
 ⟨.faddr 1, [.v 3], none, none, []⟩,
 ⟨.load false 1, [.p 0], none, none, []⟩,
 ⟨.mov, [.v 8], none, none, []⟩,
 ⟨.iaddr 1, [.p 1, .p 0], none, none, []⟩,
 ⟨.load false 1, [.p 0], none, none, []⟩,
 ⟨.bin .mul, [.p 5, .p 0], none, none, []⟩,
 ⟨.bin .add, [.p 11, .p 0], none, none, []⟩,
 ⟨.bin .add, [.p 18, .p 0], none, none, []⟩,
 ⟨.mov, [.p 0], some 7, none, []⟩] true)
(.seq (.region [⟨.mov, [.v 5], none, none, []⟩,
 ⟨.mov, [.v 6], none, none, []⟩,
 ⟨.mov, [.v 8], none, none, []⟩,
 ⟨.bin .add, [.p 1, .p 0], none, none, []⟩,
 ⟨.mov, [.v 7], none, none, []⟩,
 ⟨.bin .rem, [.p 0, .c (.int .i64 65536)], none, none, []⟩,
 ⟨.iaddr 1, [.p 5, .p 2], none, none, []⟩,
 ⟨.store 1, [.p 0, .p 1], none, none, []⟩] false)
(.region [⟨.mov, [.v 7], none, none, []⟩,
 ⟨.bin .quo, [.p 0, .c (.int .i64 65536)], none, none, []⟩,
 ⟨.mov, [.p 0], some 7, none, []⟩] false))))
(.region [⟨.mov, [.v 8], none, none, []⟩,
 ⟨.bin .add, [.p 0, .c (.int .i64 1)], none, none, []⟩,
 ⟨.mov, [.p 0], some 8, none, []⟩] false))))
def l_ashlarref1_Mul_1 : RCode := (.loop [false, false, true, true, true, true, true, true, false, true] (.seq (.seq (.region [⟨.mov, [.v 7], none, none, []⟩,
 ⟨.bin .gtr, [.p 0, .c (.int .i64 0)], none, none, []⟩] false)
(.cond (.p 0) .skip (.exit 4)))
(.seq (.block 5 (.seq (.region [⟨.mov, [.v 7], none, none, []⟩,
 ⟨.mov, [.v 5], none, none, []⟩,
 ⟨.mov, [.v 9], none, none, []⟩,
 ⟨.iaddr 1, [.p 1, .p 0], none, none, []⟩,
 ⟨.load false 1, [.p 0], none, none, []⟩,
 ⟨.bin .add, [.p 4, .p 0], none, none, []⟩,
 ⟨.mov, [.p 0], some 7, none, []⟩] false)
(.seq (.region [⟨.mov, [.v 5], none, none, []⟩,
 ⟨.mov, [.v 9], none, none, []⟩,
 ⟨.mov, [.v 7], none, none, []⟩,
 ⟨.bin .rem, [.p 0, .c (.int .i64 65536)], none, none, []⟩,
 ⟨.iaddr 1, [.p 3, .p 2], none, none, []⟩,
 ⟨.store 1, [.p 0, .p 1], none, none, []⟩] false)
(.region [⟨.mov, [.v 7], none, none, []⟩,
 ⟨.bin .quo, [.p 0, .c (.int .i64 65536)], none, none, []⟩,
 ⟨.mov, [.p 0], some 7, none, []⟩] false))))
(.region [⟨.mov, [.v 9], none, none, []⟩,
 ⟨.bin .add, [.p 0, .c (.int .i64 1)], none, none, []⟩,
 ⟨.mov, [.p 0], some 9, none, []⟩] false))))
def l_ashlarref1_Mul_2 : RCode := (.loop [false, false, true, true, true, true, true] (.seq (.seq (.region [⟨.mov, [.v 6], none, none, []⟩,
 ⟨.faddr 1, [.v 2], none, none, []⟩,
 ⟨.load false 1, [.p 0], none, none, []⟩,
 ⟨.len false, [.p 0], none, none, []⟩,
 ⟨.bin .lss, [.p 3, .p 0], none, none, []⟩] false)
(.cond (.p 0) .skip (.exit 0)))
(.seq (.block 1 (.seq (.region [⟨.mov, [.c (.int .i64 0)], some 7, none, []⟩] false)
(.seq (.seq (.region [⟨.mov, [.c (.int .i64 0)], some 8, none, []⟩] false)
(.block 2 l_ashlarref1_Mul_0))
(.seq (.region [⟨.mov, [.v 6], none, none, []⟩,
 ⟨.faddr 1, [.v 3], none, none, []⟩,
 ⟨.load false 1, [.p 0], none, none, []⟩,
 ⟨.len false, [.p 0], none, none, []⟩,
 ⟨.bin .add, [.p 3, .p 0], none, none, []⟩,
 ⟨.mov, [.p 0], some 9, none, []⟩] false)
(.block 4 l_ashlarref1_Mul_1)))))
(.region [⟨.mov, [.v 6], none, none, []⟩,
 ⟨.bin .add, [.p 0, .c (.int .i64 1)], none, none, []⟩,
 ⟨.mov, [.p 0], some 6, none, []⟩] false))))
def c_ashlarref1_Mul : RFunc := ⟨2, [0, 1, 2, 3, 4, 5, 6, 7, 8, 9],
(.seq (.region [⟨.box, [.v 0], some 2, none, []⟩,
 ⟨.box, [.v 1], some 3, none, []⟩,
 ⟨.alloc (.agg [.bool false, .slc true []]), [], some 4, none, []⟩] false)
(.seq (.region [⟨.faddr 1, [.v 2], none, none, []⟩,
 ⟨.load false 1, [.p 0], none, none, []⟩,
 ⟨.len false, [.p 0], none, none, []⟩,
 ⟨.faddr 1, [.v 3], none, none, []⟩,
 ⟨.load false 1, [.p 0], none, none, []⟩,
 ⟨.len false, [.p 0], none, none, []⟩,
 ⟨.bin .add, [.p 3, .p 0], none, none, []⟩,
 ⟨.bin .add, [.p 0, .c (.int .i64 1)], none, none, []⟩,
 ⟨.mkslice 1 (.int .i64 0) 8, [.p 0, .p 0], none, none, []⟩,
 ⟨.mov, [.p 0], some 5, none, []⟩] false)
(.seq (.seq (.region [⟨.mov, [.c (.int .i64 0)], some 6, none, []⟩] false)
(.block 0 l_ashlarref1_Mul_2))
(.seq (.region [⟨.faddr 0, [.v 2], none, none, []⟩,
 ⟨.load false 1, [.p 0], none, none, []⟩,
 ⟨.faddr 0, [.v 3], none, none, []⟩,
 ⟨.load false 1, [.p 0], none, none, []⟩,
 ⟨.beq true, [.p 2, .p 0], none, none, []⟩,
 ⟨.mov, [.v 5], none, none, []⟩,
 ⟨.call false 71, [.p 1, .p 0], none, none, []⟩,
 ⟨.store 2, [.v 4, .p 0], none, none, []⟩] false)
.ret)))),
[.cell 4 true 2]⟩
def c_ashlarref1_Is : RFunc := ⟨2, [0, 1, 2, 3, 4],
(.seq (.region [⟨.box, [.v 0], some 2, none, []⟩,
 ⟨.box, [.v 1], some 3, none, []⟩,
 ⟨.mov, [.c (.bool false)], some 4, none, []⟩] false)
(.seq (.region [⟨.load true 2, [.v 2], none, none, []⟩,
 ⟨.load true 2, [.v 3], none, none, []⟩,
 ⟨.call false 93, [.p 0], none, none, []⟩,
 ⟨.call false 44, [.p 2, .p 0], none, none, []⟩,
 ⟨.mov, [.p 0], some 4, none, []⟩] true)
.ret)),
[.v 4]⟩
def c_ashlarref1_Abs : RFunc := ⟨1, [0, 1, 2],
(.seq (.region [⟨.box, [.v 0], some 1, none, []⟩,
 ⟨.alloc (.agg [.bool false, .slc true []]), [], some 2, none, []⟩] false)
(.seq (.region [⟨.faddr 1, [.v 1], none, none, []⟩,
 ⟨.load false 1, [.p 0], none, none, []⟩,
 ⟨.build [.bool false, .slc true []] [(0, 1), (1, 1)], [.c (.bool false), .p 0], none, none, []⟩,
 ⟨.store 2, [.v 2, .p 0], none, none, []⟩] false)
.ret)),
[.cell 2 true 2]⟩
def l_ashlarref1_Of_0 : RCode := (.loop [true, true, true, true] (.seq (.seq (.region [⟨.mov, [.v 0], none, none, []⟩,
 ⟨.bin .neq, [.p 0, .c (.int .i64 0)], none, none, []⟩] false)
(.cond (.p 0) .skip (.exit 0)))
(.block 1 (.seq (.region [⟨.mov, [.v 0], none, none, []⟩,
 ⟨.bin .rem, [.p 0, .c (.int .i64 65536)], none, none, []⟩,
 ⟨.mov, [.p 0], some 4, none, []⟩] false)
(.seq (.region [⟨.mov, [.v 0], none, none, []⟩,
 ⟨.bin .quo, [.p 0, .c (.int .i64 65536)], none, none, []⟩,
 ⟨.mov, [.p 0], some 0, none, []⟩] false)
(.seq (.seq (.region [⟨.mov, [.v 4], none, none, []⟩,
 ⟨.bin .lss, [.p 0, .c (.int .i64 0)], none, none, []⟩] false)
(.cond (.p 0) (.region [⟨.mov, [.v 4], none, none, []⟩,
 ⟨.un .neg, [.p 0], none, none, []⟩,
 ⟨.mov, [.p 0], some 4, none, []⟩] false) .skip))
(.region [⟨.mov, [.v 3], none, none, []⟩,
 ⟨.mov, [.v 4], none, none, []⟩,
 ⟨.bslice 1 (.int .i64 0) 1 [0], [.p 0], none, none, []⟩,
 ⟨.app 8 1, [.p 2, .p 0], none, none, []⟩,
 ⟨.mov, [.p 0], some 3, none, []⟩] false)))))))
def c_ashlarref1_Of : RFunc := ⟨1, [0, 2, 3, 4, 5],
(.seq (.region [⟨.alloc (.agg [.bool false, .slc true []]), [], some 1, none, []⟩] false)
(.seq (.region [⟨.mov, [.v 0], none, none, []⟩,
 ⟨.bin .lss, [.p 0, .c (.int .i64 0)], none, none, []⟩,
 ⟨.mov, [.p 0], some 2, none, []⟩] false)
(.seq (.region [⟨.mov, [.c (.slc true [])], some 3, none, []⟩] false)
(.seq (.block 0 l_ashlarref1_Of_0)
(.seq (.region [⟨.mov, [.v 2], none, none, []⟩,
 ⟨.mov, [.v 3], none, none, []⟩,
 ⟨.call false 71, [.p 1, .p 0], none, none, []⟩,
 ⟨.store 2, [.v 1, .p 0], none, none, []⟩] false)
.ret))))),
[.cell 1 true 2]⟩
def l_ashlarref1_Gcd_0 : RCode := (.loop [false, false, false, false, true, true, true] (.seq (.seq (.region [⟨.load true 2, [.v 6], none, none, []⟩,
 ⟨.call false 25, [.p 0], none, none, []⟩,
 ⟨.bin .neq, [.p 0, .c (.int .i64 0)], none, none, []⟩] false)
(.cond (.p 0) .skip (.exit 0)))
(.block 1 (.seq (.region [⟨.load true 2, [.v 5], none, none, []⟩,
 ⟨.load true 2, [.v 6], none, none, []⟩,
 ⟨.call false 94, [.p 1, .p 0], none, none, []⟩,
 ⟨.mov, [.p 0], none, none, []⟩,
 ⟨.extract 0, [.p 0], none, none, []⟩,
 ⟨.extract 1, [.p 1], none, none, []⟩,
 ⟨.alloc (.agg [.bool false, .slc true []]), [], none, none, []⟩,
 ⟨.alloc (.agg [.bool false, .slc true []]), [], some 7, none, []⟩,
 ⟨.store 2, [.p 1, .p 3], none, none, []⟩,
 ⟨.store 2, [.v 7, .p 3], none, none, []⟩] false)
(.region [⟨.load true 2, [.v 6], none, none, []⟩,
 ⟨.load true 2, [.v 7], none, none, []⟩,
 ⟨.store 2, [.v 5, .p 1], none, none, [.v 7]⟩,
 ⟨.store 2, [.v 6, .p 1], none, none, []⟩] true)))))
def c_ashlarref1_Gcd : RFunc := ⟨2, [0, 1, 2, 3, 4, 5, 6, 8],
(.seq (.region [⟨.box, [.v 0], some 2, none, []⟩,
 ⟨.box, [.v 1], some 3, none, []⟩,
 ⟨.alloc (.agg [.bool false, .slc true []]), [], some 4, none, []⟩] false)
(.seq (.region [⟨.load true 2, [.v 2], none, none, []⟩,
 ⟨.call false 30, [.p 0], none, none, []⟩,
 ⟨.load true 2, [.v 3], none, none, []⟩,
 ⟨.call false 30, [.p 0], none, none, []⟩,
 ⟨.alloc (.agg [.bool false, .slc true []]), [], some 5, none, []⟩,
 ⟨.alloc (.agg [.bool false, .slc true []]), [], some 6, none, []⟩,
 ⟨.store 2, [.v 5, .p 4], none, none, []⟩,
 ⟨.store 2, [.v 6, .p 3], none, none, []⟩] true)
(.seq (.block 0 l_ashlarref1_Gcd_0)
(.seq (.region [⟨.load true 2, [.v 5], none, none, []⟩,
 ⟨.store 2, [.v 4, .p 0], none, none, []⟩] false)
.ret)))),
[.cell 4 true 2]⟩
def l_ashlarref1_Mod_0 : RCode := (.loop [false, true, true, false, true, true] (.seq (.seq (.region [⟨.mov, [.v 5], none, none, []⟩,
 ⟨.bin .geq, [.p 0, .c (.int .i64 0)], none, none, []⟩] false)
(.cond (.p 0) .skip (.exit 0)))
(.seq (.block 1 (.region [⟨.mov, [.v 4], none, none, []⟩,
 ⟨.bin .mul, [.p 0, .c (.int .i64 65536)], none, none, []⟩,
 ⟨.faddr 1, [.v 2], none, none, []⟩,
 ⟨.load false 1, [.p 0], none, none, []⟩,
 ⟨.mov, [.v 5], none, none, []⟩,
 ⟨.iaddr 1, [.p 1, .p 0], none, none, []⟩,
 ⟨.load false 1, [.p 0], none, none, []⟩,
 ⟨.bin .add, [.p 5, .p 0], none, none, []⟩,
 ⟨.mov, [.v 1], none, none, []⟩,
 ⟨.bin .rem, [.p 1, .p 0], none, none, []⟩,
 ⟨.mov, [.p 0], some 4, none, []⟩] false))
(.region [⟨.mov, [.v 5], none, none, []⟩,
 ⟨.bin .sub, [.p 0, .c (.int .i64 1)], none, none, []⟩,
 ⟨.mov, [.p 0], some 5, none, []⟩] false))))
def c_ashlarref1_Mod : RFunc := ⟨2, [0, 1, 2, 4, 5, 6],
(.seq (.region [⟨.box, [.v 0], some 2, none, []⟩,
 ⟨.mov, [.c (.int .i64 0)], some 3, none, []⟩] false)
(.seq (.region [⟨.mov, [.c (.int .i64 0)], some 4, none, []⟩] false)
(.seq (.seq (.region [⟨.faddr 1, [.v 2], none, none, []⟩,
 ⟨.load false 1, [.p 0], none, none, []⟩,
 ⟨.len false, [.p 0], none, none, []⟩,
 ⟨.bin .sub, [.p 0, .c (.int .i64 1)], none, none, []⟩,
 ⟨.mov, [.p 0], some 5, none, []⟩] false)
(.block 0 l_ashlarref1_Mod_0))
(.seq (.seq (.region [⟨.faddr 0, [.v 2], none, none, []⟩,
 ⟨.load false 1, [.p 0], none, none, []⟩,
 ⟨.mov, [.p 0], none, none, []⟩,
 ⟨.mov, [.v 4], none, some (0, true), []⟩,
 ⟨.bin .neq, [.p 0, .c (.int .i64 0)], none, some (1, true), []⟩,
 ⟨.pick, [.p 2, .p 0, .c (.bool false)], none, none, []⟩] false)
(.cond (.p 0) (.region [⟨.mov, [.v 1], none, none, []⟩,
 ⟨.mov, [.v 4], none, none, []⟩,
 ⟨.bin .sub, [.p 1, .p 0], none, none, []⟩,
 ⟨.mov, [.p 0], some 4, none, []⟩] false) .skip))
(.seq (.region [⟨.mov, [.v 4], none, none, []⟩,
 ⟨.mov, [.p 0], some 3, none, []⟩] false)
.ret))))),
[.v 3]⟩
def l_ashlarref1_Eq_0 : RCode := (.loop [false, false, true, true, false, true] (.seq (.seq (.region [⟨.mov, [.v 5], none, none, []⟩,
 ⟨.faddr 1, [.v 2], none, none, []⟩,
 ⟨.load false 1, [.p 0], none, none, []⟩,
 ⟨.len false, [.p 0], none, none, []⟩,
 ⟨.bin .lss, [.p 3, .p 0], none, none, []⟩] false)
(.cond (.p 0) .skip (.exit 0)))
(.seq (.block 1 (.seq (.region [⟨.faddr 1, [.v 2], none, none, []⟩,
 ⟨.load false 1, [.p 0], none, none, []⟩,
 ⟨.mov, [.v 5], none, none, []⟩,
 ⟨.iaddr 1, [.p 1, .p 0], none, none, []⟩,
 ⟨.load false 1, [.p 0], none, none, []⟩,
 ⟨.faddr 1, [.v 3], none, none, []⟩,
 ⟨.load false 1, [.p 0], none, none, []⟩,
 ⟨.mov, [.v 5], none, none, []⟩,
 ⟨.iaddr 1, [.p 1, .p 0], none, none, []⟩,
 ⟨.load false 1, [.p 0], none, none, []⟩,
 ⟨.bin .neq, [.p 5, .p 0], none, none, []⟩] true)
(.cond (.p 0) (.seq (.region [⟨.mov, [.c (.bool false)], some 4, none, []⟩] false)
.ret) .skip)))
(.region [⟨.mov, [.v 5], none, none, []⟩,
 ⟨.bin .add, [.p 0, .c (.int .i64 1)], none, none, []⟩,
 ⟨.mov, [.p 0], some 5, none, []⟩] false))))
def c_ashlarref1_Eq : RFunc := ⟨2, [0, 1, 2, 3, 4, 5],
(.seq (.region [⟨.box, [.v 0], some 2, none, []⟩,
 ⟨.box, [.v 1], some 3, none, []⟩,
 ⟨.mov, [.c (.bool false)], some 4, none, []⟩] false)
(.seq (.seq (.region [⟨.faddr 0, [.v 2], none, none, []⟩,
 ⟨.load false 1, [.p 0], none, none, []⟩,
 ⟨.faddr 0, [.v 3], none, none, []⟩,
 ⟨.load false 1, [.p 0], none, none, []⟩,
 ⟨.beq true, [.p 2, .p 0], none, none, []⟩,
 ⟨.mov, [.p 0], none, none, []⟩,
 ⟨.faddr 1, [.v 2], none, some (0, false), []⟩,
 ⟨.load false 1, [.p 0], none, some (1, false), []⟩,
 ⟨.len false, [.p 0], none, some (2, false), []⟩,
 ⟨.faddr 1, [.v 3], none, some (3, false), []⟩,
 ⟨.load false 1, [.p 0], none, some (4, false), []⟩,
 ⟨.len false, [.p 0], none, some (5, false), []⟩,
 ⟨.bin .neq, [.p 3, .p 0], none, some (6, false), []⟩,
 ⟨.pick, [.p 7, .c (.bool true), .p 0], none, none, []⟩] false)
(.cond (.p 0) (.seq (.region [⟨.mov, [.c (.bool false)], some 4, none, []⟩] false)
.ret) .skip))
(.seq (.seq (.region [⟨.mov, [.c (.int .i64 0)], some 5, none, []⟩] false)
(.block 0 l_ashlarref1_Eq_0))
(.seq (.region [⟨.mov, [.c (.bool true)], some 4, none, []⟩] false)
.ret)))),
[.v 4]⟩
def c_ashlarref1_Sub : RFunc := ⟨2, [0, 1, 2, 3, 4],
(.seq (.region [⟨.box, [.v 0], some 2, none, []⟩,
 ⟨.box, [.v 1], some 3, none, []⟩,
 ⟨.alloc (.agg [.bool false, .slc true []]), [], some 4, none, []⟩] false)
(.seq (.region [⟨.load true 2, [.v 2], none, none, []⟩,
 ⟨.load true 2, [.v 3], none, none, []⟩,
 ⟨.call false 50, [.p 0], none, none, []⟩,
 ⟨.call false 27, [.p 2, .p 0], none, none, []⟩,
 ⟨.store 2, [.v 4, .p 0], none, none, []⟩] true)
.ret)),
[.cell 4 true 2]⟩
def c_ashlarref1_Neg : RFunc := ⟨1, [0, 1, 2],
(.seq (.region [⟨.box, [.v 0], some 1, none, []⟩,
 ⟨.alloc (.agg [.bool false, .slc true []]), [], some 2, none, []⟩] false)
(.seq (.region [⟨.faddr 0, [.v 1], none, none, []⟩,
 ⟨.load false 1, [.p 0], none, none, []⟩,
 ⟨.un .not, [.p 0], none, none, []⟩,
 ⟨.faddr 1, [.v 1], none, none, []⟩,
 ⟨.load false 1, [.p 0], none, none, []⟩,
 ⟨.call false 71, [.p 2, .p 0], none, none, []⟩,
 ⟨.store 2, [.v 2, .p 0], none, none, []⟩] false)
.ret)),
[.cell 2 true 2]⟩
def l_ashlarref1_Bits_0 : RCode := (.loop [false, false, false, true, true, true] (.seq (.seq (.region [⟨.mov, [.v 5], none, none, []⟩,
 ⟨.bin .gtr, [.p 0, .c (.int .i64 0)], none, none, []⟩] false)
(.cond (.p 0) .skip (.exit 0)))
(.seq (.block 1 (.region [⟨.mov, [.v 4], none, none, []⟩,
 ⟨.bin .add, [.p 0, .c (.int .i64 1)], none, none, []⟩,
 ⟨.mov, [.p 0], some 4, none, []⟩] false))
(.region [⟨.mov, [.v 5], none, none, []⟩,
 ⟨.bin .quo, [.p 0, .c (.int .i64 2)], none, none, []⟩,
 ⟨.mov, [.p 0], some 5, none, []⟩] false))))
def c_ashlarref1_Bits : RFunc := ⟨1, [0, 1, 2, 3, 4, 5],
(.seq (.region [⟨.box, [.v 0], some 1, none, []⟩,
 ⟨.mov, [.c (.int .i64 0)], some 2, none, []⟩] false)
(.seq (.region [⟨.faddr 1, [.v 1], none, none, []⟩,
 ⟨.load false 1, [.p 0], none, none, []⟩,
 ⟨.len false, [.p 0], none, none, []⟩,
 ⟨.mov, [.p 0], some 3, none, []⟩] false)
(.seq (.seq (.region [⟨.mov, [.v 3], none, none, []⟩,
 ⟨.bin .eql, [.p 0, .c (.int .i64 0)], none, none, []⟩] false)
(.cond (.p 0) (.seq (.region [⟨.mov, [.c (.int .i64 0)], some 2, none, []⟩] false)
.ret) .skip))
(.seq (.region [⟨.mov, [.c (.int .i64 0)], some 4, none, []⟩] false)
(.seq (.seq (.region [⟨.faddr 1, [.v 1], none, none, []⟩,
 ⟨.load false 1, [.p 0], none, none, []⟩,
 ⟨.mov, [.v 3], none, none, []⟩,
 ⟨.bin .sub, [.p 0, .c (.int .i64 1)], none, none, []⟩,
 ⟨.iaddr 1, [.p 2, .p 0], none, none, []⟩,
 ⟨.load false 1, [.p 0], none, none, []⟩,
 ⟨.mov, [.p 0], some 5, none, []⟩] false)
(.block 0 l_ashlarref1_Bits_0))
(.seq (.region [⟨.mov, [.v 3], none, none, []⟩,
 ⟨.bin .sub, [.p 0, .c (.int .i64 1)], none, none, []⟩,
 ⟨.bin .mul, [.c (.int .i64 16), .p 0], none, none, []⟩,
 ⟨.mov, [.v 4], none, none, []⟩,
 ⟨.bin .add, [.p 1, .p 0], none, none, []⟩,
 ⟨.mov, [.p 0], some 2, none, []⟩] false)
.ret)))))),
[.v 2]⟩
def l_ashlarref1_Read_0 : RCode := (.loop [false, true, false, true, true, true, true, true, true] (.seq (.seq (.region [⟨.mov, [.v 8], none, none, []⟩,
 ⟨.mov, [.v 5], none, none, []⟩,
 ⟨.len false, [.p 0], none, none, []⟩,
 ⟨.bin .lss, [.p 2, .p 0], none, none, []⟩] false)
(.cond (.p 0) .skip (.exit 2)))
(.seq (.block 3 (.seq (.region [⟨.mov, [.v 7], none, none, []⟩,
 ⟨.mov, [.v 5], none, none, []⟩,
 ⟨.mov, [.v 8], none, none, []⟩,
 ⟨.iaddr 1, [.p 1, .p 0], none, none, []⟩,
 ⟨.load false 1, [.p 0], none, none, []⟩,
 ⟨.bin .mul, [.c (.int .i64 10), .p 0], none, none, []⟩,
 ⟨.bin .add, [.p 5, .p 0], none, none, []⟩,
 ⟨.mov, [.p 0], some 7, none, []⟩] false)
(.seq (.region [⟨.mov, [.v 5], none, none, []⟩,
 ⟨.mov, [.v 8], none, none, []⟩,
 ⟨.mov, [.v 7], none, none, []⟩,
 ⟨.bin .rem, [.p 0, .c (.int .i64 65536)], none, none, []⟩,
 ⟨.iaddr 1, [.p 3, .p 2], none, none, []⟩,
 ⟨.store 1, [.p 0, .p 1], none, none, []⟩] false)
(.region [⟨.mov, [.v 7], none, none, []⟩,
 ⟨.bin .quo, [.p 0, .c (.int .i64 65536)], none, none, []⟩,
 ⟨.mov, [.p 0], some 7, none, []⟩] false))))
(.region [⟨.mov, [.v 8], none, none, []⟩,
 ⟨.bin .add, [.p 0, .c (.int .i64 1)], none, none, []⟩,
 ⟨.mov, [.p 0], some 8, none, []⟩] false))))
def l_ashlarref1_Read_1 : RCode := (.loop [false, true, false, true, true, true, true] (.seq (.seq (.region [⟨.mov, [.v 6], none, none, []⟩,
 ⟨.mov, [.v 4], none, none, []⟩,
 ⟨.len true, [.p 0], none, none, []⟩,
 ⟨.bin .lss, [.p 2, .p 0], none, none, []⟩] false)
(.cond (.p 0) .skip (.exit 0)))
(.seq (.block 1 (.seq (.seq (.region [⟨.mov, [.v 4], none, none, []⟩,
 ⟨.mov, [.v 6], none, none, []⟩,
 ⟨.idx, [.p 1, .p 0], none, none, []⟩,
 ⟨.bin .lss, [.p 0, .c (.int .u8 48)], none, none, []⟩,
 ⟨.mov, [.p 0], none, none, []⟩,
 ⟨.mov, [.v 4], none, some (0, false), []⟩,
 ⟨.mov, [.v 6], none, some (1, false), []⟩,
 ⟨.idx, [.p 1, .p 0], none, some (2, false), []⟩,
 ⟨.bin .gtr, [.p 0, .c (.int .u8 57)], none, some (3, false), []⟩,
 ⟨.pick, [.p 4, .c (.bool true), .p 0], none, none, []⟩] false)
(.cond (.p 0) (.seq (.region [⟨.build [.bool false, .slc true []] [], [], none, none, []⟩,
 ⟨.store 2, [.v 1, .p 0], none, none, []⟩,
 ⟨.mov, [.c (.int .i64 8)], some 2, none, []⟩] false)
.ret) .skip))
(.seq (.region [⟨.mov, [.v 4], none, none, []⟩,
 ⟨.mov, [.v 6], none, none, []⟩,
 ⟨.idx, [.p 1, .p 0], none, none, []⟩,
 ⟨.bin .sub, [.p 0, .c (.int .u8 48)], none, none, []⟩,
 ⟨.conv .i64, [.p 0], none, none, []⟩,
 ⟨.mov, [.p 0], some 7, none, []⟩] false)
(.seq (.seq (.region [⟨.mov, [.c (.int .i64 0)], some 8, none, []⟩] false)
(.block 2 l_ashlarref1_Read_0))
(.seq (.region [⟨.mov, [.v 7], none, none, []⟩,
 ⟨.bin .gtr, [.p 0, .c (.int .i64 0)], none, none, []⟩] false)
(.cond (.p 0) (.region [⟨.mov, [.v 5], none, none, []⟩,
 ⟨.mov, [.v 7], none, none, []⟩,
 ⟨.bslice 1 (.int .i64 0) 1 [0], [.p 0], none, none, []⟩,
 ⟨.app 8 1, [.p 2, .p 0], none, none, []⟩,
 ⟨.mov, [.p 0], some 5, none, []⟩] false) .skip))))))
(.region [⟨.mov, [.v 6], none, none, []⟩,
 ⟨.bin .add, [.p 0, .c (.int .i64 1)], none, none, []⟩,
 ⟨.mov, [.p 0], some 6, none, []⟩] false))))
def c_ashlarref1_Read : RFunc := ⟨1, [0, 2, 3, 4, 5, 6, 7, 8, 9],
(.seq (.region [⟨.alloc (.agg [.bool false, .slc true []]), [], some 1, none, []⟩,
 ⟨.mov, [.c (.int .i64 0)], some 2, none, []⟩] false)
(.seq (.seq (.region [⟨.mov, [.v 0], none, none, []⟩,
 ⟨.len true, [.p 0], none, none, []⟩,
 ⟨.bin .gtr, [.p 0, .c (.int .i64 65536)], none, none, []⟩] false)
(.cond (.p 0) (.seq (.region [⟨.build [.bool false, .slc true []] [], [], none, none, []⟩,
 ⟨.store 2, [.v 1, .p 0], none, none, []⟩,
 ⟨.mov, [.c (.int .i64 8)], some 2, none, []⟩] false)
.ret) .skip))
(.seq (.region [⟨.mov, [.v 0], none, none, []⟩,
 ⟨.len true, [.p 0], none, none, []⟩,
 ⟨.bin .gtr, [.p 0, .c (.int .i64 0)], none, none, []⟩,
 ⟨.mov, [.p 0], none, none, []⟩,
 ⟨.mov, [.v 0], none, some (0, true), []⟩,
 ⟨.idx, [.p 0, .c (.int .i64 0)], none, some (1, true), []⟩,
 ⟨.bin .eql, [.p 0, .c (.int .u8 45)], none, some (2, true), []⟩,
 ⟨.pick, [.p 3, .p 0, .c (.bool false)], none, none, []⟩,
 ⟨.mov, [.p 0], some 3, none, []⟩] false)
(.seq (.region [⟨.mov, [.v 0], none, none, []⟩,
 ⟨.mov, [.p 0], some 4, none, []⟩] false)
(.seq (.seq (.region [⟨.mov, [.v 3], none, none, []⟩] false)
(.cond (.p 0) (.region [⟨.mov, [.v 0], none, none, []⟩,
 ⟨.slices true false, [.p 0, .c (.int .i64 1)], none, none, []⟩,
 ⟨.mov, [.p 0], some 4, none, []⟩] false) .skip))
(.seq (.seq (.region [⟨.mov, [.v 4], none, none, []⟩,
 ⟨.len true, [.p 0], none, none, []⟩,
 ⟨.bin .eql, [.p 0, .c (.int .i64 0)], none, none, []⟩,
 ⟨.mov, [.p 0], none, none, []⟩,
 ⟨.mov, [.v 4], none, some (0, false), []⟩,
 ⟨.idx, [.p 0, .c (.int .i64 0)], none, some (1, false), []⟩,
 ⟨.bin .eql, [.p 0, .c (.int .u8 48)], none, some (2, false), []⟩,
 ⟨.mov, [.p 0], none, some (3, false), []⟩,
 ⟨.mov, [.v 4], none, some (0, true), []⟩,
 ⟨.len true, [.p 0], none, some (1, true), []⟩,
 ⟨.bin .gtr, [.p 0, .c (.int .i64 1)], none, some (2, true), []⟩,
 ⟨.mov, [.p 0], none, some (3, true), []⟩,
 ⟨.mov, [.v 3], none, some (0, false), []⟩,
 ⟨.pick, [.p 1, .c (.bool true), .p 0], none, some (5, true), []⟩,
 ⟨.pick, [.p 6, .p 0, .c (.bool false)], none, some (10, false), []⟩,
 ⟨.pick, [.p 11, .c (.bool true), .p 0], none, none, []⟩] false)
(.cond (.p 0) (.seq (.region [⟨.build [.bool false, .slc true []] [], [], none, none, []⟩,
 ⟨.store 2, [.v 1, .p 0], none, none, []⟩,
 ⟨.mov, [.c (.int .i64 8)], some 2, none, []⟩] false)
.ret) .skip))
(.seq (.region [⟨.mov, [.c (.slc true [])], some 5, none, []⟩] false)
(.seq (.seq (.region [⟨.mov, [.c (.int .i64 0)], some 6, none, []⟩] false)
(.block 0 l_ashlarref1_Read_1))
(.seq (.region [⟨.mov, [.v 3], none, none, []⟩,
 ⟨.mov, [.v 5], none, none, []⟩,
 ⟨.call false 71, [.p 1, .p 0], none, none, []⟩,
 ⟨.store 2, [.v 1, .p 0], none, none, []⟩,
 ⟨.mov, [.c (.int .i64 0)], some 2, none, []⟩] false)
.ret))))))))),
[.cell 1 true 2, .v 2]⟩
def l_ashlarref1_Text_0 : RCode := (.loop [false, true, false, true, true] (.seq (.seq (.region [⟨.mov, [.v 4], none, none, []⟩,
 ⟨.len false, [.p 0], none, none, []⟩,
 ⟨.bin .gtr, [.p 0, .c (.int .i64 0)], none, none, []⟩] false)
(.cond (.p 0) .skip (.exit 0)))
(.block 1 (.seq (.region [⟨.mov, [.v 4], none, none, []⟩,
 ⟨.call false 101, [.p 0, .c (.int .i64 10)], none, none, []⟩,
 ⟨.mov, [.p 0], none, none, []⟩,
 ⟨.extract 0, [.p 0], none, none, []⟩,
 ⟨.extract 1, [.p 1], none, none, []⟩,
 ⟨.mov, [.p 1], some 5, none, []⟩,
 ⟨.mov, [.p 1], some 6, none, []⟩] false)
(.seq (.region [⟨.mov, [.v 3], none, none, []⟩,
 ⟨.mov, [.v 6], none, none, []⟩,
 ⟨.bin .add, [.c (.int .i64 48), .p 0], none, none, []⟩,
 ⟨.conv .u8, [.p 0], none, none, []⟩,
 ⟨.bslice 1 (.int .u8 0) 1 [0], [.p 0], none, none, []⟩,
 ⟨.app 1 1, [.p 4, .p 0], none, none, []⟩,
 ⟨.mov, [.p 0], some 3, none, []⟩] false)
(.region [⟨.mov, [.v 5], none, none, []⟩,
 ⟨.call false 71, [.c (.bool false), .p 0], none, none, []⟩,
 ⟨.fld false 1 1, [.p 0], none, none, []⟩,
 ⟨.mov, [.p 0], some 4, none, []⟩] false))))))
def l_ashlarref1_Text_1 : RCode := (.loop [false, false, false, true, false, false, false, true] (.seq (.seq (.region [⟨.mov, [.v 7], none, none, []⟩,
 ⟨.mov, [.v 3], none, none, []⟩,
 ⟨.len false, [.p 0], none, none, []⟩,
 ⟨.bin .quo, [.p 0, .c (.int .i64 2)], none, none, []⟩,
 ⟨.bin .lss, [.p 3, .p 0], none, none, []⟩] false)
(.cond (.p 0) .skip (.exit 2)))
(.seq (.block 3 (.seq (.region [⟨.mov, [.v 3], none, none, []⟩,
 ⟨.mov, [.v 7], none, none, []⟩,
 ⟨.iaddr 1, [.p 1, .p 0], none, none, []⟩,
 ⟨.load false 1, [.p 0], none, none, []⟩,
 ⟨.mov, [.v 3], none, none, []⟩,
 ⟨.mov, [.v 3], none, none, []⟩,
 ⟨.len false, [.p 0], none, none, []⟩,
 ⟨.bin .sub, [.p 0, .c (.int .i64 1)], none, none, []⟩,
 ⟨.mov, [.v 7], none, none, []⟩,
 ⟨.bin .sub, [.p 1, .p 0], none, none, []⟩,
 ⟨.iaddr 1, [.p 5, .p 0], none, none, []⟩,
 ⟨.load false 1, [.p 0], none, none, []⟩,
 ⟨.mov, [.p 8], some 8, none, []⟩,
 ⟨.mov, [.p 1], some 9, none, []⟩] true)
(.seq (.region [⟨.mov, [.v 3], none, none, []⟩,
 ⟨.mov, [.v 7], none, none, []⟩,
 ⟨.mov, [.v 9], none, none, []⟩,
 ⟨.iaddr 1, [.p 2, .p 1], none, none, []⟩,
 ⟨.store 1, [.p 0, .p 1], none, none, []⟩] false)
(.region [⟨.mov, [.v 3], none, none, []⟩,
 ⟨.mov, [.v 3], none, none, []⟩,
 ⟨.len false, [.p 0], none, none, []⟩,
 ⟨.bin .sub, [.p 0, .c (.int .i64 1)], none, none, []⟩,
 ⟨.mov, [.v 7], none, none, []⟩,
 ⟨.bin .sub, [.p 1, .p 0], none, none, []⟩,
 ⟨.mov, [.v 8], none, none, []⟩,
 ⟨.iaddr 1, [.p 6, .p 1], none, none, []⟩,
 ⟨.store 1, [.p 0, .p 1], none, none, []⟩] false))))
(.region [⟨.mov, [.v 7], none, none, []⟩,
 ⟨.bin .add, [.p 0, .c (.int .i64 1)], none, none, []⟩,
 ⟨.mov, [.p 0], some 7, none, []⟩] false))))
def c_ashlarref1_Text : RFunc := ⟨1, [0, 1, 2, 3, 4, 5, 6, 7, 8, 9],
(.seq (.region [⟨.box, [.v 0], some 1, none, []⟩,
 ⟨.mov, [.c (.str ByteArray.empty)], some 2, none, []⟩] false)
(.seq (.seq (.region [⟨.faddr 1, [.v 1], none, none, []⟩,
 ⟨.load false 1, [.p 0], none, none, []⟩,
 ⟨.len false, [.p 0], none, none, []⟩,
 ⟨.bin .eql, [.p 0, .c (.int .i64 0)], none, none, []⟩] false)
(.cond (.p 0) (.seq (.region [⟨.mov, [.c (.str ⟨#[48]⟩)], some 2, none, []⟩] false)
.ret) .skip))
(.seq (.region [⟨.mov, [.c (.slc true [])], some 3, none, []⟩] false)
(.seq (.region [⟨.faddr 1, [.v 1], none, none, []⟩,
 ⟨.load false 1, [.p 0], none, none, []⟩,
 ⟨.mov, [.p 0], some 4, none, []⟩] false)
(.seq (.block 0 l_ashlarref1_Text_0)
(.seq (.seq (.region [⟨.faddr 0, [.v 1], none, none, []⟩,
 ⟨.load false 1, [.p 0], none, none, []⟩] false)
(.cond (.p 0) (.region [⟨.mov, [.v 3], none, none, []⟩,
 ⟨.bslice 1 (.int .u8 0) 1 [0], [.c (.int .u8 45)], none, none, []⟩,
 ⟨.app 1 1, [.p 1, .p 0], none, none, []⟩,
 ⟨.mov, [.p 0], some 3, none, []⟩] false) .skip))
(.seq (.seq (.region [⟨.mov, [.c (.int .i64 0)], some 7, none, []⟩] false)
(.block 2 l_ashlarref1_Text_1))
(.seq (.region [⟨.mov, [.v 3], none, none, []⟩,
 ⟨.bytesToStr, [.p 0], none, none, []⟩,
 ⟨.mov, [.p 0], some 2, none, []⟩] false)
.ret)))))))),
[.v 2]⟩
def l_ashlarref1_Power_0 : RCode := (.loop [false, true, true, true, true, true] (.seq (.seq (.region [⟨.mov, [.v 5], none, none, []⟩,
 ⟨.mov, [.v 1], none, none, []⟩,
 ⟨.bin .lss, [.p 1, .p 0], none, none, []⟩] false)
(.cond (.p 0) .skip (.exit 0)))
(.seq (.block 1 (.region [⟨.load true 2, [.v 4], none, none, []⟩,
 ⟨.load true 2, [.v 2], none, none, []⟩,
 ⟨.call false 26, [.p 1, .p 0], none, none, []⟩,
 ⟨.store 2, [.v 4, .p 0], none, none, []⟩] false))
(.region [⟨.mov, [.v 5], none, none, []⟩,
 ⟨.bin .add, [.p 0, .c (.int .i64 1)], none, none, []⟩,
 ⟨.mov, [.p 0], some 5, none, []⟩] false))))
def c_ashlarref1_Power : RFunc := ⟨2, [0, 1, 2, 4, 5, 6],
(.seq (.region [⟨.box, [.v 0], some 2, none, []⟩,
 ⟨.alloc (.agg [.bool false, .slc true []]), [], some 3, none, []⟩] false)
(.seq (.region [⟨.call false 34, [.c (.int .i64 1)], none, none, []⟩,
 ⟨.alloc (.agg [.bool false, .slc true []]), [], some 4, none, []⟩,
 ⟨.store 2, [.v 4, .p 1], none, none, []⟩] false)
(.seq (.seq (.region [⟨.mov, [.c (.int .i64 0)], some 5, none, []⟩] false)
(.block 0 l_ashlarref1_Power_0))
(.seq (.region [⟨.load true 2, [.v 4], none, none, []⟩,
 ⟨.store 2, [.v 3, .p 0], none, none, []⟩] false)
.ret)))),
[.cell 3 true 2]⟩
def l_ashlarref1_trim_0 : RCode := (.loop [true, true, true, true] (.seq (.seq (.region [⟨.mov, [.v 3], none, none, []⟩,
 ⟨.bin .gtr, [.p 0, .c (.int .i64 0)], none, none, []⟩,
 ⟨.mov, [.p 0], none, none, []⟩,
 ⟨.mov, [.v 1], none, some (0, true), []⟩,
 ⟨.mov, [.v 3], none, some (1, true), []⟩,
 ⟨.bin .sub, [.p 0, .c (.int .i64 1)], none, some (2, true), []⟩,
 ⟨.iaddr 1, [.p 2, .p 0], none, some (3, true), []⟩,
 ⟨.load false 1, [.p 0], none, some (4, true), []⟩,
 ⟨.bin .eql, [.p 0, .c (.int .i64 0)], none, some (5, true), []⟩,
 ⟨.pick, [.p 6, .p 0, .c (.bool false)], none, none, []⟩] false)
(.cond (.p 0) .skip (.exit 0)))
(.block 1 (.region [⟨.mov, [.v 3], none, none, []⟩,
 ⟨.bin .sub, [.p 0, .c (.int .i64 1)], none, none, []⟩,
 ⟨.mov, [.p 0], some 3, none, []⟩] false))))
def c_ashlarref1_trim : RFunc := ⟨2, [0, 1, 4, 5],
(.seq (.region [⟨.alloc (.agg [.bool false, .slc true []]), [], some 2, none, []⟩] false)
(.seq (.region [⟨.mov, [.v 1], none, none, []⟩,
 ⟨.len false, [.p 0], none, none, []⟩,
 ⟨.mov, [.p 0], some 3, none, []⟩] false)
(.seq (.block 0 l_ashlarref1_trim_0)
(.seq (.region [⟨.mov, [.v 0], none, none, []⟩,
 ⟨.mov, [.p 0], none, none, []⟩,
 ⟨.mov, [.v 3], none, some (0, true), []⟩,
 ⟨.bin .gtr, [.p 0, .c (.int .i64 0)], none, some (1, true), []⟩,
 ⟨.pick, [.p 2, .p 0, .c (.bool false)], none, none, []⟩,
 ⟨.mov, [.v 1], none, none, []⟩,
 ⟨.mov, [.v 3], none, none, []⟩,
 ⟨.mov, [.v 3], none, none, []⟩,
 ⟨.slice 1 false true true, [.p 2, .p 1, .p 0], none, none, []⟩,
 ⟨.build [.bool false, .slc true []] [(0, 1), (1, 1)], [.p 4, .p 0], none, none, []⟩,
 ⟨.store 2, [.v 2, .p 0], none, none, []⟩] false)
.ret)))),
[.cell 2 true 2]⟩
def l_ashlarref1_cmp_0 : RCode := (.loop [true, true, false, true] (.seq (.seq (.region [⟨.mov, [.v 3], none, none, []⟩,
 ⟨.bin .geq, [.p 0, .c (.int .i64 0)], none, none, []⟩] false)
(.cond (.p 0) .skip (.exit 0)))
(.seq (.block 1 (.seq (.seq (.region [⟨.mov, [.v 0], none, none, []⟩,
 ⟨.mov, [.v 3], none, none, []⟩,
 ⟨.iaddr 1, [.p 1, .p 0], none, none, []⟩,
 ⟨.load false 1, [.p 0], none, none, []⟩,
 ⟨.mov, [.v 1], none, none, []⟩,
 ⟨.mov, [.v 3], none, none, []⟩,
 ⟨.iaddr 1, [.p 1, .p 0], none, none, []⟩,
 ⟨.load false 1, [.p 0], none, none, []⟩,
 ⟨.bin .lss, [.p 4, .p 0], none, none, []⟩] true)
(.cond (.p 0) (.seq (.region [⟨.mov, [.c (.int .i64 (-1))], some 2, none, []⟩] false)
.ret) .skip))
(.seq (.region [⟨.mov, [.v 0], none, none, []⟩,
 ⟨.mov, [.v 3], none, none, []⟩,
 ⟨.iaddr 1, [.p 1, .p 0], none, none, []⟩,
 ⟨.load false 1, [.p 0], none, none, []⟩,
 ⟨.mov, [.v 1], none, none, []⟩,
 ⟨.mov, [.v 3], none, none, []⟩,
 ⟨.iaddr 1, [.p 1, .p 0], none, none, []⟩,
 ⟨.load false 1, [.p 0], none, none, []⟩,
 ⟨.bin .gtr, [.p 4, .p 0], none, none, []⟩] true)
(.cond (.p 0) (.seq (.region [⟨.mov, [.c (.int .i64 1)], some 2, none, []⟩] false)
.ret) .skip))))
(.region [⟨.mov, [.v 3], none, none, []⟩,
 ⟨.bin .sub, [.p 0, .c (.int .i64 1)], none, none, []⟩,
 ⟨.mov, [.p 0], some 3, none, []⟩] false))))
def c_ashlarref1_cmp : RFunc := ⟨2, [0, 1, 4, 5],
(.seq (.region [⟨.mov, [.c (.int .i64 0)], some 2, none, []⟩] false)
(.seq (.seq (.region [⟨.mov, [.v 0], none, none, []⟩,
 ⟨.len false, [.p 0], none, none, []⟩,
 ⟨.mov, [.v 1], none, none, []⟩,
 ⟨.len false, [.p 0], none, none, []⟩,
 ⟨.bin .neq, [.p 2, .p 0], none, none, []⟩] false)
(.cond (.p 0) (.seq (.seq (.region [⟨.mov, [.v 0], none, none, []⟩,
 ⟨.len false, [.p 0], none, none, []⟩,
 ⟨.mov, [.v 1], none, none, []⟩,
 ⟨.len false, [.p 0], none, none, []⟩,
 ⟨.bin .lss, [.p 2, .p 0], none, none, []⟩] false)
(.cond (.p 0) (.seq (.region [⟨.mov, [.c (.int .i64 (-1))], some 2, none, []⟩] false)
.ret) .skip))
(.seq (.region [⟨.mov, [.c (.int .i64 1)], some 2, none, []⟩] false)
.ret)) .skip))
(.seq (.seq (.region [⟨.mov, [.v 0], none, none, []⟩,
 ⟨.len false, [.p 0], none, none, []⟩,
 ⟨.bin .sub, [.p 0, .c (.int .i64 1)], none, none, []⟩,
 ⟨.mov, [.p 0], some 3, none, []⟩] false)
(.block 0 l_ashlarref1_cmp_0))
(.seq (.region [⟨.mov, [.c (.int .i64 0)], some 2, none, []⟩] false)
.ret)))),
[.v 2]⟩
def l_ashlarref1_add_0 : RCode := (.loop [true, true, false, true, true, true] (.seq (.seq (.region [⟨.mov, [.v 5], none, none, []⟩,
 ⟨.mov, [.v 0], none, none, []⟩,
 ⟨.len false, [.p 0], none, none, []⟩,
 ⟨.bin .lss, [.p 2, .p 0], none, none, []⟩,
 ⟨.mov, [.p 0], none, none, []⟩,
 ⟨.mov, [.v 5], none, some (0, false), []⟩,
 ⟨.mov, [.v 1], none, some (1, false), []⟩,
 ⟨.len false, [.p 0], none, some (2, false), []⟩,
 ⟨.bin .lss, [.p 2, .p 0], none, some (3, false), []⟩,
 ⟨.pick, [.p 4, .c (.bool true), .p 0], none, none, []⟩,
 ⟨.mov, [.p 0], none, none, []⟩,
 ⟨.mov, [.v 4], none, some (0, false), []⟩,
 ⟨.bin .gtr, [.p 0, .c (.int .i64 0)], none, some (1, false), []⟩,
 ⟨.pick, [.p 2, .c (.bool true), .p 0], none, none, []⟩] false)
(.cond (.p 0) .skip (.exit 0)))
(.seq (.block 1 (.seq (.seq (.region [⟨.mov, [.v 5], none, none, []⟩,
 ⟨.mov, [.v 0], none, none, []⟩,
 ⟨.len false, [.p 0], none, none, []⟩,
 ⟨.bin .lss, [.p 2, .p 0], none, none, []⟩] false)
(.cond (.p 0) (.region [⟨.mov, [.v 4], none, none, []⟩,
 ⟨.mov, [.v 0], none, none, []⟩,
 ⟨.mov, [.v 5], none, none, []⟩,
 ⟨.iaddr 1, [.p 1, .p 0], none, none, []⟩,
 ⟨.load false 1, [.p 0], none, none, []⟩,
 ⟨.bin .add, [.p 4, .p 0], none, none, []⟩,
 ⟨.mov, [.p 0], some 4, none, []⟩] false) .skip))
(.seq (.seq (.region [⟨.mov, [.v 5], none, none, []⟩,
 ⟨.mov, [.v 1], none, none, []⟩,
 ⟨.len false, [.p 0], none, none, []⟩,
 ⟨.bin .lss, [.p 2, .p 0], none, none, []⟩] false)
(.cond (.p 0) (.region [⟨.mov, [.v 4], none, none, []⟩,
 ⟨.mov, [.v 1], none, none, []⟩,
 ⟨.mov, [.v 5], none, none, []⟩,
 ⟨.iaddr 1, [.p 1, .p 0], none, none, []⟩,
 ⟨.load false 1, [.p 0], none, none, []⟩,
 ⟨.bin .add, [.p 4, .p 0], none, none, []⟩,
 ⟨.mov, [.p 0], some 4, none, []⟩] false) .skip))
(.seq (.region [⟨.mov, [.v 3], none, none, []⟩,
 ⟨.mov, [.v 4], none, none, []⟩,
 ⟨.bin .rem, [.p 0, .c (.int .i64 65536)], none, none, []⟩,
 ⟨.bslice 1 (.int .i64 0) 1 [0], [.p 0], none, none, []⟩,
 ⟨.app 8 1, [.p 3, .p 0], none, none, []⟩,
 ⟨.mov, [.p 0], some 3, none, []⟩] false)
(.region [⟨.mov, [.v 4], none, none, []⟩,
 ⟨.bin .quo, [.p 0, .c (.int .i64 65536)], none, none, []⟩,
 ⟨.mov, [.p 0], some 4, none, []⟩] false)))))
(.region [⟨.mov, [.v 5], none, none, []⟩,
 ⟨.bin .add, [.p 0, .c (.int .i64 1)], none, none, []⟩,
 ⟨.mov, [.p 0], some 5, none, []⟩] false))))
def c_ashlarref1_add : RFunc := ⟨2, [0, 1, 4, 5, 6, 7],
(.seq (.region [⟨.mov, [.c (.slc true [])], some 2, none, []⟩] false)
(.seq (.region [⟨.mov, [.c (.slc true [])], some 3, none, []⟩] false)
(.seq (.region [⟨.mov, [.c (.int .i64 0)], some 4, none, []⟩] false)
(.seq (.seq (.region [⟨.mov, [.c (.int .i64 0)], some 5, none, []⟩] false)
(.block 0 l_ashlarref1_add_0))
(.seq (.region [⟨.mov, [.v 3], none, none, []⟩,
 ⟨.mov, [.p 0], some 2, none, []⟩] false)
.ret))))),
[.v 2]⟩
def l_ashlarref1_sub_0 : RCode := (.loop [true, true, false, true, true, true] (.seq (.seq (.region [⟨.mov, [.v 5], none, none, []⟩,
 ⟨.mov, [.v 0], none, none, []⟩,
 ⟨.len false, [.p 0], none, none, []⟩,
 ⟨.bin .lss, [.p 2, .p 0], none, none, []⟩] false)
(.cond (.p 0) .skip (.exit 0)))
(.seq (.block 1 (.seq (.region [⟨.mov, [.v 0], none, none, []⟩,
 ⟨.mov, [.v 5], none, none, []⟩,
 ⟨.iaddr 1, [.p 1, .p 0], none, none, []⟩,
 ⟨.load false 1, [.p 0], none, none, []⟩,
 ⟨.mov, [.v 4], none, none, []⟩,
 ⟨.bin .sub, [.p 1, .p 0], none, none, []⟩,
 ⟨.mov, [.p 0], some 6, none, []⟩] false)
(.seq (.region [⟨.mov, [.c (.int .i64 0)], some 4, none, []⟩] false)
(.seq (.seq (.region [⟨.mov, [.v 5], none, none, []⟩,
 ⟨.mov, [.v 1], none, none, []⟩,
 ⟨.len false, [.p 0], none, none, []⟩,
 ⟨.bin .lss, [.p 2, .p 0], none, none, []⟩] false)
(.cond (.p 0) (.region [⟨.mov, [.v 6], none, none, []⟩,
 ⟨.mov, [.v 1], none, none, []⟩,
 ⟨.mov, [.v 5], none, none, []⟩,
 ⟨.iaddr 1, [.p 1, .p 0], none, none, []⟩,
 ⟨.load false 1, [.p 0], none, none, []⟩,
 ⟨.bin .sub, [.p 4, .p 0], none, none, []⟩,
 ⟨.mov, [.p 0], some 6, none, []⟩] false) .skip))
(.seq (.seq (.region [⟨.mov, [.v 6], none, none, []⟩,
 ⟨.bin .lss, [.p 0, .c (.int .i64 0)], none, none, []⟩] false)
(.cond (.p 0) (.seq (.region [⟨.mov, [.v 6], none, none, []⟩,
 ⟨.bin .add, [.p 0, .c (.int .i64 65536)], none, none, []⟩,
 ⟨.mov, [.p 0], some 6, none, []⟩] false)
(.region [⟨.mov, [.c (.int .i64 1)], some 4, none, []⟩] false)) .skip))
(.region [⟨.mov, [.v 3], none, none, []⟩,
 ⟨.mov, [.v 6], none, none, []⟩,
 ⟨.bslice 1 (.int .i64 0) 1 [0], [.p 0], none, none, []⟩,
 ⟨.app 8 1, [.p 2, .p 0], none, none, []⟩,
 ⟨.mov, [.p 0], some 3, none, []⟩] false))))))
(.region [⟨.mov, [.v 5], none, none, []⟩,
 ⟨.bin .add, [.p 0, .c (.int .i64 1)], none, none, []⟩,
 ⟨.mov, [.p 0], some 5, none, []⟩] false))))
def c_ashlarref1_sub : RFunc := ⟨2, [0, 1, 4, 5, 6, 7, 8],
(.seq (.region [⟨.mov, [.c (.slc true [])], some 2, none, []⟩] false)
(.seq (.region [⟨.mov, [.c (.slc true [])], some 3, none, []⟩] false)
(.seq (.region [⟨.mov, [.c (.int .i64 0)], some 4, none, []⟩] false)
(.seq (.seq (.region [⟨.mov, [.c (.int .i64 0)], some 5, none, []⟩] false)
(.block 0 l_ashlarref1_sub_0))
(.seq (.region [⟨.mov, [.v 3], none, none, []⟩,
 ⟨.mov, [.p 0], some 2, none, []⟩] false)
.ret))))),
[.v 2]⟩
def l_ashlarref1_To_0 : RCode := (.loop [false, true, true, true, true] (.seq (.seq (.region [⟨.mov, [.v 4], none, none, []⟩,
 ⟨.faddr 1, [.v 1], none, none, []⟩,
 ⟨.load false 1, [.p 0], none, none, []⟩,
 ⟨.len false, [.p 0], none, none, []⟩,
 ⟨.bin .lss, [.p 3, .p 0], none, none, []⟩] false)
(.cond (.p 0) .skip (.exit 0)))
(.seq (.block 1 (.seq (.region [⟨.faddr 1, [.v 1], none, none, []⟩,
 ⟨.load false 1, [.p 0], none, none, []⟩,
 ⟨.mov, [.v 4], none, none, []⟩,
 ⟨.iaddr 1, [.p 1, .p 0], none, none, []⟩,
 ⟨.load false 1, [.p 0], none, none, []⟩,
 ⟨.conv .u32, [.p 0], none, none, []⟩,
 ⟨.mov, [.p 0], some 5, none, []⟩] false)
(.seq (.seq (.region [⟨.mov, [.v 4], none, none, []⟩,
 ⟨.bin .add, [.p 0, .c (.int .i64 1)], none, none, []⟩,
 ⟨.faddr 1, [.v 1], none, none, []⟩,
 ⟨.load false 1, [.p 0], none, none, []⟩,
 ⟨.len false, [.p 0], none, none, []⟩,
 ⟨.bin .lss, [.p 3, .p 0], none, none, []⟩] false)
(.cond (.p 0) (.region [⟨.mov, [.v 5], none, none, []⟩,
 ⟨.faddr 1, [.v 1], none, none, []⟩,
 ⟨.load false 1, [.p 0], none, none, []⟩,
 ⟨.mov, [.v 4], none, none, []⟩,
 ⟨.bin .add, [.p 0, .c (.int .i64 1)], none, none, []⟩,
 ⟨.iaddr 1, [.p 2, .p 0], none, none, []⟩,
 ⟨.load false 1, [.p 0], none, none, []⟩,
 ⟨.conv .u32, [.p 0], none, none, []⟩,
 ⟨.bin .mul, [.p 0, .c (.int .u32 65536)], none, none, []⟩,
 ⟨.bin .add, [.p 8, .p 0], none, none, []⟩,
 ⟨.mov, [.p 0], some 5, none, []⟩] false) .skip))
(.region [⟨.mov, [.v 3], none, none, []⟩,
 ⟨.mov, [.v 5], none, none, []⟩,
 ⟨.bslice 1 (.int .u32 0) 1 [0], [.p 0], none, none, []⟩,
 ⟨.app 4 1, [.p 2, .p 0], none, none, []⟩,
 ⟨.mov, [.p 0], some 3, none, []⟩] false))))
(.region [⟨.mov, [.v 4], none, none, []⟩,
 ⟨.bin .add, [.p 0, .c (.int .i64 2)], none, none, []⟩,
 ⟨.mov, [.p 0], some 4, none, []⟩] false))))
def c_ashlarref1_To : RFunc := ⟨1, [0, 1, 2, 3, 4, 5],
(.seq (.region [⟨.box, [.v 0], some 1, none, []⟩,
 ⟨.alloc (.agg [.bool false, .slc true []]), [], some 2, none, []⟩] false)
(.seq (.region [⟨.mov, [.c (.slc true [])], some 3, none, []⟩] false)
(.seq (.seq (.region [⟨.mov, [.c (.int .i64 0)], some 4, none, []⟩] false)
(.block 0 l_ashlarref1_To_0))
(.seq (.region [⟨.faddr 0, [.v 1], none, none, []⟩,
 ⟨.load false 1, [.p 0], none, none, []⟩,
 ⟨.mov, [.v 3], none, none, []⟩,
 ⟨.build [.bool false, .slc true []] [(0, 1), (1, 1)], [.p 1, .p 0], none, none, []⟩,
 ⟨.store 2, [.v 2, .p 0], none, none, []⟩] false)
.ret)))),
[.cell 2 true 2]⟩
def c_ashlarref1_Quo : RFunc := ⟨2, [0, 1, 2, 3, 4, 5, 6, 7, 8, 9],
(.seq (.region [⟨.box, [.v 0], some 2, none, []⟩,
 ⟨.box, [.v 1], some 3, none, []⟩,
 ⟨.alloc (.agg [.bool false, .slc true []]), [], some 4, none, []⟩,
 ⟨.alloc (.agg [.bool false, .slc true []]), [], some 5, none, []⟩] false)
(.seq (.region [⟨.faddr 1, [.v 2], none, none, []⟩,
 ⟨.load false 1, [.p 0], none, none, []⟩,
 ⟨.faddr 1, [.v 3], none, none, []⟩,
 ⟨.load false 1, [.p 0], none, none, []⟩,
 ⟨.call false 114, [.p 2, .p 0], none, none, []⟩,
 ⟨.mov, [.p 0], none, none, []⟩,
 ⟨.extract 0, [.p 0], none, none, []⟩,
 ⟨.extract 1, [.p 1], none, none, []⟩,
 ⟨.mov, [.p 1], some 6, none, []⟩,
 ⟨.mov, [.p 1], some 7, none, []⟩] false)
(.seq (.region [⟨.faddr 0, [.v 2], none, none, []⟩,
 ⟨.load false 1, [.p 0], none, none, []⟩,
 ⟨.faddr 0, [.v 3], none, none, []⟩,
 ⟨.load false 1, [.p 0], none, none, []⟩,
 ⟨.beq true, [.p 2, .p 0], none, none, []⟩,
 ⟨.mov, [.v 6], none, none, []⟩,
 ⟨.call false 71, [.p 1, .p 0], none, none, []⟩,
 ⟨.alloc (.agg [.bool false, .slc true []]), [], some 8, none, []⟩,
 ⟨.store 2, [.v 8, .p 1], none, none, []⟩] false)
(.seq (.region [⟨.faddr 0, [.v 2], none, none, []⟩,
 ⟨.load false 1, [.p 0], none, none, []⟩,
 ⟨.mov, [.v 7], none, none, []⟩,
 ⟨.call false 71, [.p 1, .p 0], none, none, []⟩,
 ⟨.alloc (.agg [.bool false, .slc true []]), [], some 9, none, []⟩,
 ⟨.store 2, [.v 9, .p 1], none, none, []⟩] false)
(.seq (.seq (.region [⟨.faddr 0, [.v 9], none, none, []⟩,
 ⟨.load false 1, [.p 0], none, none, []⟩] false)
(.cond (.p 0) (.seq (.seq (.region [⟨.faddr 0, [.v 3], none, none, []⟩,
 ⟨.load false 1, [.p 0], none, none, []⟩] false)
(.cond (.p 0) (.seq (.region [⟨.load true 2, [.v 8], none, none, []⟩,
 ⟨.call false 34, [.c (.int .i64 1)], none, none, []⟩,
 ⟨.call false 27, [.p 1, .p 0], none, none, []⟩,
 ⟨.load true 2, [.v 9], none, none, []⟩,
 ⟨.load true 2, [.v 3], none, none, []⟩,
 ⟨.call false 48, [.p 1, .p 0], none, none, []⟩,
 ⟨.store 2, [.v 4, .p 3], none, none, []⟩,
 ⟨.store 2, [.v 5, .p 1], none, none, []⟩] true)
.ret) .skip))
(.seq (.region [⟨.load true 2, [.v 8], none, none, []⟩,
 ⟨.call false 34, [.c (.int .i64 1)], none, none, []⟩,
 ⟨.call false 48, [.p 1, .p 0], none, none, []⟩,
 ⟨.load true 2, [.v 9], none, none, []⟩,
 ⟨.load true 2, [.v 3], none, none, []⟩,
 ⟨.call false 27, [.p 1, .p 0], none, none, []⟩,
 ⟨.store 2, [.v 4, .p 3], none, none, []⟩,
 ⟨.store 2, [.v 5, .p 1], none, none, []⟩] true)
.ret)) .skip))
(.seq (.region [⟨.load true 2, [.v 8], none, none, []⟩,
 ⟨.load true 2, [.v 9], none, none, []⟩,
 ⟨.store 2, [.v 4, .p 1], none, none, [.v 9]⟩,
 ⟨.store 2, [.v 5, .p 1], none, none, []⟩] true)
.ret)))))),
[.cell 4 true 2, .cell 5 true 2]⟩
def l_ashlarref1_small_0 : RCode := (.loop [true, true, false, false, true, true, true] (.seq (.seq (.region [⟨.mov, [.v 6], none, none, []⟩,
 ⟨.bin .geq, [.p 0, .c (.int .i64 0)], none, none, []⟩] false)
(.cond (.p 0) .skip (.exit 0)))
(.seq (.block 1 (.seq (.region [⟨.mov, [.v 5], none, none, []⟩,
 ⟨.bin .mul, [.p 0, .c (.int .i64 65536)], none, none, []⟩,
 ⟨.mov, [.v 0], none, none, []⟩,
 ⟨.mov, [.v 6], none, none, []⟩,
 ⟨.iaddr 1, [.p 1, .p 0], none, none, []⟩,
 ⟨.load false 1, [.p 0], none, none, []⟩,
 ⟨.bin .add, [.p 4, .p 0], none, none, []⟩,
 ⟨.mov, [.p 0], some 5, none, []⟩] false)
(.seq (.region [⟨.mov, [.v 4], none, none, []⟩,
 ⟨.mov, [.v 6], none, none, []⟩,
 ⟨.mov, [.v 5], none, none, []⟩,
 ⟨.mov, [.v 1], none, none, []⟩,
 ⟨.bin .quo, [.p 1, .p 0], none, none, []⟩,
 ⟨.iaddr 1, [.p 4, .p 3], none, none, []⟩,
 ⟨.store 1, [.p 0, .p 1], none, none, []⟩] false)
(.region [⟨.mov, [.v 5], none, none, []⟩,
 ⟨.mov, [.v 1], none, none, []⟩,
 ⟨.bin .rem, [.p 1, .p 0], none, none, []⟩,
 ⟨.mov, [.p 0], some 5, none, []⟩] false))))
(.region [⟨.mov, [.v 6], none, none, []⟩,
 ⟨.bin .sub, [.p 0, .c (.int .i64 1)], none, none, []⟩,
 ⟨.mov, [.p 0], some 6, none, []⟩] false))))
def c_ashlarref1_small : RFunc := ⟨2, [0, 1, 4, 5, 6, 7, 8],
(.seq (.region [⟨.mov, [.c (.slc true [])], some 2, none, []⟩,
 ⟨.mov, [.c (.int .i64 0)], some 3, none, []⟩] false)
(.seq (.region [⟨.mov, [.v 0], none, none, []⟩,
 ⟨.len false, [.p 0], none, none, []⟩,
 ⟨.mkslice 1 (.int .i64 0) 8, [.p 0, .p 0], none, none, []⟩,
 ⟨.mov, [.p 0], some 4, none, []⟩] false)
(.seq (.region [⟨.mov, [.c (.int .i64 0)], some 5, none, []⟩] false)
(.seq (.seq (.region [⟨.mov, [.v 0], none, none, []⟩,
 ⟨.len false, [.p 0], none, none, []⟩,
 ⟨.bin .sub, [.p 0, .c (.int .i64 1)], none, none, []⟩,
 ⟨.mov, [.p 0], some 6, none, []⟩] false)
(.block 0 l_ashlarref1_small_0))
(.seq (.region [⟨.mov, [.v 4], none, none, []⟩,
 ⟨.mov, [.v 5], none, none, []⟩,
 ⟨.mov, [.p 1], some 2, none, []⟩,
 ⟨.mov, [.p 1], some 3, none, []⟩] false)
.ret))))),
[.v 2, .v 3]⟩
def l_ashlarref1_divide_0 : RCode := (.loop [false, false, false, false, false, false, true, true, true, true, true, true, false, true, true, true, true, true] (.seq (.seq (.region [⟨.mov, [.v 17], none, none, []⟩,
 ⟨.mov, [.v 9], none, none, []⟩,
 ⟨.bin .leq, [.p 1, .p 0], none, none, []⟩] false)
(.cond (.p 0) .skip (.exit 4)))
(.seq (.block 5 (.seq (.seq (.region [⟨.mov, [.v 17], none, none, []⟩,
 ⟨.mov, [.v 9], none, none, []⟩,
 ⟨.bin .lss, [.p 1, .p 0], none, none, []⟩] false)
(.cond (.p 0) (.region [⟨.mov, [.v 14], none, none, []⟩,
 ⟨.mov, [.v 8], none, none, []⟩,
 ⟨.mov, [.v 17], none, none, []⟩,
 ⟨.iaddr 1, [.p 1, .p 0], none, none, []⟩,
 ⟨.load false 1, [.p 0], none, none, []⟩,
 ⟨.mov, [.v 13], none, none, []⟩,
 ⟨.bin .mul, [.p 1, .p 0], none, none, []⟩,
 ⟨.bin .add, [.p 6, .p 0], none, none, []⟩,
 ⟨.mov, [.p 0], some 14, none, []⟩] false) .skip))
(.seq (.region [⟨.mov, [.v 7], none, none, []⟩,
 ⟨.mov, [.v 11], none, none, []⟩,
 ⟨.mov, [.v 17], none, none, []⟩,
 ⟨.bin .add, [.p 1, .p 0], none, none, []⟩,
 ⟨.iaddr 1, [.p 3, .p 0], none, none, []⟩,
 ⟨.load false 1, [.p 0], none, none, []⟩,
 ⟨.mov, [.v 14], none, none, []⟩,
 ⟨.bin .rem, [.p 0, .c (.int .i64 65536)], none, none, []⟩,
 ⟨.bin .sub, [.p 2, .p 0], none, none, []⟩,
 ⟨.mov, [.v 15], none, none, []⟩,
 ⟨.bin .sub, [.p 1, .p 0], none, none, []⟩,
 ⟨.mov, [.p 0], some 18, none, []⟩] false)
(.seq (.region [⟨.mov, [.v 14], none, none, []⟩,
 ⟨.bin .quo, [.p 0, .c (.int .i64 65536)], none, none, []⟩,
 ⟨.mov, [.p 0], some 14, none, []⟩] false)
(.seq (.region [⟨.mov, [.c (.int .i64 0)], some 15, none, []⟩] false)
(.seq (.seq (.region [⟨.mov, [.v 18], none, none, []⟩,
 ⟨.bin .lss, [.p 0, .c (.int .i64 0)], none, none, []⟩] false)
(.cond (.p 0) (.seq (.region [⟨.mov, [.v 18], none, none, []⟩,
 ⟨.bin .add, [.p 0, .c (.int .i64 65536)], none, none, []⟩,
 ⟨.mov, [.p 0], some 18, none, []⟩] false)
(.region [⟨.mov, [.c (.int .i64 1)], some 15, none, []⟩] false)) .skip))
(.region [⟨.mov, [.v 16], none, none, []⟩,
 ⟨.mov, [.v 17], none, none, []⟩,
 ⟨.mov, [.v 18], none, none, []⟩,
 ⟨.iaddr 1, [.p 2, .p 1], none, none, []⟩,
 ⟨.store 1, [.p 0, .p 1], none, none, []⟩] false)))))))
(.region [⟨.mov, [.v 17], none, none, []⟩,
 ⟨.bin .add, [.p 0, .c (.int .i64 1)], none, none, []⟩,
 ⟨.mov, [.p 0], some 17, none, []⟩] false))))
def l_ashlarref1_divide_1 : RCode := (.loop [false, false, false, false, false, false, true, true, true, true, true, true, false, true, false, false, true, false, false, true] (.seq (.seq (.region [⟨.mov, [.v 19], none, none, []⟩,
 ⟨.mov, [.v 9], none, none, []⟩,
 ⟨.bin .leq, [.p 1, .p 0], none, none, []⟩] false)
(.cond (.p 0) .skip (.exit 6)))
(.seq (.block 7 (.region [⟨.mov, [.v 7], none, none, []⟩,
 ⟨.mov, [.v 11], none, none, []⟩,
 ⟨.mov, [.v 19], none, none, []⟩,
 ⟨.bin .add, [.p 1, .p 0], none, none, []⟩,
 ⟨.mov, [.v 16], none, none, []⟩,
 ⟨.mov, [.v 19], none, none, []⟩,
 ⟨.iaddr 1, [.p 1, .p 0], none, none, []⟩,
 ⟨.load false 1, [.p 0], none, none, []⟩,
 ⟨.iaddr 1, [.p 7, .p 4], none, none, []⟩,
 ⟨.store 1, [.p 0, .p 1], none, none, []⟩] false))
(.region [⟨.mov, [.v 19], none, none, []⟩,
 ⟨.bin .add, [.p 0, .c (.int .i64 1)], none, none, []⟩,
 ⟨.mov, [.p 0], some 19, none, []⟩] false))))
def l_ashlarref1_divide_2 : RCode := (.loop [false, false, false, false, false, false, true, true, true, true, true, true, false, true] (.block 3 (.seq (.region [⟨.mov, [.c (.int .i64 0)], some 14, none, []⟩] false)
(.seq (.region [⟨.mov, [.c (.int .i64 0)], some 15, none, []⟩] false)
(.seq (.region [⟨.mov, [.v 9], none, none, []⟩,
 ⟨.bin .add, [.p 0, .c (.int .i64 1)], none, none, []⟩,
 ⟨.mkslice 1 (.int .i64 0) 8, [.p 0, .p 0], none, none, []⟩,
 ⟨.mov, [.p 0], some 16, none, []⟩] false)
(.seq (.seq (.region [⟨.mov, [.c (.int .i64 0)], some 17, none, []⟩] false)
(.block 4 l_ashlarref1_divide_0))
(.seq (.seq (.region [⟨.mov, [.v 15], none, none, []⟩,
 ⟨.bin .eql, [.p 0, .c (.int .i64 0)], none, none, []⟩] false)
(.cond (.p 0) (.seq (.seq (.region [⟨.mov, [.c (.int .i64 0)], some 19, none, []⟩] false)
(.block 6 l_ashlarref1_divide_1))
(.exit 2)) .skip))
(.region [⟨.mov, [.v 13], none, none, []⟩,
 ⟨.bin .sub, [.p 0, .c (.int .i64 1)], none, none, []⟩,
 ⟨.mov, [.p 0], some 13, none, []⟩] false))))))))
def l_ashlarref1_divide_3 : RCode := (.loop [false, false, false, false, false, false, true, true, true, true, true, true] (.seq (.seq (.region [⟨.mov, [.v 11], none, none, []⟩,
 ⟨.bin .geq, [.p 0, .c (.int .i64 0)], none, none, []⟩] false)
(.cond (.p 0) .skip (.exit 0)))
(.seq (.block 1 (.seq (.region [⟨.mov, [.v 7], none, none, []⟩,
 ⟨.mov, [.v 11], none, none, []⟩,
 ⟨.mov, [.v 9], none, none, []⟩,
 ⟨.bin .add, [.p 1, .p 0], none, none, []⟩,
 ⟨.iaddr 1, [.p 3, .p 0], none, none, []⟩,
 ⟨.load false 1, [.p 0], none, none, []⟩,
 ⟨.bin .mul, [.p 0, .c (.int .i64 65536)], none, none, []⟩,
 ⟨.mov, [.v 7], none, none, []⟩,
 ⟨.mov, [.v 11], none, none, []⟩,
 ⟨.mov, [.v 9], none, none, []⟩,
 ⟨.bin .add, [.p 1, .p 0], none, none, []⟩,
 ⟨.bin .sub, [.p 0, .c (.int .i64 1)], none, none, []⟩,
 ⟨.iaddr 1, [.p 4, .p 0], none, none, []⟩,
 ⟨.load false 1, [.p 0], none, none, []⟩,
 ⟨.bin .add, [.p 7, .p 0], none, none, []⟩,
 ⟨.mov, [.p 0], some 12, none, []⟩] true)
(.seq (.region [⟨.mov, [.v 12], none, none, []⟩,
 ⟨.mov, [.v 8], none, none, []⟩,
 ⟨.mov, [.v 9], none, none, []⟩,
 ⟨.bin .sub, [.p 0, .c (.int .i64 1)], none, none, []⟩,
 ⟨.iaddr 1, [.p 2, .p 0], none, none, []⟩,
 ⟨.load false 1, [.p 0], none, none, []⟩,
 ⟨.bin .quo, [.p 5, .p 0], none, none, []⟩,
 ⟨.mov, [.p 0], some 13, none, []⟩] false)
(.seq (.seq (.region [⟨.mov, [.v 13], none, none, []⟩,
 ⟨.bin .geq, [.p 0, .c (.int .i64 65536)], none, none, []⟩] false)
(.cond (.p 0) (.region [⟨.mov, [.c (.int .i64 65535)], some 13, none, []⟩] false) .skip))
(.seq (.block 2 l_ashlarref1_divide_2)
(.region [⟨.mov, [.v 10], none, none, []⟩,
 ⟨.mov, [.v 11], none, none, []⟩,
 ⟨.mov, [.v 13], none, none, []⟩,
 ⟨.iaddr 1, [.p 2, .p 1], none, none, []⟩,
 ⟨.store 1, [.p 0, .p 1], none, none, []⟩] false))))))
(.region [⟨.mov, [.v 11], none, none, []⟩,
 ⟨.bin .sub, [.p 0, .c (.int .i64 1)], none, none, []⟩,
 ⟨.mov, [.p 0], some 11, none, []⟩] false))))
def c_ashlarref1_divide : RFunc := ⟨2, [0, 1, 4, 5, 6, 7, 8, 9, 10, 11, 12, 13, 14, 15, 16, 17, 18, 19, 20, 21, 22],
(.seq (.region [⟨.mov, [.c (.slc true [])], some 2, none, []⟩,
 ⟨.mov, [.c (.slc true [])], some 3, none, []⟩] false)
(.seq (.seq (.region [⟨.mov, [.v 0], none, none, []⟩,
 ⟨.mov, [.v 1], none, none, []⟩,
 ⟨.call false 90, [.p 1, .p 0], none, none, []⟩,
 ⟨.bin .lss, [.p 0, .c (.int .i64 0)], none, none, []⟩] false)
(.cond (.p 0) (.seq (.region [⟨.mov, [.v 0], none, none, []⟩,
 ⟨.mov, [.c (.slc true [])], some 2, none, []⟩,
 ⟨.mov, [.p 1], some 3, none, []⟩] false)
.ret) .skip))
(.seq (.seq (.region [⟨.mov, [.v 1], none, none, []⟩,
 ⟨.len false, [.p 0], none, none, []⟩,
 ⟨.bin .eql, [.p 0, .c (.int .i64 1)], none, none, []⟩] false)
(.cond (.p 0) (.seq (.region [⟨.mov, [.v 0], none, none, []⟩,
 ⟨.mov, [.v 1], none, none, []⟩,
 ⟨.iaddr 1, [.p 0, .c (.int .i64 0)], none, none, []⟩,
 ⟨.load false 1, [.p 0], none, none, []⟩,
 ⟨.call false 101, [.p 3, .p 0], none, none, []⟩,
 ⟨.mov, [.p 0], none, none, []⟩,
 ⟨.extract 0, [.p 0], none, none, []⟩,
 ⟨.extract 1, [.p 1], none, none, []⟩,
 ⟨.mov, [.p 1], some 4, none, []⟩,
 ⟨.mov, [.p 1], some 5, none, []⟩] false)
(.seq (.region [⟨.mov, [.v 4], none, none, []⟩,
 ⟨.mov, [.v 5], none, none, []⟩,
 ⟨.bslice 1 (.int .i64 0) 1 [0], [.p 0], none, none, []⟩,
 ⟨.mov, [.p 2], some 2, none, []⟩,
 ⟨.mov, [.p 1], some 3, none, []⟩] false)
.ret)) .skip))
(.seq (.region [⟨.mov, [.v 1], none, none, []⟩,
 ⟨.mov, [.v 1], none, none, []⟩,
 ⟨.len false, [.p 0], none, none, []⟩,
 ⟨.bin .sub, [.p 0, .c (.int .i64 1)], none, none, []⟩,
 ⟨.iaddr 1, [.p 3, .p 0], none, none, []⟩,
 ⟨.load false 1, [.p 0], none, none, []⟩,
 ⟨.bin .add, [.p 0, .c (.int .i64 1)], none, none, []⟩,
 ⟨.bin .quo, [.c (.int .i64 65536), .p 0], none, none, []⟩,
 ⟨.mov, [.p 0], some 6, none, []⟩] false)
(.seq (.region [⟨.mov, [.v 0], none, none, []⟩,
 ⟨.mov, [.v 6], none, none, []⟩,
 ⟨.call true 120, [.p 1, .p 0], none, none, []⟩,
 ⟨.mov, [.p 0], some 7, none, []⟩] false)
(.seq (.region [⟨.mov, [.v 1], none, none, []⟩,
 ⟨.mov, [.v 6], none, none, []⟩,
 ⟨.call true 120, [.p 1, .p 0], none, none, []⟩,
 ⟨.call false 71, [.c (.bool false), .p 0], none, none, []⟩,
 ⟨.fld false 1 1, [.p 0], none, none, []⟩,
 ⟨.mov, [.p 0], some 8, none, []⟩] false)
(.seq (.region [⟨.mov, [.v 8], none, none, []⟩,
 ⟨.len false, [.p 0], none, none, []⟩,
 ⟨.mov, [.p 0], some 9, none, []⟩] false)
(.seq (.region [⟨.mov, [.v 7], none, none, []⟩,
 ⟨.len false, [.p 0], none, none, []⟩,
 ⟨.mov, [.v 9], none, none, []⟩,
 ⟨.bin .sub, [.p 1, .p 0], none, none, []⟩,
 ⟨.mkslice 1 (.int .i64 0) 8, [.p 0, .p 0], none, none, []⟩,
 ⟨.mov, [.p 0], some 10, none, []⟩] false)
(.seq (.seq (.region [⟨.mov, [.v 7], none, none, []⟩,
 ⟨.len false, [.p 0], none, none, []⟩,
 ⟨.mov, [.v 9], none, none, []⟩,
 ⟨.bin .sub, [.p 1, .p 0], none, none, []⟩,
 ⟨.bin .sub, [.p 0, .c (.int .i64 1)], none, none, []⟩,
 ⟨.mov, [.p 0], some 11, none, []⟩] false)
(.block 0 l_ashlarref1_divide_3))
(.seq (.region [⟨.mov, [.v 7], none, none, []⟩,
 ⟨.call false 71, [.c (.bool false), .p 0], none, none, []⟩,
 ⟨.fld false 1 1, [.p 0], none, none, []⟩,
 ⟨.mov, [.v 6], none, none, []⟩,
 ⟨.call false 101, [.p 1, .p 0], none, none, []⟩,
 ⟨.mov, [.p 0], none, none, []⟩,
 ⟨.extract 0, [.p 0], none, none, []⟩,
 ⟨.extract 1, [.p 1], none, none, []⟩,
 ⟨.mov, [.p 1], some 20, none, []⟩,
 ⟨.mov, [.p 1], none, none, []⟩] false)
(.seq (.region [⟨.mov, [.v 10], none, none, []⟩,
 ⟨.mov, [.v 20], none, none, []⟩,
 ⟨.mov, [.p 1], some 2, none, []⟩,
 ⟨.mov, [.p 1], some 3, none, []⟩] false)
.ret))))))))))),
[.v 2, .v 3]⟩
def l_ashlarref1_times_0 : RCode := (.loop [true, true, false, true, true, true] (.seq (.seq (.region [⟨.mov, [.v 5], none, none, []⟩,
 ⟨.mov, [.v 0], none, none, []⟩,
 ⟨.len false, [.p 0], none, none, []⟩,
 ⟨.bin .lss, [.p 2, .p 0], none, none, []⟩] false)
(.cond (.p 0) .skip (.exit 0)))
(.seq (.block 1 (.seq (.region [⟨.mov, [.v 4], none, none, []⟩,
 ⟨.mov, [.v 0], none, none, []⟩,
 ⟨.mov, [.v 5], none, none, []⟩,
 ⟨.iaddr 1, [.p 1, .p 0], none, none, []⟩,
 ⟨.load false 1, [.p 0], none, none, []⟩,
 ⟨.mov, [.v 1], none, none, []⟩,
 ⟨.bin .mul, [.p 1, .p 0], none, none, []⟩,
 ⟨.bin .add, [.p 6, .p 0], none, none, []⟩,
 ⟨.mov, [.p 0], some 4, none, []⟩] false)
(.seq (.region [⟨.mov, [.v 3], none, none, []⟩,
 ⟨.mov, [.v 5], none, none, []⟩,
 ⟨.mov, [.v 4], none, none, []⟩,
 ⟨.bin .rem, [.p 0, .c (.int .i64 65536)], none, none, []⟩,
 ⟨.iaddr 1, [.p 3, .p 2], none, none, []⟩,
 ⟨.store 1, [.p 0, .p 1], none, none, []⟩] false)
(.region [⟨.mov, [.v 4], none, none, []⟩,
 ⟨.bin .quo, [.p 0, .c (.int .i64 65536)], none, none, []⟩,
 ⟨.mov, [.p 0], some 4, none, []⟩] false))))
(.region [⟨.mov, [.v 5], none, none, []⟩,
 ⟨.bin .add, [.p 0, .c (.int .i64 1)], none, none, []⟩,
 ⟨.mov, [.p 0], some 5, none, []⟩] false))))
def c_ashlarref1_times : RFunc := ⟨2, [0, 1, 4, 5, 6, 7],
(.seq (.region [⟨.mov, [.c (.slc true [])], some 2, none, []⟩] false)
(.seq (.region [⟨.mov, [.v 0], none, none, []⟩,
 ⟨.len false, [.p 0], none, none, []⟩,
 ⟨.bin .add, [.p 0, .c (.int .i64 1)], none, none, []⟩,
 ⟨.mkslice 1 (.int .i64 0) 8, [.p 0, .p 0], none, none, []⟩,
 ⟨.mov, [.p 0], some 3, none, []⟩] false)
(.seq (.region [⟨.mov, [.c (.int .i64 0)], some 4, none, []⟩] false)
(.seq (.seq (.region [⟨.mov, [.c (.int .i64 0)], some 5, none, []⟩] false)
(.block 0 l_ashlarref1_times_0))
(.seq (.region [⟨.mov, [.v 3], none, none, []⟩,
 ⟨.mov, [.v 0], none, none, []⟩,
 ⟨.len false, [.p 0], none, none, []⟩,
 ⟨.mov, [.v 4], none, none, []⟩,
 ⟨.iaddr 1, [.p 3, .p 1], none, none, []⟩,
 ⟨.store 1, [.p 0, .p 1], none, none, []⟩] false)
(.seq (.region [⟨.mov, [.v 3], none, none, []⟩,
 ⟨.mov, [.p 0], some 2, none, []⟩] false)
.ret)))))),
[.v 2]⟩
class CodeRef1 (F : Nat → Option RFunc) : Prop where
  ashlarref1_From : F 10 = some c_ashlarref1_From
  ashlarref1_Sign : F 25 = some c_ashlarref1_Sign
  ashlarref1_Cmp : F 28 = some c_ashlarref1_Cmp
  ashlarref1_Add : F 27 = some c_ashlarref1_Add
  ashlarref1_Mul : F 26 = some c_ashlarref1_Mul
  ashlarref1_Is : F 29 = some c_ashlarref1_Is
  ashlarref1_Abs : F 30 = some c_ashlarref1_Abs
  ashlarref1_Of : F 34 = some c_ashlarref1_Of
  ashlarref1_Gcd : F 37 = some c_ashlarref1_Gcd
  ashlarref1_Mod : F 41 = some c_ashlarref1_Mod
  ashlarref1_Eq : F 44 = some c_ashlarref1_Eq
  ashlarref1_Sub : F 48 = some c_ashlarref1_Sub
  ashlarref1_Neg : F 50 = some c_ashlarref1_Neg
  ashlarref1_Bits : F 54 = some c_ashlarref1_Bits
  ashlarref1_Read : F 58 = some c_ashlarref1_Read
  ashlarref1_Text : F 59 = some c_ashlarref1_Text
  ashlarref1_Power : F 62 = some c_ashlarref1_Power
  ashlarref1_trim : F 71 = some c_ashlarref1_trim
  ashlarref1_cmp : F 90 = some c_ashlarref1_cmp
  ashlarref1_add : F 91 = some c_ashlarref1_add
  ashlarref1_sub : F 92 = some c_ashlarref1_sub
  ashlarref1_To : F 93 = some c_ashlarref1_To
  ashlarref1_Quo : F 94 = some c_ashlarref1_Quo
  ashlarref1_small : F 101 = some c_ashlarref1_small
  ashlarref1_divide : F 114 = some c_ashlarref1_divide
  ashlarref1_times : F 120 = some c_ashlarref1_times
def tabCodeRef1 : List (Nat × RFunc) := [(10, c_ashlarref1_From), (25, c_ashlarref1_Sign), (28, c_ashlarref1_Cmp), (27, c_ashlarref1_Add), (26, c_ashlarref1_Mul), (29, c_ashlarref1_Is), (30, c_ashlarref1_Abs), (34, c_ashlarref1_Of), (37, c_ashlarref1_Gcd), (41, c_ashlarref1_Mod), (44, c_ashlarref1_Eq), (48, c_ashlarref1_Sub), (50, c_ashlarref1_Neg), (54, c_ashlarref1_Bits), (58, c_ashlarref1_Read), (59, c_ashlarref1_Text), (62, c_ashlarref1_Power), (71, c_ashlarref1_trim), (90, c_ashlarref1_cmp), (91, c_ashlarref1_add), (92, c_ashlarref1_sub), (93, c_ashlarref1_To), (94, c_ashlarref1_Quo), (101, c_ashlarref1_small), (114, c_ashlarref1_divide), (120, c_ashlarref1_times)]
end Go.Ash
