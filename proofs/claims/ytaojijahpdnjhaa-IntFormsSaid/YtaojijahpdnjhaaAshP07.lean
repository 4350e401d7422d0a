/- The abstract interpreter of this work and its uses, part 7: AshCodeRef1, AshRef1a, AshRef1b, AshShift, AshLimbs10. -/
import Derived.Test.YtaojijahpdnjhaaAshP06
set_option linter.all false
/- The code of functions of the given program, printed by a program of this work out of the dump (codes.py): data alone. -/
namespace Go.Ash
set_option maxRecDepth 10000
def l_ashlarref1_From_0 : RCode := (.loop [false, true, true, true, true] (.seq (.seq (.region [⟨.mov, [.v 4], none, none, []⟩,
 ⟨.faddr 1, [.v 1], none, none, []⟩,
 ⟨.load false 1, [.p 0], none, none, []⟩,
 ⟨.len false, [.p 0], none, none, []⟩,
 ⟨.bin .lss, [.p 3, .p 0], none, none, []⟩] false)
(.cond (.p 0) .skip (.exit 0)))
(.seq (.block 1 (.region [⟨.mov, [.v 3], none, none, []⟩,
 ⟨.faddr 1, [.v 1], none, none, []⟩,
 ⟨.load false 1, [.p 0], none, none, []⟩,
 ⟨.mov, [.v 4], none, none, []⟩,
 ⟨.iaddr 1, [.p 1, .p 0], none, none, []⟩,
 ⟨.load false 1, [.p 0], none, none, []⟩,
 ⟨.bin .rem, [.p 0, .c (.int .u32 65536)], none, none, []⟩,
 ⟨.conv .i64, [.p 0], none, none, []⟩,
 ⟨.faddr 1, [.v 1], none, none, []⟩,
 ⟨.load false 1, [.p 0], none, none, []⟩,
 ⟨.mov, [.v 4], none, none, []⟩,
 ⟨.iaddr 1, [.p 1, .p 0], none, none, []⟩,
 ⟨.load false 1, [.p 0], none, none, []⟩,
 ⟨.bin .quo, [.p 0, .c (.int .u32 65536)], none, none, []⟩,
 ⟨.conv .i64, [.p 0], none, none, []⟩,
 ⟨.bslice 1 (.int .i64 0) 2 [0, 1], [.p 7, .p 0], none, none, []⟩,
 ⟨.app 8 1, [.p 15, .p 0], none, none, []⟩,
 ⟨.mov, [.p 0], some 3, none, []⟩] true))
(.region [⟨.mov, [.v 4], none, none, []⟩,
 ⟨.bin .add, [.p 0, .c (.int .i64 1)], none, none, []⟩,
 ⟨.mov, [.p 0], some 4, none, []⟩] false))))
def c_ashlarref1_From : RFunc := ⟨1, [0, 1, 2, 3, 4],
(.seq (.region [⟨.box, [.v 0], some 1, none, []⟩,
 ⟨.alloc (.agg [.bool false, .slc true []]), [], some 2, none, []⟩] false)
(.seq (.region [⟨.mov, [.c (.slc true [])], some 3, none, []⟩] false)
(.seq (.seq (.region [⟨.mov, [.c (.int .i64 0)], some 4, none, []⟩] false)
(.block 0 l_ashlarref1_From_0))
(.seq (.region [⟨.faddr 0, [.v 1], none, none, []⟩,
 ⟨.load false 1, [.p 0], none, none, []⟩,
 ⟨.mov, [.v 3], none, none, []⟩,
 ⟨.call false 71, [.p 1, .p 0], none, none, []⟩,
 ⟨.store 2, [.v 2, .p 0], none, none, []⟩] false)
.ret)))),
[.cell 2 true 2]⟩
def c_ashlarref1_Sign : RFunc := ⟨1, [0, 1, 2],
(.seq (.region [⟨.box, [.v 0], some 1, none, []⟩,
 ⟨.mov, [.c (.int .i64 0)], some 2, none, []⟩] false)
(.seq (.seq (.region [⟨.faddr 1, [.v 1], none, none, []⟩,
 ⟨.load false 1, [.p 0], none, none, []⟩,
 ⟨.len false, [.p 0], none, none, []⟩,
 ⟨.bin .eql, [.p 0, .c (.int .i64 0)], none, none, []⟩] false)
(.cond (.p 0) (.seq (.region [⟨.mov, [.c (.int .i64 0)], some 2, none, []⟩] false)
.ret) .skip))
(.seq (.seq (.region [⟨.faddr 0, [.v 1], none, none, []⟩,
 ⟨.load false 1, [.p 0], none, none, []⟩] false)
(.cond (.p 0) (.seq (.region [⟨.mov, [.c (.int .i64 (-1))], some 2, none, []⟩] false)
.ret) .skip))
(.seq (.region [⟨.mov, [.c (.int .i64 1)], some 2, none, []⟩] false)
.ret)))),
[.v 2]⟩
def c_ashlarref1_Cmp : RFunc := ⟨2, [0, 1, 2, 3, 4, 5, 6],
(.seq (.region [⟨.box, [.v 0], some 2, none, []⟩,
 ⟨.box, [.v 1], some 3, none, []⟩,
 ⟨.mov, [.c (.int .i64 0)], some 4, none, []⟩] false)
(.seq (.region [⟨.load true 2, [.v 2], none, none, []⟩,
 ⟨.call false 25, [.p 0], none, none, []⟩,
 ⟨.mov, [.p 0], some 5, none, []⟩] false)
(.seq (.region [⟨.load true 2, [.v 3], none, none, []⟩,
 ⟨.call false 25, [.p 0], none, none, []⟩,
 ⟨.mov, [.p 0], some 6, none, []⟩] false)
(.seq (.seq (.region [⟨.mov, [.v 5], none, none, []⟩,
 ⟨.mov, [.v 6], none, none, []⟩,
 ⟨.bin .neq, [.p 1, .p 0], none, none, []⟩] false)
(.cond (.p 0) (.seq (.seq (.region [⟨.mov, [.v 5], none, none, []⟩,
 ⟨.mov, [.v 6], none, none, []⟩,
 ⟨.bin .lss, [.p 1, .p 0], none, none, []⟩] false)
(.cond (.p 0) (.seq (.region [⟨.mov, [.c (.int .i64 (-1))], some 4, none, []⟩] false)
.ret) .skip))
(.seq (.region [⟨.mov, [.c (.int .i64 1)], some 4, none, []⟩] false)
.ret)) .skip))
(.seq (.region [⟨.mov, [.v 5], none, none, []⟩,
 ⟨.faddr 1, [.v 2], none, none, []⟩,
 ⟨.load false 1, [.p 0], none, none, []⟩,
 ⟨.faddr 1, [.v 3], none, none, []⟩,
 ⟨.load false 1, [.p 0], none, none, []⟩,
 ⟨.call false 90, [.p 2, .p 0], none, none, []⟩,
 ⟨.bin .mul, [.p 5, .p 0], none, none, []⟩,
 ⟨.mov, [.p 0], some 4, none, []⟩] false)
.ret))))),
[.v 4]⟩
def c_ashlarref1_Add : RFunc := ⟨2, [0, 1, 2, 3, 4],
(.seq (.region [⟨.box, [.v 0], some 2, none, []⟩,
 ⟨.box, [.v 1], some 3, none, []⟩,
 ⟨.alloc (.agg [.bool false, .slc true []]), [], some 4, none, []⟩] false)
(.seq (.seq (.region [⟨.faddr 0, [.v 2], none, none, []⟩,
 ⟨.load false 1, [.p 0], none, none, []⟩,
 ⟨.faddr 0, [.v 3], none, none, []⟩,
 ⟨.load false 1, [.p 0], none, none, []⟩,
 ⟨.beq false, [.p 2, .p 0], none, none, []⟩] false)
(.cond (.p 0) (.seq (.region [⟨.faddr 0, [.v 2], none, none, []⟩,
 ⟨.load false 1, [.p 0], none, none, []⟩,
 ⟨.faddr 1, [.v 2], none, none, []⟩,
 ⟨.load false 1, [.p 0], none, none, []⟩,
 ⟨.faddr 1, [.v 3], none, none, []⟩,
 ⟨.load false 1, [.p 0], none, none, []⟩,
 ⟨.call false 91, [.p 2, .p 0], none, none, []⟩,
 ⟨.call false 71, [.p 5, .p 0], none, none, []⟩,
 ⟨.store 2, [.v 4, .p 0], none, none, []⟩] true)
.ret) .skip))
(.seq (.seq (.region [⟨.faddr 1, [.v 2], none, none, []⟩,
 ⟨.load false 1, [.p 0], none, none, []⟩,
 ⟨.faddr 1, [.v 3], none, none, []⟩,
 ⟨.load false 1, [.p 0], none, none, []⟩,
 ⟨.call false 90, [.p 2, .p 0], none, none, []⟩,
 ⟨.bin .geq, [.p 0, .c (.int .i64 0)], none, none, []⟩] false)
(.cond (.p 0) (.seq (.region [⟨.faddr 0, [.v 2], none, none, []⟩,
 ⟨.load false 1, [.p 0], none, none, []⟩,
 ⟨.faddr 1, [.v 2], none, none, []⟩,
 ⟨.load false 1, [.p 0], none, none, []⟩,
 ⟨.faddr 1, [.v 3], none, none, []⟩,
 ⟨.load false 1, [.p 0], none, none, []⟩,
 ⟨.call false 92, [.p 2, .p 0], none, none, []⟩,
 ⟨.call false 71, [.p 5, .p 0], none, none, []⟩,
 ⟨.store 2, [.v 4, .p 0], none, none, []⟩] true)
.ret) .skip))
(.seq (.region [⟨.faddr 0, [.v 3], none, none, []⟩,
 ⟨.load false 1, [.p 0], none, none, []⟩,
 ⟨.faddr 1, [.v 3], none, none, []⟩,
 ⟨.load false 1, [.p 0], none, none, []⟩,
 ⟨.faddr 1, [.v 2], none, none, []⟩,
 ⟨.load false 1, [.p 0], none, none, []⟩,
 ⟨.call false 92, [.p 2, .p 0], none, none, []⟩,
 ⟨.call false 71, [.p 5, .p 0], none, none, []⟩,
 ⟨.store 2, [.v 4, .p 0], none, none, []⟩] true)
.ret)))),
[.cell 4 true 2]⟩
def l_ashlarref1_Mul_0 : RCode := (.loop [false, false, true, true, true, true, true, true, true] (.seq (.seq (.region [⟨.mov, [.v 8], none, none, []⟩,
 ⟨.faddr 1, [.v 3], none, none, []⟩,
 ⟨.load false 1, [.p 0], none, none, []⟩,
 ⟨.len false, [.p 0], none, none, []⟩,
 ⟨.bin .lss, [.p 3, .p 0], none, none, []⟩] false)
(.cond (.p 0) .skip (.exit 2)))
(.seq (.block 3 (.seq (.region [⟨.mov, [.v 7], none, none, []⟩,
 ⟨.mov, [.v 5], none, none, []⟩,
 ⟨.mov, [.v 6], none, none, []⟩,
 ⟨.mov, [.v 8], none, none, []⟩,
 ⟨.bin .add, [.p 1, .p 0], none, none, []⟩,
 ⟨.iaddr 1, [.p 3, .p 0], none, none, []⟩,
 ⟨.load false 1, [.p 0], none, none, []⟩,
 ⟨.faddr 1, [.v 2], none, none, []⟩,
 ⟨.load false 1, [.p 0], none, none, []⟩,
 ⟨.mov, [.v 6], none, none, []⟩,
 ⟨.iaddr 1, [.p 1, .p 0], none, none, []⟩,
 ⟨.load false 1, [.p 0], none, none, []⟩,
 ⟨.faddr 1, [.v 3], none, none, []⟩,
 ⟨.load false 1, [.p 0], none, none, []⟩,
 ⟨.mov, [.v 8], none, none, []⟩,
 ⟨.iaddr 1, [.p 1, .p 0], none, none, []⟩,
 ⟨.load false 1, [.p 0], none, none, []⟩,
 ⟨.bin .mul, [.p 5, .p 0], none, none, []⟩,
 ⟨.bin .add, [.p 11, .p 0], none, none, []⟩,
 ⟨.bin .add, [.p 18, .p 0], none, none, []⟩,
 ⟨.mov, [.p 0], some 7, none, []⟩] true)
(.seq (.region [⟨.mov, [.v 5], none, none, []⟩,
 ⟨.mov, [.v 6], none, none, []⟩,
 ⟨.mov, [.v 8], none, none, []⟩,
 ⟨.bin .add, [.p 1, .p 0], none, none, []⟩,
 ⟨.mov, [.v 7], none, none, []⟩,
 ⟨.bin .rem, [.p 0, .c (.int .i64 65536)], none, none, []⟩,
 ⟨.iaddr 1, [.p 5, .p 2], none, none, []⟩,
 ⟨.store 1, [.p 0, .p 1], none, none, []⟩] false)
(.region [⟨.mov, [.v 7], none, none, []⟩,
 ⟨.bin .quo, [.p 0, .c (.int .i64 65536)], none, none, []⟩,
 ⟨.mov, [.p 0], some 7, none, []⟩] false))))
(.region [⟨.mov, [.v 8], none, none, []⟩,
 ⟨.bin .add, [.p 0, .c (.int .i64 1)], none, none, []⟩,
 ⟨.mov, [.p 0], some 8, none, []⟩] false))))
def l_ashlarref1_Mul_1 : RCode := (.loop [false, false, true, true, true, true, true, true, false, true] (.seq (.seq (.region [⟨.mov, [.v 7], none, none, []⟩,
 ⟨.bin .gtr, [.p 0, .c (.int .i64 0)], none, none, []⟩] false)
(.cond (.p 0) .skip (.exit 4)))
(.seq (.block 5 (.seq (.region [⟨.mov, [.v 7], none, none, []⟩,
 ⟨.mov, [.v 5], none, none, []⟩,
 ⟨.mov, [.v 9], none, none, []⟩,
 ⟨.iaddr 1, [.p 1, .p 0], none, none, []⟩,
 ⟨.load false 1, [.p 0], none, none, []⟩,
 ⟨.bin .add, [.p 4, .p 0], none, none, []⟩,
 ⟨.mov, [.p 0], some 7, none, []⟩] false)
(.seq (.region [⟨.mov, [.v 5], none, none, []⟩,
 ⟨.mov, [.v 9], none, none, []⟩,
 ⟨.mov, [.v 7], none, none, []⟩,
 ⟨.bin .rem, [.p 0, .c (.int .i64 65536)], none, none, []⟩,
 ⟨.iaddr 1, [.p 3, .p 2], none, none, []⟩,
 ⟨.store 1, [.p 0, .p 1], none, none, []⟩] false)
(.region [⟨.mov, [.v 7], none, none, []⟩,
 ⟨.bin .quo, [.p 0, .c (.int .i64 65536)], none, none, []⟩,
 ⟨.mov, [.p 0], some 7, none, []⟩] false))))
(.region [⟨.mov, [.v 9], none, none, []⟩,
 ⟨.bin .add, [.p 0, .c (.int .i64 1)], none, none, []⟩,
 ⟨.mov, [.p 0], some 9, none, []⟩] false))))
def l_ashlarref1_Mul_2 : RCode := (.loop [false, false, true, true, true, true, true] (.seq (.seq (.region [⟨.mov, [.v 6], none, none, []⟩,
 ⟨.faddr 1, [.v 2], none, none, []⟩,
 ⟨.load false 1, [.p 0], none, none, []⟩,
 ⟨.len false, [.p 0], none, none, []⟩,
 ⟨.bin .lss, [.p 3, .p 0], none, none, []⟩] false)
(.cond (.p 0) .skip (.exit 0)))
(.seq (.block 1 (.seq (.region [⟨.mov, [.c (.int .i64 0)], some 7, none, []⟩] false)
(.seq (.seq (.region [⟨.mov, [.c (.int .i64 0)], some 8, none, []⟩] false)
(.block 2 l_ashlarref1_Mul_0))
(.seq (.region [⟨.mov, [.v 6], none, none, []⟩,
 ⟨.faddr 1, [.v 3], none, none, []⟩,
 ⟨.load false 1, [.p 0], none, none, []⟩,
 ⟨.len false, [.p 0], none, none, []⟩,
 ⟨.bin .add, [.p 3, .p 0], none, none, []⟩,
 ⟨.mov, [.p 0], some 9, none, []⟩] false)
(.block 4 l_ashlarref1_Mul_1)))))
(.region [⟨.mov, [.v 6], none, none, []⟩,
 ⟨.bin .add, [.p 0, .c (.int .i64 1)], none, none, []⟩,
 ⟨.mov, [.p 0], some 6, none, []⟩] false))))
def c_ashlarref1_Mul : RFunc := ⟨2, [0, 1, 2, 3, 4, 5, 6, 7, 8, 9],
(.seq (.region [⟨.box, [.v 0], some 2, none, []⟩,
 ⟨.box, [.v 1], some 3, none, []⟩,
 ⟨.alloc (.agg [.bool false, .slc true []]), [], some 4, none, []⟩] false)
(.seq (.region [⟨.faddr 1, [.v 2], none, none, []⟩,
 ⟨.load false 1, [.p 0], none, none, []⟩,
 ⟨.len false, [.p 0], none, none, []⟩,
 ⟨.faddr 1, [.v 3], none, none, []⟩,
 ⟨.load false 1, [.p 0], none, none, []⟩,
 ⟨.len false, [.p 0], none, none, []⟩,
 ⟨.bin .add, [.p 3, .p 0], none, none, []⟩,
 ⟨.bin .add, [.p 0, .c (.int .i64 1)], none, none, []⟩,
 ⟨.mkslice 1 (.int .i64 0) 8, [.p 0, .p 0], none, none, []⟩,
 ⟨.mov, [.p 0], some 5, none, []⟩] false)
(.seq (.seq (.region [⟨.mov, [.c (.int .i64 0)], some 6, none, []⟩] false)
(.block 0 l_ashlarref1_Mul_2))
(.seq (.region [⟨.faddr 0, [.v 2], none, none, []⟩,
 ⟨.load false 1, [.p 0], none, none, []⟩,
 ⟨.faddr 0, [.v 3], none, none, []⟩,
 ⟨.load false 1, [.p 0], none, none, []⟩,
 ⟨.beq true, [.p 2, .p 0], none, none, []⟩,
 ⟨.mov, [.v 5], none, none, []⟩,
 ⟨.call false 71, [.p 1, .p 0], none, none, []⟩,
 ⟨.store 2, [.v 4, .p 0], none, none, []⟩] false)
.ret)))),
[.cell 4 true 2]⟩
def c_ashlarref1_Is : RFunc := ⟨2, [0, 1, 2, 3, 4],
(.seq (.region [⟨.box, [.v 0], some 2, none, []⟩,
 ⟨.box, [.v 1], some 3, none, []⟩,
 ⟨.mov, [.c (.bool false)], some 4, none, []⟩] false)
(.seq (.region [⟨.load true 2, [.v 2], none, none, []⟩,
 ⟨.load true 2, [.v 3], none, none, []⟩,
 ⟨.call false 93, [.p 0], none, none, []⟩,
 ⟨.call false 44, [.p 2, .p 0], none, none, []⟩,
 ⟨.mov, [.p 0], some 4, none, []⟩] true)
.ret)),
[.v 4]⟩
def c_ashlarref1_Abs : RFunc := ⟨1, [0, 1, 2],
(.seq (.region [⟨.box, [.v 0], some 1, none, []⟩,
 ⟨.alloc (.agg [.bool false, .slc true []]), [], some 2, none, []⟩] false)
(.seq (.region [⟨.faddr 1, [.v 1], none, none, []⟩,
 ⟨.load false 1, [.p 0], none, none, []⟩,
 ⟨.build [.bool false, .slc true []] [(0, 1), (1, 1)], [.c (.bool false), .p 0], none, none, []⟩,
 ⟨.store 2, [.v 2, .p 0], none, none, []⟩] false)
.ret)),
[.cell 2 true 2]⟩
def l_ashlarref1_Of_0 : RCode := (.loop [true, true, true, true] (.seq (.seq (.region [⟨.mov, [.v 0], none, none, []⟩,
 ⟨.bin .neq, [.p 0, .c (.int .i64 0)], none, none, []⟩] false)
(.cond (.p 0) .skip (.exit 0)))
(.block 1 (.seq (.region [⟨.mov, [.v 0], none, none, []⟩,
 ⟨.bin .rem, [.p 0, .c (.int .i64 65536)], none, none, []⟩,
 ⟨.mov, [.p 0], some 4, none, []⟩] false)
(.seq (.region [⟨.mov, [.v 0], none, none, []⟩,
 ⟨.bin .quo, [.p 0, .c (.int .i64 65536)], none, none, []⟩,
 ⟨.mov, [.p 0], some 0, none, []⟩] false)
(.seq (.seq (.region [⟨.mov, [.v 4], none, none, []⟩,
 ⟨.bin .lss, [.p 0, .c (.int .i64 0)], none, none, []⟩] false)
(.cond (.p 0) (.region [⟨.mov, [.v 4], none, none, []⟩,
 ⟨.un .neg, [.p 0], none, none, []⟩,
 ⟨.mov, [.p 0], some 4, none, []⟩] false) .skip))
(.region [⟨.mov, [.v 3], none, none, []⟩,
 ⟨.mov, [.v 4], none, none, []⟩,
 ⟨.bslice 1 (.int .i64 0) 1 [0], [.p 0], none, none, []⟩,
 ⟨.app 8 1, [.p 2, .p 0], none, none, []⟩,
 ⟨.mov, [.p 0], some 3, none, []⟩] false)))))))
def c_ashlarref1_Of : RFunc := ⟨1, [0, 2, 3, 4, 5],
(.seq (.region [⟨.alloc (.agg [.bool false, .slc true []]), [], some 1, none, []⟩] false)
(.seq (.region [⟨.mov, [.v 0], none, none, []⟩,
 ⟨.bin .lss, [.p 0, .c (.int .i64 0)], none, none, []⟩,
 ⟨.mov, [.p 0], some 2, none, []⟩] false)
(.seq (.region [⟨.mov, [.c (.slc true [])], some 3, none, []⟩] false)
(.seq (.block 0 l_ashlarref1_Of_0)
(.seq (.region [⟨.mov, [.v 2], none, none, []⟩,
 ⟨.mov, [.v 3], none, none, []⟩,
 ⟨.call false 71, [.p 1, .p 0], none, none, []⟩,
 ⟨.store 2, [.v 1, .p 0], none, none, []⟩] false)
.ret))))),
[.cell 1 true 2]⟩
def l_ashlarref1_Gcd_0 : RCode := (.loop [false, false, false, false, true, true, true] (.seq (.seq (.region [⟨.load true 2, [.v 6], none, none, []⟩,
 ⟨.call false 25, [.p 0], none, none, []⟩,
 ⟨.bin .neq, [.p 0, .c (.int .i64 0)], none, none, []⟩] false)
(.cond (.p 0) .skip (.exit 0)))
(.block 1 (.seq (.region [⟨.load true 2, [.v 5], none, none, []⟩,
 ⟨.load true 2, [.v 6], none, none, []⟩,
 ⟨.call false 94, [.p 1, .p 0], none, none, []⟩,
 ⟨.mov, [.p 0], none, none, []⟩,
 ⟨.extract 0, [.p 0], none, none, []⟩,
 ⟨.extract 1, [.p 1], none, none, []⟩,
 ⟨.alloc (.agg [.bool false, .slc true []]), [], none, none, []⟩,
 ⟨.alloc (.agg [.bool false, .slc true []]), [], some 7, none, []⟩,
 ⟨.store 2, [.p 1, .p 3], none, none, []⟩,
 ⟨.store 2, [.v 7, .p 3], none, none, []⟩] false)
(.region [⟨.load true 2, [.v 6], none, none, []⟩,
 ⟨.load true 2, [.v 7], none, none, []⟩,
 ⟨.store 2, [.v 5, .p 1], none, none, [.v 7]⟩,
 ⟨.store 2, [.v 6, .p 1], none, none, []⟩] true)))))
def c_ashlarref1_Gcd : RFunc := ⟨2, [0, 1, 2, 3, 4, 5, 6, 8],
(.seq (.region [⟨.box, [.v 0], some 2, none, []⟩,
 ⟨.box, [.v 1], some 3, none, []⟩,
 ⟨.alloc (.agg [.bool false, .slc true []]), [], some 4, none, []⟩] false)
(.seq (.region [⟨.load true 2, [.v 2], none, none, []⟩,
 ⟨.call false 30, [.p 0], none, none, []⟩,
 ⟨.load true 2, [.v 3], none, none, []⟩,
 ⟨.call false 30, [.p 0], none, none, []⟩,
 ⟨.alloc (.agg [.bool false, .slc true []]), [], some 5, none, []⟩,
 ⟨.alloc (.agg [.bool false, .slc true []]), [], some 6, none, []⟩,
 ⟨.store 2, [.v 5, .p 4], none, none, []⟩,
 ⟨.store 2, [.v 6, .p 3], none, none, []⟩] true)
(.seq (.block 0 l_ashlarref1_Gcd_0)
(.seq (.region [⟨.load true 2, [.v 5], none, none, []⟩,
 ⟨.store 2, [.v 4, .p 0], none, none, []⟩] false)
.ret)))),
[.cell 4 true 2]⟩
def l_ashlarref1_Mod_0 : RCode := (.loop [false, true, true, false, true, true] (.seq (.seq (.region [⟨.mov, [.v 5], none, none, []⟩,
 ⟨.bin .geq, [.p 0, .c (.int .i64 0)], none, none, []⟩] false)
(.cond (.p 0) .skip (.exit 0)))
(.seq (.block 1 (.region [⟨.mov, [.v 4], none, none, []⟩,
 ⟨.bin .mul, [.p 0, .c (.int .i64 65536)], none, none, []⟩,
 ⟨.faddr 1, [.v 2], none, none, []⟩,
 ⟨.load false 1, [.p 0], none, none, []⟩,
 ⟨.mov, [.v 5], none, none, []⟩,
 ⟨.iaddr 1, [.p 1, .p 0], none, none, []⟩,
 ⟨.load false 1, [.p 0], none, none, []⟩,
 ⟨.bin .add, [.p 5, .p 0], none, none, []⟩,
 ⟨.mov, [.v 1], none, none, []⟩,
 ⟨.bin .rem, [.p 1, .p 0], none, none, []⟩,
 ⟨.mov, [.p 0], some 4, none, []⟩] false))
(.region [⟨.mov, [.v 5], none, none, []⟩,
 ⟨.bin .sub, [.p 0, .c (.int .i64 1)], none, none, []⟩,
 ⟨.mov, [.p 0], some 5, none, []⟩] false))))
def c_ashlarref1_Mod : RFunc := ⟨2, [0, 1, 2, 4, 5, 6],
(.seq (.region [⟨.box, [.v 0], some 2, none, []⟩,
 ⟨.mov, [.c (.int .i64 0)], some 3, none, []⟩] false)
(.seq (.region [⟨.mov, [.c (.int .i64 0)], some 4, none, []⟩] false)
(.seq (.seq (.region [⟨.faddr 1, [.v 2], none, none, []⟩,
 ⟨.load false 1, [.p 0], none, none, []⟩,
 ⟨.len false, [.p 0], none, none, []⟩,
 ⟨.bin .sub, [.p 0, .c (.int .i64 1)], none, none, []⟩,
 ⟨.mov, [.p 0], some 5, none, []⟩] false)
(.block 0 l_ashlarref1_Mod_0))
(.seq (.seq (.region [⟨.faddr 0, [.v 2], none, none, []⟩,
 ⟨.load false 1, [.p 0], none, none, []⟩,
 ⟨.mov, [.p 0], none, none, []⟩,
 ⟨.mov, [.v 4], none, some (0, true), []⟩,
 ⟨.bin .neq, [.p 0, .c (.int .i64 0)], none, some (1, true), []⟩,
 ⟨.pick, [.p 2, .p 0, .c (.bool false)], none, none, []⟩] false)
(.cond (.p 0) (.region [⟨.mov, [.v 1], none, none, []⟩,
 ⟨.mov, [.v 4], none, none, []⟩,
 ⟨.bin .sub, [.p 1, .p 0], none, none, []⟩,
 ⟨.mov, [.p 0], some 4, none, []⟩] false) .skip))
(.seq (.region [⟨.mov, [.v 4], none, none, []⟩,
 ⟨.mov, [.p 0], some 3, none, []⟩] false)
.ret))))),
[.v 3]⟩
def l_ashlarref1_Eq_0 : RCode := (.loop [false, false, true, true, false, true] (.seq (.seq (.region [⟨.mov, [.v 5], none, none, []⟩,
 ⟨.faddr 1, [.v 2], none, none, []⟩,
 ⟨.load false 1, [.p 0], none, none, []⟩,
 ⟨.len false, [.p 0], none, none, []⟩,
 ⟨.bin .lss, [.p 3, .p 0], none, none, []⟩] false)
(.cond (.p 0) .skip (.exit 0)))
(.seq (.block 1 (.seq (.region [⟨.faddr 1, [.v 2], none, none, []⟩,
 ⟨.load false 1, [.p 0], none, none, []⟩,
 ⟨.mov, [.v 5], none, none, []⟩,
 ⟨.iaddr 1, [.p 1, .p 0], none, none, []⟩,
 ⟨.load false 1, [.p 0], none, none, []⟩,
 ⟨.faddr 1, [.v 3], none, none, []⟩,
 ⟨.load false 1, [.p 0], none, none, []⟩,
 ⟨.mov, [.v 5], none, none, []⟩,
 ⟨.iaddr 1, [.p 1, .p 0], none, none, []⟩,
 ⟨.load false 1, [.p 0], none, none, []⟩,
 ⟨.bin .neq, [.p 5, .p 0], none, none, []⟩] true)
(.cond (.p 0) (.seq (.region [⟨.mov, [.c (.bool false)], some 4, none, []⟩] false)
.ret) .skip)))
(.region [⟨.mov, [.v 5], none, none, []⟩,
 ⟨.bin .add, [.p 0, .c (.int .i64 1)], none, none, []⟩,
 ⟨.mov, [.p 0], some 5, none, []⟩] false))))
def c_ashlarref1_Eq : RFunc := ⟨2, [0, 1, 2, 3, 4, 5],
(.seq (.region [⟨.box, [.v 0], some 2, none, []⟩,
 ⟨.box, [.v 1], some 3, none, []⟩,
 ⟨.mov, [.c (.bool false)], some 4, none, []⟩] false)
(.seq (.seq (.region [⟨.faddr 0, [.v 2], none, none, []⟩,
 ⟨.load false 1, [.p 0], none, none, []⟩,
 ⟨.faddr 0, [.v 3], none, none, []⟩,
 ⟨.load false 1, [.p 0], none, none, []⟩,
 ⟨.beq true, [.p 2, .p 0], none, none, []⟩,
 ⟨.mov, [.p 0], none, none, []⟩,
 ⟨.faddr 1, [.v 2], none, some (0, false), []⟩,
 ⟨.load false 1, [.p 0], none, some (1, false), []⟩,
 ⟨.len false, [.p 0], none, some (2, false), []⟩,
 ⟨.faddr 1, [.v 3], none, some (3, false), []⟩,
 ⟨.load false 1, [.p 0], none, some (4, false), []⟩,
 ⟨.len false, [.p 0], none, some (5, false), []⟩,
 ⟨.bin .neq, [.p 3, .p 0], none, some (6, false), []⟩,
 ⟨.pick, [.p 7, .c (.bool true), .p 0], none, none, []⟩] false)
(.cond (.p 0) (.seq (.region [⟨.mov, [.c (.bool false)], some 4, none, []⟩] false)
.ret) .skip))
(.seq (.seq (.region [⟨.mov, [.c (.int .i64 0)], some 5, none, []⟩] false)
(.block 0 l_ashlarref1_Eq_0))
(.seq (.region [⟨.mov, [.c (.bool true)], some 4, none, []⟩] false)
.ret)))),
[.v 4]⟩
def c_ashlarref1_Sub : RFunc := ⟨2, [0, 1, 2, 3, 4],
(.seq (.region [⟨.box, [.v 0], some 2, none, []⟩,
 ⟨.box, [.v 1], some 3, none, []⟩,
 ⟨.alloc (.agg [.bool false, .slc true []]), [], some 4, none, []⟩] false)
(.seq (.region [⟨.load true 2, [.v 2], none, none, []⟩,
 ⟨.load true 2, [.v 3], none, none, []⟩,
 ⟨.call false 50, [.p 0], none, none, []⟩,
 ⟨.call false 27, [.p 2, .p 0], none, none, []⟩,
 ⟨.store 2, [.v 4, .p 0], none, none, []⟩] true)
.ret)),
[.cell 4 true 2]⟩
def c_ashlarref1_Neg : RFunc := ⟨1, [0, 1, 2],
(.seq (.region [⟨.box, [.v 0], some 1, none, []⟩,
 ⟨.alloc (.agg [.bool false, .slc true []]), [], some 2, none, []⟩] false)
(.seq (.region [⟨.faddr 0, [.v 1], none, none, []⟩,
 ⟨.load false 1, [.p 0], none, none, []⟩,
 ⟨.un .not, [.p 0], none, none, []⟩,
 ⟨.faddr 1, [.v 1], none, none, []⟩,
 ⟨.load false 1, [.p 0], none, none, []⟩,
 ⟨.call false 71, [.p 2, .p 0], none, none, []⟩,
 ⟨.store 2, [.v 2, .p 0], none, none, []⟩] false)
.ret)),
[.cell 2 true 2]⟩
def l_ashlarref1_Bits_0 : RCode := (.loop [false, false, false, true, true, true] (.seq (.seq (.region [⟨.mov, [.v 5], none, none, []⟩,
 ⟨.bin .gtr, [.p 0, .c (.int .i64 0)], none, none, []⟩] false)
(.cond (.p 0) .skip (.exit 0)))
(.seq (.block 1 (.region [⟨.mov, [.v 4], none, none, []⟩,
 ⟨.bin .add, [.p 0, .c (.int .i64 1)], none, none, []⟩,
 ⟨.mov, [.p 0], some 4, none, []⟩] false))
(.region [⟨.mov, [.v 5], none, none, []⟩,
 ⟨.bin .quo, [.p 0, .c (.int .i64 2)], none, none, []⟩,
 ⟨.mov, [.p 0], some 5, none, []⟩] false))))
def c_ashlarref1_Bits : RFunc := ⟨1, [0, 1, 2, 3, 4, 5],
(.seq (.region [⟨.box, [.v 0], some 1, none, []⟩,
 ⟨.mov, [.c (.int .i64 0)], some 2, none, []⟩] false)
(.seq (.region [⟨.faddr 1, [.v 1], none, none, []⟩,
 ⟨.load false 1, [.p 0], none, none, []⟩,
 ⟨.len false, [.p 0], none, none, []⟩,
 ⟨.mov, [.p 0], some 3, none, []⟩] false)
(.seq (.seq (.region [⟨.mov, [.v 3], none, none, []⟩,
 ⟨.bin .eql, [.p 0, .c (.int .i64 0)], none, none, []⟩] false)
(.cond (.p 0) (.seq (.region [⟨.mov, [.c (.int .i64 0)], some 2, none, []⟩] false)
.ret) .skip))
(.seq (.region [⟨.mov, [.c (.int .i64 0)], some 4, none, []⟩] false)
(.seq (.seq (.region [⟨.faddr 1, [.v 1], none, none, []⟩,
 ⟨.load false 1, [.p 0], none, none, []⟩,
 ⟨.mov, [.v 3], none, none, []⟩,
 ⟨.bin .sub, [.p 0, .c (.int .i64 1)], none, none, []⟩,
 ⟨.iaddr 1, [.p 2, .p 0], none, none, []⟩,
 ⟨.load false 1, [.p 0], none, none, []⟩,
 ⟨.mov, [.p 0], some 5, none, []⟩] false)
(.block 0 l_ashlarref1_Bits_0))
(.seq (.region [⟨.mov, [.v 3], none, none, []⟩,
 ⟨.bin .sub, [.p 0, .c (.int .i64 1)], none, none, []⟩,
 ⟨.bin .mul, [.c (.int .i64 16), .p 0], none, none, []⟩,
 ⟨.mov, [.v 4], none, none, []⟩,
 ⟨.bin .add, [.p 1, .p 0], none, none, []⟩,
 ⟨.mov, [.p 0], some 2, none, []⟩] false)
.ret)))))),
[.v 2]⟩
def l_ashlarref1_Read_0 : RCode := (.loop [false, true, false, true, true, true, true, true, true] (.seq (.seq (.region [⟨.mov, [.v 8], none, none, []⟩,
 ⟨.mov, [.v 5], none, none, []⟩,
 ⟨.len false, [.p 0], none, none, []⟩,
 ⟨.bin .lss, [.p 2, .p 0], none, none, []⟩] false)
(.cond (.p 0) .skip (.exit 2)))
(.seq (.block 3 (.seq (.region [⟨.mov, [.v 7], none, none, []⟩,
 ⟨.mov, [.v 5], none, none, []⟩,
 ⟨.mov, [.v 8], none, none, []⟩,
 ⟨.iaddr 1, [.p 1, .p 0], none, none, []⟩,
 ⟨.load false 1, [.p 0], none, none, []⟩,
 ⟨.bin .mul, [.c (.int .i64 10), .p 0], none, none, []⟩,
 ⟨.bin .add, [.p 5, .p 0], none, none, []⟩,
 ⟨.mov, [.p 0], some 7, none, []⟩] false)
(.seq (.region [⟨.mov, [.v 5], none, none, []⟩,
 ⟨.mov, [.v 8], none, none, []⟩,
 ⟨.mov, [.v 7], none, none, []⟩,
 ⟨.bin .rem, [.p 0, .c (.int .i64 65536)], none, none, []⟩,
 ⟨.iaddr 1, [.p 3, .p 2], none, none, []⟩,
 ⟨.store 1, [.p 0, .p 1], none, none, []⟩] false)
(.region [⟨.mov, [.v 7], none, none, []⟩,
 ⟨.bin .quo, [.p 0, .c (.int .i64 65536)], none, none, []⟩,
 ⟨.mov, [.p 0], some 7, none, []⟩] false))))
(.region [⟨.mov, [.v 8], none, none, []⟩,
 ⟨.bin .add, [.p 0, .c (.int .i64 1)], none, none, []⟩,
 ⟨.mov, [.p 0], some 8, none, []⟩] false))))
def l_ashlarref1_Read_1 : RCode := (.loop [false, true, false, true, true, true, true] (.seq (.seq (.region [⟨.mov, [.v 6], none, none, []⟩,
 ⟨.mov, [.v 4], none, none, []⟩,
 ⟨.len true, [.p 0], none, none, []⟩,
 ⟨.bin .lss, [.p 2, .p 0], none, none, []⟩] false)
(.cond (.p 0) .skip (.exit 0)))
(.seq (.block 1 (.seq (.seq (.region [⟨.mov, [.v 4], none, none, []⟩,
 ⟨.mov, [.v 6], none, none, []⟩,
 ⟨.idx, [.p 1, .p 0], none, none, []⟩,
 ⟨.bin .lss, [.p 0, .c (.int .u8 48)], none, none, []⟩,
 ⟨.mov, [.p 0], none, none, []⟩,
 ⟨.mov, [.v 4], none, some (0, false), []⟩,
 ⟨.mov, [.v 6], none, some (1, false), []⟩,
 ⟨.idx, [.p 1, .p 0], none, some (2, false), []⟩,
 ⟨.bin .gtr, [.p 0, .c (.int .u8 57)], none, some (3, false), []⟩,
 ⟨.pick, [.p 4, .c (.bool true), .p 0], none, none, []⟩] false)
(.cond (.p 0) (.seq (.region [⟨.build [.bool false, .slc true []] [], [], none, none, []⟩,
 ⟨.store 2, [.v 1, .p 0], none, none, []⟩,
 ⟨.mov, [.c (.int .i64 8)], some 2, none, []⟩] false)
.ret) .skip))
(.seq (.region [⟨.mov, [.v 4], none, none, []⟩,
 ⟨.mov, [.v 6], none, none, []⟩,
 ⟨.idx, [.p 1, .p 0], none, none, []⟩,
 ⟨.bin .sub, [.p 0, .c (.int .u8 48)], none, none, []⟩,
 ⟨.conv .i64, [.p 0], none, none, []⟩,
 ⟨.mov, [.p 0], some 7, none, []⟩] false)
(.seq (.seq (.region [⟨.mov, [.c (.int .i64 0)], some 8, none, []⟩] false)
(.block 2 l_ashlarref1_Read_0))
(.seq (.region [⟨.mov, [.v 7], none, none, []⟩,
 ⟨.bin .gtr, [.p 0, .c (.int .i64 0)], none, none, []⟩] false)
(.cond (.p 0) (.region [⟨.mov, [.v 5], none, none, []⟩,
 ⟨.mov, [.v 7], none, none, []⟩,
 ⟨.bslice 1 (.int .i64 0) 1 [0], [.p 0], none, none, []⟩,
 ⟨.app 8 1, [.p 2, .p 0], none, none, []⟩,
 ⟨.mov, [.p 0], some 5, none, []⟩] false) .skip))))))
(.region [⟨.mov, [.v 6], none, none, []⟩,
 ⟨.bin .add, [.p 0, .c (.int .i64 1)], none, none, []⟩,
 ⟨.mov, [.p 0], some 6, none, []⟩] false))))
def c_ashlarref1_Read : RFunc := ⟨1, [0, 2, 3, 4, 5, 6, 7, 8, 9],
(.seq (.region [⟨.alloc (.agg [.bool false, .slc true []]), [], some 1, none, []⟩,
 ⟨.mov, [.c (.int .i64 0)], some 2, none, []⟩] false)
(.seq (.seq (.region [⟨.mov, [.v 0], none, none, []⟩,
 ⟨.len true, [.p 0], none, none, []⟩,
 ⟨.bin .gtr, [.p 0, .c (.int .i64 65536)], none, none, []⟩] false)
(.cond (.p 0) (.seq (.region [⟨.build [.bool false, .slc true []] [], [], none, none, []⟩,
 ⟨.store 2, [.v 1, .p 0], none, none, []⟩,
 ⟨.mov, [.c (.int .i64 8)], some 2, none, []⟩] false)
.ret) .skip))
(.seq (.region [⟨.mov, [.v 0], none, none, []⟩,
 ⟨.len true, [.p 0], none, none, []⟩,
 ⟨.bin .gtr, [.p 0, .c (.int .i64 0)], none, none, []⟩,
 ⟨.mov, [.p 0], none, none, []⟩,
 ⟨.mov, [.v 0], none, some (0, true), []⟩,
 ⟨.idx, [.p 0, .c (.int .i64 0)], none, some (1, true), []⟩,
 ⟨.bin .eql, [.p 0, .c (.int .u8 45)], none, some (2, true), []⟩,
 ⟨.pick, [.p 3, .p 0, .c (.bool false)], none, none, []⟩,
 ⟨.mov, [.p 0], some 3, none, []⟩] false)
(.seq (.region [⟨.mov, [.v 0], none, none, []⟩,
 ⟨.mov, [.p 0], some 4, none, []⟩] false)
(.seq (.seq (.region [⟨.mov, [.v 3], none, none, []⟩] false)
(.cond (.p 0) (.region [⟨.mov, [.v 0], none, none, []⟩,
 ⟨.slices true false, [.p 0, .c (.int .i64 1)], none, none, []⟩,
 ⟨.mov, [.p 0], some 4, none, []⟩] false) .skip))
(.seq (.seq (.region [⟨.mov, [.v 4], none, none, []⟩,
 ⟨.len true, [.p 0], none, none, []⟩,
 ⟨.bin .eql, [.p 0, .c (.int .i64 0)], none, none, []⟩,
 ⟨.mov, [.p 0], none, none, []⟩,
 ⟨.mov, [.v 4], none, some (0, false), []⟩,
 ⟨.idx, [.p 0, .c (.int .i64 0)], none, some (1, false), []⟩,
 ⟨.bin .eql, [.p 0, .c (.int .u8 48)], none, some (2, false), []⟩,
 ⟨.mov, [.p 0], none, some (3, false), []⟩,
 ⟨.mov, [.v 4], none, some (0, true), []⟩,
 ⟨.len true, [.p 0], none, some (1, true), []⟩,
 ⟨.bin .gtr, [.p 0, .c (.int .i64 1)], none, some (2, true), []⟩,
 ⟨.mov, [.p 0], none, some (3, true), []⟩,
 ⟨.mov, [.v 3], none, some (0, false), []⟩,
 ⟨.pick, [.p 1, .c (.bool true), .p 0], none, some (5, true), []⟩,
 ⟨.pick, [.p 6, .p 0, .c (.bool false)], none, some (10, false), []⟩,
 ⟨.pick, [.p 11, .c (.bool true), .p 0], none, none, []⟩] false)
(.cond (.p 0) (.seq (.region [⟨.build [.bool false, .slc true []] [], [], none, none, []⟩,
 ⟨.store 2, [.v 1, .p 0], none, none, []⟩,
 ⟨.mov, [.c (.int .i64 8)], some 2, none, []⟩] false)
.ret) .skip))
(.seq (.region [⟨.mov, [.c (.slc true [])], some 5, none, []⟩] false)
(.seq (.seq (.region [⟨.mov, [.c (.int .i64 0)], some 6, none, []⟩] false)
(.block 0 l_ashlarref1_Read_1))
(.seq (.region [⟨.mov, [.v 3], none, none, []⟩,
 ⟨.mov, [.v 5], none, none, []⟩,
 ⟨.call false 71, [.p 1, .p 0], none, none, []⟩,
 ⟨.store 2, [.v 1, .p 0], none, none, []⟩,
 ⟨.mov, [.c (.int .i64 0)], some 2, none, []⟩] false)
.ret))))))))),
[.cell 1 true 2, .v 2]⟩
def l_ashlarref1_Text_0 : RCode := (.loop [false, true, false, true, true] (.seq (.seq (.region [⟨.mov, [.v 4], none, none, []⟩,
 ⟨.len false, [.p 0], none, none, []⟩,
 ⟨.bin .gtr, [.p 0, .c (.int .i64 0)], none, none, []⟩] false)
(.cond (.p 0) .skip (.exit 0)))
(.block 1 (.seq (.region [⟨.mov, [.v 4], none, none, []⟩,
 ⟨.call false 101, [.p 0, .c (.int .i64 10)], none, none, []⟩,
 ⟨.mov, [.p 0], none, none, []⟩,
 ⟨.extract 0, [.p 0], none, none, []⟩,
 ⟨.extract 1, [.p 1], none, none, []⟩,
 ⟨.mov, [.p 1], some 5, none, []⟩,
 ⟨.mov, [.p 1], some 6, none, []⟩] false)
(.seq (.region [⟨.mov, [.v 3], none, none, []⟩,
 ⟨.mov, [.v 6], none, none, []⟩,
 ⟨.bin .add, [.c (.int .i64 48), .p 0], none, none, []⟩,
 ⟨.conv .u8, [.p 0], none, none, []⟩,
 ⟨.bslice 1 (.int .u8 0) 1 [0], [.p 0], none, none, []⟩,
 ⟨.app 1 1, [.p 4, .p 0], none, none, []⟩,
 ⟨.mov, [.p 0], some 3, none, []⟩] false)
(.region [⟨.mov, [.v 5], none, none, []⟩,
 ⟨.call false 71, [.c (.bool false), .p 0], none, none, []⟩,
 ⟨.fld false 1 1, [.p 0], none, none, []⟩,
 ⟨.mov, [.p 0], some 4, none, []⟩] false))))))
def l_ashlarref1_Text_1 : RCode := (.loop [false, false, false, true, false, false, false, true] (.seq (.seq (.region [⟨.mov, [.v 7], none, none, []⟩,
 ⟨.mov, [.v 3], none, none, []⟩,
 ⟨.len false, [.p 0], none, none, []⟩,
 ⟨.bin .quo, [.p 0, .c (.int .i64 2)], none, none, []⟩,
 ⟨.bin .lss, [.p 3, .p 0], none, none, []⟩] false)
(.cond (.p 0) .skip (.exit 2)))
(.seq (.block 3 (.seq (.region [⟨.mov, [.v 3], none, none, []⟩,
 ⟨.mov, [.v 7], none, none, []⟩,
 ⟨.iaddr 1, [.p 1, .p 0], none, none, []⟩,
 ⟨.load false 1, [.p 0], none, none, []⟩,
 ⟨.mov, [.v 3], none, none, []⟩,
 ⟨.mov, [.v 3], none, none, []⟩,
 ⟨.len false, [.p 0], none, none, []⟩,
 ⟨.bin .sub, [.p 0, .c (.int .i64 1)], none, none, []⟩,
 ⟨.mov, [.v 7], none, none, []⟩,
 ⟨.bin .sub, [.p 1, .p 0], none, none, []⟩,
 ⟨.iaddr 1, [.p 5, .p 0], none, none, []⟩,
 ⟨.load false 1, [.p 0], none, none, []⟩,
 ⟨.mov, [.p 8], some 8, none, []⟩,
 ⟨.mov, [.p 1], some 9, none, []⟩] true)
(.seq (.region [⟨.mov, [.v 3], none, none, []⟩,
 ⟨.mov, [.v 7], none, none, []⟩,
 ⟨.mov, [.v 9], none, none, []⟩,
 ⟨.iaddr 1, [.p 2, .p 1], none, none, []⟩,
 ⟨.store 1, [.p 0, .p 1], none, none, []⟩] false)
(.region [⟨.mov, [.v 3], none, none, []⟩,
 ⟨.mov, [.v 3], none, none, []⟩,
 ⟨.len false, [.p 0], none, none, []⟩,
 ⟨.bin .sub, [.p 0, .c (.int .i64 1)], none, none, []⟩,
 ⟨.mov, [.v 7], none, none, []⟩,
 ⟨.bin .sub, [.p 1, .p 0], none, none, []⟩,
 ⟨.mov, [.v 8], none, none, []⟩,
 ⟨.iaddr 1, [.p 6, .p 1], none, none, []⟩,
 ⟨.store 1, [.p 0, .p 1], none, none, []⟩] false))))
(.region [⟨.mov, [.v 7], none, none, []⟩,
 ⟨.bin .add, [.p 0, .c (.int .i64 1)], none, none, []⟩,
 ⟨.mov, [.p 0], some 7, none, []⟩] false))))
def c_ashlarref1_Text : RFunc := ⟨1, [0, 1, 2, 3, 4, 5, 6, 7, 8, 9],
(.seq (.region [⟨.box, [.v 0], some 1, none, []⟩,
 ⟨.mov, [.c (.str ByteArray.empty)], some 2, none, []⟩] false)
(.seq (.seq (.region [⟨.faddr 1, [.v 1], none, none, []⟩,
 ⟨.load false 1, [.p 0], none, none, []⟩,
 ⟨.len false, [.p 0], none, none, []⟩,
 ⟨.bin .eql, [.p 0, .c (.int .i64 0)], none, none, []⟩] false)
(.cond (.p 0) (.seq (.region [⟨.mov, [.c (.str ⟨#[48]⟩)], some 2, none, []⟩] false)
.ret) .skip))
(.seq (.region [⟨.mov, [.c (.slc true [])], some 3, none, []⟩] false)
(.seq (.region [⟨.faddr 1, [.v 1], none, none, []⟩,
 ⟨.load false 1, [.p 0], none, none, []⟩,
 ⟨.mov, [.p 0], some 4, none, []⟩] false)
(.seq (.block 0 l_ashlarref1_Text_0)
(.seq (.seq (.region [⟨.faddr 0, [.v 1], none, none, []⟩,
 ⟨.load false 1, [.p 0], none, none, []⟩] false)
(.cond (.p 0) (.region [⟨.mov, [.v 3], none, none, []⟩,
 ⟨.bslice 1 (.int .u8 0) 1 [0], [.c (.int .u8 45)], none, none, []⟩,
 ⟨.app 1 1, [.p 1, .p 0], none, none, []⟩,
 ⟨.mov, [.p 0], some 3, none, []⟩] false) .skip))
(.seq (.seq (.region [⟨.mov, [.c (.int .i64 0)], some 7, none, []⟩] false)
(.block 2 l_ashlarref1_Text_1))
(.seq (.region [⟨.mov, [.v 3], none, none, []⟩,
 ⟨.bytesToStr, [.p 0], none, none, []⟩,
 ⟨.mov, [.p 0], some 2, none, []⟩] false)
.ret)))))))),
[.v 2]⟩
def l_ashlarref1_Power_0 : RCode := (.loop [false, true, true, true, true, true] (.seq (.seq (.region [⟨.mov, [.v 5], none, none, []⟩,
 ⟨.mov, [.v 1], none, none, []⟩,
 ⟨.bin .lss, [.p 1, .p 0], none, none, []⟩] false)
(.cond (.p 0) .skip (.exit 0)))
(.seq (.block 1 (.region [⟨.load true 2, [.v 4], none, none, []⟩,
 ⟨.load true 2, [.v 2], none, none, []⟩,
 ⟨.call false 26, [.p 1, .p 0], none, none, []⟩,
 ⟨.store 2, [.v 4, .p 0], none, none, []⟩] false))
(.region [⟨.mov, [.v 5], none, none, []⟩,
 ⟨.bin .add, [.p 0, .c (.int .i64 1)], none, none, []⟩,
 ⟨.mov, [.p 0], some 5, none, []⟩] false))))
def c_ashlarref1_Power : RFunc := ⟨2, [0, 1, 2, 4, 5, 6],
(.seq (.region [⟨.box, [.v 0], some 2, none, []⟩,
 ⟨.alloc (.agg [.bool false, .slc true []]), [], some 3, none, []⟩] false)
(.seq (.region [⟨.call false 34, [.c (.int .i64 1)], none, none, []⟩,
 ⟨.alloc (.agg [.bool false, .slc true []]), [], some 4, none, []⟩,
 ⟨.store 2, [.v 4, .p 1], none, none, []⟩] false)
(.seq (.seq (.region [⟨.mov, [.c (.int .i64 0)], some 5, none, []⟩] false)
(.block 0 l_ashlarref1_Power_0))
(.seq (.region [⟨.load true 2, [.v 4], none, none, []⟩,
 ⟨.store 2, [.v 3, .p 0], none, none, []⟩] false)
.ret)))),
[.cell 3 true 2]⟩
def l_ashlarref1_trim_0 : RCode := (.loop [true, true, true, true] (.seq (.seq (.region [⟨.mov, [.v 3], none, none, []⟩,
 ⟨.bin .gtr, [.p 0, .c (.int .i64 0)], none, none, []⟩,
 ⟨.mov, [.p 0], none, none, []⟩,
 ⟨.mov, [.v 1], none, some (0, true), []⟩,
 ⟨.mov, [.v 3], none, some (1, true), []⟩,
 ⟨.bin .sub, [.p 0, .c (.int .i64 1)], none, some (2, true), []⟩,
 ⟨.iaddr 1, [.p 2, .p 0], none, some (3, true), []⟩,
 ⟨.load false 1, [.p 0], none, some (4, true), []⟩,
 ⟨.bin .eql, [.p 0, .c (.int .i64 0)], none, some (5, true), []⟩,
 ⟨.pick, [.p 6, .p 0, .c (.bool false)], none, none, []⟩] false)
(.cond (.p 0) .skip (.exit 0)))
(.block 1 (.region [⟨.mov, [.v 3], none, none, []⟩,
 ⟨.bin .sub, [.p 0, .c (.int .i64 1)], none, none, []⟩,
 ⟨.mov, [.p 0], some 3, none, []⟩] false))))
def c_ashlarref1_trim : RFunc := ⟨2, [0, 1, 4, 5],
(.seq (.region [⟨.alloc (.agg [.bool false, .slc true []]), [], some 2, none, []⟩] false)
(.seq (.region [⟨.mov, [.v 1], none, none, []⟩,
 ⟨.len false, [.p 0], none, none, []⟩,
 ⟨.mov, [.p 0], some 3, none, []⟩] false)
(.seq (.block 0 l_ashlarref1_trim_0)
(.seq (.region [⟨.mov, [.v 0], none, none, []⟩,
 ⟨.mov, [.p 0], none, none, []⟩,
 ⟨.mov, [.v 3], none, some (0, true), []⟩,
 ⟨.bin .gtr, [.p 0, .c (.int .i64 0)], none, some (1, true), []⟩,
 ⟨.pick, [.p 2, .p 0, .c (.bool false)], none, none, []⟩,
 ⟨.mov, [.v 1], none, none, []⟩,
 ⟨.mov, [.v 3], none, none, []⟩,
 ⟨.mov, [.v 3], none, none, []⟩,
 ⟨.slice 1 false true true, [.p 2, .p 1, .p 0], none, none, []⟩,
 ⟨.build [.bool false, .slc true []] [(0, 1), (1, 1)], [.p 4, .p 0], none, none, []⟩,
 ⟨.store 2, [.v 2, .p 0], none, none, []⟩] false)
.ret)))),
[.cell 2 true 2]⟩
def l_ashlarref1_cmp_0 : RCode := (.loop [true, true, false, true] (.seq (.seq (.region [⟨.mov, [.v 3], none, none, []⟩,
 ⟨.bin .geq, [.p 0, .c (.int .i64 0)], none, none, []⟩] false)
(.cond (.p 0) .skip (.exit 0)))
(.seq (.block 1 (.seq (.seq (.region [⟨.mov, [.v 0], none, none, []⟩,
 ⟨.mov, [.v 3], none, none, []⟩,
 ⟨.iaddr 1, [.p 1, .p 0], none, none, []⟩,
 ⟨.load false 1, [.p 0], none, none, []⟩,
 ⟨.mov, [.v 1], none, none, []⟩,
 ⟨.mov, [.v 3], none, none, []⟩,
 ⟨.iaddr 1, [.p 1, .p 0], none, none, []⟩,
 ⟨.load false 1, [.p 0], none, none, []⟩,
 ⟨.bin .lss, [.p 4, .p 0], none, none, []⟩] true)
(.cond (.p 0) (.seq (.region [⟨.mov, [.c (.int .i64 (-1))], some 2, none, []⟩] false)
.ret) .skip))
(.seq (.region [⟨.mov, [.v 0], none, none, []⟩,
 ⟨.mov, [.v 3], none, none, []⟩,
 ⟨.iaddr 1, [.p 1, .p 0], none, none, []⟩,
 ⟨.load false 1, [.p 0], none, none, []⟩,
 ⟨.mov, [.v 1], none, none, []⟩,
 ⟨.mov, [.v 3], none, none, []⟩,
 ⟨.iaddr 1, [.p 1, .p 0], none, none, []⟩,
 ⟨.load false 1, [.p 0], none, none, []⟩,
 ⟨.bin .gtr, [.p 4, .p 0], none, none, []⟩] true)
(.cond (.p 0) (.seq (.region [⟨.mov, [.c (.int .i64 1)], some 2, none, []⟩] false)
.ret) .skip))))
(.region [⟨.mov, [.v 3], none, none, []⟩,
 ⟨.bin .sub, [.p 0, .c (.int .i64 1)], none, none, []⟩,
 ⟨.mov, [.p 0], some 3, none, []⟩] false))))
def c_ashlarref1_cmp : RFunc := ⟨2, [0, 1, 4, 5],
(.seq (.region [⟨.mov, [.c (.int .i64 0)], some 2, none, []⟩] false)
(.seq (.seq (.region [⟨.mov, [.v 0], none, none, []⟩,
 ⟨.len false, [.p 0], none, none, []⟩,
 ⟨.mov, [.v 1], none, none, []⟩,
 ⟨.len false, [.p 0], none, none, []⟩,
 ⟨.bin .neq, [.p 2, .p 0], none, none, []⟩] false)
(.cond (.p 0) (.seq (.seq (.region [⟨.mov, [.v 0], none, none, []⟩,
 ⟨.len false, [.p 0], none, none, []⟩,
 ⟨.mov, [.v 1], none, none, []⟩,
 ⟨.len false, [.p 0], none, none, []⟩,
 ⟨.bin .lss, [.p 2, .p 0], none, none, []⟩] false)
(.cond (.p 0) (.seq (.region [⟨.mov, [.c (.int .i64 (-1))], some 2, none, []⟩] false)
.ret) .skip))
(.seq (.region [⟨.mov, [.c (.int .i64 1)], some 2, none, []⟩] false)
.ret)) .skip))
(.seq (.seq (.region [⟨.mov, [.v 0], none, none, []⟩,
 ⟨.len false, [.p 0], none, none, []⟩,
 ⟨.bin .sub, [.p 0, .c (.int .i64 1)], none, none, []⟩,
 ⟨.mov, [.p 0], some 3, none, []⟩] false)
(.block 0 l_ashlarref1_cmp_0))
(.seq (.region [⟨.mov, [.c (.int .i64 0)], some 2, none, []⟩] false)
.ret)))),
[.v 2]⟩
def l_ashlarref1_add_0 : RCode := (.loop [true, true, false, true, true, true] (.seq (.seq (.region [⟨.mov, [.v 5], none, none, []⟩,
 ⟨.mov, [.v 0], none, none, []⟩,
 ⟨.len false, [.p 0], none, none, []⟩,
 ⟨.bin .lss, [.p 2, .p 0], none, none, []⟩,
 ⟨.mov, [.p 0], none, none, []⟩,
 ⟨.mov, [.v 5], none, some (0, false), []⟩,
 ⟨.mov, [.v 1], none, some (1, false), []⟩,
 ⟨.len false, [.p 0], none, some (2, false), []⟩,
 ⟨.bin .lss, [.p 2, .p 0], none, some (3, false), []⟩,
 ⟨.pick, [.p 4, .c (.bool true), .p 0], none, none, []⟩,
 ⟨.mov, [.p 0], none, none, []⟩,
 ⟨.mov, [.v 4], none, some (0, false), []⟩,
 ⟨.bin .gtr, [.p 0, .c (.int .i64 0)], none, some (1, false), []⟩,
 ⟨.pick, [.p 2, .c (.bool true), .p 0], none, none, []⟩] false)
(.cond (.p 0) .skip (.exit 0)))
(.seq (.block 1 (.seq (.seq (.region [⟨.mov, [.v 5], none, none, []⟩,
 ⟨.mov, [.v 0], none, none, []⟩,
 ⟨.len false, [.p 0], none, none, []⟩,
 ⟨.bin .lss, [.p 2, .p 0], none, none, []⟩] false)
(.cond (.p 0) (.region [⟨.mov, [.v 4], none, none, []⟩,
 ⟨.mov, [.v 0], none, none, []⟩,
 ⟨.mov, [.v 5], none, none, []⟩,
 ⟨.iaddr 1, [.p 1, .p 0], none, none, []⟩,
 ⟨.load false 1, [.p 0], none, none, []⟩,
 ⟨.bin .add, [.p 4, .p 0], none, none, []⟩,
 ⟨.mov, [.p 0], some 4, none, []⟩] false) .skip))
(.seq (.seq (.region [⟨.mov, [.v 5], none, none, []⟩,
 ⟨.mov, [.v 1], none, none, []⟩,
 ⟨.len false, [.p 0], none, none, []⟩,
 ⟨.bin .lss, [.p 2, .p 0], none, none, []⟩] false)
(.cond (.p 0) (.region [⟨.mov, [.v 4], none, none, []⟩,
 ⟨.mov, [.v 1], none, none, []⟩,
 ⟨.mov, [.v 5], none, none, []⟩,
 ⟨.iaddr 1, [.p 1, .p 0], none, none, []⟩,
 ⟨.load false 1, [.p 0], none, none, []⟩,
 ⟨.bin .add, [.p 4, .p 0], none, none, []⟩,
 ⟨.mov, [.p 0], some 4, none, []⟩] false) .skip))
(.seq (.region [⟨.mov, [.v 3], none, none, []⟩,
 ⟨.mov, [.v 4], none, none, []⟩,
 ⟨.bin .rem, [.p 0, .c (.int .i64 65536)], none, none, []⟩,
 ⟨.bslice 1 (.int .i64 0) 1 [0], [.p 0], none, none, []⟩,
 ⟨.app 8 1, [.p 3, .p 0], none, none, []⟩,
 ⟨.mov, [.p 0], some 3, none, []⟩] false)
(.region [⟨.mov, [.v 4], none, none, []⟩,
 ⟨.bin .quo, [.p 0, .c (.int .i64 65536)], none, none, []⟩,
 ⟨.mov, [.p 0], some 4, none, []⟩] false)))))
(.region [⟨.mov, [.v 5], none, none, []⟩,
 ⟨.bin .add, [.p 0, .c (.int .i64 1)], none, none, []⟩,
 ⟨.mov, [.p 0], some 5, none, []⟩] false))))
def c_ashlarref1_add : RFunc := ⟨2, [0, 1, 4, 5, 6, 7],
(.seq (.region [⟨.mov, [.c (.slc true [])], some 2, none, []⟩] false)
(.seq (.region [⟨.mov, [.c (.slc true [])], some 3, none, []⟩] false)
(.seq (.region [⟨.mov, [.c (.int .i64 0)], some 4, none, []⟩] false)
(.seq (.seq (.region [⟨.mov, [.c (.int .i64 0)], some 5, none, []⟩] false)
(.block 0 l_ashlarref1_add_0))
(.seq (.region [⟨.mov, [.v 3], none, none, []⟩,
 ⟨.mov, [.p 0], some 2, none, []⟩] false)
.ret))))),
[.v 2]⟩
def l_ashlarref1_sub_0 : RCode := (.loop [true, true, false, true, true, true] (.seq (.seq (.region [⟨.mov, [.v 5], none, none, []⟩,
 ⟨.mov, [.v 0], none, none, []⟩,
 ⟨.len false, [.p 0], none, none, []⟩,
 ⟨.bin .lss, [.p 2, .p 0], none, none, []⟩] false)
(.cond (.p 0) .skip (.exit 0)))
(.seq (.block 1 (.seq (.region [⟨.mov, [.v 0], none, none, []⟩,
 ⟨.mov, [.v 5], none, none, []⟩,
 ⟨.iaddr 1, [.p 1, .p 0], none, none, []⟩,
 ⟨.load false 1, [.p 0], none, none, []⟩,
 ⟨.mov, [.v 4], none, none, []⟩,
 ⟨.bin .sub, [.p 1, .p 0], none, none, []⟩,
 ⟨.mov, [.p 0], some 6, none, []⟩] false)
(.seq (.region [⟨.mov, [.c (.int .i64 0)], some 4, none, []⟩] false)
(.seq (.seq (.region [⟨.mov, [.v 5], none, none, []⟩,
 ⟨.mov, [.v 1], none, none, []⟩,
 ⟨.len false, [.p 0], none, none, []⟩,
 ⟨.bin .lss, [.p 2, .p 0], none, none, []⟩] false)
(.cond (.p 0) (.region [⟨.mov, [.v 6], none, none, []⟩,
 ⟨.mov, [.v 1], none, none, []⟩,
 ⟨.mov, [.v 5], none, none, []⟩,
 ⟨.iaddr 1, [.p 1, .p 0], none, none, []⟩,
 ⟨.load false 1, [.p 0], none, none, []⟩,
 ⟨.bin .sub, [.p 4, .p 0], none, none, []⟩,
 ⟨.mov, [.p 0], some 6, none, []⟩] false) .skip))
(.seq (.seq (.region [⟨.mov, [.v 6], none, none, []⟩,
 ⟨.bin .lss, [.p 0, .c (.int .i64 0)], none, none, []⟩] false)
(.cond (.p 0) (.seq (.region [⟨.mov, [.v 6], none, none, []⟩,
 ⟨.bin .add, [.p 0, .c (.int .i64 65536)], none, none, []⟩,
 ⟨.mov, [.p 0], some 6, none, []⟩] false)
(.region [⟨.mov, [.c (.int .i64 1)], some 4, none, []⟩] false)) .skip))
(.region [⟨.mov, [.v 3], none, none, []⟩,
 ⟨.mov, [.v 6], none, none, []⟩,
 ⟨.bslice 1 (.int .i64 0) 1 [0], [.p 0], none, none, []⟩,
 ⟨.app 8 1, [.p 2, .p 0], none, none, []⟩,
 ⟨.mov, [.p 0], some 3, none, []⟩] false))))))
(.region [⟨.mov, [.v 5], none, none, []⟩,
 ⟨.bin .add, [.p 0, .c (.int .i64 1)], none, none, []⟩,
 ⟨.mov, [.p 0], some 5, none, []⟩] false))))
def c_ashlarref1_sub : RFunc := ⟨2, [0, 1, 4, 5, 6, 7, 8],
(.seq (.region [⟨.mov, [.c (.slc true [])], some 2, none, []⟩] false)
(.seq (.region [⟨.mov, [.c (.slc true [])], some 3, none, []⟩] false)
(.seq (.region [⟨.mov, [.c (.int .i64 0)], some 4, none, []⟩] false)
(.seq (.seq (.region [⟨.mov, [.c (.int .i64 0)], some 5, none, []⟩] false)
(.block 0 l_ashlarref1_sub_0))
(.seq (.region [⟨.mov, [.v 3], none, none, []⟩,
 ⟨.mov, [.p 0], some 2, none, []⟩] false)
.ret))))),
[.v 2]⟩
def l_ashlarref1_To_0 : RCode := (.loop [false, true, true, true, true] (.seq (.seq (.region [⟨.mov, [.v 4], none, none, []⟩,
 ⟨.faddr 1, [.v 1], none, none, []⟩,
 ⟨.load false 1, [.p 0], none, none, []⟩,
 ⟨.len false, [.p 0], none, none, []⟩,
 ⟨.bin .lss, [.p 3, .p 0], none, none, []⟩] false)
(.cond (.p 0) .skip (.exit 0)))
(.seq (.block 1 (.seq (.region [⟨.faddr 1, [.v 1], none, none, []⟩,
 ⟨.load false 1, [.p 0], none, none, []⟩,
 ⟨.mov, [.v 4], none, none, []⟩,
 ⟨.iaddr 1, [.p 1, .p 0], none, none, []⟩,
 ⟨.load false 1, [.p 0], none, none, []⟩,
 ⟨.conv .u32, [.p 0], none, none, []⟩,
 ⟨.mov, [.p 0], some 5, none, []⟩] false)
(.seq (.seq (.region [⟨.mov, [.v 4], none, none, []⟩,
 ⟨.bin .add, [.p 0, .c (.int .i64 1)], none, none, []⟩,
 ⟨.faddr 1, [.v 1], none, none, []⟩,
 ⟨.load false 1, [.p 0], none, none, []⟩,
 ⟨.len false, [.p 0], none, none, []⟩,
 ⟨.bin .lss, [.p 3, .p 0], none, none, []⟩] false)
(.cond (.p 0) (.region [⟨.mov, [.v 5], none, none, []⟩,
 ⟨.faddr 1, [.v 1], none, none, []⟩,
 ⟨.load false 1, [.p 0], none, none, []⟩,
 ⟨.mov, [.v 4], none, none, []⟩,
 ⟨.bin .add, [.p 0, .c (.int .i64 1)], none, none, []⟩,
 ⟨.iaddr 1, [.p 2, .p 0], none, none, []⟩,
 ⟨.load false 1, [.p 0], none, none, []⟩,
 ⟨.conv .u32, [.p 0], none, none, []⟩,
 ⟨.bin .mul, [.p 0, .c (.int .u32 65536)], none, none, []⟩,
 ⟨.bin .add, [.p 8, .p 0], none, none, []⟩,
 ⟨.mov, [.p 0], some 5, none, []⟩] false) .skip))
(.region [⟨.mov, [.v 3], none, none, []⟩,
 ⟨.mov, [.v 5], none, none, []⟩,
 ⟨.bslice 1 (.int .u32 0) 1 [0], [.p 0], none, none, []⟩,
 ⟨.app 4 1, [.p 2, .p 0], none, none, []⟩,
 ⟨.mov, [.p 0], some 3, none, []⟩] false))))
(.region [⟨.mov, [.v 4], none, none, []⟩,
 ⟨.bin .add, [.p 0, .c (.int .i64 2)], none, none, []⟩,
 ⟨.mov, [.p 0], some 4, none, []⟩] false))))
def c_ashlarref1_To : RFunc := ⟨1, [0, 1, 2, 3, 4, 5],
(.seq (.region [⟨.box, [.v 0], some 1, none, []⟩,
 ⟨.alloc (.agg [.bool false, .slc true []]), [], some 2, none, []⟩] false)
(.seq (.region [⟨.mov, [.c (.slc true [])], some 3, none, []⟩] false)
(.seq (.seq (.region [⟨.mov, [.c (.int .i64 0)], some 4, none, []⟩] false)
(.block 0 l_ashlarref1_To_0))
(.seq (.region [⟨.faddr 0, [.v 1], none, none, []⟩,
 ⟨.load false 1, [.p 0], none, none, []⟩,
 ⟨.mov, [.v 3], none, none, []⟩,
 ⟨.build [.bool false, .slc true []] [(0, 1), (1, 1)], [.p 1, .p 0], none, none, []⟩,
 ⟨.store 2, [.v 2, .p 0], none, none, []⟩] false)
.ret)))),
[.cell 2 true 2]⟩
def c_ashlarref1_Quo : RFunc := ⟨2, [0, 1, 2, 3, 4, 5, 6, 7, 8, 9],
(.seq (.region [⟨.box, [.v 0], some 2, none, []⟩,
 ⟨.box, [.v 1], some 3, none, []⟩,
 ⟨.alloc (.agg [.bool false, .slc true []]), [], some 4, none, []⟩,
 ⟨.alloc (.agg [.bool false, .slc true []]), [], some 5, none, []⟩] false)
(.seq (.region [⟨.faddr 1, [.v 2], none, none, []⟩,
 ⟨.load false 1, [.p 0], none, none, []⟩,
 ⟨.faddr 1, [.v 3], none, none, []⟩,
 ⟨.load false 1, [.p 0], none, none, []⟩,
 ⟨.call false 114, [.p 2, .p 0], none, none, []⟩,
 ⟨.mov, [.p 0], none, none, []⟩,
 ⟨.extract 0, [.p 0], none, none, []⟩,
 ⟨.extract 1, [.p 1], none, none, []⟩,
 ⟨.mov, [.p 1], some 6, none, []⟩,
 ⟨.mov, [.p 1], some 7, none, []⟩] false)
(.seq (.region [⟨.faddr 0, [.v 2], none, none, []⟩,
 ⟨.load false 1, [.p 0], none, none, []⟩,
 ⟨.faddr 0, [.v 3], none, none, []⟩,
 ⟨.load false 1, [.p 0], none, none, []⟩,
 ⟨.beq true, [.p 2, .p 0], none, none, []⟩,
 ⟨.mov, [.v 6], none, none, []⟩,
 ⟨.call false 71, [.p 1, .p 0], none, none, []⟩,
 ⟨.alloc (.agg [.bool false, .slc true []]), [], some 8, none, []⟩,
 ⟨.store 2, [.v 8, .p 1], none, none, []⟩] false)
(.seq (.region [⟨.faddr 0, [.v 2], none, none, []⟩,
 ⟨.load false 1, [.p 0], none, none, []⟩,
 ⟨.mov, [.v 7], none, none, []⟩,
 ⟨.call false 71, [.p 1, .p 0], none, none, []⟩,
 ⟨.alloc (.agg [.bool false, .slc true []]), [], some 9, none, []⟩,
 ⟨.store 2, [.v 9, .p 1], none, none, []⟩] false)
(.seq (.seq (.region [⟨.faddr 0, [.v 9], none, none, []⟩,
 ⟨.load false 1, [.p 0], none, none, []⟩] false)
(.cond (.p 0) (.seq (.seq (.region [⟨.faddr 0, [.v 3], none, none, []⟩,
 ⟨.load false 1, [.p 0], none, none, []⟩] false)
(.cond (.p 0) (.seq (.region [⟨.load true 2, [.v 8], none, none, []⟩,
 ⟨.call false 34, [.c (.int .i64 1)], none, none, []⟩,
 ⟨.call false 27, [.p 1, .p 0], none, none, []⟩,
 ⟨.load true 2, [.v 9], none, none, []⟩,
 ⟨.load true 2, [.v 3], none, none, []⟩,
 ⟨.call false 48, [.p 1, .p 0], none, none, []⟩,
 ⟨.store 2, [.v 4, .p 3], none, none, []⟩,
 ⟨.store 2, [.v 5, .p 1], none, none, []⟩] true)
.ret) .skip))
(.seq (.region [⟨.load true 2, [.v 8], none, none, []⟩,
 ⟨.call false 34, [.c (.int .i64 1)], none, none, []⟩,
 ⟨.call false 48, [.p 1, .p 0], none, none, []⟩,
 ⟨.load true 2, [.v 9], none, none, []⟩,
 ⟨.load true 2, [.v 3], none, none, []⟩,
 ⟨.call false 27, [.p 1, .p 0], none, none, []⟩,
 ⟨.store 2, [.v 4, .p 3], none, none, []⟩,
 ⟨.store 2, [.v 5, .p 1], none, none, []⟩] true)
.ret)) .skip))
(.seq (.region [⟨.load true 2, [.v 8], none, none, []⟩,
 ⟨.load true 2, [.v 9], none, none, []⟩,
 ⟨.store 2, [.v 4, .p 1], none, none, [.v 9]⟩,
 ⟨.store 2, [.v 5, .p 1], none, none, []⟩] true)
.ret)))))),
[.cell 4 true 2, .cell 5 true 2]⟩
def l_ashlarref1_small_0 : RCode := (.loop [true, true, false, false, true, true, true] (.seq (.seq (.region [⟨.mov, [.v 6], none, none, []⟩,
 ⟨.bin .geq, [.p 0, .c (.int .i64 0)], none, none, []⟩] false)
(.cond (.p 0) .skip (.exit 0)))
(.seq (.block 1 (.seq (.region [⟨.mov, [.v 5], none, none, []⟩,
 ⟨.bin .mul, [.p 0, .c (.int .i64 65536)], none, none, []⟩,
 ⟨.mov, [.v 0], none, none, []⟩,
 ⟨.mov, [.v 6], none, none, []⟩,
 ⟨.iaddr 1, [.p 1, .p 0], none, none, []⟩,
 ⟨.load false 1, [.p 0], none, none, []⟩,
 ⟨.bin .add, [.p 4, .p 0], none, none, []⟩,
 ⟨.mov, [.p 0], some 5, none, []⟩] false)
(.seq (.region [⟨.mov, [.v 4], none, none, []⟩,
 ⟨.mov, [.v 6], none, none, []⟩,
 ⟨.mov, [.v 5], none, none, []⟩,
 ⟨.mov, [.v 1], none, none, []⟩,
 ⟨.bin .quo, [.p 1, .p 0], none, none, []⟩,
 ⟨.iaddr 1, [.p 4, .p 3], none, none, []⟩,
 ⟨.store 1, [.p 0, .p 1], none, none, []⟩] false)
(.region [⟨.mov, [.v 5], none, none, []⟩,
 ⟨.mov, [.v 1], none, none, []⟩,
 ⟨.bin .rem, [.p 1, .p 0], none, none, []⟩,
 ⟨.mov, [.p 0], some 5, none, []⟩] false))))
(.region [⟨.mov, [.v 6], none, none, []⟩,
 ⟨.bin .sub, [.p 0, .c (.int .i64 1)], none, none, []⟩,
 ⟨.mov, [.p 0], some 6, none, []⟩] false))))
def c_ashlarref1_small : RFunc := ⟨2, [0, 1, 4, 5, 6, 7, 8],
(.seq (.region [⟨.mov, [.c (.slc true [])], some 2, none, []⟩,
 ⟨.mov, [.c (.int .i64 0)], some 3, none, []⟩] false)
(.seq (.region [⟨.mov, [.v 0], none, none, []⟩,
 ⟨.len false, [.p 0], none, none, []⟩,
 ⟨.mkslice 1 (.int .i64 0) 8, [.p 0, .p 0], none, none, []⟩,
 ⟨.mov, [.p 0], some 4, none, []⟩] false)
(.seq (.region [⟨.mov, [.c (.int .i64 0)], some 5, none, []⟩] false)
(.seq (.seq (.region [⟨.mov, [.v 0], none, none, []⟩,
 ⟨.len false, [.p 0], none, none, []⟩,
 ⟨.bin .sub, [.p 0, .c (.int .i64 1)], none, none, []⟩,
 ⟨.mov, [.p 0], some 6, none, []⟩] false)
(.block 0 l_ashlarref1_small_0))
(.seq (.region [⟨.mov, [.v 4], none, none, []⟩,
 ⟨.mov, [.v 5], none, none, []⟩,
 ⟨.mov, [.p 1], some 2, none, []⟩,
 ⟨.mov, [.p 1], some 3, none, []⟩] false)
.ret))))),
[.v 2, .v 3]⟩
def l_ashlarref1_divide_0 : RCode := (.loop [false, false, false, false, false, false, true, true, true, true, true, true, false, true, true, true, true, true] (.seq (.seq (.region [⟨.mov, [.v 17], none, none, []⟩,
 ⟨.mov, [.v 9], none, none, []⟩,
 ⟨.bin .leq, [.p 1, .p 0], none, none, []⟩] false)
(.cond (.p 0) .skip (.exit 4)))
(.seq (.block 5 (.seq (.seq (.region [⟨.mov, [.v 17], none, none, []⟩,
 ⟨.mov, [.v 9], none, none, []⟩,
 ⟨.bin .lss, [.p 1, .p 0], none, none, []⟩] false)
(.cond (.p 0) (.region [⟨.mov, [.v 14], none, none, []⟩,
 ⟨.mov, [.v 8], none, none, []⟩,
 ⟨.mov, [.v 17], none, none, []⟩,
 ⟨.iaddr 1, [.p 1, .p 0], none, none, []⟩,
 ⟨.load false 1, [.p 0], none, none, []⟩,
 ⟨.mov, [.v 13], none, none, []⟩,
 ⟨.bin .mul, [.p 1, .p 0], none, none, []⟩,
 ⟨.bin .add, [.p 6, .p 0], none, none, []⟩,
 ⟨.mov, [.p 0], some 14, none, []⟩] false) .skip))
(.seq (.region [⟨.mov, [.v 7], none, none, []⟩,
 ⟨.mov, [.v 11], none, none, []⟩,
 ⟨.mov, [.v 17], none, none, []⟩,
 ⟨.bin .add, [.p 1, .p 0], none, none, []⟩,
 ⟨.iaddr 1, [.p 3, .p 0], none, none, []⟩,
 ⟨.load false 1, [.p 0], none, none, []⟩,
 ⟨.mov, [.v 14], none, none, []⟩,
 ⟨.bin .rem, [.p 0, .c (.int .i64 65536)], none, none, []⟩,
 ⟨.bin .sub, [.p 2, .p 0], none, none, []⟩,
 ⟨.mov, [.v 15], none, none, []⟩,
 ⟨.bin .sub, [.p 1, .p 0], none, none, []⟩,
 ⟨.mov, [.p 0], some 18, none, []⟩] false)
(.seq (.region [⟨.mov, [.v 14], none, none, []⟩,
 ⟨.bin .quo, [.p 0, .c (.int .i64 65536)], none, none, []⟩,
 ⟨.mov, [.p 0], some 14, none, []⟩] false)
(.seq (.region [⟨.mov, [.c (.int .i64 0)], some 15, none, []⟩] false)
(.seq (.seq (.region [⟨.mov, [.v 18], none, none, []⟩,
 ⟨.bin .lss, [.p 0, .c (.int .i64 0)], none, none, []⟩] false)
(.cond (.p 0) (.seq (.region [⟨.mov, [.v 18], none, none, []⟩,
 ⟨.bin .add, [.p 0, .c (.int .i64 65536)], none, none, []⟩,
 ⟨.mov, [.p 0], some 18, none, []⟩] false)
(.region [⟨.mov, [.c (.int .i64 1)], some 15, none, []⟩] false)) .skip))
(.region [⟨.mov, [.v 16], none, none, []⟩,
 ⟨.mov, [.v 17], none, none, []⟩,
 ⟨.mov, [.v 18], none, none, []⟩,
 ⟨.iaddr 1, [.p 2, .p 1], none, none, []⟩,
 ⟨.store 1, [.p 0, .p 1], none, none, []⟩] false)))))))
(.region [⟨.mov, [.v 17], none, none, []⟩,
 ⟨.bin .add, [.p 0, .c (.int .i64 1)], none, none, []⟩,
 ⟨.mov, [.p 0], some 17, none, []⟩] false))))
def l_ashlarref1_divide_1 : RCode := (.loop [false, false, false, false, false, false, true, true, true, true, true, true, false, true, false, false, true, false, false, true] (.seq (.seq (.region [⟨.mov, [.v 19], none, none, []⟩,
 ⟨.mov, [.v 9], none, none, []⟩,
 ⟨.bin .leq, [.p 1, .p 0], none, none, []⟩] false)
(.cond (.p 0) .skip (.exit 6)))
(.seq (.block 7 (.region [⟨.mov, [.v 7], none, none, []⟩,
 ⟨.mov, [.v 11], none, none, []⟩,
 ⟨.mov, [.v 19], none, none, []⟩,
 ⟨.bin .add, [.p 1, .p 0], none, none, []⟩,
 ⟨.mov, [.v 16], none, none, []⟩,
 ⟨.mov, [.v 19], none, none, []⟩,
 ⟨.iaddr 1, [.p 1, .p 0], none, none, []⟩,
 ⟨.load false 1, [.p 0], none, none, []⟩,
 ⟨.iaddr 1, [.p 7, .p 4], none, none, []⟩,
 ⟨.store 1, [.p 0, .p 1], none, none, []⟩] false))
(.region [⟨.mov, [.v 19], none, none, []⟩,
 ⟨.bin .add, [.p 0, .c (.int .i64 1)], none, none, []⟩,
 ⟨.mov, [.p 0], some 19, none, []⟩] false))))
def l_ashlarref1_divide_2 : RCode := (.loop [false, false, false, false, false, false, true, true, true, true, true, true, false, true] (.block 3 (.seq (.region [⟨.mov, [.c (.int .i64 0)], some 14, none, []⟩] false)
(.seq (.region [⟨.mov, [.c (.int .i64 0)], some 15, none, []⟩] false)
(.seq (.region [⟨.mov, [.v 9], none, none, []⟩,
 ⟨.bin .add, [.p 0, .c (.int .i64 1)], none, none, []⟩,
 ⟨.mkslice 1 (.int .i64 0) 8, [.p 0, .p 0], none, none, []⟩,
 ⟨.mov, [.p 0], some 16, none, []⟩] false)
(.seq (.seq (.region [⟨.mov, [.c (.int .i64 0)], some 17, none, []⟩] false)
(.block 4 l_ashlarref1_divide_0))
(.seq (.seq (.region [⟨.mov, [.v 15], none, none, []⟩,
 ⟨.bin .eql, [.p 0, .c (.int .i64 0)], none, none, []⟩] false)
(.cond (.p 0) (.seq (.seq (.region [⟨.mov, [.c (.int .i64 0)], some 19, none, []⟩] false)
(.block 6 l_ashlarref1_divide_1))
(.exit 2)) .skip))
(.region [⟨.mov, [.v 13], none, none, []⟩,
 ⟨.bin .sub, [.p 0, .c (.int .i64 1)], none, none, []⟩,
 ⟨.mov, [.p 0], some 13, none, []⟩] false))))))))
def l_ashlarref1_divide_3 : RCode := (.loop [false, false, false, false, false, false, true, true, true, true, true, true] (.seq (.seq (.region [⟨.mov, [.v 11], none, none, []⟩,
 ⟨.bin .geq, [.p 0, .c (.int .i64 0)], none, none, []⟩] false)
(.cond (.p 0) .skip (.exit 0)))
(.seq (.block 1 (.seq (.region [⟨.mov, [.v 7], none, none, []⟩,
 ⟨.mov, [.v 11], none, none, []⟩,
 ⟨.mov, [.v 9], none, none, []⟩,
 ⟨.bin .add, [.p 1, .p 0], none, none, []⟩,
 ⟨.iaddr 1, [.p 3, .p 0], none, none, []⟩,
 ⟨.load false 1, [.p 0], none, none, []⟩,
 ⟨.bin .mul, [.p 0, .c (.int .i64 65536)], none, none, []⟩,
 ⟨.mov, [.v 7], none, none, []⟩,
 ⟨.mov, [.v 11], none, none, []⟩,
 ⟨.mov, [.v 9], none, none, []⟩,
 ⟨.bin .add, [.p 1, .p 0], none, none, []⟩,
 ⟨.bin .sub, [.p 0, .c (.int .i64 1)], none, none, []⟩,
 ⟨.iaddr 1, [.p 4, .p 0], none, none, []⟩,
 ⟨.load false 1, [.p 0], none, none, []⟩,
 ⟨.bin .add, [.p 7, .p 0], none, none, []⟩,
 ⟨.mov, [.p 0], some 12, none, []⟩] true)
(.seq (.region [⟨.mov, [.v 12], none, none, []⟩,
 ⟨.mov, [.v 8], none, none, []⟩,
 ⟨.mov, [.v 9], none, none, []⟩,
 ⟨.bin .sub, [.p 0, .c (.int .i64 1)], none, none, []⟩,
 ⟨.iaddr 1, [.p 2, .p 0], none, none, []⟩,
 ⟨.load false 1, [.p 0], none, none, []⟩,
 ⟨.bin .quo, [.p 5, .p 0], none, none, []⟩,
 ⟨.mov, [.p 0], some 13, none, []⟩] false)
(.seq (.seq (.region [⟨.mov, [.v 13], none, none, []⟩,
 ⟨.bin .geq, [.p 0, .c (.int .i64 65536)], none, none, []⟩] false)
(.cond (.p 0) (.region [⟨.mov, [.c (.int .i64 65535)], some 13, none, []⟩] false) .skip))
(.seq (.block 2 l_ashlarref1_divide_2)
(.region [⟨.mov, [.v 10], none, none, []⟩,
 ⟨.mov, [.v 11], none, none, []⟩,
 ⟨.mov, [.v 13], none, none, []⟩,
 ⟨.iaddr 1, [.p 2, .p 1], none, none, []⟩,
 ⟨.store 1, [.p 0, .p 1], none, none, []⟩] false))))))
(.region [⟨.mov, [.v 11], none, none, []⟩,
 ⟨.bin .sub, [.p 0, .c (.int .i64 1)], none, none, []⟩,
 ⟨.mov, [.p 0], some 11, none, []⟩] false))))
def c_ashlarref1_divide : RFunc := ⟨2, [0, 1, 4, 5, 6, 7, 8, 9, 10, 11, 12, 13, 14, 15, 16, 17, 18, 19, 20, 21, 22],
(.seq (.region [⟨.mov, [.c (.slc true [])], some 2, none, []⟩,
 ⟨.mov, [.c (.slc true [])], some 3, none, []⟩] false)
(.seq (.seq (.region [⟨.mov, [.v 0], none, none, []⟩,
 ⟨.mov, [.v 1], none, none, []⟩,
 ⟨.call false 90, [.p 1, .p 0], none, none, []⟩,
 ⟨.bin .lss, [.p 0, .c (.int .i64 0)], none, none, []⟩] false)
(.cond (.p 0) (.seq (.region [⟨.mov, [.v 0], none, none, []⟩,
 ⟨.mov, [.c (.slc true [])], some 2, none, []⟩,
 ⟨.mov, [.p 1], some 3, none, []⟩] false)
.ret) .skip))
(.seq (.seq (.region [⟨.mov, [.v 1], none, none, []⟩,
 ⟨.len false, [.p 0], none, none, []⟩,
 ⟨.bin .eql, [.p 0, .c (.int .i64 1)], none, none, []⟩] false)
(.cond (.p 0) (.seq (.region [⟨.mov, [.v 0], none, none, []⟩,
 ⟨.mov, [.v 1], none, none, []⟩,
 ⟨.iaddr 1, [.p 0, .c (.int .i64 0)], none, none, []⟩,
 ⟨.load false 1, [.p 0], none, none, []⟩,
 ⟨.call false 101, [.p 3, .p 0], none, none, []⟩,
 ⟨.mov, [.p 0], none, none, []⟩,
 ⟨.extract 0, [.p 0], none, none, []⟩,
 ⟨.extract 1, [.p 1], none, none, []⟩,
 ⟨.mov, [.p 1], some 4, none, []⟩,
 ⟨.mov, [.p 1], some 5, none, []⟩] false)
(.seq (.region [⟨.mov, [.v 4], none, none, []⟩,
 ⟨.mov, [.v 5], none, none, []⟩,
 ⟨.bslice 1 (.int .i64 0) 1 [0], [.p 0], none, none, []⟩,
 ⟨.mov, [.p 2], some 2, none, []⟩,
 ⟨.mov, [.p 1], some 3, none, []⟩] false)
.ret)) .skip))
(.seq (.region [⟨.mov, [.v 1], none, none, []⟩,
 ⟨.mov, [.v 1], none, none, []⟩,
 ⟨.len false, [.p 0], none, none, []⟩,
 ⟨.bin .sub, [.p 0, .c (.int .i64 1)], none, none, []⟩,
 ⟨.iaddr 1, [.p 3, .p 0], none, none, []⟩,
 ⟨.load false 1, [.p 0], none, none, []⟩,
 ⟨.bin .add, [.p 0, .c (.int .i64 1)], none, none, []⟩,
 ⟨.bin .quo, [.c (.int .i64 65536), .p 0], none, none, []⟩,
 ⟨.mov, [.p 0], some 6, none, []⟩] false)
(.seq (.region [⟨.mov, [.v 0], none, none, []⟩,
 ⟨.mov, [.v 6], none, none, []⟩,
 ⟨.call true 120, [.p 1, .p 0], none, none, []⟩,
 ⟨.mov, [.p 0], some 7, none, []⟩] false)
(.seq (.region [⟨.mov, [.v 1], none, none, []⟩,
 ⟨.mov, [.v 6], none, none, []⟩,
 ⟨.call true 120, [.p 1, .p 0], none, none, []⟩,
 ⟨.call false 71, [.c (.bool false), .p 0], none, none, []⟩,
 ⟨.fld false 1 1, [.p 0], none, none, []⟩,
 ⟨.mov, [.p 0], some 8, none, []⟩] false)
(.seq (.region [⟨.mov, [.v 8], none, none, []⟩,
 ⟨.len false, [.p 0], none, none, []⟩,
 ⟨.mov, [.p 0], some 9, none, []⟩] false)
(.seq (.region [⟨.mov, [.v 7], none, none, []⟩,
 ⟨.len false, [.p 0], none, none, []⟩,
 ⟨.mov, [.v 9], none, none, []⟩,
 ⟨.bin .sub, [.p 1, .p 0], none, none, []⟩,
 ⟨.mkslice 1 (.int .i64 0) 8, [.p 0, .p 0], none, none, []⟩,
 ⟨.mov, [.p 0], some 10, none, []⟩] false)
(.seq (.seq (.region [⟨.mov, [.v 7], none, none, []⟩,
 ⟨.len false, [.p 0], none, none, []⟩,
 ⟨.mov, [.v 9], none, none, []⟩,
 ⟨.bin .sub, [.p 1, .p 0], none, none, []⟩,
 ⟨.bin .sub, [.p 0, .c (.int .i64 1)], none, none, []⟩,
 ⟨.mov, [.p 0], some 11, none, []⟩] false)
(.block 0 l_ashlarref1_divide_3))
(.seq (.region [⟨.mov, [.v 7], none, none, []⟩,
 ⟨.call false 71, [.c (.bool false), .p 0], none, none, []⟩,
 ⟨.fld false 1 1, [.p 0], none, none, []⟩,
 ⟨.mov, [.v 6], none, none, []⟩,
 ⟨.call false 101, [.p 1, .p 0], none, none, []⟩,
 ⟨.mov, [.p 0], none, none, []⟩,
 ⟨.extract 0, [.p 0], none, none, []⟩,
 ⟨.extract 1, [.p 1], none, none, []⟩,
 ⟨.mov, [.p 1], some 20, none, []⟩,
 ⟨.mov, [.p 1], none, none, []⟩] false)
(.seq (.region [⟨.mov, [.v 10], none, none, []⟩,
 ⟨.mov, [.v 20], none, none, []⟩,
 ⟨.mov, [.p 1], some 2, none, []⟩,
 ⟨.mov, [.p 1], some 3, none, []⟩] false)
.ret))))))))))),
[.v 2, .v 3]⟩
def l_ashlarref1_times_0 : RCode := (.loop [true, true, false, true, true, true] (.seq (.seq (.region [⟨.mov, [.v 5], none, none, []⟩,
 ⟨.mov, [.v 0], none, none, []⟩,
 ⟨.len false, [.p 0], none, none, []⟩,
 ⟨.bin .lss, [.p 2, .p 0], none, none, []⟩] false)
(.cond (.p 0) .skip (.exit 0)))
(.seq (.block 1 (.seq (.region [⟨.mov, [.v 4], none, none, []⟩,
 ⟨.mov, [.v 0], none, none, []⟩,
 ⟨.mov, [.v 5], none, none, []⟩,
 ⟨.iaddr 1, [.p 1, .p 0], none, none, []⟩,
 ⟨.load false 1, [.p 0], none, none, []⟩,
 ⟨.mov, [.v 1], none, none, []⟩,
 ⟨.bin .mul, [.p 1, .p 0], none, none, []⟩,
 ⟨.bin .add, [.p 6, .p 0], none, none, []⟩,
 ⟨.mov, [.p 0], some 4, none, []⟩] false)
(.seq (.region [⟨.mov, [.v 3], none, none, []⟩,
 ⟨.mov, [.v 5], none, none, []⟩,
 ⟨.mov, [.v 4], none, none, []⟩,
 ⟨.bin .rem, [.p 0, .c (.int .i64 65536)], none, none, []⟩,
 ⟨.iaddr 1, [.p 3, .p 2], none, none, []⟩,
 ⟨.store 1, [.p 0, .p 1], none, none, []⟩] false)
(.region [⟨.mov, [.v 4], none, none, []⟩,
 ⟨.bin .quo, [.p 0, .c (.int .i64 65536)], none, none, []⟩,
 ⟨.mov, [.p 0], some 4, none, []⟩] false))))
(.region [⟨.mov, [.v 5], none, none, []⟩,
 ⟨.bin .add, [.p 0, .c (.int .i64 1)], none, none, []⟩,
 ⟨.mov, [.p 0], some 5, none, []⟩] false))))
def c_ashlarref1_times : RFunc := ⟨2, [0, 1, 4, 5, 6, 7],
(.seq (.region [⟨.mov, [.c (.slc true [])], some 2, none, []⟩] false)
(.seq (.region [⟨.mov, [.v 0], none, none, []⟩,
 ⟨.len false, [.p 0], none, none, []⟩,
 ⟨.bin .add, [.p 0, .c (.int .i64 1)], none, none, []⟩,
 ⟨.mkslice 1 (.int .i64 0) 8, [.p 0, .p 0], none, none, []⟩,
 ⟨.mov, [.p 0], some 3, none, []⟩] false)
(.seq (.region [⟨.mov, [.c (.int .i64 0)], some 4, none, []⟩] false)
(.seq (.seq (.region [⟨.mov, [.c (.int .i64 0)], some 5, none, []⟩] false)
(.block 0 l_ashlarref1_times_0))
(.seq (.region [⟨.mov, [.v 3], none, none, []⟩,
 ⟨.mov, [.v 0], none, none, []⟩,
 ⟨.len false, [.p 0], none, none, []⟩,
 ⟨.mov, [.v 4], none, none, []⟩,
 ⟨.iaddr 1, [.p 3, .p 1], none, none, []⟩,
 ⟨.store 1, [.p 0, .p 1], none, none, []⟩] false)
(.seq (.region [⟨.mov, [.v 3], none, none, []⟩,
 ⟨.mov, [.p 0], some 2, none, []⟩] false)
.ret)))))),
[.v 2]⟩
class CodeRef1 (F : Nat → Option RFunc) : Prop where
  ashlarref1_From : F 10 = some c_ashlarref1_From
  ashlarref1_Sign : F 25 = some c_ashlarref1_Sign
  ashlarref1_Cmp : F 28 = some c_ashlarref1_Cmp
  ashlarref1_Add : F 27 = some c_ashlarref1_Add
  ashlarref1_Mul : F 26 = some c_ashlarref1_Mul
  ashlarref1_Is : F 29 = some c_ashlarref1_Is
  ashlarref1_Abs : F 30 = some c_ashlarref1_Abs
  ashlarref1_Of : F 34 = some c_ashlarref1_Of
  ashlarref1_Gcd : F 37 = some c_ashlarref1_Gcd
  ashlarref1_Mod : F 41 = some c_ashlarref1_Mod
  ashlarref1_Eq : F 44 = some c_ashlarref1_Eq
  ashlarref1_Sub : F 48 = some c_ashlarref1_Sub
  ashlarref1_Neg : F 50 = some c_ashlarref1_Neg
  ashlarref1_Bits : F 54 = some c_ashlarref1_Bits
  ashlarref1_Read : F 58 = some c_ashlarref1_Read
  ashlarref1_Text : F 59 = some c_ashlarref1_Text
  ashlarref1_Power : F 62 = some c_ashlarref1_Power
  ashlarref1_trim : F 71 = some c_ashlarref1_trim
  ashlarref1_cmp : F 90 = some c_ashlarref1_cmp
  ashlarref1_add : F 91 = some c_ashlarref1_add
  ashlarref1_sub : F 92 = some c_ashlarref1_sub
  ashlarref1_To : F 93 = some c_ashlarref1_To
  ashlarref1_Quo : F 94 = some c_ashlarref1_Quo
  ashlarref1_small : F 101 = some c_ashlarref1_small
  ashlarref1_divide : F 114 = some c_ashlarref1_divide
  ashlarref1_times : F 120 = some c_ashlarref1_times
def tabCodeRef1 : List (Nat × RFunc) := [(10, c_ashlarref1_From), (25, c_ashlarref1_Sign), (28, c_ashlarref1_Cmp), (27, c_ashlarref1_Add), (26, c_ashlarref1_Mul), (29, c_ashlarref1_Is), (30, c_ashlarref1_Abs), (34, c_ashlarref1_Of), (37, c_ashlarref1_Gcd), (41, c_ashlarref1_Mod), (44, c_ashlarref1_Eq), (48, c_ashlarref1_Sub), (50, c_ashlarref1_Neg), (54, c_ashlarref1_Bits), (58, c_ashlarref1_Read), (59, c_ashlarref1_Text), (62, c_ashlarref1_Power), (71, c_ashlarref1_trim), (90, c_ashlarref1_cmp), (91, c_ashlarref1_add), (92, c_ashlarref1_sub), (93, c_ashlarref1_To), (94, c_ashlarref1_Quo), (101, c_ashlarref1_small), (114, c_ashlarref1_divide), (120, c_ashlarref1_times)]
end Go.Ash
/- The document's integers: trim, cmp, Sign, Abs, Neg, Cmp. -/
namespace Go.Ash
variable {F : Nat → Option RFunc} [h : CodeRef1 F]

theorem rtrim_loop (neg nl : Bool) (d : List Nat) (b : Blk) (hb : idsL b.elems = []) (hd : LimW d) (hlen : d.length < 2^40) :
    ∃ e st, (∀ env, exec F l_ashlarref1_trim_0 ⟨[.bool neg, .slc nl (i64s d), .mptr 0 0 0, .int .i64 d.length], env, [some b], 0⟩ = some (e, st)) ∧
      (e = .exit 0 ∧ st = ⟨[.bool neg, .slc nl (i64s d), .mptr 0 0 0, .int .i64 (DW (ew d)).length], [], [some b], 0⟩) := by
  refine loop_rule
    (fun n st => st = ⟨[.bool neg, .slc nl (i64s d), .mptr 0 0 0, .int .i64 n], [], [some b], 0⟩ ∧ n ≤ d.length ∧ ew (d.take n) = ew d) _ d.length _ ?_
    (tidy_one (by simp) hb) ⟨rfl, Nat.le_refl _, by simp⟩
  rintro n st ⟨rfl, hn, hev⟩
  rcases Nat.eq_zero_or_pos n with rfl | hpos
  · refine .out (.exit 0) _ (by simp) ⟨rfl, rfl⟩ ?_
    rw [← hev]
    simp [after, ew]
  · obtain ⟨n, rfl⟩ : ∃ k, n = k + 1 := ⟨n - 1, by omega⟩
    have hnl : n < d.length := hn
    by_cases h0 : d[n] = 0
    · refine .more n _ (by omega) ⟨rfl, by omega, ?_⟩ ?_
      · rw [← hev, ew_take_succ hnl, h0]; simp
      · simp (disch := first | omega | simp) [after, tidy_one, if_pos, if_neg, decide_eq_true, wrap_i64, h0, hb]
    · have ht : DW (ew d) = d.take (n + 1) := by
        rw [← hev]
        refine DW_ew (limW_take hd _) (fun hne => ?_)
        rw [List.getLast_eq_getElem]
        simp only [List.length_take, Nat.min_eq_left hn, Nat.add_sub_cancel, List.getElem_take]
        exact h0
      have hlen' : (DW (ew d)).length = n + 1 := by rw [ht]; simp; omega
      refine .out (.exit 0) _ (by simp) ⟨rfl, rfl⟩ ?_
      rw [hlen']
      simp (disch := first | omega | simp) [after, if_pos, if_neg, decide_eq_true, wrap_i64, h0]

@[simp] theorem bounds_ftt {n k k' h m} : bounds n false true true [.int k h, .int k' m] = if 0 ≤ h ∧ h ≤ m ∧ m ≤ n then some (0, h.toNat) else none := by
  simp only [bounds]
  by_cases h1 : 0 ≤ m ∧ m ≤ n
  · rw [if_pos h1, Option.bind_some]
    by_cases h2 : 0 ≤ h ∧ h ≤ ((m.toNat : Nat) : Int)
    · rw [if_pos h2, if_pos (by omega)]; rfl
    · rw [if_neg h2, if_neg (by omega)]; rfl
  · rw [if_neg h1, if_neg (by omega)]; rfl

theorem pc_rtrim (neg nl : Bool) (d : List Nat) (hd : LimW d) (hlen : d.length < 2^40) : pureCall (run F) 71 [.bool neg, .slc nl (i64s d)] = some (RI nl (sgn neg (ew d))) := by
  obtain ⟨e, st, he, rfl, rfl⟩ := rtrim_loop (F := F) neg nl d ⟨false, 2, [.agg [.bool false, .slc true []]]⟩ (by simp) hd hlen
  have hle := len_DW_ew hd
  have htk := take_DW d hd
  refine pure_ret h.ashlarref1_trim rfl ?_
  by_cases h0 : ew d = 0
  · have : RI nl (sgn neg (ew d)) = .agg [.bool false, .slc nl []] := by rw [h0]; cases neg <;> simp [RI, sgn, i64s]
    rw [this]
    rw [h0, DW_zero] at he
    cases neg <;> simp (disch := first | omega | simp) [c_ashlarref1_trim, he, if_pos, fillA, setAll, i64s_take, putElem, putAgg]
  · have hpos : 0 < (DW (ew d)).length := List.length_pos_iff.2 (by simpa using h0)
    have : RI nl (sgn neg (ew d)) = .agg [.bool neg, .slc nl (i64s (DW (ew d)))] := by
      cases neg <;> simp [RI, sgn, h0] <;> omega
    rw [this]
    cases neg <;> simp (disch := first | omega | simp) [c_ashlarref1_trim, he, if_pos, decide_eq_true, fillA, setAll, i64s_take, putElem, putAgg, htk]

theorem rcmp_lt {a b p u v : Nat} (ha : a < p) (h : u < v) : a + p * u < b + p * v := by
  have := Nat.mul_le_mul_left p (Nat.succ_le_of_lt h)
  rw [Nat.mul_succ] at this
  omega

theorem rcmp_loop (nx ny : Bool) (x y : List Nat) (hx : LimW x) (hy : LimW y) (hxy : x.length = y.length) (hlen : x.length < 2^40) :
    ∃ e st, (∀ env, exec F l_ashlarref1_cmp_0 ⟨[.slc nx (i64s x), .slc ny (i64s y), .int .i64 0, .int .i64 ((x.length : Int) - 1)], env, [], 0⟩ = some (e, st)) ∧
      ((ew x = ew y ∧ e = .exit 0 ∧ ∃ a b c d, st = ⟨[a, b, c, d], [], [], 0⟩) ∨ (ew x ≠ ew y ∧ e = .ret ∧ ∃ a b c, st = ⟨[a, b, .int .i64 (if ew x < ew y then -1 else 1), c], [], [], 0⟩)) := by
  refine loop_rule
    (fun n st => st = ⟨[.slc nx (i64s x), .slc ny (i64s y), .und, .int .i64 ((n : Int) - 1)], [], [], 0⟩ ∧ n ≤ x.length ∧ ew (x.drop n) = ew (y.drop n)) _ x.length _ ?_
    (tidy_none (by simp)) ⟨rfl, Nat.le_refl _, by rw [List.drop_of_length_le (Nat.le_refl _), List.drop_of_length_le (by omega)]⟩
  rintro n st ⟨rfl, hn, hev⟩
  rcases Nat.eq_zero_or_pos n with rfl | hpos
  · refine .out (.exit 0) _ (by simp) (.inl ⟨by simpa using hev, rfl, .slc nx (i64s x), .slc ny (i64s y), .und, .int .i64 (-1), rfl⟩) ?_
    simp [after]
  · obtain ⟨n, rfl⟩ : ∃ k, n = k + 1 := ⟨n - 1, by omega⟩
    have hidx : ((n + 1 : Nat) : Int) - 1 = n := by omega
    have hnx : n < x.length := hn
    have hny : n < y.length := by omega
    rw [hidx]
    have split : ∀ (l : List Nat), ew l = ew (l.take n) + B16 ^ (l.take n).length * ew (l.drop n) := fun l => by rw [← ew_append, List.take_append_drop]
    have sx := split x
    have sy := split y
    rw [List.length_take, Nat.min_eq_left (by omega), drop_ew hnx] at sx
    rw [List.length_take, Nat.min_eq_left (by omega), drop_ew hny, ← hev] at sy
    have lx := ew_lt (limW_take hx n)
    have ly := ew_lt (limW_take hy n)
    rw [List.length_take, Nat.min_eq_left (by omega)] at lx ly
    by_cases h0 : x[n] = y[n]
    · refine .more n _ (by omega) ⟨rfl, by omega, by rw [drop_ew hnx, drop_ew hny, h0, hev]⟩ ?_
      simp (disch := first | omega | simp) [after, tidy_none, if_pos, if_neg, decide_eq_true, decide_eq_false, wrap_i64, h0]
    · rcases Nat.lt_or_gt_of_ne h0 with hlt | hgt
      · have h1 : ew x < ew y := by rw [sx, sy]; exact rcmp_lt lx (by omega)
        refine .out .ret _ (by simp) (.inr ⟨by omega, rfl, .slc nx (i64s x), .slc ny (i64s y), .int .i64 n, rfl⟩) ?_
        simp (disch := first | omega | simp) [after, if_pos, if_neg, decide_eq_true, decide_eq_false, wrap_i64]
      · have h1 : ew y < ew x := by rw [sx, sy]; exact rcmp_lt ly (by omega)
        refine .out .ret _ (by simp) (.inr ⟨by omega, rfl, .slc nx (i64s x), .slc ny (i64s y), .int .i64 n, rfl⟩) ?_
        simp (disch := first | omega | simp) [after, if_pos, if_neg, decide_eq_true, decide_eq_false, wrap_i64]

theorem DW_len_lt {a b : Nat} (h : (DW a).length < (DW b).length) : a < b := by
  rcases Nat.lt_or_ge a b with h' | h'
  · exact h'
  · have := DW_len_mono h'; omega

theorem pc_rcmp (nx ny : Bool) (a b : Nat) (ha : (DW a).length < 2^39) (hb : (DW b).length < 2^39) : pureCall (run F) 90 [.slc nx (i64s (DW a)), .slc ny (i64s (DW b))] = some (.int .i64 (cmpI a b)) := by
  refine pure_ret h.ashlarref1_cmp rfl ?_
  by_cases hl : (DW a).length = (DW b).length
  · obtain ⟨e, st, he, hq⟩ := rcmp_loop (F := F) nx ny (DW a) (DW b) (limW_DW a) (limW_DW b) hl (by omega)
    rw [ew_DW, ew_DW] at hq
    rw [hl] at he
    rcases hq with ⟨hab, rfl, p, q, r, s, rfl⟩ | ⟨hab, rfl, p, q, r, rfl⟩
    · have hc : cmpI a b = 0 := by unfold cmpI; rw [if_neg (by omega), if_pos hab]
      rw [hc]
      simp (disch := first | omega | simp) [c_ashlarref1_cmp, hl, wrap_i64, he]
    · have hc : cmpI a b = if a < b then -1 else 1 := by unfold cmpI; rw [if_neg hab]
      rw [hc]
      simp (disch := first | omega | simp) [c_ashlarref1_cmp, hl, wrap_i64, he]
  · rcases Nat.lt_or_gt_of_ne hl with hlt | hgt
    · have hab := DW_len_lt hlt
      have hc : cmpI a b = -1 := by unfold cmpI; rw [if_pos hab]
      rw [hc]
      simp (disch := first | omega | simp) [c_ashlarref1_cmp, if_pos, if_neg, decide_eq_true, decide_eq_false, wrap_i64]
    · have hab := DW_len_lt hgt
      have hc : cmpI a b = 1 := by unfold cmpI; rw [if_neg (by omega), if_neg (by omega)]
      rw [hc]
      simp (disch := first | omega | simp) [c_ashlarref1_cmp, if_pos, if_neg, decide_eq_true, decide_eq_false, wrap_i64]

theorem rsign (nl : Bool) (z : Int) : pureCall (run F) 25 [RI nl z] = some (.int .i64 (cmpZ z 0)) := by
  refine pure_ret h.ashlarref1_Sign rfl ?_
  unfold cmpZ
  rcases Int.lt_trichotomy z 0 with h1 | h1 | h1
  · have h0 : ¬ z = 0 := by omega
    simp (disch := first | omega | simp) [c_ashlarref1_Sign, RI, h0, h1]
  · subst h1
    simp [c_ashlarref1_Sign, RI]
  · have h0 : ¬ z = 0 := by omega
    simp (disch := first | omega | simp) [c_ashlarref1_Sign, RI, h0, if_neg, decide_eq_false]

theorem rabs (nl : Bool) (z : Int) : pureCall (run F) 30 [RI nl z] = some (RI nl (z.natAbs : Int)) := by
  have e : RI nl (z.natAbs : Int) = .agg [.bool false, .slc nl (i64s (DW z.natAbs))] := by
    simp only [RI, Int.natAbs_natCast]; congr 3
  rw [e]
  refine pure_ret h.ashlarref1_Abs rfl ?_
  simp [c_ashlarref1_Abs, RI, fillA, setAll, putElem, putAgg]

theorem rneg (nl : Bool) (z : Int) (hz : (DW z.natAbs).length < 2^39) : pureCall (run F) 50 [RI nl z] = some (RI nl (-z)) := by
  have ht := pc_rtrim (F := F) (!decide (z < 0)) nl (DW z.natAbs) (limW_DW _) (by omega)
  rw [ew_DW] at ht
  have e : sgn (!decide (z < 0)) z.natAbs = -z := by
    by_cases h : z < 0 <;> simp [sgn, h] <;> first | done | omega
  rw [e] at ht
  refine pure_ret h.ashlarref1_Neg rfl ?_
  have e2 : RI nl z = .agg [.bool (decide (z < 0)), .slc nl (i64s (DW z.natAbs))] := rfl
  rw [e2]
  generalize decide (z < 0) = s at *
  simp [c_ashlarref1_Neg, any_pure, ht]

theorem rCmp (n1 n2 : Bool) (x y : Int) (hx : (DW x.natAbs).length < 2^39) (hy : (DW y.natAbs).length < 2^39) : pureCall (run F) 28 [RI n1 x, RI n2 y] = some (.int .i64 (cmpZ x y)) := by
  have h1 := rsign (F := F) n1 x
  have h2 := rsign (F := F) n2 y
  have h3 := pc_rcmp (F := F) n1 n2 x.natAbs y.natAbs hx hy
  unfold cmpZ at h1 h2 ⊢
  unfold cmpI at h3
  refine pure_ret h.ashlarref1_Cmp rfl ?_
  rcases Int.lt_trichotomy x 0 with a1 | a1 | a1 <;> rcases Int.lt_trichotomy y 0 with a2 | a2 | a2 <;> rcases Int.lt_trichotomy x y with a3 | a3 | a3 <;> first
    | (exfalso; omega)
    | (simp (disch := omega) only [if_pos, if_neg] at h1 h2 h3 ⊢
       simp (disch := first | omega | simp) [c_ashlarref1_Cmp, any_pure, h1, h2, h3, wrap_i64])
end Go.Ash
/- The document's integers: add, sub, Add, Sub. -/
namespace Go.Ash
variable {F : Nat → Option RFunc} [h : CodeRef1 F]

/-- A slice that grows from nothing: what it is, and its block. -/
def gv (id : Nat) (l : List Nat) : AVal := if l = [] then .slc true [] else .mslc id 0 l.length
def gb (l : List Nat) : Heap := if l = [] then [] else [some ⟨false, 1, i64s l⟩]
theorem gv_nil (id : Nat) : gv id [] = .slc true [] := rfl
theorem gb_nil : gb [] = [] := rfl
theorem gv_cons {id : Nat} {l : List Nat} (h : l ≠ []) : gv id l = .mslc id 0 l.length := by simp [gv, h]
theorem gb_cons {l : List Nat} (h : l ≠ []) : gb l = [some ⟨false, 1, i64s l⟩] := by simp [gb, h]
theorem gv_snoc (id : Nat) (l : List Nat) (v : Nat) : gv id (l ++ [v]) = .mslc id 0 (l.length + 1) := by rw [gv_cons (by simp)]; simp
theorem gb_snoc (l : List Nat) (v : Nat) : gb (l ++ [v]) = [some ⟨false, 1, i64s (l ++ [v])⟩] := gb_cons (by simp)
theorem i64s_one (n : Nat) : i64s [n] = [.int .i64 (n : Int)] := rfl
theorem i64s_snoc (l : List Nat) (n : Nat) : i64s l ++ [.int .i64 (n : Int)] = i64s (l ++ [n]) := by simp [i64s]
theorem i64s_take_len (l : List Nat) : (i64s l).take l.length = i64s l := List.take_of_length_le (by simp)

theorem i64_mod (n : Nat) : (n : Int).tmod 65536 = ((n % 65536 : Nat) : Int) := tmod_nat n 65536
theorem i64_div (n : Nat) : (n : Int).tdiv 65536 = ((n / 65536 : Nat) : Int) := tdiv_nat n 65536

theorem radd_loop (nx ny : Bool) (x y : List Nat) (hx : LimW x) (hy : LimW y) (hlx : x.length < 2^39) (hly : y.length < 2^39) :
    ∃ e st, (∀ env, exec F l_ashlarref1_add_0 ⟨[.slc nx (i64s x), .slc ny (i64s y), .slc true [], .slc true [], .int .i64 0, .int .i64 0], env, [], 0⟩ = some (e, st)) ∧
      (e = .exit 0 ∧ ∃ d i, st = ⟨[.slc nx (i64s x), .slc ny (i64s y), .und, gv 0 d, .int .i64 0, i], [], gb d, 0⟩ ∧ d.length ≤ max x.length y.length + 1 ∧ LimW d ∧ ew d = ew x + ew y) := by
  refine loop_rule
    (fun n st => ∃ (d : List Nat) (c i : Nat), st = ⟨[.slc nx (i64s x), .slc ny (i64s y), .und, gv 0 d, .int .i64 c, .int .i64 i], [], gb d, 0⟩ ∧ n = 2 * (max x.length y.length - i) + c ∧ d.length = i ∧ LimW d ∧ c ≤ 1 ∧
      i ≤ max x.length y.length + 1 ∧ (i = max x.length y.length + 1 → c = 0) ∧ ew d + B16 ^ i * c = ew (x.take i) + ew (y.take i)) _ (2 * max x.length y.length) _ ?_
    (tidy_none (by simp)) ⟨[], 0, 0, rfl, by omega, rfl, (fun a ha => by cases ha), by omega, by omega, fun _ => rfl, by simp [ew]⟩
  rintro n st ⟨d, c, i, rfl, hn, hdl, hdlim, hc, hi, hic, hev⟩
  by_cases hout : x.length ≤ i ∧ y.length ≤ i ∧ c = 0
  · obtain ⟨h1, h2, rfl⟩ := hout
    refine .out (.exit 0) _ (by simp) ⟨rfl, d, .int .i64 i, rfl, by omega, hdlim, ?_⟩ ?_
    · rw [List.take_of_length_le h1, List.take_of_length_le h2] at hev
      simpa using hev
    · simp (disch := first | omega | simp) [after, if_pos, if_neg, decide_eq_false]
  · have key : ∀ (a b : Nat), a < 65536 → b < 65536 → ew (x.take (i + 1)) = ew (x.take i) + B16 ^ i * a → ew (y.take (i + 1)) = ew (y.take i) + B16 ^ i * b → (i < max x.length y.length ∨ (a = 0 ∧ b = 0)) →
        (d ++ [(c + a + b) % 65536]).length = i + 1 ∧ LimW (d ++ [(c + a + b) % 65536]) ∧ (c + a + b) / 65536 ≤ 1 ∧ i + 1 ≤ max x.length y.length + 1 ∧ (i + 1 = max x.length y.length + 1 → (c + a + b) / 65536 = 0) ∧
          ew (d ++ [(c + a + b) % 65536]) + B16 ^ (i + 1) * ((c + a + b) / 65536) = ew (x.take (i + 1)) + ew (y.take (i + 1)) := by
      intro a b ha hb ea eb hor
      refine ⟨by simp [hdl], limW_append hdlim (by intro z hz; simp at hz; subst hz; exact Nat.mod_lt _ (by decide)), by omega, by omega, by omega, ?_⟩
      rw [ew_snoc, hdl, ea, eb, Nat.pow_succ]
      have hdm := Nat.div_add_mod (c + a + b) 65536
      have e5 : B16 ^ i * (65536 * ((c + a + b) / 65536) + (c + a + b) % 65536) = B16 ^ i * (c + a + b) := by rw [hdm]
      have e8 : B16 ^ i * (B16 * ((c + a + b) / 65536)) = B16 ^ i * (65536 * ((c + a + b) / 65536)) := rfl
      rw [Nat.mul_assoc]
      simp only [Nat.mul_add] at e5 hev ⊢
      omega
    have xt : x.length ≤ i → ew (x.take (i + 1)) = ew (x.take i) + B16 ^ i * 0 := fun h => by rw [List.take_of_length_le (by omega), List.take_of_length_le h]; simp
    have yt : y.length ≤ i → ew (y.take (i + 1)) = ew (y.take i) + B16 ^ i * 0 := fun h => by rw [List.take_of_length_le (by omega), List.take_of_length_le h]; simp
    have mB := maxB
    have hci : i ≤ max x.length y.length := by omega
    rcases Nat.lt_or_ge i x.length with hix | hix
    · have hxi := hx.get hix
      rcases Nat.lt_or_ge i y.length with hiy | hiy
      · have hyi := hy.get hiy
        obtain ⟨n1, n2, n3, n4, n5, n6⟩ := key x[i] y[i] hxi hyi (ew_take_succ hix) (ew_take_succ hiy) (.inl (by omega))
        refine .more (2 * (max x.length y.length - (i + 1)) + (c + x[i] + y[i]) / 65536) _ (by omega) ⟨d ++ [(c + x[i] + y[i]) % 65536], (c + x[i] + y[i]) / 65536, i + 1, rfl, rfl, n1, n2, n3, n4, n5, n6⟩ ?_
        have hm := i64_mod (c + x[i] + y[i])
        have hq := i64_div (c + x[i] + y[i])
        have hlt : c + x[i] + y[i] < 131073 := by omega
        clear key xt yt hev hic n1 n2 n3 n4 n5 n6
        have hw1 : IntKind.i64.wrap ((c : Int) + (x[i] : Int)) = ((c + x[i] : Nat) : Int) := by rw [← Int.natCast_add]; exact wrap_i64 (by omega) (by omega)
        have hw2 : IntKind.i64.wrap (((c + x[i] : Nat) : Int) + (y[i] : Int)) = ((c + x[i] + y[i] : Nat) : Int) := by rw [← Int.natCast_add]; exact wrap_i64 (by omega) (by omega)
        generalize c + x[i] + y[i] = M at *
        generalize c + x[i] = M2 at *
        generalize hq2 : M / 65536 = q at *
        generalize hr2 : M % 65536 = r at *
        by_cases h0 : d = []
        · subst h0
          simp (disch := first | omega | simp) [after, gv_nil, gb_nil, gv_snoc, gb_snoc, tidy_eq, reach_end, reach_more, fuelIds, place_cons, pack, if_pos, if_neg, decide_eq_true, decide_eq_false, wrap_i64, hw1, hw2, hm, hq, goodElems, placeAll, elemsOf, maxB, i64s_one]
          try (exact ⟨(gv_snoc 0 [] r).symm, (gb_snoc [] r).symm⟩)
        · rw [gv_cons h0, gb_cons h0, gv_snoc, gb_snoc]
          simp (disch := first | omega | simp) [after, tidy_eq, reach_end, reach_more, fuelIds, place_cons, pack, if_pos, if_neg, decide_eq_true, decide_eq_false, wrap_i64, hw1, hw2, hm, hq, goodElems, placeAll, elemsOf, maxB, i64s_snoc, i64s_take_len]
      · obtain ⟨n1, n2, n3, n4, n5, n6⟩ := key x[i] 0 hxi (by decide) (ew_take_succ hix) (yt hiy) (.inl (by omega))
        simp only [Nat.add_zero] at n1 n2 n3 n4 n5 n6
        refine .more (2 * (max x.length y.length - (i + 1)) + (c + x[i]) / 65536) _ (by omega) ⟨d ++ [(c + x[i]) % 65536], (c + x[i]) / 65536, i + 1, rfl, rfl, n1, n2, n3, n4, n5, n6⟩ ?_
        have hm := i64_mod (c + x[i])
        have hq := i64_div (c + x[i])
        have hlt : c + x[i] < 131073 := by omega
        clear key xt yt hev hic n1 n2 n3 n4 n5 n6
        have hw1 : IntKind.i64.wrap ((c : Int) + (x[i] : Int)) = ((c + x[i] : Nat) : Int) := by rw [← Int.natCast_add]; exact wrap_i64 (by omega) (by omega)
        generalize c + x[i] = M at *
        generalize hq2 : M / 65536 = q at *
        generalize hr2 : M % 65536 = r at *
        by_cases h0 : d = []
        · subst h0
          simp (disch := first | omega | simp) [after, gv_nil, gb_nil, gv_snoc, gb_snoc, tidy_eq, reach_end, reach_more, fuelIds, place_cons, pack, if_pos, if_neg, decide_eq_true, decide_eq_false, wrap_i64, hw1, hm, hq, goodElems, placeAll, elemsOf, maxB, i64s_one]
          try (exact ⟨(gv_snoc 0 [] r).symm, (gb_snoc [] r).symm⟩)
        · rw [gv_cons h0, gb_cons h0, gv_snoc, gb_snoc]
          simp (disch := first | omega | simp) [after, tidy_eq, reach_end, reach_more, fuelIds, place_cons, pack, if_pos, if_neg, decide_eq_true, decide_eq_false, wrap_i64, hw1, hm, hq, goodElems, placeAll, elemsOf, maxB, i64s_snoc, i64s_take_len]
    · rcases Nat.lt_or_ge i y.length with hiy | hiy
      · have hyi := hy.get hiy
        obtain ⟨n1, n2, n3, n4, n5, n6⟩ := key 0 y[i] (by decide) hyi (xt hix) (ew_take_succ hiy) (.inl (by omega))
        simp only [Nat.add_zero] at n1 n2 n3 n4 n5 n6
        refine .more (2 * (max x.length y.length - (i + 1)) + (c + y[i]) / 65536) _ (by omega) ⟨d ++ [(c + y[i]) % 65536], (c + y[i]) / 65536, i + 1, rfl, rfl, n1, n2, n3, n4, n5, n6⟩ ?_
        have hm := i64_mod (c + y[i])
        have hq := i64_div (c + y[i])
        have hlt : c + y[i] < 131073 := by omega
        clear key xt yt hev hic n1 n2 n3 n4 n5 n6
        have hw2 : IntKind.i64.wrap ((c : Int) + (y[i] : Int)) = ((c + y[i] : Nat) : Int) := by rw [← Int.natCast_add]; exact wrap_i64 (by omega) (by omega)
        generalize c + y[i] = M at *
        generalize hq2 : M / 65536 = q at *
        generalize hr2 : M % 65536 = r at *
        by_cases h0 : d = []
        · subst h0
          simp (disch := first | omega | simp) [after, gv_nil, gb_nil, gv_snoc, gb_snoc, tidy_eq, reach_end, reach_more, fuelIds, place_cons, pack, if_pos, if_neg, decide_eq_true, decide_eq_false, wrap_i64, hw2, hm, hq, goodElems, placeAll, elemsOf, maxB, i64s_one]
          try (exact ⟨(gv_snoc 0 [] r).symm, (gb_snoc [] r).symm⟩)
        · rw [gv_cons h0, gb_cons h0, gv_snoc, gb_snoc]
          simp (disch := first | omega | simp) [after, tidy_eq, reach_end, reach_more, fuelIds, place_cons, pack, if_pos, if_neg, decide_eq_true, decide_eq_false, wrap_i64, hw2, hm, hq, goodElems, placeAll, elemsOf, maxB, i64s_snoc, i64s_take_len]
      · obtain ⟨n1, n2, n3, n4, n5, n6⟩ := key 0 0 (by decide) (by decide) (xt hix) (yt hiy) (.inr ⟨rfl, rfl⟩)
        simp only [Nat.add_zero] at n1 n2 n3 n4 n5 n6
        refine .more (2 * (max x.length y.length - (i + 1)) + (c) / 65536) _ (by omega) ⟨d ++ [(c) % 65536], (c) / 65536, i + 1, rfl, rfl, n1, n2, n3, n4, n5, n6⟩ ?_
        have hm := i64_mod (c)
        have hq := i64_div (c)
        have hlt : c < 131073 := by omega
        clear key xt yt hev hic n1 n2 n3 n4 n5 n6
        generalize hq2 : c / 65536 = q at *
        generalize hr2 : c % 65536 = r at *
        by_cases h0 : d = []
        · subst h0
          simp (disch := first | omega | simp) [after, gv_nil, gb_nil, gv_snoc, gb_snoc, tidy_eq, reach_end, reach_more, fuelIds, place_cons, pack, if_pos, if_neg, decide_eq_true, decide_eq_false, wrap_i64, hm, hq, goodElems, placeAll, elemsOf, maxB, i64s_one]
          try (exact ⟨(gv_snoc 0 [] r).symm, (gb_snoc [] r).symm⟩)
        · rw [gv_cons h0, gb_cons h0, gv_snoc, gb_snoc]
          simp (disch := first | omega | simp) [after, tidy_eq, reach_end, reach_more, fuelIds, place_cons, pack, if_pos, if_neg, decide_eq_true, decide_eq_false, wrap_i64, hm, hq, goodElems, placeAll, elemsOf, maxB, i64s_snoc, i64s_take_len]

end Go.Ash
/- Shifts and ors of unsigned numbers. -/
namespace Go.Ash

theorem pow_cast (k : Nat) : ((2 ^ k : Nat) : Int) = (2 : Int) ^ k := by
  rw [Int.natCast_pow]; rfl

theorem wrap_u32n (n : Nat) : IntKind.u32.wrap (n : Int) = ((n % 4294967296 : Nat) : Int) := by
  rw [wrap_u32', Int.natCast_emod]; rfl
theorem wrap_u64n (n : Nat) : IntKind.u64.wrap (n : Int) = ((n % 18446744073709551616 : Nat) : Int) := by
  rw [wrap_u64', Int.natCast_emod]; rfl

theorem shl_u32 {l k : Nat} (hk : k < 32) : shiftA .shl .u32 (l : Int) (k : Int) = some (.int .u32 ((l * 2 ^ k % 4294967296 : Nat) : Int)) := by
  rw [shiftA_shl, if_neg (by omega)]
  have : (k : Int).toNat.min (IntKind.bits .u32) = k := by
    show min ((k : Int).toNat) 32 = k
    omega
  rw [this, ← pow_cast, ← Int.natCast_mul, wrap_u32n]
theorem shl_u64 {l k : Nat} (hk : k < 64) (h : l * 2 ^ k < 18446744073709551616) : shiftA .shl .u64 (l : Int) (k : Int) = some (.int .u64 ((l * 2 ^ k : Nat) : Int)) := by
  rw [shiftA_shl, if_neg (by omega)]
  have : (k : Int).toNat.min (IntKind.bits .u64) = k := by
    show min ((k : Int).toNat) 64 = k
    omega
  rw [this, ← pow_cast, ← Int.natCast_mul, wrap_u64n, Nat.mod_eq_of_lt h]
theorem shr_u32 {l k : Nat} (hk : k < 32) : shiftA .shr .u32 (l : Int) (k : Int) = some (.int .u32 ((l / 2 ^ k : Nat) : Int)) := by
  rw [shiftA_shr, if_neg (by omega)]
  have : (k : Int).toNat.min (IntKind.bits .u32) = k := by
    show min ((k : Int).toNat) 32 = k
    omega
  rw [this, ← pow_cast, Int.fdiv_eq_ediv_of_nonneg _ (Int.natCast_nonneg _)]; rfl
theorem shr_u64 {l k : Nat} (hk : k < 64) : shiftA .shr .u64 (l : Int) (k : Int) = some (.int .u64 ((l / 2 ^ k : Nat) : Int)) := by
  rw [shiftA_shr, if_neg (by omega)]
  have : (k : Int).toNat.min (IntKind.bits .u64) = k := by
    show min ((k : Int).toNat) 64 = k
    omega
  rw [this, ← pow_cast, Int.fdiv_eq_ediv_of_nonneg _ (Int.natCast_nonneg _)]; rfl
theorem shl_u64_32 {l : Nat} (h : l < 4294967296) : shiftA .shl .u64 (l : Int) 32 = some (.int .u64 ((l * 4294967296 : Nat) : Int)) :=
  shl_u64 (l := l) (k := 32) (by decide) (by omega)
theorem shr_u64_32 {l : Nat} : shiftA .shr .u64 (l : Int) 32 = some (.int .u64 ((l / 4294967296 : Nat) : Int)) := shr_u64 (l := l) (k := 32) (by decide)
theorem shr_u64_63 {l : Nat} : shiftA .shr .u64 (l : Int) 63 = some (.int .u64 ((l / 9223372036854775808 : Nat) : Int)) := shr_u64 (l := l) (k := 63) (by decide)

theorem or_nat32 {a b c : Nat} (ha : a < 4294967296) (hb : b < 4294967296) (h : a ||| b = c) : intA .or .u32 (a : Int) (b : Int) = some (.int .u32 (c : Int)) := by
  have hc : c < 4294967296 := by rw [← h]; exact Nat.or_lt_two_pow (n := 32) ha hb
  have h1 : (BitVec.ofInt 32 (a : Int) ||| BitVec.ofInt 32 (b : Int)).toNat = c := by
    rw [BitVec.ofInt_natCast, BitVec.ofInt_natCast, BitVec.toNat_or, BitVec.toNat_ofNat, BitVec.toNat_ofNat, Nat.mod_eq_of_lt (by omega), Nat.mod_eq_of_lt (by omega)]
    exact h
  show some (AVal.int .u32 (IntKind.u32.wrap (((BitVec.ofInt 32 (a : Int) ||| BitVec.ofInt 32 (b : Int)).toNat : Nat) : Int))) = _
  rw [h1, wrap_u32 (by omega) (by omega)]

theorem or_nat64 {a b c : Nat} (ha : a < 18446744073709551616) (hb : b < 18446744073709551616) (h : a ||| b = c) : intA .or .u64 (a : Int) (b : Int) = some (.int .u64 (c : Int)) := by
  have hc : c < 18446744073709551616 := by rw [← h]; exact Nat.or_lt_two_pow (n := 64) ha hb
  have h1 : (BitVec.ofInt 64 (a : Int) ||| BitVec.ofInt 64 (b : Int)).toNat = c := by
    rw [BitVec.ofInt_natCast, BitVec.ofInt_natCast, BitVec.toNat_or, BitVec.toNat_ofNat, BitVec.toNat_ofNat, Nat.mod_eq_of_lt (by omega), Nat.mod_eq_of_lt (by omega)]
    exact h
  show some (AVal.int .u64 (IntKind.u64.wrap (((BitVec.ofInt 64 (a : Int) ||| BitVec.ofInt 64 (b : Int)).toNat : Nat) : Int))) = _
  rw [h1, wrap_u64 (by omega) (by omega)]

theorem or_hi {a b : Nat} {i : Nat} (hb : b < 2 ^ i) : (a * 2 ^ i) ||| b = a * 2 ^ i + b := by
  rw [Nat.mul_comm]; exact (Nat.two_pow_add_eq_or_of_lt hb a).symm
theorem or_lo {a b : Nat} {i : Nat} (hb : b < 2 ^ i) : b ||| (a * 2 ^ i) = b + a * 2 ^ i := by
  rw [Nat.or_comm, or_hi hb, Nat.add_comm]
end Go.Ash
/- Package limbs: left and right. -/
namespace Go.Ash
variable {F : Nat → Option RFunc} [h : CodeLimbs F]

theorem get?_set_u32s (l : List Nat) (i j v : Nat) (h : i < l.length) : (u32s (l.set j v))[i]? = some (.int .u32 (((l.set j v)[i]'(by simpa using h) : Nat) : Int)) := get?_u32s _ _ (by simpa using h)

theorem left_loop (nx : Bool) (x : List Nat) (k : Nat) (hx : Lim x) (hk : k < 32) (hlen : x.length < 2^40) :
    ∃ e st, (∀ env, exec F l_limbs_left_0 ⟨[.slc nx (u32s x), .int .i64 k, .slc true [], .mslc 0 0 (x.length + 1), .und, .und, .slc nx (u32s x), .int .i64 x.length, .int .i64 0], env, [some ⟨false, 1, u32s (List.replicate (x.length + 1) 0)⟩], 0⟩ = some (e, st)) ∧
      (e = .exit 0 ∧ ∃ out, st = ⟨[.und, .int .i64 k, .und, .mslc 0 0 (x.length + 1), .und, .und, .slc nx (u32s x), .int .i64 x.length, .int .i64 x.length], [], [some ⟨false, 1, u32s out⟩], 0⟩ ∧
        out.length = x.length + 1 ∧ Lim out ∧ ev out = ev x * 2 ^ k) := by
  have hz0 : ∀ k, ev (List.replicate k 0) = 0 := fun k => by have := ev_zeros [] k; simpa [ev] using this
  have hB : 2 ^ k * 2 ^ (32 - k) = 4294967296 := by rw [← Nat.pow_add, show k + (32 - k) = 32 from by omega]
  have hk1 : 2 ^ k ≤ 2147483648 := Nat.pow_le_pow_right (n := 2) (i := k) (j := 31) (by decide) (by omega)
  have hkp := Nat.two_pow_pos k
  refine loop_rule
    (fun n st => ∃ (out : List Nat) (i : Nat), st = ⟨[.und, .int .i64 k, .und, .mslc 0 0 (x.length + 1), .und, .und, .slc nx (u32s x), .int .i64 x.length, .int .i64 i], [], [some ⟨false, 1, u32s out⟩], 0⟩ ∧
      i + n = x.length ∧ out.length = x.length + 1 ∧ Lim out ∧ ev out = ev (x.take i) * 2 ^ k ∧ (∀ q (hq : q < out.length), i < q → out[q] = 0) ∧ (∀ hq : i < out.length, out[i] < 2 ^ k)) _ x.length _ ?_
    (tidy_one (by simp) (by simp)) ⟨_, 0, rfl, by omega, by simp, lim_replicate _, by rw [hz0]; simp [ev], by intro q hq _; simp, by intro _; simp; exact hkp⟩
  rintro n st ⟨out, i, rfl, hn, hout, hlim, hev, hz, hc⟩
  rcases Nat.eq_zero_or_pos n with rfl | hpos
  · have hi : i = x.length := by omega
    subst hi
    refine .out (.exit 0) _ (by simp) ⟨rfl, out, rfl, hout, hlim, by simpa using hev⟩ ?_
    simp [after]
  · have hix : i < x.length := by omega
    have hxi := hx.get hix
    have hio : i < out.length := by omega
    have hio1 : i + 1 < out.length := by omega
    have hci := hc hio
    have hz1 := hz (i + 1) hio1 (by omega)
    have hoi := hlim.get hio
    have hdm := Nat.div_add_mod (x[i] * 2 ^ k) 4294967296
    have hmul : x[i] * 2 ^ k < 4294967296 * 2 ^ k := (Nat.mul_lt_mul_right hkp).2 hxi
    have hbig : 4294967296 * 2 ^ k ≤ 9223372036854775808 := by omega
    have hhi : x[i] * 2 ^ k / 4294967296 < 2 ^ k := by
      rw [Nat.div_lt_iff_lt_mul (by decide), Nat.mul_comm (2 ^ k)]; exact hmul
    have hmod : x[i] * 2 ^ k % 4294967296 = (x[i] % 2 ^ (32 - k)) * 2 ^ k := by
      rw [← hB, Nat.mul_comm (2 ^ k), Nat.mul_mod_mul_right]
    have hor : out[i] ||| (x[i] * 2 ^ k % 4294967296) = out[i] + x[i] * 2 ^ k % 4294967296 := by rw [hmod]; exact or_lo hci
    have hlo : x[i] * 2 ^ k % 4294967296 < 4294967296 := Nat.mod_lt _ (by decide)
    have ho := or_nat32 hoi hlo hor
    have hsum : out[i] + x[i] * 2 ^ k % 4294967296 < 4294967296 := by rw [← hor]; exact Nat.or_lt_two_pow (n := 32) hoi hlo
    have s1 := shl_u32 (l := x[i]) hk
    have s2 := shl_u64 (l := x[i]) (k := k) (by omega) (by omega)
    have s3 := shr_u64_32 (l := x[i] * 2 ^ k)
    have e1 := set_ev hio (out[i] + x[i] * 2 ^ k % 4294967296)
    have e2 := set_ev (l := out.set i (out[i] + x[i] * 2 ^ k % 4294967296)) (k := i + 1) (by simpa using hio1) (x[i] * 2 ^ k / 4294967296)
    rw [List.getElem_set_ne (by omega), hz1] at e2
    have hidx : ((i : Int) + 1).toNat = i + 1 := by omega
    refine .more (n - 1) _ (by omega) ⟨(out.set i (out[i] + x[i] * 2 ^ k % 4294967296)).set (i + 1) (x[i] * 2 ^ k / 4294967296), i + 1, rfl, by omega, by simpa using hout,
      lim_set (lim_set hlim hsum) (by omega), ?_, ?_, ?_⟩ ?_
    · rw [ev_take_succ hix, Nat.add_mul, Nat.mul_assoc]
      have e3 : B32 ^ (i + 1) * (x[i] * 2 ^ k / 4294967296) = B32 ^ i * (4294967296 * (x[i] * 2 ^ k / 4294967296)) := by rw [Nat.pow_succ, Nat.mul_assoc]
      have e4 : B32 ^ i * (x[i] * 2 ^ k) = B32 ^ i * (4294967296 * (x[i] * 2 ^ k / 4294967296)) + B32 ^ i * (x[i] * 2 ^ k % 4294967296) := by rw [← Nat.mul_add, hdm]
      rw [Nat.mul_add] at e1
      omega
    · intro q hq hiq
      rw [List.getElem_set_ne (by omega), List.getElem_set_ne (by omega)]
      exact hz q (by simpa using hq) (by omega)
    · intro hq
      simpa using hhi
    · generalize x[i] * 2 ^ k = M at *
      generalize hMd : M / 4294967296 = d at *
      generalize hMm : M % 4294967296 = m at *
      generalize hoo : out[i] + m = o at *
      simp (disch := first | omega | simp) [after, tidy_one, hix, wrap_u64, wrap_u32, wrap_i64, get?_u32s, get?_set_u32s, set_u32n, putElem, putOne, s1, s2, s3, ho, hidx, if_pos, -shiftA_shl, -shiftA_shr]

theorem renL_u32s (ρ : Nat → Nat) (l : List Nat) : renL ρ (u32s l) = u32s l := renL_self _ _ (idsL_u32s l)

theorem leave_one {fn : RFunc} {vars env : List AVal} {off len esz : Nat} {fz : Bool} {l : List Nat} (hr : resL ⟨vars, env, [some ⟨fz, esz, u32s l⟩], 0⟩ fn.res = some [.mslc 0 off len]) :
    fn.leave ⟨vars, env, [some ⟨fz, esz, u32s l⟩], 0⟩ = some (.mslc 0 off len, [some ⟨fz, esz, u32s l⟩]) := by
  have h1 : reach [some ⟨fz, esz, u32s l⟩] fuelIds [0] [] = some [0] := by simp [reach, fuelIds]
  simp only [RFunc.leave, hr, Option.bind_some, tupled]
  rw [if_neg (by simp)]
  simp [h1, place, pack, Blk.ren, renL_u32s]

theorem run_left (nx : Bool) (x : List Nat) (k : Nat) (hx : Lim x) (hk : k < 32) (hlen : x.length < 2^39) :
    ∃ out, run F 109 [.slc nx (u32s x), .int .i64 k] [] = some (.mslc 0 0 (x.length + 1), [some ⟨false, 1, u32s out⟩]) ∧ out.length = x.length + 1 ∧ Lim out ∧ ev out = ev x * 2 ^ k := by
  obtain ⟨e, st, he, rfl, out, rfl, h1, h2, h3⟩ := left_loop (F := F) nx x k hx hk (by omega)
  refine ⟨out, ?_, h1, h2, h3⟩
  rw [run_eq h.limbs_left rfl]
  simp (disch := omega) [c_limbs_left, wrap_i64, u32s_replicate, maxB, if_pos, he]
  exact leave_one (by simp)

theorem right_loop (nx : Bool) (x : List Nat) (k : Nat) (hx : Lim x) (hk : k < 32) (hlen : x.length < 2^40) :
    ∃ e st, (∀ env, exec F l_limbs_right_0 ⟨[.slc nx (u32s x), .int .i64 k, .slc true [], .mslc 0 0 x.length, .und, .int .i64 x.length, .int .i64 0], env, [some ⟨false, 1, u32s (List.replicate x.length 0)⟩], 0⟩ = some (e, st)) ∧
      (e = .exit 0 ∧ ∃ out, st = ⟨[.slc nx (u32s x), .int .i64 k, .und, .mslc 0 0 x.length, .und, .int .i64 x.length, .int .i64 x.length], [], [some ⟨false, 1, u32s out⟩], 0⟩ ∧
        out.length = x.length ∧ Lim out ∧ ev out = ev x / 2 ^ k) := by
  have hB : 2 ^ k * 2 ^ (32 - k) = 4294967296 := by rw [← Nat.pow_add, show k + (32 - k) = 32 from by omega]
  have hkp := Nat.two_pow_pos k
  have hk2 := Nat.two_pow_pos (32 - k)
  refine loop_rule
    (fun n st => ∃ (out : List Nat) (i : Nat), st = ⟨[.slc nx (u32s x), .int .i64 k, .und, .mslc 0 0 x.length, .und, .int .i64 x.length, .int .i64 i], [], [some ⟨false, 1, u32s out⟩], 0⟩ ∧
      i + n = x.length ∧ out.length = x.length ∧ Lim out ∧ ev (out.take i) + B32 ^ i * (ev (x.drop i) / 2 ^ k) = ev x / 2 ^ k) _ x.length _ ?_
    (tidy_one (by simp) (by simp)) ⟨_, 0, rfl, by omega, by simp, lim_replicate _, by simp [ev]⟩
  rintro n st ⟨out, i, rfl, hn, hout, hlim, hev⟩
  rcases Nat.eq_zero_or_pos n with rfl | hpos
  · have hi : i = x.length := by omega
    subst hi
    refine .out (.exit 0) _ (by simp) ⟨rfl, out, rfl, hout, hlim, ?_⟩ ?_
    · rw [← hev, List.take_of_length_le (by omega), List.drop_of_length_le (Nat.le_refl _)]; simp [ev]
    · simp [after]
  · have hix : i < x.length := by omega
    have hxi := hx.get hix
    have hio : i < out.length := by omega
    have s1 := shr_u32 (l := x[i]) hk
    have hlo : x[i] / 2 ^ k < 2 ^ (32 - k) := by
      rw [Nat.div_lt_iff_lt_mul hkp, Nat.mul_comm, hB]; exact hxi
    have hlo' : x[i] / 2 ^ k < 4294967296 := Nat.lt_of_le_of_lt (Nat.div_le_self _ _) hxi
    by_cases hi1 : i + 1 < x.length
    · have hxj := hx.get hi1
      have hidx : ((i : Int) + 1).toNat = i + 1 := by omega
      have s2 := shl_u64_32 hxj
      have s3 := shr_u64 (l := x[i + 1] * 4294967296) (k := k) (by omega)
      have hq : x[i + 1] * 4294967296 / 2 ^ k % 4294967296 = x[i + 1] % 2 ^ k * 2 ^ (32 - k) := by
        have e1 : x[i + 1] * 4294967296 / 2 ^ k = x[i + 1] * 2 ^ (32 - k) := by
          rw [← hB, Nat.mul_left_comm, Nat.mul_comm (2 ^ k), Nat.mul_div_cancel _ hkp]
        rw [e1, ← hB, Nat.mul_mod_mul_right]
      have hw : x[i + 1] * 4294967296 / 2 ^ k < 18446744073709551616 := Nat.lt_of_le_of_lt (Nat.div_le_self _ _) (by omega)
      have hor : x[i] / 2 ^ k ||| (x[i + 1] * 4294967296 / 2 ^ k % 4294967296) = x[i] / 2 ^ k + x[i + 1] * 4294967296 / 2 ^ k % 4294967296 := by rw [hq]; exact or_lo hlo
      have hlim2 : x[i + 1] * 4294967296 / 2 ^ k % 4294967296 < 4294967296 := Nat.mod_lt _ (by decide)
      have ho := or_nat32 hlo' hlim2 hor
      have hsum : x[i] / 2 ^ k + x[i + 1] * 4294967296 / 2 ^ k % 4294967296 < 4294967296 := by rw [← hor]; exact Nat.or_lt_two_pow (n := 32) hlo' hlim2
      have hcv := wrap_u32n (x[i + 1] * 4294967296 / 2 ^ k)
      refine .more (n - 1) _ (by omega) ⟨out.set i (x[i] / 2 ^ k + x[i + 1] * 4294967296 / 2 ^ k % 4294967296), i + 1, rfl, by omega, by simpa using hout, lim_set hlim hsum, ?_⟩ ?_
      · rw [set_plus hio, ← hev, Nat.add_assoc, Nat.pow_succ, Nat.mul_assoc, ← Nat.mul_add]
        congr 2
        rw [drop_ev hix, drop_ev hi1, hq]
        generalize ev (x.drop (i + 1 + 1)) = Y
        generalize x[i + 1] = b at *
        generalize x[i] = a at *
        have hm : (b + B32 * Y) % 2 ^ k = b % 2 ^ k := by
          show (b + 4294967296 * Y) % 2 ^ k = b % 2 ^ k
          rw [← hB, Nat.mul_assoc, Nat.add_mul_mod_self_left]
        have hd := Nat.div_add_mod (b + B32 * Y) (2 ^ k)
        rw [hm] at hd
        generalize (b + B32 * Y) / 2 ^ k = Z at *
        rw [← hd]
        have e2 : a + B32 * (2 ^ k * Z + b % 2 ^ k) = a + 2 ^ k * (B32 * Z + 2 ^ (32 - k) * (b % 2 ^ k)) := by
          have e3 : B32 * (b % 2 ^ k) = 2 ^ k * (2 ^ (32 - k) * (b % 2 ^ k)) := by rw [← Nat.mul_assoc, hB]
          rw [Nat.mul_add, Nat.mul_add, e3, Nat.mul_left_comm]
        rw [e2, Nat.add_mul_div_left _ _ hkp, Nat.mul_comm (b % 2 ^ k)]
        omega
      · generalize x[i + 1] * 4294967296 / 2 ^ k % 4294967296 = m at *
        have hcast : ((x[i + 1] * 4294967296 / 2 ^ k : Nat) : Int) = (((x[i + 1] * 4294967296) / 2 ^ k : Nat) : Int) := rfl
        generalize x[i + 1] * 4294967296 / 2 ^ k = w at *
        generalize x[i + 1] * 4294967296 = w2 at *
        generalize x[i] / 2 ^ k = d at *
        generalize d + m = o at *
        simp (disch := first | omega | simp) [after, tidy_one, hix, hi1, wrap_u64, wrap_u32, wrap_i64, get?_u32s, get?_set_u32s, set_u32n, putElem, putOne, s1, s2, s3, ho, hidx, if_pos, hcv, -shiftA_shl, -shiftA_shr]
    · have hl : x.drop (i + 1) = [] := List.drop_of_length_le (by omega)
      refine .more (n - 1) _ (by omega) ⟨out.set i (x[i] / 2 ^ k), i + 1, rfl, by omega, by simpa using hout, lim_set hlim hlo', ?_⟩ ?_
      · rw [set_plus hio, ← hev, drop_ev hix, hl]
        simp [ev]
      · generalize x[i] / 2 ^ k = d at *
        simp (disch := first | omega | simp) [after, tidy_one, hix, wrap_u64, wrap_u32, wrap_i64, get?_u32s, get?_set_u32s, set_u32n, putElem, putOne, s1, if_pos, if_neg, decide_eq_false, -shiftA_shl, -shiftA_shr]

theorem pc_right (nx : Bool) (x : List Nat) (k : Nat) (hx : Lim x) (hk : k < 32) (hlen : x.length < 2^39) :
    pureCall (run F) 113 [.slc nx (u32s x), .int .i64 k] = some (.slc false (u32s (D (ev x / 2 ^ k)))) := by
  obtain ⟨e, st, he, rfl, out, rfl, h1, h2, h3⟩ := right_loop (F := F) nx x k hx hk (by omega)
  have ht := pc_trim (F := F) false out h2 (by omega)
  have hto : out.take x.length = out := List.take_of_length_le (by omega)
  rw [h3] at ht
  refine pure_ret h.limbs_right rfl ?_
  simp (disch := omega) [c_limbs_right, wrap_i64, u32s_replicate, maxB, if_pos, he, any_pure, hand_u32, hto, ht]
end Go.Ash
