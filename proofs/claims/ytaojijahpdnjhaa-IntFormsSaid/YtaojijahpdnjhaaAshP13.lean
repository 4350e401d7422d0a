/- The abstract interpreter of this work and its uses, part 13: AshCodeGauge, AshSeat. -/
import Derived.Test.YtaojijahpdnjhaaProg
import Derived.KernelRfl
import Derived.Test.YtaojijahpdnjhaaAshP12
set_option linter.all false
/- The code of functions of the given program, printed by a program of this work out of the dump (codes.py): data alone. -/
namespace Go.Ash
set_option maxRecDepth 10000
def c_gauge_Times : RFunc := ⟨1, [0, 2, 3],
(.seq (.region [⟨.mov, [.c (.int .i64 0)], some 1, none, []⟩] false)
(.seq (.region [⟨.build [.int .i64 0] [(0, 1)], [.c (.int .i64 1)], none, none, []⟩,
 ⟨.box, [.p 0], none, none, []⟩,
 ⟨.mov, [.p 0], some 2, none, []⟩] false)
(.seq (.region [⟨.mov, [.v 2], none, none, []⟩,
 ⟨.mkfn 66 1, [.p 0], none, none, []⟩,
 ⟨.mov, [.v 0], none, none, []⟩,
 ⟨.call true 67, [.p 1, .p 0], none, none, []⟩] false)
(.seq (.region [⟨.mov, [.v 2], none, none, []⟩,
 ⟨.nilck, [.p 0], none, none, []⟩,
 ⟨.faddr 0, [.p 0], none, none, []⟩,
 ⟨.load false 1, [.p 0], none, none, []⟩,
 ⟨.mov, [.p 0], some 1, none, []⟩] false)
.ret)))),
[.v 1]⟩
def c_gauge_Of : RFunc := ⟨1, [0, 2],
(.seq (.region [⟨.alloc (.agg [.int .i64 0, .int .i64 0, .int .i64 0]), [], some 1, none, []⟩] false)
(.seq (.region [⟨.mov, [.v 0], none, none, []⟩,
 ⟨.call false 72, [.p 0], none, none, []⟩,
 ⟨.store 3, [.v 1, .p 0], none, none, []⟩] false)
.ret)),
[.cell 1 true 3]⟩
def c_gauge_Mul : RFunc := ⟨3, [0, 1, 2, 5, 6],
(.seq (.region [⟨.box, [.v 2], some 3, none, []⟩,
 ⟨.mov, [.c (.int .i64 0)], some 4, none, []⟩] false)
(.seq (.region [⟨.mov, [.v 0], none, none, []⟩,
 ⟨.mov, [.v 1], none, none, []⟩,
 ⟨.load true 2, [.v 3], none, none, []⟩,
 ⟨.call false 76, [.p 2, .p 1, .p 0], none, none, []⟩,
 ⟨.mov, [.p 0], some 4, none, []⟩] false)
.ret)),
[.v 4]⟩
def c_gauge_Apply : RFunc := ⟨3, [0, 1, 2, 5, 6],
(.seq (.region [⟨.box, [.v 2], some 3, none, []⟩,
 ⟨.mov, [.c (.int .i64 0)], some 4, none, []⟩] false)
(.seq (.region [⟨.mov, [.v 0], none, none, []⟩,
 ⟨.mov, [.v 1], none, none, []⟩,
 ⟨.load true 2, [.v 3], none, none, []⟩,
 ⟨.call false 78, [.p 2, .p 1, .p 0], none, none, []⟩,
 ⟨.mov, [.p 0], some 4, none, []⟩] false)
.ret)),
[.v 4]⟩
def c_gauge_Divide : RFunc := ⟨3, [0, 1, 2, 5, 6, 7, 8, 9, 10],
(.seq (.region [⟨.box, [.v 2], some 3, none, []⟩,
 ⟨.mov, [.c (.int .i64 0)], some 4, none, []⟩] false)
(.seq (.region [⟨.mov, [.v 0], none, none, []⟩,
 ⟨.call false 11, [.p 0], none, none, []⟩,
 ⟨.mov, [.v 1], none, none, []⟩,
 ⟨.call false 11, [.p 0], none, none, []⟩,
 ⟨.load true 2, [.v 3], none, none, []⟩,
 ⟨.call false 53, [.p 0], none, none, []⟩,
 ⟨.alloc (.agg [.int .i64 0, .int .i64 0, .int .i64 0]), [], some 5, none, []⟩,
 ⟨.alloc (.agg [.int .i64 0, .int .i64 0, .int .i64 0]), [], some 6, none, []⟩,
 ⟨.store 3, [.v 5, .p 6], none, none, []⟩,
 ⟨.store 3, [.v 6, .p 5], none, none, []⟩,
 ⟨.mov, [.p 4], some 7, none, []⟩] true)
(.seq (.region [⟨.faddr 2, [.v 5], none, none, []⟩,
 ⟨.load false 1, [.p 0], none, none, []⟩,
 ⟨.faddr 2, [.v 6], none, none, []⟩,
 ⟨.load false 1, [.p 0], none, none, []⟩,
 ⟨.faddr 0, [.v 5], none, none, []⟩,
 ⟨.load false 1, [.p 0], none, none, []⟩,
 ⟨.bin .add, [.p 0, .c (.int .i64 1)], none, none, []⟩,
 ⟨.mov, [.v 7], none, none, []⟩,
 ⟨.bslice 1 (.int .i64 0) 2 [0, 1], [.p 0, .c (.int .i64 2)], none, none, []⟩,
 ⟨.call false 81, [.p 0], none, none, []⟩,
 ⟨.bslice 1 (.int .i64 0) 2 [0, 1], [.p 3, .p 0], none, none, []⟩,
 ⟨.call false 82, [.p 0], none, none, []⟩,
 ⟨.bslice 1 (.int .i64 0) 4 [0, 1, 2, 3], [.p 10, .p 8, .p 0, .c (.int .i64 8)], none, none, []⟩,
 ⟨.call false 81, [.p 0], none, none, []⟩,
 ⟨.mov, [.p 0], some 8, none, []⟩] true)
(.seq (.region [⟨.faddr 0, [.v 5], none, none, []⟩,
 ⟨.load false 1, [.p 0], none, none, []⟩,
 ⟨.bin .add, [.p 0, .c (.int .i64 1)], none, none, []⟩,
 ⟨.faddr 0, [.v 6], none, none, []⟩,
 ⟨.load false 1, [.p 0], none, none, []⟩,
 ⟨.bin .add, [.p 0, .c (.int .i64 1)], none, none, []⟩,
 ⟨.faddr 0, [.v 5], none, none, []⟩,
 ⟨.load false 1, [.p 0], none, none, []⟩,
 ⟨.faddr 0, [.v 6], none, none, []⟩,
 ⟨.load false 1, [.p 0], none, none, []⟩,
 ⟨.bslice 1 (.int .i64 0) 3 [0, 1, 2], [.p 2, .p 0, .c (.int .i64 2)], none, none, []⟩,
 ⟨.call false 81, [.p 0], none, none, []⟩,
 ⟨.faddr 1, [.v 5], none, none, []⟩,
 ⟨.load false 1, [.p 0], none, none, []⟩,
 ⟨.faddr 1, [.v 6], none, none, []⟩,
 ⟨.load false 1, [.p 0], none, none, []⟩,
 ⟨.bslice 1 (.int .i64 0) 3 [0, 1, 2], [.p 2, .p 0, .c (.int .i64 2)], none, none, []⟩,
 ⟨.call false 81, [.p 0], none, none, []⟩,
 ⟨.mov, [.v 8], none, none, []⟩,
 ⟨.bslice 1 (.int .i64 0) 5 [0, 1, 2, 3, 4], [.p 16, .p 13, .p 7, .p 1, .p 0], none, none, []⟩,
 ⟨.call false 3, [.p 0], none, none, []⟩,
 ⟨.mov, [.p 0], some 4, none, []⟩] true)
.ret)))),
[.v 4]⟩
def c_gauge_Common : RFunc := ⟨3, [0, 1, 2, 5, 6, 7, 8, 9, 10, 11],
(.seq (.region [⟨.box, [.v 2], some 3, none, []⟩,
 ⟨.mov, [.c (.int .i64 0)], some 4, none, []⟩] false)
(.seq (.region [⟨.mov, [.v 0], none, none, []⟩,
 ⟨.call false 11, [.p 0], none, none, []⟩,
 ⟨.mov, [.v 1], none, none, []⟩,
 ⟨.call false 11, [.p 0], none, none, []⟩,
 ⟨.load true 2, [.v 3], none, none, []⟩,
 ⟨.call false 53, [.p 0], none, none, []⟩,
 ⟨.alloc (.agg [.int .i64 0, .int .i64 0, .int .i64 0]), [], some 5, none, []⟩,
 ⟨.alloc (.agg [.int .i64 0, .int .i64 0, .int .i64 0]), [], some 6, none, []⟩,
 ⟨.store 3, [.v 5, .p 6], none, none, []⟩,
 ⟨.store 3, [.v 6, .p 5], none, none, []⟩,
 ⟨.mov, [.p 4], some 7, none, []⟩] true)
(.seq (.region [⟨.faddr 0, [.v 5], none, none, []⟩,
 ⟨.load false 1, [.p 0], none, none, []⟩,
 ⟨.faddr 0, [.v 6], none, none, []⟩,
 ⟨.load false 1, [.p 0], none, none, []⟩,
 ⟨.bslice 1 (.int .i64 0) 3 [0, 1, 2], [.p 2, .p 0, .c (.int .i64 2)], none, none, []⟩,
 ⟨.call false 81, [.p 0], none, none, []⟩,
 ⟨.mov, [.p 0], some 8, none, []⟩] false)
(.seq (.region [⟨.faddr 2, [.v 5], none, none, []⟩,
 ⟨.load false 1, [.p 0], none, none, []⟩,
 ⟨.faddr 2, [.v 6], none, none, []⟩,
 ⟨.load false 1, [.p 0], none, none, []⟩,
 ⟨.mov, [.v 8], none, none, []⟩,
 ⟨.bin .sub, [.p 0, .c (.int .i64 1)], none, none, []⟩,
 ⟨.mov, [.v 7], none, none, []⟩,
 ⟨.bslice 1 (.int .i64 0) 2 [0, 1], [.p 0, .c (.int .i64 2)], none, none, []⟩,
 ⟨.call false 81, [.p 0], none, none, []⟩,
 ⟨.bslice 1 (.int .i64 0) 2 [0, 1], [.p 3, .p 0], none, none, []⟩,
 ⟨.call false 82, [.p 0], none, none, []⟩,
 ⟨.bslice 1 (.int .i64 0) 4 [0, 1, 2, 3], [.p 9, .p 7, .p 0, .c (.int .i64 8)], none, none, []⟩,
 ⟨.call false 81, [.p 0], none, none, []⟩,
 ⟨.mov, [.p 0], some 9, none, []⟩] true)
(.seq (.region [⟨.mov, [.v 8], none, none, []⟩,
 ⟨.mov, [.v 8], none, none, []⟩,
 ⟨.mov, [.v 8], none, none, []⟩,
 ⟨.mov, [.v 8], none, none, []⟩,
 ⟨.faddr 1, [.v 5], none, none, []⟩,
 ⟨.load false 1, [.p 0], none, none, []⟩,
 ⟨.faddr 1, [.v 6], none, none, []⟩,
 ⟨.load false 1, [.p 0], none, none, []⟩,
 ⟨.bslice 1 (.int .i64 0) 2 [0, 1], [.p 2, .p 0], none, none, []⟩,
 ⟨.call false 81, [.p 0], none, none, []⟩,
 ⟨.bslice 1 (.int .i64 0) 2 [0, 1], [.p 6, .p 0], none, none, []⟩,
 ⟨.call false 82, [.p 0], none, none, []⟩,
 ⟨.bslice 1 (.int .i64 0) 2 [0, 1], [.p 0, .c (.int .i64 2)], none, none, []⟩,
 ⟨.call false 81, [.p 0], none, none, []⟩,
 ⟨.mov, [.v 9], none, none, []⟩,
 ⟨.bslice 1 (.int .i64 0) 5 [0, 1, 2, 3, 4], [.p 14, .p 13, .p 12, .p 1, .p 0], none, none, []⟩,
 ⟨.call false 3, [.p 0], none, none, []⟩,
 ⟨.mov, [.p 0], some 4, none, []⟩] false)
.ret))))),
[.v 4]⟩
def l_gauge_each_0 : RCode := (.loop [true, false, false, true, true, true] (.seq (.region [⟨.bin .lss, [.v 5, .v 4], none, none, []⟩] false)
(.seq (.cond (.p 0) .skip (.exit 0))
(.seq (.block 1 (.seq (.region [⟨.iaddr 1, [.v 3, .v 5], none, none, []⟩,
 ⟨.load false 1, [.p 0], none, none, []⟩,
 ⟨.mov, [.p 0], some 2, none, []⟩] false)
(.region [⟨.mov, [.v 0], none, none, []⟩,
 ⟨.mov, [.v 2], none, none, []⟩,
 ⟨.callv true, [.p 1, .p 0], none, none, []⟩] false)))
(.region [⟨.bin .add, [.v 5, .c (.int .i64 1)], none, none, []⟩,
 ⟨.mov, [.p 0], some 5, none, []⟩] false)))))
def c_gauge_each : RFunc := ⟨2, [0, 1, 5, 6, 7, 8],
(.seq (.region [⟨.mov, [.v 1], some 3, none, []⟩,
 ⟨.len false, [.v 3], some 4, none, []⟩,
 ⟨.mov, [.c (.int .i64 0)], some 5, none, []⟩] false)
(.block 0 l_gauge_each_0)),
[]⟩
def c_gauge_product_take : RFunc := ⟨2, [0, 1],
(.region [⟨.mov, [.v 0], none, none, []⟩,
 ⟨.mov, [.v 0], none, none, []⟩,
 ⟨.nilck, [.p 0], none, none, []⟩,
 ⟨.faddr 0, [.p 0], none, none, []⟩,
 ⟨.load false 1, [.p 0], none, none, []⟩,
 ⟨.mov, [.v 1], none, none, []⟩,
 ⟨.max, [.p 0, .c (.int .i64 1)], none, none, []⟩,
 ⟨.bslice 1 (.int .i64 0) 2 [0, 1], [.p 2, .p 0], none, none, []⟩,
 ⟨.call false 82, [.p 0], none, none, []⟩,
 ⟨.nilck, [.p 8], none, none, []⟩,
 ⟨.faddr 0, [.p 0], none, none, []⟩,
 ⟨.store 1, [.p 0, .p 2], none, none, []⟩] false),
[]⟩
def l_zcost_Of_0 : RCode := (.loop [true, true, true] (.seq (.seq (.region [⟨.mov, [.v 2], none, none, []⟩,
 ⟨.bin .geq, [.p 0, .c (.int .i64 0)], none, none, []⟩,
 ⟨.mov, [.p 0], none, none, []⟩,
 ⟨.mov, [.v 0], none, some (0, true), []⟩,
 ⟨.mov, [.v 2], none, some (1, true), []⟩,
 ⟨.iaddr 1, [.p 1, .p 0], none, some (2, true), []⟩,
 ⟨.load false 1, [.p 0], none, some (3, true), []⟩,
 ⟨.call false 104, [.p 0], none, some (4, true), []⟩,
 ⟨.bin .lss, [.p 0, .c (.int .i64 0)], none, some (5, true), []⟩,
 ⟨.pick, [.p 6, .p 0, .c (.bool false)], none, none, []⟩] false)
(.cond (.p 0) .skip (.exit 0)))
(.block 1 (.region [⟨.mov, [.v 2], none, none, []⟩,
 ⟨.bin .sub, [.p 0, .c (.int .i64 1)], none, none, []⟩,
 ⟨.mov, [.p 0], some 2, none, []⟩] false))))
def l_zcost_Of_1 : RCode := (.loop [false, true, false, true, false, true, true, true] (.seq (.region [⟨.bin .lss, [.v 7, .v 6], none, none, []⟩] false)
(.seq (.cond (.p 0) .skip (.exit 2))
(.seq (.block 3 (.seq (.region [⟨.iaddr 1, [.v 5, .v 7], none, none, []⟩,
 ⟨.load false 1, [.p 0], none, none, []⟩,
 ⟨.mov, [.p 0], some 4, none, []⟩] false)
(.region [⟨.faddr 1, [.v 3], none, none, []⟩,
 ⟨.load false 1, [.p 0], none, none, []⟩,
 ⟨.mov, [.v 4], none, none, []⟩,
 ⟨.call false 104, [.p 0], none, none, []⟩,
 ⟨.max, [.p 2, .p 0], none, none, []⟩,
 ⟨.faddr 2, [.v 3], none, none, []⟩,
 ⟨.load false 1, [.p 0], none, none, []⟩,
 ⟨.mov, [.v 4], none, none, []⟩,
 ⟨.call false 105, [.p 0], none, none, []⟩,
 ⟨.max, [.p 2, .p 0], none, none, []⟩,
 ⟨.faddr 1, [.v 3], none, none, []⟩,
 ⟨.store 1, [.p 0, .p 6], none, none, []⟩,
 ⟨.faddr 2, [.v 3], none, none, []⟩,
 ⟨.store 1, [.p 0, .p 3], none, none, []⟩] true)))
(.region [⟨.bin .add, [.v 7, .c (.int .i64 1)], none, none, []⟩,
 ⟨.mov, [.p 0], some 7, none, []⟩] false)))))
def c_zcost_Of : RFunc := ⟨1, [0, 2, 3, 4, 6, 30, 31, 32],
(.seq (.region [⟨.alloc (.agg [.int .i64 0, .int .i64 0, .int .i64 0]), [], some 1, none, []⟩] false)
(.seq (.region [⟨.mov, [.v 0], none, none, []⟩,
 ⟨.len false, [.p 0], none, none, []⟩,
 ⟨.bin .sub, [.p 0, .c (.int .i64 1)], none, none, []⟩,
 ⟨.mov, [.p 0], some 2, none, []⟩] false)
(.seq (.block 0 l_zcost_Of_0)
(.seq (.seq (.region [⟨.mov, [.v 2], none, none, []⟩,
 ⟨.bin .lss, [.p 0, .c (.int .i64 0)], none, none, []⟩] false)
(.cond (.p 0) (.seq (.region [⟨.build [.int .i64 0, .int .i64 0, .int .i64 0] [], [], none, none, []⟩,
 ⟨.store 3, [.v 1, .p 0], none, none, []⟩] false)
.ret) .skip))
(.seq (.region [⟨.mov, [.v 2], none, none, []⟩,
 ⟨.build [.int .i64 0, .int .i64 0, .int .i64 0] [(0, 1)], [.p 0], none, none, []⟩,
 ⟨.alloc (.agg [.int .i64 0, .int .i64 0, .int .i64 0]), [], some 3, none, []⟩,
 ⟨.store 3, [.v 3, .p 1], none, none, []⟩] false)
(.seq (.seq (.region [⟨.mov, [.v 0], none, none, []⟩,
 ⟨.mov, [.v 2], none, none, []⟩,
 ⟨.bin .add, [.p 0, .c (.int .i64 1)], none, none, []⟩,
 ⟨.slice 1 false true false, [.p 2, .p 0], some 5, none, []⟩,
 ⟨.len false, [.v 5], some 6, none, []⟩,
 ⟨.mov, [.c (.int .i64 0)], some 7, none, []⟩] false)
(.block 2 l_zcost_Of_1))
(.seq (.region [⟨.load true 3, [.v 3], none, none, []⟩,
 ⟨.store 3, [.v 1, .p 0], none, none, []⟩] false)
.ret))))))),
[.cell 1 true 3]⟩
def c_zcost_Product : RFunc := ⟨3, [0, 1, 2, 5, 6, 7, 8, 9, 10],
(.seq (.region [⟨.box, [.v 2], some 3, none, []⟩,
 ⟨.mov, [.c (.int .i64 0)], some 4, none, []⟩] false)
(.seq (.region [⟨.mov, [.v 0], none, none, []⟩,
 ⟨.call false 72, [.p 0], none, none, []⟩,
 ⟨.mov, [.v 1], none, none, []⟩,
 ⟨.call false 72, [.p 0], none, none, []⟩,
 ⟨.load true 2, [.v 3], none, none, []⟩,
 ⟨.call false 53, [.p 0], none, none, []⟩,
 ⟨.alloc (.agg [.int .i64 0, .int .i64 0, .int .i64 0]), [], some 5, none, []⟩,
 ⟨.alloc (.agg [.int .i64 0, .int .i64 0, .int .i64 0]), [], some 6, none, []⟩,
 ⟨.store 3, [.v 5, .p 6], none, none, []⟩,
 ⟨.store 3, [.v 6, .p 5], none, none, []⟩,
 ⟨.mov, [.p 4], some 7, none, []⟩] true)
(.seq (.region [⟨.faddr 2, [.v 5], none, none, []⟩,
 ⟨.load false 1, [.p 0], none, none, []⟩,
 ⟨.faddr 2, [.v 6], none, none, []⟩,
 ⟨.load false 1, [.p 0], none, none, []⟩,
 ⟨.faddr 0, [.v 5], none, none, []⟩,
 ⟨.load false 1, [.p 0], none, none, []⟩,
 ⟨.bin .add, [.p 0, .c (.int .i64 1)], none, none, []⟩,
 ⟨.faddr 1, [.v 6], none, none, []⟩,
 ⟨.load false 1, [.p 0], none, none, []⟩,
 ⟨.bin .add, [.p 0, .c (.int .i64 1)], none, none, []⟩,
 ⟨.bslice 1 (.int .i64 0) 2 [0, 1], [.p 3, .p 0], none, none, []⟩,
 ⟨.call false 82, [.p 0], none, none, []⟩,
 ⟨.faddr 0, [.v 5], none, none, []⟩,
 ⟨.load false 1, [.p 0], none, none, []⟩,
 ⟨.faddr 1, [.v 6], none, none, []⟩,
 ⟨.load false 1, [.p 0], none, none, []⟩,
 ⟨.bin .add, [.p 0, .c (.int .i64 1)], none, none, []⟩,
 ⟨.mov, [.v 7], none, none, []⟩,
 ⟨.bslice 1 (.int .i64 0) 3 [0, 1, 2], [.p 4, .p 1, .p 0], none, none, []⟩,
 ⟨.call false 82, [.p 0], none, none, []⟩,
 ⟨.bslice 1 (.int .i64 0) 5 [0, 1, 2, 3, 4], [.p 18, .p 16, .p 8, .p 0, .c (.int .i64 8)], none, none, []⟩,
 ⟨.call false 81, [.p 0], none, none, []⟩,
 ⟨.mov, [.p 0], some 8, none, []⟩] true)
(.seq (.region [⟨.faddr 0, [.v 5], none, none, []⟩,
 ⟨.load false 1, [.p 0], none, none, []⟩,
 ⟨.bin .add, [.p 0, .c (.int .i64 1)], none, none, []⟩,
 ⟨.faddr 0, [.v 6], none, none, []⟩,
 ⟨.load false 1, [.p 0], none, none, []⟩,
 ⟨.bin .add, [.p 0, .c (.int .i64 1)], none, none, []⟩,
 ⟨.faddr 1, [.v 5], none, none, []⟩,
 ⟨.load false 1, [.p 0], none, none, []⟩,
 ⟨.faddr 1, [.v 6], none, none, []⟩,
 ⟨.load false 1, [.p 0], none, none, []⟩,
 ⟨.bslice 1 (.int .i64 0) 3 [0, 1, 2], [.p 2, .p 0, .c (.int .i64 2)], none, none, []⟩,
 ⟨.call false 81, [.p 0], none, none, []⟩,
 ⟨.mov, [.v 8], none, none, []⟩,
 ⟨.bslice 1 (.int .i64 0) 4 [0, 1, 2, 3], [.p 10, .p 7, .p 1, .p 0], none, none, []⟩,
 ⟨.call false 106, [.p 0], none, none, []⟩,
 ⟨.mov, [.p 0], some 4, none, []⟩] true)
.ret)))),
[.v 4]⟩
def c_zcost_Apply : RFunc := ⟨3, [0, 1, 2, 5, 6, 7, 8, 9, 10],
(.seq (.region [⟨.box, [.v 2], some 3, none, []⟩,
 ⟨.mov, [.c (.int .i64 0)], some 4, none, []⟩] false)
(.seq (.region [⟨.mov, [.v 0], none, none, []⟩,
 ⟨.call false 72, [.p 0], none, none, []⟩,
 ⟨.mov, [.v 1], none, none, []⟩,
 ⟨.call false 104, [.p 0], none, none, []⟩,
 ⟨.load true 2, [.v 3], none, none, []⟩,
 ⟨.call false 53, [.p 0], none, none, []⟩,
 ⟨.alloc (.agg [.int .i64 0, .int .i64 0, .int .i64 0]), [], some 5, none, []⟩,
 ⟨.store 3, [.v 5, .p 5], none, none, []⟩,
 ⟨.mov, [.p 4], some 6, none, []⟩,
 ⟨.mov, [.p 3], some 7, none, []⟩] true)
(.seq (.region [⟨.faddr 2, [.v 5], none, none, []⟩,
 ⟨.load false 1, [.p 0], none, none, []⟩,
 ⟨.mov, [.v 1], none, none, []⟩,
 ⟨.call false 105, [.p 0], none, none, []⟩,
 ⟨.faddr 0, [.v 5], none, none, []⟩,
 ⟨.load false 1, [.p 0], none, none, []⟩,
 ⟨.bin .add, [.p 0, .c (.int .i64 1)], none, none, []⟩,
 ⟨.mov, [.v 6], none, none, []⟩,
 ⟨.bin .add, [.p 0, .c (.int .i64 2)], none, none, []⟩,
 ⟨.mov, [.v 7], none, none, []⟩,
 ⟨.bslice 1 (.int .i64 0) 2 [0, 1], [.p 0, .c (.int .i64 8)], none, none, []⟩,
 ⟨.call false 81, [.p 0], none, none, []⟩,
 ⟨.bslice 1 (.int .i64 0) 3 [0, 1, 2], [.p 5, .p 3, .p 0], none, none, []⟩,
 ⟨.call false 82, [.p 0], none, none, []⟩,
 ⟨.bslice 1 (.int .i64 0) 3 [0, 1, 2], [.p 12, .p 10, .p 0], none, none, []⟩,
 ⟨.call false 81, [.p 0], none, none, []⟩,
 ⟨.mov, [.p 0], some 8, none, []⟩] true)
(.seq (.region [⟨.faddr 0, [.v 5], none, none, []⟩,
 ⟨.load false 1, [.p 0], none, none, []⟩,
 ⟨.bin .add, [.p 0, .c (.int .i64 1)], none, none, []⟩,
 ⟨.faddr 1, [.v 5], none, none, []⟩,
 ⟨.load false 1, [.p 0], none, none, []⟩,
 ⟨.mov, [.v 6], none, none, []⟩,
 ⟨.bin .add, [.p 0, .c (.int .i64 3)], none, none, []⟩,
 ⟨.bslice 1 (.int .i64 0) 2 [0, 1], [.p 2, .p 0], none, none, []⟩,
 ⟨.call false 81, [.p 0], none, none, []⟩,
 ⟨.mov, [.v 8], none, none, []⟩,
 ⟨.bslice 1 (.int .i64 0) 3 [0, 1, 2], [.p 7, .p 1, .p 0], none, none, []⟩,
 ⟨.call false 106, [.p 0], none, none, []⟩,
 ⟨.mov, [.p 0], some 4, none, []⟩] true)
.ret)))),
[.v 4]⟩
def l_zcost_Add_0 : RCode := (.loop [false, false, true, false, true, true, true] (.seq (.region [⟨.bin .lss, [.v 6, .v 5], none, none, []⟩] false)
(.seq (.cond (.p 0) .skip (.exit 0))
(.seq (.block 1 (.seq (.region [⟨.iaddr 1, [.v 4, .v 6], none, none, []⟩,
 ⟨.load false 1, [.p 0], none, none, []⟩,
 ⟨.mov, [.p 0], some 3, none, []⟩] false)
(.seq (.seq (.region [⟨.mov, [.v 3], none, none, []⟩,
 ⟨.mov, [.v 2], none, none, []⟩,
 ⟨.bin .sub, [.c (.int .i64 4611686018427387904), .p 0], none, none, []⟩,
 ⟨.bin .gtr, [.p 2, .p 0], none, none, []⟩] false)
(.cond (.p 0) (.seq (.region [⟨.mov, [.c (.int .i64 4611686018427387904)], some 1, none, []⟩] false)
.ret) .skip))
(.region [⟨.mov, [.v 2], none, none, []⟩,
 ⟨.mov, [.v 3], none, none, []⟩,
 ⟨.bin .add, [.p 1, .p 0], none, none, []⟩,
 ⟨.mov, [.p 0], some 2, none, []⟩] false))))
(.region [⟨.bin .add, [.v 6, .c (.int .i64 1)], none, none, []⟩,
 ⟨.mov, [.p 0], some 6, none, []⟩] false)))))
def c_zcost_Add : RFunc := ⟨1, [0, 2, 3, 5, 6, 7, 8],
(.seq (.region [⟨.mov, [.c (.int .i64 0)], some 1, none, []⟩] false)
(.seq (.region [⟨.mov, [.c (.int .i64 0)], some 2, none, []⟩] false)
(.seq (.seq (.region [⟨.mov, [.v 0], some 4, none, []⟩,
 ⟨.len false, [.v 4], some 5, none, []⟩,
 ⟨.mov, [.c (.int .i64 0)], some 6, none, []⟩] false)
(.block 0 l_zcost_Add_0))
(.seq (.region [⟨.mov, [.v 2], none, none, []⟩,
 ⟨.mov, [.p 0], some 1, none, []⟩] false)
.ret)))),
[.v 1]⟩
def l_zcost_Mul_0 : RCode := (.loop [true, false, true, false, false, true, true, true] (.seq (.region [⟨.bin .lss, [.v 7, .v 6], none, none, []⟩] false)
(.seq (.cond (.p 0) .skip (.exit 0))
(.seq (.block 1 (.seq (.region [⟨.iaddr 1, [.v 5, .v 7], none, none, []⟩,
 ⟨.load false 1, [.p 0], none, none, []⟩,
 ⟨.mov, [.p 0], some 3, none, []⟩] false)
(.seq (.region [⟨.mov, [.v 3], none, none, []⟩,
 ⟨.bin .eql, [.p 0, .c (.int .i64 0)], none, none, []⟩] false)
(.cond (.p 0) (.seq (.region [⟨.mov, [.c (.int .i64 0)], some 1, none, []⟩] false)
.ret) .skip))))
(.region [⟨.bin .add, [.v 7, .c (.int .i64 1)], none, none, []⟩,
 ⟨.mov, [.p 0], some 7, none, []⟩] false)))))
def l_zcost_Mul_1 : RCode := (.loop [false, false, true, false, false, false, false, false, true, true, true] (.seq (.region [⟨.bin .lss, [.v 10, .v 9], none, none, []⟩] false)
(.seq (.cond (.p 0) .skip (.exit 2))
(.seq (.block 3 (.seq (.region [⟨.iaddr 1, [.v 8, .v 10], none, none, []⟩,
 ⟨.load false 1, [.p 0], none, none, []⟩,
 ⟨.mov, [.p 0], some 4, none, []⟩] false)
(.seq (.seq (.region [⟨.mov, [.v 2], none, none, []⟩,
 ⟨.mov, [.v 4], none, none, []⟩,
 ⟨.bin .quo, [.c (.int .i64 4611686018427387904), .p 0], none, none, []⟩,
 ⟨.bin .gtr, [.p 2, .p 0], none, none, []⟩] false)
(.cond (.p 0) (.seq (.region [⟨.mov, [.c (.int .i64 4611686018427387904)], some 1, none, []⟩] false)
.ret) .skip))
(.region [⟨.mov, [.v 2], none, none, []⟩,
 ⟨.mov, [.v 4], none, none, []⟩,
 ⟨.bin .mul, [.p 1, .p 0], none, none, []⟩,
 ⟨.mov, [.p 0], some 2, none, []⟩] false))))
(.region [⟨.bin .add, [.v 10, .c (.int .i64 1)], none, none, []⟩,
 ⟨.mov, [.p 0], some 10, none, []⟩] false)))))
def c_zcost_Mul : RFunc := ⟨1, [0, 2, 3, 5, 7, 8, 9, 10, 17, 18, 19],
(.seq (.region [⟨.mov, [.c (.int .i64 0)], some 1, none, []⟩] false)
(.seq (.region [⟨.mov, [.c (.int .i64 1)], some 2, none, []⟩] false)
(.seq (.seq (.region [⟨.mov, [.v 0], some 5, none, []⟩,
 ⟨.len false, [.v 5], some 6, none, []⟩,
 ⟨.mov, [.c (.int .i64 0)], some 7, none, []⟩] false)
(.block 0 l_zcost_Mul_0))
(.seq (.seq (.region [⟨.mov, [.v 0], some 8, none, []⟩,
 ⟨.len false, [.v 8], some 9, none, []⟩,
 ⟨.mov, [.c (.int .i64 0)], some 10, none, []⟩] false)
(.block 2 l_zcost_Mul_1))
(.seq (.region [⟨.mov, [.v 2], none, none, []⟩,
 ⟨.mov, [.p 0], some 1, none, []⟩] false)
.ret))))),
[.v 1]⟩
def l_zcost_Times_0 : RCode := (.loop [false, false, true, false, true, true, true] (.seq (.region [⟨.bin .lss, [.v 6, .v 5], none, none, []⟩] false)
(.seq (.cond (.p 0) .skip (.exit 0))
(.seq (.block 1 (.seq (.region [⟨.iaddr 1, [.v 4, .v 6], none, none, []⟩,
 ⟨.load false 1, [.p 0], none, none, []⟩,
 ⟨.mov, [.p 0], some 3, none, []⟩] false)
(.region [⟨.mov, [.v 2], none, none, []⟩,
 ⟨.mov, [.v 3], none, none, []⟩,
 ⟨.max, [.p 0, .c (.int .i64 1)], none, none, []⟩,
 ⟨.bslice 1 (.int .i64 0) 2 [0, 1], [.p 2, .p 0], none, none, []⟩,
 ⟨.call false 82, [.p 0], none, none, []⟩,
 ⟨.mov, [.p 0], some 2, none, []⟩] false)))
(.region [⟨.bin .add, [.v 6, .c (.int .i64 1)], none, none, []⟩,
 ⟨.mov, [.p 0], some 6, none, []⟩] false)))))
def c_zcost_Times : RFunc := ⟨1, [0, 2, 3, 5, 6, 7, 8],
(.seq (.region [⟨.mov, [.c (.int .i64 0)], some 1, none, []⟩] false)
(.seq (.region [⟨.mov, [.c (.int .i64 1)], some 2, none, []⟩] false)
(.seq (.seq (.region [⟨.mov, [.v 0], some 4, none, []⟩,
 ⟨.len false, [.v 4], some 5, none, []⟩,
 ⟨.mov, [.c (.int .i64 0)], some 6, none, []⟩] false)
(.block 0 l_zcost_Times_0))
(.seq (.region [⟨.mov, [.v 2], none, none, []⟩,
 ⟨.mov, [.p 0], some 1, none, []⟩] false)
.ret)))),
[.v 1]⟩
def c_upoly_Deg : RFunc := ⟨1, [0, 2],
(.seq (.region [⟨.mov, [.c (.int .i64 0)], some 1, none, []⟩] false)
(.seq (.region [⟨.mov, [.v 0], none, none, []⟩,
 ⟨.call false 119, [.p 0], none, none, []⟩,
 ⟨.len false, [.p 0], none, none, []⟩,
 ⟨.bin .sub, [.p 0, .c (.int .i64 1)], none, none, []⟩,
 ⟨.mov, [.p 0], some 1, none, []⟩] false)
.ret)),
[.v 1]⟩
def l_upoly_Bits_0 : RCode := (.loop [false, false, true, false, true, true, true] (.seq (.region [⟨.bin .lss, [.v 6, .v 5], none, none, []⟩] false)
(.seq (.cond (.p 0) .skip (.exit 0))
(.seq (.block 1 (.seq (.region [⟨.iaddr 2, [.v 4, .v 6], none, none, []⟩,
 ⟨.load true 2, [.p 0], none, none, []⟩,
 ⟨.alloc (.agg [.bool false, .slc true []]), [], some 3, none, []⟩,
 ⟨.store 2, [.v 3, .p 1], none, none, []⟩] false)
(.region [⟨.mov, [.v 2], none, none, []⟩,
 ⟨.load true 2, [.v 3], none, none, []⟩,
 ⟨.call false 53, [.p 0], none, none, []⟩,
 ⟨.max, [.p 2, .p 0], none, none, []⟩,
 ⟨.mov, [.p 0], some 2, none, []⟩] false)))
(.region [⟨.bin .add, [.v 6, .c (.int .i64 1)], none, none, []⟩,
 ⟨.mov, [.p 0], some 6, none, []⟩] false)))))
def c_upoly_Bits : RFunc := ⟨1, [0, 2, 3, 5, 6, 7, 8],
(.seq (.region [⟨.mov, [.c (.int .i64 0)], some 1, none, []⟩] false)
(.seq (.region [⟨.mov, [.c (.int .i64 0)], some 2, none, []⟩] false)
(.seq (.seq (.region [⟨.mov, [.v 0], some 4, none, []⟩,
 ⟨.len false, [.v 4], some 5, none, []⟩,
 ⟨.mov, [.c (.int .i64 0)], some 6, none, []⟩] false)
(.block 0 l_upoly_Bits_0))
(.seq (.region [⟨.mov, [.v 2], none, none, []⟩,
 ⟨.mov, [.p 0], some 1, none, []⟩] false)
.ret)))),
[.v 1]⟩
def l_upoly_cut_0 : RCode := (.loop [true, false, true] (.seq (.seq (.region [⟨.mov, [.v 2], none, none, []⟩,
 ⟨.bin .gtr, [.p 0, .c (.int .i64 0)], none, none, []⟩,
 ⟨.mov, [.p 0], none, none, []⟩,
 ⟨.mov, [.v 0], none, some (0, true), []⟩,
 ⟨.mov, [.v 2], none, some (1, true), []⟩,
 ⟨.bin .sub, [.p 0, .c (.int .i64 1)], none, some (2, true), []⟩,
 ⟨.iaddr 2, [.p 2, .p 0], none, some (3, true), []⟩,
 ⟨.load true 2, [.p 0], none, some (4, true), []⟩,
 ⟨.call false 52, [.p 0], none, some (5, true), []⟩,
 ⟨.bin .eql, [.p 0, .c (.int .i64 0)], none, some (6, true), []⟩,
 ⟨.pick, [.p 7, .p 0, .c (.bool false)], none, none, []⟩] false)
(.cond (.p 0) .skip (.exit 0)))
(.block 1 (.region [⟨.mov, [.v 2], none, none, []⟩,
 ⟨.bin .sub, [.p 0, .c (.int .i64 1)], none, none, []⟩,
 ⟨.mov, [.p 0], some 2, none, []⟩] false))))
def c_upoly_cut : RFunc := ⟨1, [0, 2, 3],
(.seq (.region [⟨.mov, [.c (.slc true [])], some 1, none, []⟩] false)
(.seq (.region [⟨.mov, [.v 0], none, none, []⟩,
 ⟨.len false, [.p 0], none, none, []⟩,
 ⟨.mov, [.p 0], some 2, none, []⟩] false)
(.seq (.block 0 l_upoly_cut_0)
(.seq (.seq (.region [⟨.mov, [.v 2], none, none, []⟩,
 ⟨.bin .eql, [.p 0, .c (.int .i64 0)], none, none, []⟩] false)
(.cond (.p 0) (.seq (.region [⟨.mov, [.c (.slc true [])], some 1, none, []⟩] false)
.ret) .skip))
(.seq (.region [⟨.mov, [.v 0], none, none, []⟩,
 ⟨.mov, [.v 2], none, none, []⟩,
 ⟨.slice 2 false true false, [.p 1, .p 0], none, none, []⟩,
 ⟨.mov, [.p 0], some 1, none, []⟩] false)
.ret))))),
[.v 1]⟩
def l_ashlarref3_From_0 : RCode := (.loop [true, false, true, true] (.seq (.seq (.region [⟨.mov, [.v 3], none, none, []⟩,
 ⟨.mov, [.v 0], none, none, []⟩,
 ⟨.len false, [.p 0], none, none, []⟩,
 ⟨.bin .lss, [.p 2, .p 0], none, none, []⟩] false)
(.cond (.p 0) .skip (.exit 0)))
(.seq (.block 1 (.region [⟨.mov, [.v 2], none, none, []⟩,
 ⟨.mov, [.v 0], none, none, []⟩,
 ⟨.mov, [.v 3], none, none, []⟩,
 ⟨.iaddr 2, [.p 1, .p 0], none, none, []⟩,
 ⟨.load true 2, [.p 0], none, none, []⟩,
 ⟨.call false 10, [.p 0], none, none, []⟩,
 ⟨.bslice 2 (.agg [.bool false, .slc true []]) 1 [0], [.p 0], none, none, []⟩,
 ⟨.app 32 2, [.p 6, .p 0], none, none, []⟩,
 ⟨.mov, [.p 0], some 2, none, []⟩] false))
(.region [⟨.mov, [.v 3], none, none, []⟩,
 ⟨.bin .add, [.p 0, .c (.int .i64 1)], none, none, []⟩,
 ⟨.mov, [.p 0], some 3, none, []⟩] false))))
def c_ashlarref3_From : RFunc := ⟨1, [0, 2, 3, 4],
(.seq (.region [⟨.mov, [.c (.slc true [])], some 1, none, []⟩] false)
(.seq (.region [⟨.mov, [.c (.slc true [])], some 2, none, []⟩] false)
(.seq (.seq (.region [⟨.mov, [.c (.int .i64 0)], some 3, none, []⟩] false)
(.block 0 l_ashlarref3_From_0))
(.seq (.region [⟨.mov, [.v 2], none, none, []⟩,
 ⟨.call false 70, [.p 0], none, none, []⟩,
 ⟨.mov, [.p 0], some 1, none, []⟩] false)
.ret)))),
[.v 1]⟩
def l_ashlarref3_Of_0 : RCode := (.loop [true, false, true, true] (.seq (.seq (.region [⟨.mov, [.v 3], none, none, []⟩,
 ⟨.mov, [.v 0], none, none, []⟩,
 ⟨.len false, [.p 0], none, none, []⟩,
 ⟨.bin .lss, [.p 2, .p 0], none, none, []⟩] false)
(.cond (.p 0) .skip (.exit 0)))
(.seq (.block 1 (.region [⟨.mov, [.v 2], none, none, []⟩,
 ⟨.mov, [.v 0], none, none, []⟩,
 ⟨.mov, [.v 3], none, none, []⟩,
 ⟨.iaddr 1, [.p 1, .p 0], none, none, []⟩,
 ⟨.load false 1, [.p 0], none, none, []⟩,
 ⟨.call false 34, [.p 0], none, none, []⟩,
 ⟨.bslice 2 (.agg [.bool false, .slc true []]) 1 [0], [.p 0], none, none, []⟩,
 ⟨.app 32 2, [.p 6, .p 0], none, none, []⟩,
 ⟨.mov, [.p 0], some 2, none, []⟩] false))
(.region [⟨.mov, [.v 3], none, none, []⟩,
 ⟨.bin .add, [.p 0, .c (.int .i64 1)], none, none, []⟩,
 ⟨.mov, [.p 0], some 3, none, []⟩] false))))
def c_ashlarref3_Of : RFunc := ⟨1, [0, 2, 3, 4],
(.seq (.region [⟨.mov, [.c (.slc true [])], some 1, none, []⟩] false)
(.seq (.region [⟨.mov, [.c (.slc true [])], some 2, none, []⟩] false)
(.seq (.seq (.region [⟨.mov, [.c (.int .i64 0)], some 3, none, []⟩] false)
(.block 0 l_ashlarref3_Of_0))
(.seq (.region [⟨.mov, [.v 2], none, none, []⟩,
 ⟨.call false 70, [.p 0], none, none, []⟩,
 ⟨.mov, [.p 0], some 1, none, []⟩] false)
.ret)))),
[.v 1]⟩
def l_ashlarref3_Trim_0 : RCode := (.loop [true, false, true] (.seq (.seq (.region [⟨.mov, [.v 2], none, none, []⟩,
 ⟨.bin .gtr, [.p 0, .c (.int .i64 0)], none, none, []⟩,
 ⟨.mov, [.p 0], none, none, []⟩,
 ⟨.mov, [.v 0], none, some (0, true), []⟩,
 ⟨.mov, [.v 2], none, some (1, true), []⟩,
 ⟨.bin .sub, [.p 0, .c (.int .i64 1)], none, some (2, true), []⟩,
 ⟨.iaddr 2, [.p 2, .p 0], none, some (3, true), []⟩,
 ⟨.load true 2, [.p 0], none, some (4, true), []⟩,
 ⟨.call false 25, [.p 0], none, some (5, true), []⟩,
 ⟨.bin .eql, [.p 0, .c (.int .i64 0)], none, some (6, true), []⟩,
 ⟨.pick, [.p 7, .p 0, .c (.bool false)], none, none, []⟩] false)
(.cond (.p 0) .skip (.exit 0)))
(.block 1 (.region [⟨.mov, [.v 2], none, none, []⟩,
 ⟨.bin .sub, [.p 0, .c (.int .i64 1)], none, none, []⟩,
 ⟨.mov, [.p 0], some 2, none, []⟩] false))))
def c_ashlarref3_Trim : RFunc := ⟨1, [0, 2, 3],
(.seq (.region [⟨.mov, [.c (.slc true [])], some 1, none, []⟩] false)
(.seq (.region [⟨.mov, [.v 0], none, none, []⟩,
 ⟨.len false, [.p 0], none, none, []⟩,
 ⟨.mov, [.p 0], some 2, none, []⟩] false)
(.seq (.block 0 l_ashlarref3_Trim_0)
(.seq (.region [⟨.mov, [.v 0], none, none, []⟩,
 ⟨.mov, [.v 2], none, none, []⟩,
 ⟨.mov, [.v 2], none, none, []⟩,
 ⟨.slice 2 false true true, [.p 2, .p 1, .p 0], none, none, []⟩,
 ⟨.mov, [.p 0], some 1, none, []⟩] false)
.ret)))),
[.v 1]⟩
def c_ashlarref3_Deg : RFunc := ⟨1, [0, 2],
(.seq (.region [⟨.mov, [.c (.int .i64 0)], some 1, none, []⟩] false)
(.seq (.region [⟨.mov, [.v 0], none, none, []⟩,
 ⟨.len false, [.p 0], none, none, []⟩,
 ⟨.bin .sub, [.p 0, .c (.int .i64 1)], none, none, []⟩,
 ⟨.mov, [.p 0], some 1, none, []⟩] false)
.ret)),
[.v 1]⟩
def l_ashlarref3_Bits_0 : RCode := (.loop [true, false, true, true] (.seq (.seq (.region [⟨.mov, [.v 3], none, none, []⟩,
 ⟨.mov, [.v 0], none, none, []⟩,
 ⟨.len false, [.p 0], none, none, []⟩,
 ⟨.bin .lss, [.p 2, .p 0], none, none, []⟩] false)
(.cond (.p 0) .skip (.exit 0)))
(.seq (.block 1 (.seq (.region [⟨.mov, [.v 0], none, none, []⟩,
 ⟨.mov, [.v 3], none, none, []⟩,
 ⟨.iaddr 2, [.p 1, .p 0], none, none, []⟩,
 ⟨.load true 2, [.p 0], none, none, []⟩,
 ⟨.call false 54, [.p 0], none, none, []⟩,
 ⟨.mov, [.p 0], some 4, none, []⟩] false)
(.seq (.region [⟨.mov, [.v 4], none, none, []⟩,
 ⟨.mov, [.v 2], none, none, []⟩,
 ⟨.bin .gtr, [.p 1, .p 0], none, none, []⟩] false)
(.cond (.p 0) (.region [⟨.mov, [.v 4], none, none, []⟩,
 ⟨.mov, [.p 0], some 2, none, []⟩] false) .skip))))
(.region [⟨.mov, [.v 3], none, none, []⟩,
 ⟨.bin .add, [.p 0, .c (.int .i64 1)], none, none, []⟩,
 ⟨.mov, [.p 0], some 3, none, []⟩] false))))
def c_ashlarref3_Bits : RFunc := ⟨1, [0, 2, 3, 4, 5],
(.seq (.region [⟨.mov, [.c (.int .i64 0)], some 1, none, []⟩] false)
(.seq (.region [⟨.mov, [.c (.int .i64 0)], some 2, none, []⟩] false)
(.seq (.seq (.region [⟨.mov, [.c (.int .i64 0)], some 3, none, []⟩] false)
(.block 0 l_ashlarref3_Bits_0))
(.seq (.region [⟨.mov, [.v 2], none, none, []⟩,
 ⟨.mov, [.p 0], some 1, none, []⟩] false)
.ret)))),
[.v 1]⟩
def l_ashlarref3_To_0 : RCode := (.loop [true, false, true, true] (.seq (.seq (.region [⟨.mov, [.v 3], none, none, []⟩,
 ⟨.mov, [.v 0], none, none, []⟩,
 ⟨.len false, [.p 0], none, none, []⟩,
 ⟨.bin .lss, [.p 2, .p 0], none, none, []⟩] false)
(.cond (.p 0) .skip (.exit 0)))
(.seq (.block 1 (.region [⟨.mov, [.v 2], none, none, []⟩,
 ⟨.mov, [.v 0], none, none, []⟩,
 ⟨.mov, [.v 3], none, none, []⟩,
 ⟨.iaddr 2, [.p 1, .p 0], none, none, []⟩,
 ⟨.load true 2, [.p 0], none, none, []⟩,
 ⟨.call false 93, [.p 0], none, none, []⟩,
 ⟨.bslice 2 (.agg [.bool false, .slc true []]) 1 [0], [.p 0], none, none, []⟩,
 ⟨.app 32 2, [.p 6, .p 0], none, none, []⟩,
 ⟨.mov, [.p 0], some 2, none, []⟩] false))
(.region [⟨.mov, [.v 3], none, none, []⟩,
 ⟨.bin .add, [.p 0, .c (.int .i64 1)], none, none, []⟩,
 ⟨.mov, [.p 0], some 3, none, []⟩] false))))
def c_ashlarref3_To : RFunc := ⟨1, [0, 2, 3, 4],
(.seq (.region [⟨.mov, [.c (.slc true [])], some 1, none, []⟩] false)
(.seq (.region [⟨.mov, [.c (.slc true [])], some 2, none, []⟩] false)
(.seq (.seq (.region [⟨.mov, [.c (.int .i64 0)], some 3, none, []⟩] false)
(.block 0 l_ashlarref3_To_0))
(.seq (.region [⟨.mov, [.v 2], none, none, []⟩,
 ⟨.mov, [.p 0], some 1, none, []⟩] false)
.ret)))),
[.v 1]⟩
def l_ashlarref8_From_0 : RCode := (.loop [true, false, true, true] (.seq (.seq (.region [⟨.mov, [.v 3], none, none, []⟩,
 ⟨.mov, [.v 0], none, none, []⟩,
 ⟨.len false, [.p 0], none, none, []⟩,
 ⟨.bin .lss, [.p 2, .p 0], none, none, []⟩] false)
(.cond (.p 0) .skip (.exit 0)))
(.seq (.block 1 (.region [⟨.mov, [.v 2], none, none, []⟩,
 ⟨.mov, [.v 0], none, none, []⟩,
 ⟨.mov, [.v 3], none, none, []⟩,
 ⟨.iaddr 1, [.p 1, .p 0], none, none, []⟩,
 ⟨.load false 1, [.p 0], none, none, []⟩,
 ⟨.call false 9, [.p 0], none, none, []⟩,
 ⟨.bslice 1 (.slc true []) 1 [0], [.p 0], none, none, []⟩,
 ⟨.app 24 1, [.p 6, .p 0], none, none, []⟩,
 ⟨.mov, [.p 0], some 2, none, []⟩] false))
(.region [⟨.mov, [.v 3], none, none, []⟩,
 ⟨.bin .add, [.p 0, .c (.int .i64 1)], none, none, []⟩,
 ⟨.mov, [.p 0], some 3, none, []⟩] false))))
def c_ashlarref8_From : RFunc := ⟨1, [0, 2, 3, 4],
(.seq (.region [⟨.mov, [.c (.slc true [])], some 1, none, []⟩] false)
(.seq (.region [⟨.mov, [.c (.slc true [])], some 2, none, []⟩] false)
(.seq (.seq (.region [⟨.mov, [.c (.int .i64 0)], some 3, none, []⟩] false)
(.block 0 l_ashlarref8_From_0))
(.seq (.region [⟨.mov, [.v 2], none, none, []⟩,
 ⟨.call false 69, [.p 0], none, none, []⟩,
 ⟨.mov, [.p 0], some 1, none, []⟩] false)
.ret)))),
[.v 1]⟩
def l_ashlarref8_Trim_0 : RCode := (.loop [true, false, true] (.seq (.seq (.region [⟨.mov, [.v 2], none, none, []⟩,
 ⟨.bin .gtr, [.p 0, .c (.int .i64 0)], none, none, []⟩,
 ⟨.mov, [.p 0], none, none, []⟩,
 ⟨.mov, [.v 0], none, some (0, true), []⟩,
 ⟨.mov, [.v 2], none, some (1, true), []⟩,
 ⟨.bin .sub, [.p 0, .c (.int .i64 1)], none, some (2, true), []⟩,
 ⟨.iaddr 1, [.p 2, .p 0], none, some (3, true), []⟩,
 ⟨.load false 1, [.p 0], none, some (4, true), []⟩,
 ⟨.len false, [.p 0], none, some (5, true), []⟩,
 ⟨.bin .eql, [.p 0, .c (.int .i64 0)], none, some (6, true), []⟩,
 ⟨.pick, [.p 7, .p 0, .c (.bool false)], none, none, []⟩] false)
(.cond (.p 0) .skip (.exit 0)))
(.block 1 (.region [⟨.mov, [.v 2], none, none, []⟩,
 ⟨.bin .sub, [.p 0, .c (.int .i64 1)], none, none, []⟩,
 ⟨.mov, [.p 0], some 2, none, []⟩] false))))
def c_ashlarref8_Trim : RFunc := ⟨1, [0, 2, 3],
(.seq (.region [⟨.mov, [.c (.slc true [])], some 1, none, []⟩] false)
(.seq (.region [⟨.mov, [.v 0], none, none, []⟩,
 ⟨.len false, [.p 0], none, none, []⟩,
 ⟨.mov, [.p 0], some 2, none, []⟩] false)
(.seq (.block 0 l_ashlarref8_Trim_0)
(.seq (.region [⟨.mov, [.v 0], none, none, []⟩,
 ⟨.mov, [.v 2], none, none, []⟩,
 ⟨.mov, [.v 2], none, none, []⟩,
 ⟨.slice 1 false true true, [.p 2, .p 1, .p 0], none, none, []⟩,
 ⟨.mov, [.p 0], some 1, none, []⟩] false)
.ret)))),
[.v 1]⟩
def c_ashlarref8_Order : RFunc := ⟨1, [0, 2],
(.seq (.region [⟨.mov, [.c (.int .i64 0)], some 1, none, []⟩] false)
(.seq (.region [⟨.mov, [.v 0], none, none, []⟩,
 ⟨.len false, [.p 0], none, none, []⟩,
 ⟨.bin .sub, [.p 0, .c (.int .i64 1)], none, none, []⟩,
 ⟨.mov, [.p 0], some 1, none, []⟩] false)
.ret)),
[.v 1]⟩
def l_ashlarref8_Degree_0 : RCode := (.loop [true, false, true, true] (.seq (.seq (.region [⟨.mov, [.v 3], none, none, []⟩,
 ⟨.mov, [.v 0], none, none, []⟩,
 ⟨.len false, [.p 0], none, none, []⟩,
 ⟨.bin .lss, [.p 2, .p 0], none, none, []⟩] false)
(.cond (.p 0) .skip (.exit 0)))
(.seq (.block 1 (.seq (.region [⟨.mov, [.v 0], none, none, []⟩,
 ⟨.mov, [.v 3], none, none, []⟩,
 ⟨.iaddr 1, [.p 1, .p 0], none, none, []⟩,
 ⟨.load false 1, [.p 0], none, none, []⟩,
 ⟨.call false 79, [.p 0], none, none, []⟩,
 ⟨.mov, [.p 0], some 4, none, []⟩] false)
(.seq (.region [⟨.mov, [.v 4], none, none, []⟩,
 ⟨.mov, [.v 2], none, none, []⟩,
 ⟨.bin .gtr, [.p 1, .p 0], none, none, []⟩] false)
(.cond (.p 0) (.region [⟨.mov, [.v 4], none, none, []⟩,
 ⟨.mov, [.p 0], some 2, none, []⟩] false) .skip))))
(.region [⟨.mov, [.v 3], none, none, []⟩,
 ⟨.bin .add, [.p 0, .c (.int .i64 1)], none, none, []⟩,
 ⟨.mov, [.p 0], some 3, none, []⟩] false))))
def c_ashlarref8_Degree : RFunc := ⟨1, [0, 2, 3, 4, 5],
(.seq (.region [⟨.mov, [.c (.int .i64 0)], some 1, none, []⟩] false)
(.seq (.region [⟨.mov, [.c (.int .i64 (-1))], some 2, none, []⟩] false)
(.seq (.seq (.region [⟨.mov, [.c (.int .i64 0)], some 3, none, []⟩] false)
(.block 0 l_ashlarref8_Degree_0))
(.seq (.region [⟨.mov, [.v 2], none, none, []⟩,
 ⟨.mov, [.p 0], some 1, none, []⟩] false)
.ret)))),
[.v 1]⟩
def l_ashlarref8_Bits_0 : RCode := (.loop [true, false, true, true] (.seq (.seq (.region [⟨.mov, [.v 3], none, none, []⟩,
 ⟨.mov, [.v 0], none, none, []⟩,
 ⟨.len false, [.p 0], none, none, []⟩,
 ⟨.bin .lss, [.p 2, .p 0], none, none, []⟩] false)
(.cond (.p 0) .skip (.exit 0)))
(.seq (.block 1 (.seq (.region [⟨.mov, [.v 0], none, none, []⟩,
 ⟨.mov, [.v 3], none, none, []⟩,
 ⟨.iaddr 1, [.p 1, .p 0], none, none, []⟩,
 ⟨.load false 1, [.p 0], none, none, []⟩,
 ⟨.call false 80, [.p 0], none, none, []⟩,
 ⟨.mov, [.p 0], some 4, none, []⟩] false)
(.seq (.region [⟨.mov, [.v 4], none, none, []⟩,
 ⟨.mov, [.v 2], none, none, []⟩,
 ⟨.bin .gtr, [.p 1, .p 0], none, none, []⟩] false)
(.cond (.p 0) (.region [⟨.mov, [.v 4], none, none, []⟩,
 ⟨.mov, [.p 0], some 2, none, []⟩] false) .skip))))
(.region [⟨.mov, [.v 3], none, none, []⟩,
 ⟨.bin .add, [.p 0, .c (.int .i64 1)], none, none, []⟩,
 ⟨.mov, [.p 0], some 3, none, []⟩] false))))
def c_ashlarref8_Bits : RFunc := ⟨1, [0, 2, 3, 4, 5],
(.seq (.region [⟨.mov, [.c (.int .i64 0)], some 1, none, []⟩] false)
(.seq (.region [⟨.mov, [.c (.int .i64 0)], some 2, none, []⟩] false)
(.seq (.seq (.region [⟨.mov, [.c (.int .i64 0)], some 3, none, []⟩] false)
(.block 0 l_ashlarref8_Bits_0))
(.seq (.region [⟨.mov, [.v 2], none, none, []⟩,
 ⟨.mov, [.p 0], some 1, none, []⟩] false)
.ret)))),
[.v 1]⟩
def l_ashlarref8_To_0 : RCode := (.loop [true, false, true, true] (.seq (.seq (.region [⟨.mov, [.v 3], none, none, []⟩,
 ⟨.mov, [.v 0], none, none, []⟩,
 ⟨.len false, [.p 0], none, none, []⟩,
 ⟨.bin .lss, [.p 2, .p 0], none, none, []⟩] false)
(.cond (.p 0) .skip (.exit 0)))
(.seq (.block 1 (.region [⟨.mov, [.v 2], none, none, []⟩,
 ⟨.mov, [.v 0], none, none, []⟩,
 ⟨.mov, [.v 3], none, none, []⟩,
 ⟨.iaddr 1, [.p 1, .p 0], none, none, []⟩,
 ⟨.load false 1, [.p 0], none, none, []⟩,
 ⟨.call false 118, [.p 0], none, none, []⟩,
 ⟨.bslice 1 (.slc true []) 1 [0], [.p 0], none, none, []⟩,
 ⟨.app 24 1, [.p 6, .p 0], none, none, []⟩,
 ⟨.mov, [.p 0], some 2, none, []⟩] false))
(.region [⟨.mov, [.v 3], none, none, []⟩,
 ⟨.bin .add, [.p 0, .c (.int .i64 1)], none, none, []⟩,
 ⟨.mov, [.p 0], some 3, none, []⟩] false))))
def c_ashlarref8_To : RFunc := ⟨1, [0, 2, 3, 4],
(.seq (.region [⟨.mov, [.c (.slc true [])], some 1, none, []⟩] false)
(.seq (.region [⟨.mov, [.c (.slc true [])], some 2, none, []⟩] false)
(.seq (.seq (.region [⟨.mov, [.c (.int .i64 0)], some 3, none, []⟩] false)
(.block 0 l_ashlarref8_To_0))
(.seq (.region [⟨.mov, [.v 2], none, none, []⟩,
 ⟨.mov, [.p 0], some 1, none, []⟩] false)
.ret)))),
[.v 1]⟩
def l_ashlarref9_Times_0 : RCode := (.loop [true, false, true, true] (.seq (.seq (.region [⟨.mov, [.v 3], none, none, []⟩,
 ⟨.mov, [.v 0], none, none, []⟩,
 ⟨.len false, [.p 0], none, none, []⟩,
 ⟨.bin .lss, [.p 2, .p 0], none, none, []⟩] false)
(.cond (.p 0) .skip (.exit 0)))
(.seq (.block 1 (.seq (.region [⟨.mov, [.v 0], none, none, []⟩,
 ⟨.mov, [.v 3], none, none, []⟩,
 ⟨.iaddr 1, [.p 1, .p 0], none, none, []⟩,
 ⟨.load false 1, [.p 0], none, none, []⟩,
 ⟨.bin .gtr, [.p 0, .c (.int .i64 1)], none, none, []⟩] false)
(.cond (.p 0) (.region [⟨.mov, [.v 2], none, none, []⟩,
 ⟨.mov, [.v 0], none, none, []⟩,
 ⟨.mov, [.v 3], none, none, []⟩,
 ⟨.iaddr 1, [.p 1, .p 0], none, none, []⟩,
 ⟨.load false 1, [.p 0], none, none, []⟩,
 ⟨.call false 68, [.p 4, .p 0], none, none, []⟩,
 ⟨.mov, [.p 0], some 2, none, []⟩] false) .skip)))
(.region [⟨.mov, [.v 3], none, none, []⟩,
 ⟨.bin .add, [.p 0, .c (.int .i64 1)], none, none, []⟩,
 ⟨.mov, [.p 0], some 3, none, []⟩] false))))
def c_ashlarref9_Times : RFunc := ⟨1, [0, 2, 3, 4],
(.seq (.region [⟨.mov, [.c (.int .i64 0)], some 1, none, []⟩] false)
(.seq (.region [⟨.mov, [.c (.int .i64 1)], some 2, none, []⟩] false)
(.seq (.seq (.region [⟨.mov, [.c (.int .i64 0)], some 3, none, []⟩] false)
(.block 0 l_ashlarref9_Times_0))
(.seq (.region [⟨.mov, [.v 2], none, none, []⟩,
 ⟨.mov, [.p 0], some 1, none, []⟩] false)
.ret)))),
[.v 1]⟩
def c_ashlarref9_Size : RFunc := ⟨1, [0, 2, 3, 4],
(.seq (.region [⟨.mov, [.c (.int .i64 0)], some 1, none, []⟩,
 ⟨.mov, [.c (.int .i64 0)], some 2, none, []⟩,
 ⟨.mov, [.c (.int .i64 0)], some 3, none, []⟩] false)
(.seq (.seq (.region [⟨.mov, [.v 0], none, none, []⟩,
 ⟨.len false, [.p 0], none, none, []⟩,
 ⟨.bin .eql, [.p 0, .c (.int .i64 0)], none, none, []⟩] false)
(.cond (.p 0) (.seq (.region [⟨.mov, [.c (.int .i64 0)], some 1, none, []⟩,
 ⟨.mov, [.c (.int .i64 0)], some 2, none, []⟩,
 ⟨.mov, [.c (.int .i64 0)], some 3, none, []⟩] false)
.ret) .skip))
(.seq (.region [⟨.mov, [.v 0], none, none, []⟩,
 ⟨.call false 73, [.p 0], none, none, []⟩,
 ⟨.mov, [.v 0], none, none, []⟩,
 ⟨.call false 74, [.p 0], none, none, []⟩,
 ⟨.mov, [.v 0], none, none, []⟩,
 ⟨.call false 75, [.p 0], none, none, []⟩,
 ⟨.mov, [.p 4], some 1, none, []⟩,
 ⟨.mov, [.p 3], some 2, none, []⟩,
 ⟨.mov, [.p 2], some 3, none, []⟩] false)
.ret))),
[.v 1, .v 2, .v 3]⟩
def c_ashlarref9_Mul : RFunc := ⟨3, [0, 1, 2, 5, 6, 7, 8, 9, 10, 11, 12, 13],
(.seq (.region [⟨.box, [.v 2], some 3, none, []⟩,
 ⟨.mov, [.c (.int .i64 0)], some 4, none, []⟩] false)
(.seq (.region [⟨.mov, [.v 0], none, none, []⟩,
 ⟨.call false 12, [.p 0], none, none, []⟩,
 ⟨.mov, [.p 0], none, none, []⟩,
 ⟨.extract 0, [.p 0], none, none, []⟩,
 ⟨.extract 1, [.p 1], none, none, []⟩,
 ⟨.extract 2, [.p 2], none, none, []⟩,
 ⟨.mov, [.p 2], some 5, none, []⟩,
 ⟨.mov, [.p 2], some 6, none, []⟩,
 ⟨.mov, [.p 2], some 7, none, []⟩] false)
(.seq (.region [⟨.mov, [.v 1], none, none, []⟩,
 ⟨.call false 12, [.p 0], none, none, []⟩,
 ⟨.mov, [.p 0], none, none, []⟩,
 ⟨.extract 0, [.p 0], none, none, []⟩,
 ⟨.extract 1, [.p 1], none, none, []⟩,
 ⟨.extract 2, [.p 2], none, none, []⟩,
 ⟨.mov, [.p 2], some 8, none, []⟩,
 ⟨.mov, [.p 2], some 9, none, []⟩,
 ⟨.mov, [.p 2], some 10, none, []⟩] false)
(.seq (.region [⟨.load true 2, [.v 3], none, none, []⟩,
 ⟨.call false 54, [.p 0], none, none, []⟩,
 ⟨.mov, [.p 0], some 11, none, []⟩] false)
(.seq (.region [⟨.mov, [.v 5], none, none, []⟩,
 ⟨.bin .add, [.p 0, .c (.int .i64 1)], none, none, []⟩,
 ⟨.mov, [.v 8], none, none, []⟩,
 ⟨.bin .add, [.p 0, .c (.int .i64 1)], none, none, []⟩,
 ⟨.mov, [.v 6], none, none, []⟩,
 ⟨.mov, [.v 9], none, none, []⟩,
 ⟨.bin .add, [.p 1, .p 0], none, none, []⟩,
 ⟨.bin .add, [.p 0, .c (.int .i64 2)], none, none, []⟩,
 ⟨.mov, [.v 7], none, none, []⟩,
 ⟨.mov, [.v 10], none, none, []⟩,
 ⟨.mov, [.v 5], none, none, []⟩,
 ⟨.bin .add, [.p 0, .c (.int .i64 1)], none, none, []⟩,
 ⟨.mov, [.v 9], none, none, []⟩,
 ⟨.bin .add, [.p 0, .c (.int .i64 1)], none, none, []⟩,
 ⟨.call false 68, [.p 2, .p 0], none, none, []⟩,
 ⟨.mov, [.v 5], none, none, []⟩,
 ⟨.mov, [.v 9], none, none, []⟩,
 ⟨.bin .add, [.p 0, .c (.int .i64 1)], none, none, []⟩,
 ⟨.call false 68, [.p 2, .p 0], none, none, []⟩,
 ⟨.mov, [.v 11], none, none, []⟩,
 ⟨.call false 68, [.p 1, .p 0], none, none, []⟩,
 ⟨.bslice 1 (.int .i64 0) 5 [0, 1, 2, 3, 4], [.p 12, .p 11, .p 6, .p 0, .c (.int .i64 8)], none, none, []⟩,
 ⟨.call false 77, [.p 0], none, none, []⟩,
 ⟨.bslice 1 (.int .i64 0) 4 [0, 1, 2, 3], [.p 21, .p 19, .p 15, .p 0], none, none, []⟩,
 ⟨.call false 4, [.p 0], none, none, []⟩,
 ⟨.mov, [.p 0], some 4, none, []⟩] false)
.ret))))),
[.v 4]⟩
def c_ashlarref9_Apply : RFunc := ⟨3, [0, 1, 2, 5, 6, 7, 8, 9, 10, 11],
(.seq (.region [⟨.box, [.v 2], some 3, none, []⟩,
 ⟨.mov, [.c (.int .i64 0)], some 4, none, []⟩] false)
(.seq (.region [⟨.mov, [.v 0], none, none, []⟩,
 ⟨.call false 12, [.p 0], none, none, []⟩,
 ⟨.mov, [.p 0], none, none, []⟩,
 ⟨.extract 0, [.p 0], none, none, []⟩,
 ⟨.extract 1, [.p 1], none, none, []⟩,
 ⟨.extract 2, [.p 2], none, none, []⟩,
 ⟨.mov, [.p 2], some 5, none, []⟩,
 ⟨.mov, [.p 2], some 6, none, []⟩,
 ⟨.mov, [.p 2], some 7, none, []⟩] false)
(.seq (.region [⟨.load true 2, [.v 3], none, none, []⟩,
 ⟨.call false 54, [.p 0], none, none, []⟩,
 ⟨.mov, [.p 0], some 8, none, []⟩] false)
(.seq (.region [⟨.mov, [.v 1], none, none, []⟩,
 ⟨.call false 79, [.p 0], none, none, []⟩,
 ⟨.mov, [.p 0], some 9, none, []⟩] false)
(.seq (.region [⟨.mov, [.v 5], none, none, []⟩,
 ⟨.bin .add, [.p 0, .c (.int .i64 1)], none, none, []⟩,
 ⟨.mov, [.v 6], none, none, []⟩,
 ⟨.mov, [.v 9], none, none, []⟩,
 ⟨.bin .add, [.p 1, .p 0], none, none, []⟩,
 ⟨.bin .add, [.p 0, .c (.int .i64 3)], none, none, []⟩,
 ⟨.mov, [.v 7], none, none, []⟩,
 ⟨.mov, [.v 1], none, none, []⟩,
 ⟨.call false 80, [.p 0], none, none, []⟩,
 ⟨.mov, [.v 5], none, none, []⟩,
 ⟨.bin .add, [.p 0, .c (.int .i64 1)], none, none, []⟩,
 ⟨.mov, [.v 9], none, none, []⟩,
 ⟨.bin .add, [.p 0, .c (.int .i64 2)], none, none, []⟩,
 ⟨.call false 68, [.p 2, .p 0], none, none, []⟩,
 ⟨.mov, [.v 8], none, none, []⟩,
 ⟨.bin .add, [.p 0, .c (.int .i64 8)], none, none, []⟩,
 ⟨.call false 68, [.p 2, .p 0], none, none, []⟩,
 ⟨.bslice 1 (.int .i64 0) 3 [0, 1, 2], [.p 10, .p 8, .p 0], none, none, []⟩,
 ⟨.call false 77, [.p 0], none, none, []⟩,
 ⟨.bslice 1 (.int .i64 0) 3 [0, 1, 2], [.p 17, .p 13, .p 0], none, none, []⟩,
 ⟨.call false 4, [.p 0], none, none, []⟩,
 ⟨.mov, [.p 0], some 4, none, []⟩] false)
.ret))))),
[.v 4]⟩
def c_ashlarref9_Divide : RFunc := ⟨3, [0, 1, 2, 5, 6, 7, 8, 9, 10, 11, 12, 13],
(.seq (.region [⟨.box, [.v 2], some 3, none, []⟩,
 ⟨.mov, [.c (.int .i64 0)], some 4, none, []⟩] false)
(.seq (.region [⟨.mov, [.v 0], none, none, []⟩,
 ⟨.call false 12, [.p 0], none, none, []⟩,
 ⟨.mov, [.p 0], none, none, []⟩,
 ⟨.extract 0, [.p 0], none, none, []⟩,
 ⟨.extract 1, [.p 1], none, none, []⟩,
 ⟨.extract 2, [.p 2], none, none, []⟩,
 ⟨.mov, [.p 2], some 5, none, []⟩,
 ⟨.mov, [.p 2], some 6, none, []⟩,
 ⟨.mov, [.p 2], some 7, none, []⟩] false)
(.seq (.region [⟨.mov, [.v 1], none, none, []⟩,
 ⟨.call false 12, [.p 0], none, none, []⟩,
 ⟨.mov, [.p 0], none, none, []⟩,
 ⟨.extract 0, [.p 0], none, none, []⟩,
 ⟨.extract 1, [.p 1], none, none, []⟩,
 ⟨.extract 2, [.p 2], none, none, []⟩,
 ⟨.mov, [.p 2], some 8, none, []⟩,
 ⟨.mov, [.p 2], some 9, none, []⟩,
 ⟨.mov, [.p 2], some 10, none, []⟩] false)
(.seq (.region [⟨.load true 2, [.v 3], none, none, []⟩,
 ⟨.call false 54, [.p 0], none, none, []⟩,
 ⟨.mov, [.p 0], some 11, none, []⟩] false)
(.seq (.region [⟨.mov, [.v 5], none, none, []⟩,
 ⟨.bin .add, [.p 0, .c (.int .i64 1)], none, none, []⟩,
 ⟨.mov, [.v 8], none, none, []⟩,
 ⟨.bin .add, [.p 0, .c (.int .i64 1)], none, none, []⟩,
 ⟨.mov, [.v 5], none, none, []⟩,
 ⟨.mov, [.v 8], none, none, []⟩,
 ⟨.bin .add, [.p 1, .p 0], none, none, []⟩,
 ⟨.bin .add, [.p 0, .c (.int .i64 2)], none, none, []⟩,
 ⟨.mov, [.v 6], none, none, []⟩,
 ⟨.mov, [.v 9], none, none, []⟩,
 ⟨.bin .add, [.p 1, .p 0], none, none, []⟩,
 ⟨.bin .add, [.p 0, .c (.int .i64 2)], none, none, []⟩,
 ⟨.mov, [.v 7], none, none, []⟩,
 ⟨.mov, [.v 10], none, none, []⟩,
 ⟨.mov, [.v 5], none, none, []⟩,
 ⟨.bin .add, [.p 0, .c (.int .i64 1)], none, none, []⟩,
 ⟨.mov, [.v 11], none, none, []⟩,
 ⟨.bin .add, [.p 0, .c (.int .i64 2)], none, none, []⟩,
 ⟨.call false 68, [.p 2, .p 0], none, none, []⟩,
 ⟨.bslice 1 (.int .i64 0) 4 [0, 1, 2, 3], [.p 6, .p 5, .p 0, .c (.int .i64 8)], none, none, []⟩,
 ⟨.call false 77, [.p 0], none, none, []⟩,
 ⟨.bslice 1 (.int .i64 0) 5 [0, 1, 2, 3, 4], [.p 19, .p 17, .p 13, .p 9, .p 0], none, none, []⟩,
 ⟨.call false 4, [.p 0], none, none, []⟩,
 ⟨.mov, [.p 0], some 4, none, []⟩] false)
.ret))))),
[.v 4]⟩
def c_ashlarref9_Common : RFunc := ⟨3, [0, 1, 2, 5, 6, 7, 8, 9, 10, 11, 12, 13, 14],
(.seq (.region [⟨.box, [.v 2], some 3, none, []⟩,
 ⟨.mov, [.c (.int .i64 0)], some 4, none, []⟩] false)
(.seq (.region [⟨.mov, [.v 0], none, none, []⟩,
 ⟨.call false 12, [.p 0], none, none, []⟩,
 ⟨.mov, [.p 0], none, none, []⟩,
 ⟨.extract 0, [.p 0], none, none, []⟩,
 ⟨.extract 1, [.p 1], none, none, []⟩,
 ⟨.extract 2, [.p 2], none, none, []⟩,
 ⟨.mov, [.p 2], some 5, none, []⟩,
 ⟨.mov, [.p 2], some 6, none, []⟩,
 ⟨.mov, [.p 2], some 7, none, []⟩] false)
(.seq (.region [⟨.mov, [.v 1], none, none, []⟩,
 ⟨.call false 12, [.p 0], none, none, []⟩,
 ⟨.mov, [.p 0], none, none, []⟩,
 ⟨.extract 0, [.p 0], none, none, []⟩,
 ⟨.extract 1, [.p 1], none, none, []⟩,
 ⟨.extract 2, [.p 2], none, none, []⟩,
 ⟨.mov, [.p 2], some 8, none, []⟩,
 ⟨.mov, [.p 2], some 9, none, []⟩,
 ⟨.mov, [.p 2], some 10, none, []⟩] false)
(.seq (.region [⟨.load true 2, [.v 3], none, none, []⟩,
 ⟨.call false 54, [.p 0], none, none, []⟩,
 ⟨.mov, [.p 0], some 11, none, []⟩] false)
(.seq (.region [⟨.mov, [.v 5], none, none, []⟩,
 ⟨.mov, [.v 8], none, none, []⟩,
 ⟨.bin .add, [.p 1, .p 0], none, none, []⟩,
 ⟨.bin .add, [.p 0, .c (.int .i64 2)], none, none, []⟩,
 ⟨.mov, [.p 0], some 12, none, []⟩] false)
(.seq (.region [⟨.mov, [.v 12], none, none, []⟩,
 ⟨.mov, [.v 12], none, none, []⟩,
 ⟨.mov, [.v 12], none, none, []⟩,
 ⟨.mov, [.v 12], none, none, []⟩,
 ⟨.mov, [.v 6], none, none, []⟩,
 ⟨.mov, [.v 9], none, none, []⟩,
 ⟨.bin .add, [.p 1, .p 0], none, none, []⟩,
 ⟨.call false 68, [.p 3, .p 0], none, none, []⟩,
 ⟨.call false 83, [.p 0, .c (.int .i64 2)], none, none, []⟩,
 ⟨.mov, [.v 7], none, none, []⟩,
 ⟨.mov, [.v 10], none, none, []⟩,
 ⟨.mov, [.v 5], none, none, []⟩,
 ⟨.mov, [.v 8], none, none, []⟩,
 ⟨.bin .add, [.p 1, .p 0], none, none, []⟩,
 ⟨.bin .add, [.p 0, .c (.int .i64 1)], none, none, []⟩,
 ⟨.mov, [.v 11], none, none, []⟩,
 ⟨.bin .add, [.p 0, .c (.int .i64 2)], none, none, []⟩,
 ⟨.call false 68, [.p 2, .p 0], none, none, []⟩,
 ⟨.bslice 1 (.int .i64 0) 4 [0, 1, 2, 3], [.p 8, .p 7, .p 0, .c (.int .i64 8)], none, none, []⟩,
 ⟨.call false 77, [.p 0], none, none, []⟩,
 ⟨.bslice 1 (.int .i64 0) 5 [0, 1, 2, 3, 4], [.p 19, .p 18, .p 17, .p 11, .p 0], none, none, []⟩,
 ⟨.call false 4, [.p 0], none, none, []⟩,
 ⟨.mov, [.p 0], some 4, none, []⟩] false)
.ret)))))),
[.v 4]⟩
def c_ashlarref9_By : RFunc := ⟨2, [0, 1, 4],
(.seq (.region [⟨.mov, [.c (.int .i64 0)], some 2, none, []⟩] false)
(.seq (.seq (.region [⟨.mov, [.v 0], none, none, []⟩,
 ⟨.bin .gtr, [.p 0, .c (.int .i64 4611686018427387904)], none, none, []⟩] false)
(.cond (.p 0) (.region [⟨.mov, [.c (.int .i64 4611686018427387904)], some 0, none, []⟩] false) .skip))
(.seq (.seq (.region [⟨.mov, [.v 0], none, none, []⟩,
 ⟨.bin .neq, [.p 0, .c (.int .i64 0)], none, none, []⟩,
 ⟨.mov, [.p 0], none, none, []⟩,
 ⟨.mov, [.v 1], none, some (0, true), []⟩,
 ⟨.mov, [.v 0], none, some (1, true), []⟩,
 ⟨.bin .quo, [.c (.int .i64 4611686018427387904), .p 0], none, some (2, true), []⟩,
 ⟨.bin .gtr, [.p 2, .p 0], none, some (3, true), []⟩,
 ⟨.pick, [.p 4, .p 0, .c (.bool false)], none, none, []⟩] false)
(.cond (.p 0) (.seq (.region [⟨.mov, [.c (.int .i64 4611686018427387904)], some 2, none, []⟩] false)
.ret) .skip))
(.seq (.region [⟨.mov, [.v 0], none, none, []⟩,
 ⟨.mov, [.v 1], none, none, []⟩,
 ⟨.bin .mul, [.p 1, .p 0], none, none, []⟩,
 ⟨.mov, [.p 0], some 2, none, []⟩] false)
.ret)))),
[.v 2]⟩
def l_ashlarref9_Sum_0 : RCode := (.loop [true, false, true, true] (.seq (.seq (.region [⟨.mov, [.v 3], none, none, []⟩,
 ⟨.mov, [.v 0], none, none, []⟩,
 ⟨.len false, [.p 0], none, none, []⟩,
 ⟨.bin .lss, [.p 2, .p 0], none, none, []⟩] false)
(.cond (.p 0) .skip (.exit 0)))
(.seq (.block 1 (.region [⟨.mov, [.v 2], none, none, []⟩,
 ⟨.mov, [.v 0], none, none, []⟩,
 ⟨.mov, [.v 3], none, none, []⟩,
 ⟨.iaddr 1, [.p 1, .p 0], none, none, []⟩,
 ⟨.load false 1, [.p 0], none, none, []⟩,
 ⟨.call false 83, [.p 4, .p 0], none, none, []⟩,
 ⟨.mov, [.p 0], some 2, none, []⟩] false))
(.region [⟨.mov, [.v 3], none, none, []⟩,
 ⟨.bin .add, [.p 0, .c (.int .i64 1)], none, none, []⟩,
 ⟨.mov, [.p 0], some 3, none, []⟩] false))))
def c_ashlarref9_Sum : RFunc := ⟨1, [0, 2, 3, 4],
(.seq (.region [⟨.mov, [.c (.int .i64 0)], some 1, none, []⟩] false)
(.seq (.region [⟨.mov, [.c (.int .i64 0)], some 2, none, []⟩] false)
(.seq (.seq (.region [⟨.mov, [.c (.int .i64 0)], some 3, none, []⟩] false)
(.block 0 l_ashlarref9_Sum_0))
(.seq (.region [⟨.mov, [.v 2], none, none, []⟩,
 ⟨.mov, [.p 0], some 1, none, []⟩] false)
.ret)))),
[.v 1]⟩
def c_ashlarref9_Plus : RFunc := ⟨2, [0, 1, 4],
(.seq (.region [⟨.mov, [.c (.int .i64 0)], some 2, none, []⟩] false)
(.seq (.seq (.region [⟨.mov, [.v 0], none, none, []⟩,
 ⟨.mov, [.v 1], none, none, []⟩,
 ⟨.bin .sub, [.c (.int .i64 4611686018427387904), .p 0], none, none, []⟩,
 ⟨.bin .gtr, [.p 2, .p 0], none, none, []⟩] false)
(.cond (.p 0) (.seq (.region [⟨.mov, [.c (.int .i64 4611686018427387904)], some 2, none, []⟩] false)
.ret) .skip))
(.seq (.region [⟨.mov, [.v 0], none, none, []⟩,
 ⟨.mov, [.v 1], none, none, []⟩,
 ⟨.bin .add, [.p 1, .p 0], none, none, []⟩,
 ⟨.mov, [.p 0], some 2, none, []⟩] false)
.ret))),
[.v 2]⟩
def l_ashlarlaw9_GaugeTimes_0 : RCode := (.loop [true, false, true, true, true] (.seq (.seq (.region [⟨.mov, [.v 4], none, none, []⟩,
 ⟨.bin .geq, [.p 0, .c (.int .i64 0)], none, none, []⟩] false)
(.cond (.p 0) .skip (.exit 0)))
(.seq (.block 1 (.region [⟨.mov, [.v 3], none, none, []⟩,
 ⟨.mov, [.v 0], none, none, []⟩,
 ⟨.mov, [.v 4], none, none, []⟩,
 ⟨.iaddr 1, [.p 1, .p 0], none, none, []⟩,
 ⟨.load false 1, [.p 0], none, none, []⟩,
 ⟨.bslice 1 (.int .i64 0) 1 [0], [.p 0], none, none, []⟩,
 ⟨.app 8 1, [.p 5, .p 0], none, none, []⟩,
 ⟨.mov, [.p 0], some 3, none, []⟩] false))
(.region [⟨.mov, [.v 4], none, none, []⟩,
 ⟨.bin .sub, [.p 0, .c (.int .i64 1)], none, none, []⟩,
 ⟨.mov, [.p 0], some 4, none, []⟩] false))))
def c_ashlarlaw9_GaugeTimes : RFunc := ⟨1, [0, 2, 3, 4, 5, 6],
(.seq (.region [⟨.mov, [.c (.bool false)], some 1, none, []⟩] false)
(.seq (.region [⟨.call false 2, [], none, none, []⟩,
 ⟨.mov, [.p 0], some 2, none, []⟩] false)
(.seq (.seq (.region [⟨.mov, [.v 0], none, none, []⟩,
 ⟨.len false, [.p 0], none, none, []⟩,
 ⟨.bin .gtr, [.p 0, .c (.int .i64 50)], none, none, []⟩] false)
(.cond (.p 0) (.region [⟨.mov, [.v 0], none, none, []⟩,
 ⟨.slice 1 false true false, [.p 0, .c (.int .i64 50)], none, none, []⟩,
 ⟨.mov, [.p 0], some 0, none, []⟩] false) .skip))
(.seq (.region [⟨.mov, [.c (.slc true [])], some 3, none, []⟩] false)
(.seq (.seq (.region [⟨.mov, [.v 0], none, none, []⟩,
 ⟨.len false, [.p 0], none, none, []⟩,
 ⟨.bin .sub, [.p 0, .c (.int .i64 1)], none, none, []⟩,
 ⟨.mov, [.p 0], some 4, none, []⟩] false)
(.block 0 l_ashlarlaw9_GaugeTimes_0))
(.seq (.region [⟨.mov, [.v 0], none, none, []⟩,
 ⟨.call false 3, [.p 0], none, none, []⟩,
 ⟨.mov, [.p 0], some 5, none, []⟩] false)
(.seq (.region [⟨.mov, [.v 2], none, none, []⟩,
 ⟨.mov, [.p 0], none, none, []⟩,
 ⟨.mov, [.v 5], none, some (0, true), []⟩,
 ⟨.mov, [.v 0], none, some (1, true), []⟩,
 ⟨.call false 4, [.p 0], none, some (2, true), []⟩,
 ⟨.bin .eql, [.p 2, .p 0], none, some (3, true), []⟩,
 ⟨.pick, [.p 4, .p 0, .c (.bool false)], none, none, []⟩,
 ⟨.mov, [.p 0], none, none, []⟩,
 ⟨.mov, [.v 3], none, some (0, true), []⟩,
 ⟨.call false 3, [.p 0], none, some (1, true), []⟩,
 ⟨.mov, [.v 5], none, some (2, true), []⟩,
 ⟨.bin .eql, [.p 1, .p 0], none, some (3, true), []⟩,
 ⟨.pick, [.p 4, .p 0, .c (.bool false)], none, none, []⟩,
 ⟨.mov, [.p 0], none, none, []⟩,
 ⟨.mov, [.v 5], none, some (0, true), []⟩,
 ⟨.bin .geq, [.p 0, .c (.int .i64 1)], none, some (1, true), []⟩,
 ⟨.pick, [.p 2, .p 0, .c (.bool false)], none, none, []⟩,
 ⟨.mov, [.p 0], none, none, []⟩,
 ⟨.mov, [.v 5], none, some (0, true), []⟩,
 ⟨.bin .leq, [.p 0, .c (.int .i64 4611686018427387904)], none, some (1, true), []⟩,
 ⟨.pick, [.p 2, .p 0, .c (.bool false)], none, none, []⟩,
 ⟨.mov, [.p 0], some 1, none, []⟩] false)
.ret))))))),
[.v 1]⟩
def c_ashlarlaw9_GaugeOps : RFunc := ⟨4, [0, 1, 2, 3, 7, 8, 9, 10, 11, 12, 13, 14, 15, 16, 17],
(.seq (.region [⟨.box, [.v 3], some 4, none, []⟩,
 ⟨.mov, [.c (.bool false)], some 5, none, []⟩] false)
(.seq (.region [⟨.call false 2, [], none, none, []⟩,
 ⟨.mov, [.p 0], some 6, none, []⟩] false)
(.seq (.region [⟨.mov, [.v 0], none, none, []⟩,
 ⟨.call false 6, [.p 0, .c (.int .i64 8), .c (.int .i64 8), .c (.int .i64 4)], none, none, []⟩,
 ⟨.mov, [.v 1], none, none, []⟩,
 ⟨.call false 6, [.p 0, .c (.int .i64 8), .c (.int .i64 8), .c (.int .i64 4)], none, none, []⟩,
 ⟨.mov, [.v 2], none, none, []⟩,
 ⟨.call false 7, [.p 0, .c (.int .i64 9), .c (.int .i64 4)], none, none, []⟩,
 ⟨.load true 2, [.v 4], none, none, []⟩,
 ⟨.bslice 2 (.agg [.bool false, .slc true []]) 1 [0], [.p 0], none, none, []⟩,
 ⟨.call false 7, [.p 0, .c (.int .i64 1), .c (.int .i64 4)], none, none, []⟩,
 ⟨.iaddr 2, [.p 0, .c (.int .i64 0)], none, none, []⟩,
 ⟨.load true 2, [.p 0], none, none, []⟩,
 ⟨.mov, [.p 9], some 0, none, []⟩,
 ⟨.mov, [.p 8], some 1, none, []⟩,
 ⟨.mov, [.p 7], some 2, none, []⟩,
 ⟨.store 2, [.v 4, .p 3], none, none, []⟩] true)
(.seq (.region [⟨.mov, [.v 0], none, none, []⟩,
 ⟨.call false 8, [.p 0], none, none, []⟩,
 ⟨.mov, [.v 1], none, none, []⟩,
 ⟨.call false 8, [.p 0], none, none, []⟩,
 ⟨.mov, [.v 2], none, none, []⟩,
 ⟨.call false 9, [.p 0], none, none, []⟩,
 ⟨.load true 2, [.v 4], none, none, []⟩,
 ⟨.call false 10, [.p 0], none, none, []⟩,
 ⟨.alloc (.agg [.bool false, .slc true []]), [], some 10, none, []⟩,
 ⟨.mov, [.p 7], some 7, none, []⟩,
 ⟨.mov, [.p 6], some 8, none, []⟩,
 ⟨.mov, [.p 5], some 9, none, []⟩,
 ⟨.store 2, [.v 10, .p 4], none, none, []⟩] true)
(.seq (.region [⟨.mov, [.v 0], none, none, []⟩,
 ⟨.call false 11, [.p 0], none, none, []⟩,
 ⟨.alloc (.agg [.int .i64 0, .int .i64 0, .int .i64 0]), [], some 11, none, []⟩,
 ⟨.store 3, [.v 11, .p 1], none, none, []⟩] false)
(.seq (.region [⟨.mov, [.v 7], none, none, []⟩,
 ⟨.call false 12, [.p 0], none, none, []⟩,
 ⟨.mov, [.p 0], none, none, []⟩,
 ⟨.extract 0, [.p 0], none, none, []⟩,
 ⟨.extract 1, [.p 1], none, none, []⟩,
 ⟨.extract 2, [.p 2], none, none, []⟩,
 ⟨.mov, [.p 2], some 12, none, []⟩,
 ⟨.mov, [.p 2], some 13, none, []⟩,
 ⟨.mov, [.p 2], some 14, none, []⟩] false)
(.seq (.region [⟨.mov, [.v 6], none, none, []⟩,
 ⟨.mov, [.p 0], none, none, []⟩,
 ⟨.faddr 0, [.v 11], none, some (0, true), []⟩,
 ⟨.load false 1, [.p 0], none, some (1, true), []⟩,
 ⟨.mov, [.v 12], none, some (2, true), []⟩,
 ⟨.bin .eql, [.p 1, .p 0], none, some (3, true), []⟩,
 ⟨.pick, [.p 4, .p 0, .c (.bool false)], none, none, []⟩,
 ⟨.mov, [.p 0], none, none, []⟩,
 ⟨.faddr 1, [.v 11], none, some (0, true), []⟩,
 ⟨.load false 1, [.p 0], none, some (1, true), []⟩,
 ⟨.mov, [.v 13], none, some (2, true), []⟩,
 ⟨.bin .eql, [.p 1, .p 0], none, some (3, true), []⟩,
 ⟨.pick, [.p 4, .p 0, .c (.bool false)], none, none, []⟩,
 ⟨.mov, [.p 0], none, none, []⟩,
 ⟨.faddr 2, [.v 11], none, some (0, true), []⟩,
 ⟨.load false 1, [.p 0], none, some (1, true), []⟩,
 ⟨.mov, [.v 14], none, some (2, true), []⟩,
 ⟨.bin .eql, [.p 1, .p 0], none, some (3, true), []⟩,
 ⟨.pick, [.p 4, .p 0, .c (.bool false)], none, none, []⟩,
 ⟨.mov, [.p 0], none, none, []⟩,
 ⟨.mov, [.v 0], none, some (0, true), []⟩,
 ⟨.mov, [.v 1], none, some (1, true), []⟩,
 ⟨.load true 2, [.v 4], none, some (2, true), []⟩,
 ⟨.call false 13, [.p 2, .p 1, .p 0], none, some (3, true), []⟩,
 ⟨.mov, [.v 7], none, some (4, true), []⟩,
 ⟨.mov, [.v 8], none, some (5, true), []⟩,
 ⟨.load true 2, [.v 10], none, some (6, true), []⟩,
 ⟨.call false 14, [.p 2, .p 1, .p 0], none, some (7, true), []⟩,
 ⟨.bin .eql, [.p 4, .p 0], none, some (8, true), []⟩,
 ⟨.pick, [.p 9, .p 0, .c (.bool false)], none, none, []⟩,
 ⟨.mov, [.p 0], none, none, []⟩,
 ⟨.mov, [.v 0], none, some (0, true), []⟩,
 ⟨.mov, [.v 2], none, some (1, true), []⟩,
 ⟨.load true 2, [.v 4], none, some (2, true), []⟩,
 ⟨.call false 15, [.p 2, .p 1, .p 0], none, some (3, true), []⟩,
 ⟨.mov, [.v 7], none, some (4, true), []⟩,
 ⟨.mov, [.v 9], none, some (5, true), []⟩,
 ⟨.load true 2, [.v 10], none, some (6, true), []⟩,
 ⟨.call false 16, [.p 2, .p 1, .p 0], none, some (7, true), []⟩,
 ⟨.bin .eql, [.p 4, .p 0], none, some (8, true), []⟩,
 ⟨.pick, [.p 9, .p 0, .c (.bool false)], none, none, []⟩,
 ⟨.mov, [.p 0], none, none, []⟩,
 ⟨.mov, [.v 0], none, some (0, true), []⟩,
 ⟨.mov, [.v 1], none, some (1, true), []⟩,
 ⟨.load true 2, [.v 4], none, some (2, true), []⟩,
 ⟨.call false 17, [.p 2, .p 1, .p 0], none, some (3, true), []⟩,
 ⟨.mov, [.v 7], none, some (4, true), []⟩,
 ⟨.mov, [.v 8], none, some (5, true), []⟩,
 ⟨.load true 2, [.v 10], none, some (6, true), []⟩,
 ⟨.call false 18, [.p 2, .p 1, .p 0], none, some (7, true), []⟩,
 ⟨.bin .eql, [.p 4, .p 0], none, some (8, true), []⟩,
 ⟨.pick, [.p 9, .p 0, .c (.bool false)], none, none, []⟩,
 ⟨.mov, [.p 0], none, none, []⟩,
 ⟨.mov, [.v 0], none, some (0, true), []⟩,
 ⟨.mov, [.v 1], none, some (1, true), []⟩,
 ⟨.load true 2, [.v 4], none, some (2, true), []⟩,
 ⟨.call false 19, [.p 2, .p 1, .p 0], none, some (3, true), []⟩,
 ⟨.mov, [.v 7], none, some (4, true), []⟩,
 ⟨.mov, [.v 8], none, some (5, true), []⟩,
 ⟨.load true 2, [.v 10], none, some (6, true), []⟩,
 ⟨.call false 20, [.p 2, .p 1, .p 0], none, some (7, true), []⟩,
 ⟨.bin .eql, [.p 4, .p 0], none, some (8, true), []⟩,
 ⟨.pick, [.p 9, .p 0, .c (.bool false)], none, none, []⟩,
 ⟨.mov, [.p 0], some 5, none, []⟩] true)
.ret))))))),
[.v 5]⟩
def c_ashlarlaw9_begun : RFunc := ⟨0, [0, 1, 2, 3],
(.seq (.region [⟨.mov, [.c (.bool false)], some 0, none, []⟩] false)
(.seq (.region [⟨.bslice 1 (.int .i64 0) 1 [0], [.c (.int .i64 1)], none, none, []⟩,
 ⟨.call false 64, [.p 0], none, none, []⟩,
 ⟨.bslice 1 (.slc true []) 2 [0, 1], [.c (.slc true []), .p 0], none, none, []⟩,
 ⟨.call false 65, [.p 0], none, none, []⟩,
 ⟨.mov, [.p 0], some 1, none, []⟩] false)
(.seq (.region [⟨.bslice 1 (.int .i64 0) 2 [0, 1], [.c (.int .i64 1), .c (.int .i64 1)], none, none, []⟩,
 ⟨.call false 64, [.p 0], none, none, []⟩,
 ⟨.bslice 1 (.slc true []) 1 [0], [.p 0], none, none, []⟩,
 ⟨.call false 65, [.p 0], none, none, []⟩,
 ⟨.mov, [.p 0], some 2, none, []⟩] false)
(.seq (.region [⟨.mov, [.v 1], none, none, []⟩,
 ⟨.call false 11, [.p 0], none, none, []⟩,
 ⟨.alloc (.agg [.int .i64 0, .int .i64 0, .int .i64 0]), [], some 3, none, []⟩,
 ⟨.store 3, [.v 3, .p 1], none, none, []⟩] false)
(.seq (.region [⟨.mov, [.v 1], none, none, []⟩,
 ⟨.mov, [.v 2], none, none, []⟩,
 ⟨.build [.bool false, .slc true []] [], [], none, none, []⟩,
 ⟨.call false 13, [.p 2, .p 1, .p 0], none, none, []⟩,
 ⟨.bin .eql, [.p 0, .c (.int .i64 84)], none, none, []⟩,
 ⟨.mov, [.p 0], none, none, []⟩,
 ⟨.call false 3, [.c (.slc true [])], none, some (0, true), []⟩,
 ⟨.bin .eql, [.p 0, .c (.int .i64 1)], none, some (1, true), []⟩,
 ⟨.pick, [.p 2, .p 0, .c (.bool false)], none, none, []⟩,
 ⟨.mov, [.p 0], none, none, []⟩,
 ⟨.bslice 1 (.int .i64 0) 2 [0, 1], [.c (.int .i64 0), .c (.int .i64 5)], none, some (0, true), []⟩,
 ⟨.call false 3, [.p 0], none, some (1, true), []⟩,
 ⟨.bin .eql, [.p 0, .c (.int .i64 5)], none, some (2, true), []⟩,
 ⟨.pick, [.p 3, .p 0, .c (.bool false)], none, none, []⟩,
 ⟨.mov, [.p 0], none, none, []⟩,
 ⟨.faddr 0, [.v 3], none, some (0, true), []⟩,
 ⟨.load false 1, [.p 0], none, some (1, true), []⟩,
 ⟨.bin .eql, [.p 0, .c (.int .i64 1)], none, some (2, true), []⟩,
 ⟨.pick, [.p 3, .p 0, .c (.bool false)], none, none, []⟩,
 ⟨.mov, [.p 0], none, none, []⟩,
 ⟨.faddr 1, [.v 3], none, some (0, true), []⟩,
 ⟨.load false 1, [.p 0], none, some (1, true), []⟩,
 ⟨.bin .eql, [.p 0, .c (.int .i64 0)], none, some (2, true), []⟩,
 ⟨.pick, [.p 3, .p 0, .c (.bool false)], none, none, []⟩,
 ⟨.mov, [.p 0], none, none, []⟩,
 ⟨.faddr 2, [.v 3], none, some (0, true), []⟩,
 ⟨.load false 1, [.p 0], none, some (1, true), []⟩,
 ⟨.bin .eql, [.p 0, .c (.int .i64 1)], none, some (2, true), []⟩,
 ⟨.pick, [.p 3, .p 0, .c (.bool false)], none, none, []⟩,
 ⟨.mov, [.p 0], some 0, none, []⟩] false)
.ret))))),
[.v 0]⟩
def l_ashlarlaw8_Cut_0 : RCode := (.loop [true, true, true, true, false, true, true] (.seq (.seq (.region [⟨.mov, [.v 6], none, none, []⟩,
 ⟨.mov, [.v 0], none, none, []⟩,
 ⟨.len false, [.p 0], none, none, []⟩,
 ⟨.bin .lss, [.p 2, .p 0], none, none, []⟩,
 ⟨.mov, [.p 0], none, none, []⟩,
 ⟨.mov, [.v 6], none, some (0, true), []⟩,
 ⟨.mov, [.v 1], none, some (1, true), []⟩,
 ⟨.bin .leq, [.p 1, .p 0], none, some (2, true), []⟩,
 ⟨.pick, [.p 3, .p 0, .c (.bool false)], none, none, []⟩] false)
(.cond (.p 0) .skip (.exit 0)))
(.seq (.block 1 (.region [⟨.mov, [.v 5], none, none, []⟩,
 ⟨.mov, [.v 0], none, none, []⟩,
 ⟨.mov, [.v 6], none, none, []⟩,
 ⟨.iaddr 1, [.p 1, .p 0], none, none, []⟩,
 ⟨.load false 1, [.p 0], none, none, []⟩,
 ⟨.mov, [.v 2], none, none, []⟩,
 ⟨.mov, [.v 3], none, none, []⟩,
 ⟨.call false 7, [.p 2, .p 1, .p 0], none, none, []⟩,
 ⟨.bslice 1 (.slc true []) 1 [0], [.p 0], none, none, []⟩,
 ⟨.app 24 1, [.p 8, .p 0], none, none, []⟩,
 ⟨.mov, [.p 0], some 5, none, []⟩] false))
(.region [⟨.mov, [.v 6], none, none, []⟩,
 ⟨.bin .add, [.p 0, .c (.int .i64 1)], none, none, []⟩,
 ⟨.mov, [.p 0], some 6, none, []⟩] false))))
def c_ashlarlaw8_Cut : RFunc := ⟨4, [0, 1, 2, 3, 8, 9, 10],
(.seq (.region [⟨.mov, [.c (.slc true [])], some 4, none, []⟩] false)
(.seq (.region [⟨.mov, [.c (.slc true [])], some 5, none, []⟩] false)
(.seq (.seq (.region [⟨.mov, [.c (.int .i64 0)], some 6, none, []⟩] false)
(.block 0 l_ashlarlaw8_Cut_0))
(.seq (.region [⟨.mov, [.v 5], none, none, []⟩,
 ⟨.mov, [.p 0], some 4, none, []⟩] false)
.ret)))),
[.v 4]⟩
def l_ashlarlaw8_Op_0 : RCode := (.loop [true, false, true, true] (.seq (.seq (.region [⟨.mov, [.v 3], none, none, []⟩,
 ⟨.mov, [.v 0], none, none, []⟩,
 ⟨.len false, [.p 0], none, none, []⟩,
 ⟨.bin .lss, [.p 2, .p 0], none, none, []⟩] false)
(.cond (.p 0) .skip (.exit 0)))
(.seq (.block 1 (.region [⟨.mov, [.v 2], none, none, []⟩,
 ⟨.mov, [.v 0], none, none, []⟩,
 ⟨.mov, [.v 3], none, none, []⟩,
 ⟨.iaddr 1, [.p 1, .p 0], none, none, []⟩,
 ⟨.load false 1, [.p 0], none, none, []⟩,
 ⟨.bslice 1 (.slc true []) 1 [0], [.p 0], none, none, []⟩,
 ⟨.app 24 1, [.p 5, .p 0], none, none, []⟩,
 ⟨.mov, [.p 0], some 2, none, []⟩] false))
(.region [⟨.mov, [.v 3], none, none, []⟩,
 ⟨.bin .add, [.p 0, .c (.int .i64 1)], none, none, []⟩,
 ⟨.mov, [.p 0], some 3, none, []⟩] false))))
def c_ashlarlaw8_Op : RFunc := ⟨1, [0, 2, 3, 4],
(.seq (.region [⟨.mov, [.c (.slc true [])], some 1, none, []⟩] false)
(.seq (.region [⟨.mov, [.c (.slc true [])], some 2, none, []⟩] false)
(.seq (.seq (.region [⟨.mov, [.c (.int .i64 0)], some 3, none, []⟩] false)
(.block 0 l_ashlarlaw8_Op_0))
(.seq (.region [⟨.mov, [.v 2], none, none, []⟩,
 ⟨.call false 69, [.p 0], none, none, []⟩,
 ⟨.call false 103, [.p 0], none, none, []⟩,
 ⟨.mov, [.p 0], some 1, none, []⟩] false)
.ret)))),
[.v 1]⟩
def l_ashlarlaw3_Cut_0 : RCode := (.loop [true, true, true, false, true, true] (.seq (.seq (.region [⟨.mov, [.v 5], none, none, []⟩,
 ⟨.mov, [.v 0], none, none, []⟩,
 ⟨.len false, [.p 0], none, none, []⟩,
 ⟨.bin .lss, [.p 2, .p 0], none, none, []⟩,
 ⟨.mov, [.p 0], none, none, []⟩,
 ⟨.mov, [.v 5], none, some (0, true), []⟩,
 ⟨.mov, [.v 1], none, some (1, true), []⟩,
 ⟨.bin .lss, [.p 1, .p 0], none, some (2, true), []⟩,
 ⟨.pick, [.p 3, .p 0, .c (.bool false)], none, none, []⟩] false)
(.cond (.p 0) .skip (.exit 0)))
(.seq (.block 1 (.seq (.region [⟨.mov, [.v 0], none, none, []⟩,
 ⟨.mov, [.v 5], none, none, []⟩,
 ⟨.iaddr 2, [.p 1, .p 0], none, none, []⟩,
 ⟨.load true 2, [.p 0], none, none, []⟩,
 ⟨.call false 23, [.p 0], none, none, []⟩,
 ⟨.alloc (.agg [.bool false, .slc true []]), [], some 6, none, []⟩,
 ⟨.store 2, [.v 6, .p 1], none, none, []⟩] false)
(.seq (.seq (.region [⟨.faddr 1, [.v 6], none, none, []⟩,
 ⟨.load false 1, [.p 0], none, none, []⟩,
 ⟨.len false, [.p 0], none, none, []⟩,
 ⟨.mov, [.v 2], none, none, []⟩,
 ⟨.bin .gtr, [.p 1, .p 0], none, none, []⟩] false)
(.cond (.p 0) (.region [⟨.faddr 1, [.v 6], none, none, []⟩,
 ⟨.load false 1, [.p 0], none, none, []⟩,
 ⟨.mov, [.v 2], none, none, []⟩,
 ⟨.slice 1 false true false, [.p 1, .p 0], none, none, []⟩,
 ⟨.faddr 1, [.v 6], none, none, []⟩,
 ⟨.store 1, [.p 0, .p 1], none, none, []⟩] false) .skip))
(.region [⟨.mov, [.v 4], none, none, []⟩,
 ⟨.load true 2, [.v 6], none, none, []⟩,
 ⟨.bslice 2 (.agg [.bool false, .slc true []]) 1 [0], [.p 0], none, none, []⟩,
 ⟨.app 32 2, [.p 2, .p 0], none, none, []⟩,
 ⟨.mov, [.p 0], some 4, none, []⟩] false))))
(.region [⟨.mov, [.v 5], none, none, []⟩,
 ⟨.bin .add, [.p 0, .c (.int .i64 1)], none, none, []⟩,
 ⟨.mov, [.p 0], some 5, none, []⟩] false))))
def c_ashlarlaw3_Cut : RFunc := ⟨3, [0, 1, 2, 6, 7, 8, 9],
(.seq (.region [⟨.mov, [.c (.slc true [])], some 3, none, []⟩] false)
(.seq (.region [⟨.mov, [.c (.slc true [])], some 4, none, []⟩] false)
(.seq (.seq (.region [⟨.mov, [.c (.int .i64 0)], some 5, none, []⟩] false)
(.block 0 l_ashlarlaw3_Cut_0))
(.seq (.region [⟨.mov, [.v 4], none, none, []⟩,
 ⟨.mov, [.p 0], some 3, none, []⟩] false)
.ret)))),
[.v 3]⟩
class CodeGauge (F : Nat → Option RFunc) : Prop where
  gauge_Times : F 3 = some c_gauge_Times
  gauge_Of : F 11 = some c_gauge_Of
  gauge_Mul : F 13 = some c_gauge_Mul
  gauge_Apply : F 15 = some c_gauge_Apply
  gauge_Divide : F 17 = some c_gauge_Divide
  gauge_Common : F 19 = some c_gauge_Common
  gauge_each : F 67 = some c_gauge_each
  gauge_product_take : F 66 = some c_gauge_product_take
  zcost_Of : F 72 = some c_zcost_Of
  zcost_Product : F 76 = some c_zcost_Product
  zcost_Apply : F 78 = some c_zcost_Apply
  zcost_Add : F 81 = some c_zcost_Add
  zcost_Mul : F 82 = some c_zcost_Mul
  zcost_Times : F 106 = some c_zcost_Times
  upoly_Deg : F 104 = some c_upoly_Deg
  upoly_Bits : F 105 = some c_upoly_Bits
  upoly_cut : F 119 = some c_upoly_cut
  ashlarref3_From : F 9 = some c_ashlarref3_From
  ashlarref3_Of : F 64 = some c_ashlarref3_Of
  ashlarref3_Trim : F 70 = some c_ashlarref3_Trim
  ashlarref3_Deg : F 79 = some c_ashlarref3_Deg
  ashlarref3_Bits : F 80 = some c_ashlarref3_Bits
  ashlarref3_To : F 118 = some c_ashlarref3_To
  ashlarref8_From : F 8 = some c_ashlarref8_From
  ashlarref8_Trim : F 69 = some c_ashlarref8_Trim
  ashlarref8_Order : F 73 = some c_ashlarref8_Order
  ashlarref8_Degree : F 74 = some c_ashlarref8_Degree
  ashlarref8_Bits : F 75 = some c_ashlarref8_Bits
  ashlarref8_To : F 103 = some c_ashlarref8_To
  ashlarref9_Times : F 4 = some c_ashlarref9_Times
  ashlarref9_Size : F 12 = some c_ashlarref9_Size
  ashlarref9_Mul : F 14 = some c_ashlarref9_Mul
  ashlarref9_Apply : F 16 = some c_ashlarref9_Apply
  ashlarref9_Divide : F 18 = some c_ashlarref9_Divide
  ashlarref9_Common : F 20 = some c_ashlarref9_Common
  ashlarref9_By : F 68 = some c_ashlarref9_By
  ashlarref9_Sum : F 77 = some c_ashlarref9_Sum
  ashlarref9_Plus : F 83 = some c_ashlarref9_Plus
  ashlarlaw9_GaugeTimes : F 5 = some c_ashlarlaw9_GaugeTimes
  ashlarlaw9_GaugeOps : F 21 = some c_ashlarlaw9_GaugeOps
  ashlarlaw9_begun : F 2 = some c_ashlarlaw9_begun
  ashlarlaw8_Cut : F 6 = some c_ashlarlaw8_Cut
  ashlarlaw8_Op : F 65 = some c_ashlarlaw8_Op
  ashlarlaw3_Cut : F 7 = some c_ashlarlaw3_Cut
def tabCodeGauge : List (Nat × RFunc) := [(3, c_gauge_Times), (11, c_gauge_Of), (13, c_gauge_Mul), (15, c_gauge_Apply), (17, c_gauge_Divide), (19, c_gauge_Common), (67, c_gauge_each), (66, c_gauge_product_take), (72, c_zcost_Of), (76, c_zcost_Product), (78, c_zcost_Apply), (81, c_zcost_Add), (82, c_zcost_Mul), (106, c_zcost_Times), (104, c_upoly_Deg), (105, c_upoly_Bits), (119, c_upoly_cut), (9, c_ashlarref3_From), (64, c_ashlarref3_Of), (70, c_ashlarref3_Trim), (79, c_ashlarref3_Deg), (80, c_ashlarref3_Bits), (118, c_ashlarref3_To), (8, c_ashlarref8_From), (69, c_ashlarref8_Trim), (73, c_ashlarref8_Order), (74, c_ashlarref8_Degree), (75, c_ashlarref8_Bits), (103, c_ashlarref8_To), (4, c_ashlarref9_Times), (12, c_ashlarref9_Size), (14, c_ashlarref9_Mul), (16, c_ashlarref9_Apply), (18, c_ashlarref9_Divide), (20, c_ashlarref9_Common), (68, c_ashlarref9_By), (77, c_ashlarref9_Sum), (83, c_ashlarref9_Plus), (5, c_ashlarlaw9_GaugeTimes), (21, c_ashlarlaw9_GaugeOps), (2, c_ashlarlaw9_begun), (6, c_ashlarlaw8_Cut), (65, c_ashlarlaw8_Op), (7, c_ashlarlaw3_Cut)]
end Go.Ash
/- The code modules are the code of the seat's program: each function is checked against the dump, and the whole is linked. Printed by a program of this work (link.py). -/
namespace Go.Ash.Seat
open Go.Proofs
set_option maxRecDepth 100000
def ids : List (Nat × Nat) := [(24, 36), (32, 43), (33, 44), (36, 46), (38, 48), (40, 49), (43, 51), (46, 53), (49, 55), (51, 57), (52, 58), (53, 59), (56, 61), (57, 62), (61, 65), (84, 87), (85, 88), (86, 89), (87, 90), (88, 91), (89, 92), (95, 98), (96, 99), (97, 100), (98, 101), (100, 103), (107, 110), (109, 112), (110, 113), (111, 114), (112, 115), (113, 116), (115, 118), (116, 119), (99, 102), (102, 105), (108, 111), (117, 120), (10, 23), (25, 37), (28, 38), (27, 39), (26, 40), (29, 41), (30, 42), (34, 45), (37, 47), (41, 50), (44, 52), (48, 54), (50, 56), (54, 60), (58, 63), (59, 64), (62, 66), (71, 74), (90, 93), (91, 94), (92, 95), (93, 96), (94, 97), (101, 104), (114, 117), (120, 123), (31, 6), (35, 7), (39, 8), (42, 9), (45, 10), (47, 11), (55, 12), (60, 13), (63, 14), (22, 34), (23, 35), (3, 17), (11, 24), (13, 26), (15, 28), (17, 30), (19, 32), (67, 69), (66, 70), (72, 75), (76, 79), (78, 81), (81, 84), (82, 85), (106, 109), (104, 107), (105, 108), (119, 122), (9, 22), (64, 68), (70, 73), (79, 82), (80, 83), (118, 121), (8, 21), (69, 72), (73, 76), (74, 77), (75, 78), (103, 106), (4, 18), (12, 25), (14, 27), (16, 29), (18, 31), (20, 33), (68, 71), (77, 80), (83, 86), (5, 4), (21, 5), (2, 16), (6, 19), (65, 67), (7, 20)]
def tys : List (Nat × Nat) := []
def tab : List (Nat × RFunc) := tabCodeLimbs ++ tabCodeRef1 ++ tabCodeLaw1 ++ tabCodeGauge
instance : CodeLimbs (look tab) := ⟨by kernel_rfl, by kernel_rfl, by kernel_rfl, by kernel_rfl, by kernel_rfl, by kernel_rfl, by kernel_rfl, by kernel_rfl, by kernel_rfl, by kernel_rfl, by kernel_rfl, by kernel_rfl, by kernel_rfl, by kernel_rfl, by kernel_rfl, by kernel_rfl, by kernel_rfl, by kernel_rfl, by kernel_rfl, by kernel_rfl, by kernel_rfl, by kernel_rfl, by kernel_rfl, by kernel_rfl, by kernel_rfl, by kernel_rfl, by kernel_rfl, by kernel_rfl, by kernel_rfl, by kernel_rfl, by kernel_rfl, by kernel_rfl, by kernel_rfl, by kernel_rfl, by kernel_rfl, by kernel_rfl, by kernel_rfl, by kernel_rfl⟩
instance : CodeRef1 (look tab) := ⟨by kernel_rfl, by kernel_rfl, by kernel_rfl, by kernel_rfl, by kernel_rfl, by kernel_rfl, by kernel_rfl, by kernel_rfl, by kernel_rfl, by kernel_rfl, by kernel_rfl, by kernel_rfl, by kernel_rfl, by kernel_rfl, by kernel_rfl, by kernel_rfl, by kernel_rfl, by kernel_rfl, by kernel_rfl, by kernel_rfl, by kernel_rfl, by kernel_rfl, by kernel_rfl, by kernel_rfl, by kernel_rfl, by kernel_rfl⟩
instance : CodeLaw1 (look tab) := ⟨by kernel_rfl, by kernel_rfl, by kernel_rfl, by kernel_rfl, by kernel_rfl, by kernel_rfl, by kernel_rfl, by kernel_rfl, by kernel_rfl, by kernel_rfl, by kernel_rfl⟩
instance : CodeGauge (look tab) := ⟨by kernel_rfl, by kernel_rfl, by kernel_rfl, by kernel_rfl, by kernel_rfl, by kernel_rfl, by kernel_rfl, by kernel_rfl, by kernel_rfl, by kernel_rfl, by kernel_rfl, by kernel_rfl, by kernel_rfl, by kernel_rfl, by kernel_rfl, by kernel_rfl, by kernel_rfl, by kernel_rfl, by kernel_rfl, by kernel_rfl, by kernel_rfl, by kernel_rfl, by kernel_rfl, by kernel_rfl, by kernel_rfl, by kernel_rfl, by kernel_rfl, by kernel_rfl, by kernel_rfl, by kernel_rfl, by kernel_rfl, by kernel_rfl, by kernel_rfl, by kernel_rfl, by kernel_rfl, by kernel_rfl, by kernel_rfl, by kernel_rfl, by kernel_rfl, by kernel_rfl, by kernel_rfl, by kernel_rfl, by kernel_rfl, by kernel_rfl⟩
theorem tie_24 : Ties Try.prog ids tys tab 24 36 := ⟨Try.f36, c_limbs_Quo, Try.func36, by kernel_rfl, by kernel_rfl⟩
theorem tie_32 : Ties Try.prog ids tys tab 32 43 := ⟨Try.f43, c_limbs_Of, Try.func43, by kernel_rfl, by kernel_rfl⟩
theorem tie_33 : Ties Try.prog ids tys tab 33 44 := ⟨Try.f44, c_limbs_Small, Try.func44, by kernel_rfl, by kernel_rfl⟩
theorem tie_36 : Ties Try.prog ids tys tab 36 46 := ⟨Try.f46, c_limbs_Gcd, Try.func46, by kernel_rfl, by kernel_rfl⟩
theorem tie_38 : Ties Try.prog ids tys tab 38 48 := ⟨Try.f48, c_limbs_Mul, Try.func48, by kernel_rfl, by kernel_rfl⟩
theorem tie_40 : Ties Try.prog ids tys tab 40 49 := ⟨Try.f49, c_limbs_Mod, Try.func49, by kernel_rfl, by kernel_rfl⟩
theorem tie_43 : Ties Try.prog ids tys tab 43 51 := ⟨Try.f51, c_limbs_Add, Try.func51, by kernel_rfl, by kernel_rfl⟩
theorem tie_46 : Ties Try.prog ids tys tab 46 53 := ⟨Try.f53, c_limbs_Sub, Try.func53, by kernel_rfl, by kernel_rfl⟩
theorem tie_49 : Ties Try.prog ids tys tab 49 55 := ⟨Try.f55, c_limbs_Neg, Try.func55, by kernel_rfl, by kernel_rfl⟩
theorem tie_51 : Ties Try.prog ids tys tab 51 57 := ⟨Try.f57, c_limbs_Cmp, Try.func57, by kernel_rfl, by kernel_rfl⟩
theorem tie_52 : Ties Try.prog ids tys tab 52 58 := ⟨Try.f58, c_limbs_Sign, Try.func58, by kernel_rfl, by kernel_rfl⟩
theorem tie_53 : Ties Try.prog ids tys tab 53 59 := ⟨Try.f59, c_limbs_Bits, Try.func59, by kernel_rfl, by kernel_rfl⟩
theorem tie_56 : Ties Try.prog ids tys tab 56 61 := ⟨Try.f61, c_limbs_Text, Try.func61, by kernel_rfl, by kernel_rfl⟩
theorem tie_57 : Ties Try.prog ids tys tab 57 62 := ⟨Try.f62, c_limbs_Read, Try.func62, by kernel_rfl, by kernel_rfl⟩
theorem tie_61 : Ties Try.prog ids tys tab 61 65 := ⟨Try.f65, c_limbs_Power, Try.func65, by kernel_rfl, by kernel_rfl⟩
theorem tie_84 : Ties Try.prog ids tys tab 84 87 := ⟨Try.f87, c_limbs_mag, Try.func87, by kernel_rfl, by kernel_rfl⟩
theorem tie_85 : Ties Try.prog ids tys tab 85 88 := ⟨Try.f88, c_limbs_divide, Try.func88, by kernel_rfl, by kernel_rfl⟩
theorem tie_86 : Ties Try.prog ids tys tab 86 89 := ⟨Try.f89, c_limbs_neg, Try.func89, by kernel_rfl, by kernel_rfl⟩
theorem tie_87 : Ties Try.prog ids tys tab 87 90 := ⟨Try.f90, c_limbs_plus, Try.func90, by kernel_rfl, by kernel_rfl⟩
theorem tie_88 : Ties Try.prog ids tys tab 88 91 := ⟨Try.f91, c_limbs_minus, Try.func91, by kernel_rfl, by kernel_rfl⟩
theorem tie_89 : Ties Try.prog ids tys tab 89 92 := ⟨Try.f92, c_limbs_made, Try.func92, by kernel_rfl, by kernel_rfl⟩
theorem tie_95 : Ties Try.prog ids tys tab 95 98 := ⟨Try.f98, c_limbs_times, Try.func98, by kernel_rfl, by kernel_rfl⟩
theorem tie_96 : Ties Try.prog ids tys tab 96 99 := ⟨Try.f99, c_limbs_small, Try.func99, by kernel_rfl, by kernel_rfl⟩
theorem tie_97 : Ties Try.prog ids tys tab 97 100 := ⟨Try.f100, c_limbs_sum, Try.func100, by kernel_rfl, by kernel_rfl⟩
theorem tie_98 : Ties Try.prog ids tys tab 98 101 := ⟨Try.f101, c_limbs_cmp, Try.func101, by kernel_rfl, by kernel_rfl⟩
theorem tie_100 : Ties Try.prog ids tys tab 100 103 := ⟨Try.f103, c_limbs_grow, Try.func103, by kernel_rfl, by kernel_rfl⟩
theorem tie_107 : Ties Try.prog ids tys tab 107 110 := ⟨Try.f110, c_limbs_trim, Try.func110, by kernel_rfl, by kernel_rfl⟩
theorem tie_109 : Ties Try.prog ids tys tab 109 112 := ⟨Try.f112, c_limbs_left, Try.func112, by kernel_rfl, by kernel_rfl⟩
theorem tie_110 : Ties Try.prog ids tys tab 110 113 := ⟨Try.f113, c_limbs_guess, Try.func113, by kernel_rfl, by kernel_rfl⟩
theorem tie_111 : Ties Try.prog ids tys tab 111 114 := ⟨Try.f114, c_limbs_takes, Try.func114, by kernel_rfl, by kernel_rfl⟩
theorem tie_112 : Ties Try.prog ids tys tab 112 115 := ⟨Try.f115, c_limbs_gives, Try.func115, by kernel_rfl, by kernel_rfl⟩
theorem tie_113 : Ties Try.prog ids tys tab 113 116 := ⟨Try.f116, c_limbs_right, Try.func116, by kernel_rfl, by kernel_rfl⟩
theorem tie_115 : Ties Try.prog ids tys tab 115 118 := ⟨Try.f118, c_limbs_school, Try.func118, by kernel_rfl, by kernel_rfl⟩
theorem tie_116 : Ties Try.prog ids tys tab 116 119 := ⟨Try.f119, c_limbs_up, Try.func119, by kernel_rfl, by kernel_rfl⟩
theorem tie_99 : Ties Try.prog ids tys tab 99 102 := ⟨Try.f102, c_bits_Len32, Try.func102, by kernel_rfl, by kernel_rfl⟩
theorem tie_102 : Ties Try.prog ids tys tab 102 105 := ⟨Try.f105, c_bits_Len, Try.func105, by kernel_rfl, by kernel_rfl⟩
theorem tie_108 : Ties Try.prog ids tys tab 108 111 := ⟨Try.f111, c_bits_LeadingZeros32, Try.func111, by kernel_rfl, by kernel_rfl⟩
theorem tie_117 : Ties Try.prog ids tys tab 117 120 := ⟨Try.f120, c_bits_Len64, Try.func120, by kernel_rfl, by kernel_rfl⟩
theorem tie_10 : Ties Try.prog ids tys tab 10 23 := ⟨Try.f23, c_ashlarref1_From, Try.func23, by kernel_rfl, by kernel_rfl⟩
theorem tie_25 : Ties Try.prog ids tys tab 25 37 := ⟨Try.f37, c_ashlarref1_Sign, Try.func37, by kernel_rfl, by kernel_rfl⟩
theorem tie_28 : Ties Try.prog ids tys tab 28 38 := ⟨Try.f38, c_ashlarref1_Cmp, Try.func38, by kernel_rfl, by kernel_rfl⟩
theorem tie_27 : Ties Try.prog ids tys tab 27 39 := ⟨Try.f39, c_ashlarref1_Add, Try.func39, by kernel_rfl, by kernel_rfl⟩
theorem tie_26 : Ties Try.prog ids tys tab 26 40 := ⟨Try.f40, c_ashlarref1_Mul, Try.func40, by kernel_rfl, by kernel_rfl⟩
theorem tie_29 : Ties Try.prog ids tys tab 29 41 := ⟨Try.f41, c_ashlarref1_Is, Try.func41, by kernel_rfl, by kernel_rfl⟩
theorem tie_30 : Ties Try.prog ids tys tab 30 42 := ⟨Try.f42, c_ashlarref1_Abs, Try.func42, by kernel_rfl, by kernel_rfl⟩
theorem tie_34 : Ties Try.prog ids tys tab 34 45 := ⟨Try.f45, c_ashlarref1_Of, Try.func45, by kernel_rfl, by kernel_rfl⟩
theorem tie_37 : Ties Try.prog ids tys tab 37 47 := ⟨Try.f47, c_ashlarref1_Gcd, Try.func47, by kernel_rfl, by kernel_rfl⟩
theorem tie_41 : Ties Try.prog ids tys tab 41 50 := ⟨Try.f50, c_ashlarref1_Mod, Try.func50, by kernel_rfl, by kernel_rfl⟩
theorem tie_44 : Ties Try.prog ids tys tab 44 52 := ⟨Try.f52, c_ashlarref1_Eq, Try.func52, by kernel_rfl, by kernel_rfl⟩
theorem tie_48 : Ties Try.prog ids tys tab 48 54 := ⟨Try.f54, c_ashlarref1_Sub, Try.func54, by kernel_rfl, by kernel_rfl⟩
theorem tie_50 : Ties Try.prog ids tys tab 50 56 := ⟨Try.f56, c_ashlarref1_Neg, Try.func56, by kernel_rfl, by kernel_rfl⟩
theorem tie_54 : Ties Try.prog ids tys tab 54 60 := ⟨Try.f60, c_ashlarref1_Bits, Try.func60, by kernel_rfl, by kernel_rfl⟩
theorem tie_58 : Ties Try.prog ids tys tab 58 63 := ⟨Try.f63, c_ashlarref1_Read, Try.func63, by kernel_rfl, by kernel_rfl⟩
theorem tie_59 : Ties Try.prog ids tys tab 59 64 := ⟨Try.f64, c_ashlarref1_Text, Try.func64, by kernel_rfl, by kernel_rfl⟩
theorem tie_62 : Ties Try.prog ids tys tab 62 66 := ⟨Try.f66, c_ashlarref1_Power, Try.func66, by kernel_rfl, by kernel_rfl⟩
theorem tie_71 : Ties Try.prog ids tys tab 71 74 := ⟨Try.f74, c_ashlarref1_trim, Try.func74, by kernel_rfl, by kernel_rfl⟩
theorem tie_90 : Ties Try.prog ids tys tab 90 93 := ⟨Try.f93, c_ashlarref1_cmp, Try.func93, by kernel_rfl, by kernel_rfl⟩
theorem tie_91 : Ties Try.prog ids tys tab 91 94 := ⟨Try.f94, c_ashlarref1_add, Try.func94, by kernel_rfl, by kernel_rfl⟩
theorem tie_92 : Ties Try.prog ids tys tab 92 95 := ⟨Try.f95, c_ashlarref1_sub, Try.func95, by kernel_rfl, by kernel_rfl⟩
theorem tie_93 : Ties Try.prog ids tys tab 93 96 := ⟨Try.f96, c_ashlarref1_To, Try.func96, by kernel_rfl, by kernel_rfl⟩
theorem tie_94 : Ties Try.prog ids tys tab 94 97 := ⟨Try.f97, c_ashlarref1_Quo, Try.func97, by kernel_rfl, by kernel_rfl⟩
theorem tie_101 : Ties Try.prog ids tys tab 101 104 := ⟨Try.f104, c_ashlarref1_small, Try.func104, by kernel_rfl, by kernel_rfl⟩
theorem tie_114 : Ties Try.prog ids tys tab 114 117 := ⟨Try.f117, c_ashlarref1_divide, Try.func117, by kernel_rfl, by kernel_rfl⟩
theorem tie_120 : Ties Try.prog ids tys tab 120 123 := ⟨Try.f123, c_ashlarref1_times, Try.func123, by kernel_rfl, by kernel_rfl⟩
theorem tie_31 : Ties Try.prog ids tys tab 31 6 := ⟨Try.f6, c_ashlarlaw1_IntQuo, Try.func6, by kernel_rfl, by kernel_rfl⟩
theorem tie_35 : Ties Try.prog ids tys tab 35 7 := ⟨Try.f7, c_ashlarlaw1_IntSmall, Try.func7, by kernel_rfl, by kernel_rfl⟩
theorem tie_39 : Ties Try.prog ids tys tab 39 8 := ⟨Try.f8, c_ashlarlaw1_IntGcd, Try.func8, by kernel_rfl, by kernel_rfl⟩
theorem tie_42 : Ties Try.prog ids tys tab 42 9 := ⟨Try.f9, c_ashlarlaw1_IntMod, Try.func9, by kernel_rfl, by kernel_rfl⟩
theorem tie_45 : Ties Try.prog ids tys tab 45 10 := ⟨Try.f10, c_ashlarlaw1_IntForms, Try.func10, by kernel_rfl, by kernel_rfl⟩
theorem tie_47 : Ties Try.prog ids tys tab 47 11 := ⟨Try.f11, c_ashlarlaw1_IntRing, Try.func11, by kernel_rfl, by kernel_rfl⟩
theorem tie_55 : Ties Try.prog ids tys tab 55 12 := ⟨Try.f12, c_ashlarlaw1_IntSums, Try.func12, by kernel_rfl, by kernel_rfl⟩
theorem tie_60 : Ties Try.prog ids tys tab 60 13 := ⟨Try.f13, c_ashlarlaw1_IntText, Try.func13, by kernel_rfl, by kernel_rfl⟩
theorem tie_63 : Ties Try.prog ids tys tab 63 14 := ⟨Try.f14, c_ashlarlaw1_IntPower, Try.func14, by kernel_rfl, by kernel_rfl⟩
theorem tie_22 : Ties Try.prog ids tys tab 22 34 := ⟨Try.f34, c_ashlarlaw1_begun, Try.func34, by kernel_rfl, by kernel_rfl⟩
theorem tie_23 : Ties Try.prog ids tys tab 23 35 := ⟨Try.f35, c_ashlarlaw1_Cut, Try.func35, by kernel_rfl, by kernel_rfl⟩
theorem tie_3 : Ties Try.prog ids tys tab 3 17 := ⟨Try.f17, c_gauge_Times, Try.func17, by kernel_rfl, by kernel_rfl⟩
theorem tie_11 : Ties Try.prog ids tys tab 11 24 := ⟨Try.f24, c_gauge_Of, Try.func24, by kernel_rfl, by kernel_rfl⟩
theorem tie_13 : Ties Try.prog ids tys tab 13 26 := ⟨Try.f26, c_gauge_Mul, Try.func26, by kernel_rfl, by kernel_rfl⟩
theorem tie_15 : Ties Try.prog ids tys tab 15 28 := ⟨Try.f28, c_gauge_Apply, Try.func28, by kernel_rfl, by kernel_rfl⟩
theorem tie_17 : Ties Try.prog ids tys tab 17 30 := ⟨Try.f30, c_gauge_Divide, Try.func30, by kernel_rfl, by kernel_rfl⟩
theorem tie_19 : Ties Try.prog ids tys tab 19 32 := ⟨Try.f32, c_gauge_Common, Try.func32, by kernel_rfl, by kernel_rfl⟩
theorem tie_67 : Ties Try.prog ids tys tab 67 69 := ⟨Try.f69, c_gauge_each, Try.func69, by kernel_rfl, by kernel_rfl⟩
theorem tie_66 : Ties Try.prog ids tys tab 66 70 := ⟨Try.f70, c_gauge_product_take, Try.func70, by kernel_rfl, by kernel_rfl⟩
theorem tie_72 : Ties Try.prog ids tys tab 72 75 := ⟨Try.f75, c_zcost_Of, Try.func75, by kernel_rfl, by kernel_rfl⟩
theorem tie_76 : Ties Try.prog ids tys tab 76 79 := ⟨Try.f79, c_zcost_Product, Try.func79, by kernel_rfl, by kernel_rfl⟩
theorem tie_78 : Ties Try.prog ids tys tab 78 81 := ⟨Try.f81, c_zcost_Apply, Try.func81, by kernel_rfl, by kernel_rfl⟩
theorem tie_81 : Ties Try.prog ids tys tab 81 84 := ⟨Try.f84, c_zcost_Add, Try.func84, by kernel_rfl, by kernel_rfl⟩
theorem tie_82 : Ties Try.prog ids tys tab 82 85 := ⟨Try.f85, c_zcost_Mul, Try.func85, by kernel_rfl, by kernel_rfl⟩
theorem tie_106 : Ties Try.prog ids tys tab 106 109 := ⟨Try.f109, c_zcost_Times, Try.func109, by kernel_rfl, by kernel_rfl⟩
theorem tie_104 : Ties Try.prog ids tys tab 104 107 := ⟨Try.f107, c_upoly_Deg, Try.func107, by kernel_rfl, by kernel_rfl⟩
theorem tie_105 : Ties Try.prog ids tys tab 105 108 := ⟨Try.f108, c_upoly_Bits, Try.func108, by kernel_rfl, by kernel_rfl⟩
theorem tie_119 : Ties Try.prog ids tys tab 119 122 := ⟨Try.f122, c_upoly_cut, Try.func122, by kernel_rfl, by kernel_rfl⟩
theorem tie_9 : Ties Try.prog ids tys tab 9 22 := ⟨Try.f22, c_ashlarref3_From, Try.func22, by kernel_rfl, by kernel_rfl⟩
theorem tie_64 : Ties Try.prog ids tys tab 64 68 := ⟨Try.f68, c_ashlarref3_Of, Try.func68, by kernel_rfl, by kernel_rfl⟩
theorem tie_70 : Ties Try.prog ids tys tab 70 73 := ⟨Try.f73, c_ashlarref3_Trim, Try.func73, by kernel_rfl, by kernel_rfl⟩
theorem tie_79 : Ties Try.prog ids tys tab 79 82 := ⟨Try.f82, c_ashlarref3_Deg, Try.func82, by kernel_rfl, by kernel_rfl⟩
theorem tie_80 : Ties Try.prog ids tys tab 80 83 := ⟨Try.f83, c_ashlarref3_Bits, Try.func83, by kernel_rfl, by kernel_rfl⟩
theorem tie_118 : Ties Try.prog ids tys tab 118 121 := ⟨Try.f121, c_ashlarref3_To, Try.func121, by kernel_rfl, by kernel_rfl⟩
theorem tie_8 : Ties Try.prog ids tys tab 8 21 := ⟨Try.f21, c_ashlarref8_From, Try.func21, by kernel_rfl, by kernel_rfl⟩
theorem tie_69 : Ties Try.prog ids tys tab 69 72 := ⟨Try.f72, c_ashlarref8_Trim, Try.func72, by kernel_rfl, by kernel_rfl⟩
theorem tie_73 : Ties Try.prog ids tys tab 73 76 := ⟨Try.f76, c_ashlarref8_Order, Try.func76, by kernel_rfl, by kernel_rfl⟩
theorem tie_74 : Ties Try.prog ids tys tab 74 77 := ⟨Try.f77, c_ashlarref8_Degree, Try.func77, by kernel_rfl, by kernel_rfl⟩
theorem tie_75 : Ties Try.prog ids tys tab 75 78 := ⟨Try.f78, c_ashlarref8_Bits, Try.func78, by kernel_rfl, by kernel_rfl⟩
theorem tie_103 : Ties Try.prog ids tys tab 103 106 := ⟨Try.f106, c_ashlarref8_To, Try.func106, by kernel_rfl, by kernel_rfl⟩
theorem tie_4 : Ties Try.prog ids tys tab 4 18 := ⟨Try.f18, c_ashlarref9_Times, Try.func18, by kernel_rfl, by kernel_rfl⟩
theorem tie_12 : Ties Try.prog ids tys tab 12 25 := ⟨Try.f25, c_ashlarref9_Size, Try.func25, by kernel_rfl, by kernel_rfl⟩
theorem tie_14 : Ties Try.prog ids tys tab 14 27 := ⟨Try.f27, c_ashlarref9_Mul, Try.func27, by kernel_rfl, by kernel_rfl⟩
theorem tie_16 : Ties Try.prog ids tys tab 16 29 := ⟨Try.f29, c_ashlarref9_Apply, Try.func29, by kernel_rfl, by kernel_rfl⟩
theorem tie_18 : Ties Try.prog ids tys tab 18 31 := ⟨Try.f31, c_ashlarref9_Divide, Try.func31, by kernel_rfl, by kernel_rfl⟩
theorem tie_20 : Ties Try.prog ids tys tab 20 33 := ⟨Try.f33, c_ashlarref9_Common, Try.func33, by kernel_rfl, by kernel_rfl⟩
theorem tie_68 : Ties Try.prog ids tys tab 68 71 := ⟨Try.f71, c_ashlarref9_By, Try.func71, by kernel_rfl, by kernel_rfl⟩
theorem tie_77 : Ties Try.prog ids tys tab 77 80 := ⟨Try.f80, c_ashlarref9_Sum, Try.func80, by kernel_rfl, by kernel_rfl⟩
theorem tie_83 : Ties Try.prog ids tys tab 83 86 := ⟨Try.f86, c_ashlarref9_Plus, Try.func86, by kernel_rfl, by kernel_rfl⟩
theorem tie_5 : Ties Try.prog ids tys tab 5 4 := ⟨Try.f4, c_ashlarlaw9_GaugeTimes, Try.func4, by kernel_rfl, by kernel_rfl⟩
theorem tie_21 : Ties Try.prog ids tys tab 21 5 := ⟨Try.f5, c_ashlarlaw9_GaugeOps, Try.func5, by kernel_rfl, by kernel_rfl⟩
theorem tie_2 : Ties Try.prog ids tys tab 2 16 := ⟨Try.f16, c_ashlarlaw9_begun, Try.func16, by kernel_rfl, by kernel_rfl⟩
theorem tie_6 : Ties Try.prog ids tys tab 6 19 := ⟨Try.f19, c_ashlarlaw8_Cut, Try.func19, by kernel_rfl, by kernel_rfl⟩
theorem tie_65 : Ties Try.prog ids tys tab 65 67 := ⟨Try.f67, c_ashlarlaw8_Op, Try.func67, by kernel_rfl, by kernel_rfl⟩
theorem tie_7 : Ties Try.prog ids tys tab 7 20 := ⟨Try.f20, c_ashlarlaw3_Cut, Try.func20, by kernel_rfl, by kernel_rfl⟩
theorem forall_cons {α : Type} {Q : α → Prop} {a : α} {l : List α} (h : Q a) (t : ∀ p ∈ l, Q p) : ∀ p ∈ a :: l, Q p := List.forall_mem_cons.2 ⟨h, t⟩
theorem forall_nil {α : Type} {Q : α → Prop} : ∀ p ∈ ([] : List α), Q p := fun _ h => nomatch h
theorem ties : ∀ p ∈ ids, Ties Try.prog ids tys tab p.1 p.2 :=
  forall_cons tie_24 <| forall_cons tie_32 <| forall_cons tie_33 <| forall_cons tie_36 <| forall_cons tie_38 <| forall_cons tie_40 <| forall_cons tie_43 <| forall_cons tie_46 <| forall_cons tie_49 <| forall_cons tie_51 <| forall_cons tie_52 <| forall_cons tie_53 <| forall_cons tie_56 <| forall_cons tie_57 <| forall_cons tie_61 <| forall_cons tie_84 <| forall_cons tie_85 <| forall_cons tie_86 <| forall_cons tie_87 <| forall_cons tie_88 <| forall_cons tie_89 <| forall_cons tie_95 <| forall_cons tie_96 <| forall_cons tie_97 <| forall_cons tie_98 <| forall_cons tie_100 <| forall_cons tie_107 <| forall_cons tie_109 <| forall_cons tie_110 <| forall_cons tie_111 <| forall_cons tie_112 <| forall_cons tie_113 <| forall_cons tie_115 <| forall_cons tie_116 <| forall_cons tie_99 <| forall_cons tie_102 <| forall_cons tie_108 <| forall_cons tie_117 <| forall_cons tie_10 <| forall_cons tie_25 <| forall_cons tie_28 <| forall_cons tie_27 <| forall_cons tie_26 <| forall_cons tie_29 <| forall_cons tie_30 <| forall_cons tie_34 <| forall_cons tie_37 <| forall_cons tie_41 <| forall_cons tie_44 <| forall_cons tie_48 <| forall_cons tie_50 <| forall_cons tie_54 <| forall_cons tie_58 <| forall_cons tie_59 <| forall_cons tie_62 <| forall_cons tie_71 <| forall_cons tie_90 <| forall_cons tie_91 <| forall_cons tie_92 <| forall_cons tie_93 <| forall_cons tie_94 <| forall_cons tie_101 <| forall_cons tie_114 <| forall_cons tie_120 <| forall_cons tie_31 <| forall_cons tie_35 <| forall_cons tie_39 <| forall_cons tie_42 <| forall_cons tie_45 <| forall_cons tie_47 <| forall_cons tie_55 <| forall_cons tie_60 <| forall_cons tie_63 <| forall_cons tie_22 <| forall_cons tie_23 <| forall_cons tie_3 <| forall_cons tie_11 <| forall_cons tie_13 <| forall_cons tie_15 <| forall_cons tie_17 <| forall_cons tie_19 <| forall_cons tie_67 <| forall_cons tie_66 <| forall_cons tie_72 <| forall_cons tie_76 <| forall_cons tie_78 <| forall_cons tie_81 <| forall_cons tie_82 <| forall_cons tie_106 <| forall_cons tie_104 <| forall_cons tie_105 <| forall_cons tie_119 <| forall_cons tie_9 <| forall_cons tie_64 <| forall_cons tie_70 <| forall_cons tie_79 <| forall_cons tie_80 <| forall_cons tie_118 <| forall_cons tie_8 <| forall_cons tie_69 <| forall_cons tie_73 <| forall_cons tie_74 <| forall_cons tie_75 <| forall_cons tie_103 <| forall_cons tie_4 <| forall_cons tie_12 <| forall_cons tie_14 <| forall_cons tie_16 <| forall_cons tie_18 <| forall_cons tie_20 <| forall_cons tie_68 <| forall_cons tie_77 <| forall_cons tie_83 <| forall_cons tie_5 <| forall_cons tie_21 <| forall_cons tie_2 <| forall_cons tie_6 <| forall_cons tie_65 <| forall_cons tie_7 <| forall_nil
theorem linked : Linked (theLink Try.prog ids tys) (hasOf ids) drawC (look tab) := linked_of (by kernel_rfl) ties
theorem runs : CallOk (theLink Try.prog ids tys) (run (look tab)) := run_ok linked
end Go.Ash.Seat
