/- The code of functions of the given program, printed by a program of this work out of the dump (codes.py): data alone. -/
import Derived.Test.YtaojijahpdnjhaaAshExec
set_option linter.all false
namespace Go.Ash
set_option maxRecDepth 10000
def c_gauge_Times : RFunc := ⟨1, [0, 2, 3],
(.seq (.region [⟨.mov, [.c (.int .i64 0)], some 1, none, []⟩] false)
(.seq (.region [⟨.build [.int .i64 0] [(0, 1)], [.c (.int .i64 1)], none, none, []⟩,
 ⟨.box, [.p 0], none, none, []⟩,
 ⟨.mov, [.p 0], some 2, none, []⟩] false)
(.seq (.region [⟨.mov, [.v 2], none, none, []⟩,
 ⟨.mkfn 66 1, [.p 0], none, none, []⟩,
 ⟨.mov, [.v 0], none, none, []⟩,
 ⟨.call true 67, [.p 1, .p 0], none, none, []⟩] false)
(.seq (.region [⟨.mov, [.v 2], none, none, []⟩,
 ⟨.nilck, [.p 0], none, none, []⟩,
 ⟨.faddr 0, [.p 0], none, none, []⟩,
 ⟨.load false 1, [.p 0], none, none, []⟩,
 ⟨.mov, [.p 0], some 1, none, []⟩] false)
.ret)))),
[.v 1]⟩
def c_gauge_Of : RFunc := ⟨1, [0, 2],
(.seq (.region [⟨.alloc (.agg [.int .i64 0, .int .i64 0, .int .i64 0]), [], some 1, none, []⟩] false)
(.seq (.region [⟨.mov, [.v 0], none, none, []⟩,
 ⟨.call false 72, [.p 0], none, none, []⟩,
 ⟨.store 3, [.v 1, .p 0], none, none, []⟩] false)
.ret)),
[.cell 1 true 3]⟩
def c_gauge_Mul : RFunc := ⟨3, [0, 1, 2, 5, 6],
(.seq (.region [⟨.box, [.v 2], some 3, none, []⟩,
 ⟨.mov, [.c (.int .i64 0)], some 4, none, []⟩] false)
(.seq (.region [⟨.mov, [.v 0], none, none, []⟩,
 ⟨.mov, [.v 1], none, none, []⟩,
 ⟨.load true 2, [.v 3], none, none, []⟩,
 ⟨.call false 76, [.p 2, .p 1, .p 0], none, none, []⟩,
 ⟨.mov, [.p 0], some 4, none, []⟩] false)
.ret)),
[.v 4]⟩
def c_gauge_Apply : RFunc := ⟨3, [0, 1, 2, 5, 6],
(.seq (.region [⟨.box, [.v 2], some 3, none, []⟩,
 ⟨.mov, [.c (.int .i64 0)], some 4, none, []⟩] false)
(.seq (.region [⟨.mov, [.v 0], none, none, []⟩,
 ⟨.mov, [.v 1], none, none, []⟩,
 ⟨.load true 2, [.v 3], none, none, []⟩,
 ⟨.call false 78, [.p 2, .p 1, .p 0], none, none, []⟩,
 ⟨.mov, [.p 0], some 4, none, []⟩] false)
.ret)),
[.v 4]⟩
def c_gauge_Divide : RFunc := ⟨3, [0, 1, 2, 5, 6, 7, 8, 9, 10],
(.seq (.region [⟨.box, [.v 2], some 3, none, []⟩,
 ⟨.mov, [.c (.int .i64 0)], some 4, none, []⟩] false)
(.seq (.region [⟨.mov, [.v 0], none, none, []⟩,
 ⟨.call false 11, [.p 0], none, none, []⟩,
 ⟨.mov, [.v 1], none, none, []⟩,
 ⟨.call false 11, [.p 0], none, none, []⟩,
 ⟨.load true 2, [.v 3], none, none, []⟩,
 ⟨.call false 53, [.p 0], none, none, []⟩,
 ⟨.alloc (.agg [.int .i64 0, .int .i64 0, .int .i64 0]), [], some 5, none, []⟩,
 ⟨.alloc (.agg [.int .i64 0, .int .i64 0, .int .i64 0]), [], some 6, none, []⟩,
 ⟨.store 3, [.v 5, .p 6], none, none, []⟩,
 ⟨.store 3, [.v 6, .p 5], none, none, []⟩,
 ⟨.mov, [.p 4], some 7, none, []⟩] true)
(.seq (.region [⟨.faddr 2, [.v 5], none, none, []⟩,
 ⟨.load false 1, [.p 0], none, none, []⟩,
 ⟨.faddr 2, [.v 6], none, none, []⟩,
 ⟨.load false 1, [.p 0], none, none, []⟩,
 ⟨.faddr 0, [.v 5], none, none, []⟩,
 ⟨.load false 1, [.p 0], none, none, []⟩,
 ⟨.bin .add, [.p 0, .c (.int .i64 1)], none, none, []⟩,
 ⟨.mov, [.v 7], none, none, []⟩,
 ⟨.bslice 1 (.int .i64 0) 2 [0, 1], [.p 0, .c (.int .i64 2)], none, none, []⟩,
 ⟨.call false 81, [.p 0], none, none, []⟩,
 ⟨.bslice 1 (.int .i64 0) 2 [0, 1], [.p 3, .p 0], none, none, []⟩,
 ⟨.call false 82, [.p 0], none, none, []⟩,
 ⟨.bslice 1 (.int .i64 0) 4 [0, 1, 2, 3], [.p 10, .p 8, .p 0, .c (.int .i64 8)], none, none, []⟩,
 ⟨.call false 81, [.p 0], none, none, []⟩,
 ⟨.mov, [.p 0], some 8, none, []⟩] true)
(.seq (.region [⟨.faddr 0, [.v 5], none, none, []⟩,
 ⟨.load false 1, [.p 0], none, none, []⟩,
 ⟨.bin .add, [.p 0, .c (.int .i64 1)], none, none, []⟩,
 ⟨.faddr 0, [.v 6], none, none, []⟩,
 ⟨.load false 1, [.p 0], none, none, []⟩,
 ⟨.bin .add, [.p 0, .c (.int .i64 1)], none, none, []⟩,
 ⟨.faddr 0, [.v 5], none, none, []⟩,
 ⟨.load false 1, [.p 0], none, none, []⟩,
 ⟨.faddr 0, [.v 6], none, none, []⟩,
 ⟨.load false 1, [.p 0], none, none, []⟩,
 ⟨.bslice 1 (.int .i64 0) 3 [0, 1, 2], [.p 2, .p 0, .c (.int .i64 2)], none, none, []⟩,
 ⟨.call false 81, [.p 0], none, none, []⟩,
 ⟨.faddr 1, [.v 5], none, none, []⟩,
 ⟨.load false 1, [.p 0], none, none, []⟩,
 ⟨.faddr 1, [.v 6], none, none, []⟩,
 ⟨.load false 1, [.p 0], none, none, []⟩,
 ⟨.bslice 1 (.int .i64 0) 3 [0, 1, 2], [.p 2, .p 0, .c (.int .i64 2)], none, none, []⟩,
 ⟨.call false 81, [.p 0], none, none, []⟩,
 ⟨.mov, [.v 8], none, none, []⟩,
 ⟨.bslice 1 (.int .i64 0) 5 [0, 1, 2, 3, 4], [.p 16, .p 13, .p 7, .p 1, .p 0], none, none, []⟩,
 ⟨.call false 3, [.p 0], none, none, []⟩,
 ⟨.mov, [.p 0], some 4, none, []⟩] true)
.ret)))),
[.v 4]⟩
def c_gauge_Common : RFunc := ⟨3, [0, 1, 2, 5, 6, 7, 8, 9, 10, 11],
(.seq (.region [⟨.box, [.v 2], some 3, none, []⟩,
 ⟨.mov, [.c (.int .i64 0)], some 4, none, []⟩] false)
(.seq (.region [⟨.mov, [.v 0], none, none, []⟩,
 ⟨.call false 11, [.p 0], none, none, []⟩,
 ⟨.mov, [.v 1], none, none, []⟩,
 ⟨.call false 11, [.p 0], none, none, []⟩,
 ⟨.load true 2, [.v 3], none, none, []⟩,
 ⟨.call false 53, [.p 0], none, none, []⟩,
 ⟨.alloc (.agg [.int .i64 0, .int .i64 0, .int .i64 0]), [], some 5, none, []⟩,
 ⟨.alloc (.agg [.int .i64 0, .int .i64 0, .int .i64 0]), [], some 6, none, []⟩,
 ⟨.store 3, [.v 5, .p 6], none, none, []⟩,
 ⟨.store 3, [.v 6, .p 5], none, none, []⟩,
 ⟨.mov, [.p 4], some 7, none, []⟩] true)
(.seq (.region [⟨.faddr 0, [.v 5], none, none, []⟩,
 ⟨.load false 1, [.p 0], none, none, []⟩,
 ⟨.faddr 0, [.v 6], none, none, []⟩,
 ⟨.load false 1, [.p 0], none, none, []⟩,
 ⟨.bslice 1 (.int .i64 0) 3 [0, 1, 2], [.p 2, .p 0, .c (.int .i64 2)], none, none, []⟩,
 ⟨.call false 81, [.p 0], none, none, []⟩,
 ⟨.mov, [.p 0], some 8, none, []⟩] false)
(.seq (.region [⟨.faddr 2, [.v 5], none, none, []⟩,
 ⟨.load false 1, [.p 0], none, none, []⟩,
 ⟨.faddr 2, [.v 6], none, none, []⟩,
 ⟨.load false 1, [.p 0], none, none, []⟩,
 ⟨.mov, [.v 8], none, none, []⟩,
 ⟨.bin .sub, [.p 0, .c (.int .i64 1)], none, none, []⟩,
 ⟨.mov, [.v 7], none, none, []⟩,
 ⟨.bslice 1 (.int .i64 0) 2 [0, 1], [.p 0, .c (.int .i64 2)], none, none, []⟩,
 ⟨.call false 81, [.p 0], none, none, []⟩,
 ⟨.bslice 1 (.int .i64 0) 2 [0, 1], [.p 3, .p 0], none, none, []⟩,
 ⟨.call false 82, [.p 0], none, none, []⟩,
 ⟨.bslice 1 (.int .i64 0) 4 [0, 1, 2, 3], [.p 9, .p 7, .p 0, .c (.int .i64 8)], none, none, []⟩,
 ⟨.call false 81, [.p 0], none, none, []⟩,
 ⟨.mov, [.p 0], some 9, none, []⟩] true)
(.seq (.region [⟨.mov, [.v 8], none, none, []⟩,
 ⟨.mov, [.v 8], none, none, []⟩,
 ⟨.mov, [.v 8], none, none, []⟩,
 ⟨.mov, [.v 8], none, none, []⟩,
 ⟨.faddr 1, [.v 5], none, none, []⟩,
 ⟨.load false 1, [.p 0], none, none, []⟩,
 ⟨.faddr 1, [.v 6], none, none, []⟩,
 ⟨.load false 1, [.p 0], none, none, []⟩,
 ⟨.bslice 1 (.int .i64 0) 2 [0, 1], [.p 2, .p 0], none, none, []⟩,
 ⟨.call false 81, [.p 0], none, none, []⟩,
 ⟨.bslice 1 (.int .i64 0) 2 [0, 1], [.p 6, .p 0], none, none, []⟩,
 ⟨.call false 82, [.p 0], none, none, []⟩,
 ⟨.bslice 1 (.int .i64 0) 2 [0, 1], [.p 0, .c (.int .i64 2)], none, none, []⟩,
 ⟨.call false 81, [.p 0], none, none, []⟩,
 ⟨.mov, [.v 9], none, none, []⟩,
 ⟨.bslice 1 (.int .i64 0) 5 [0, 1, 2, 3, 4], [.p 14, .p 13, .p 12, .p 1, .p 0], none, none, []⟩,
 ⟨.call false 3, [.p 0], none, none, []⟩,
 ⟨.mov, [.p 0], some 4, none, []⟩] false)
.ret))))),
[.v 4]⟩
def l_gauge_each_0 : RCode := (.loop [true, false, false, true, true, true] (.seq (.region [⟨.bin .lss, [.v 5, .v 4], none, none, []⟩] false)
(.seq (.cond (.p 0) .skip (.exit 0))
(.seq (.block 1 (.seq (.region [⟨.iaddr 1, [.v 3, .v 5], none, none, []⟩,
 ⟨.load false 1, [.p 0], none, none, []⟩,
 ⟨.mov, [.p 0], some 2, none, []⟩] false)
(.region [⟨.mov, [.v 0], none, none, []⟩,
 ⟨.mov, [.v 2], none, none, []⟩,
 ⟨.callv true, [.p 1, .p 0], none, none, []⟩] false)))
(.region [⟨.bin .add, [.v 5, .c (.int .i64 1)], none, none, []⟩,
 ⟨.mov, [.p 0], some 5, none, []⟩] false)))))
def c_gauge_each : RFunc := ⟨2, [0, 1, 5, 6, 7, 8],
(.seq (.region [⟨.mov, [.v 1], some 3, none, []⟩,
 ⟨.len false, [.v 3], some 4, none, []⟩,
 ⟨.mov, [.c (.int .i64 0)], some 5, none, []⟩] false)
(.block 0 l_gauge_each_0)),
[]⟩
def c_gauge_product_take : RFunc := ⟨2, [0, 1],
(.region [⟨.mov, [.v 0], none, none, []⟩,
 ⟨.mov, [.v 0], none, none, []⟩,
 ⟨.nilck, [.p 0], none, none, []⟩,
 ⟨.faddr 0, [.p 0], none, none, []⟩,
 ⟨.load false 1, [.p 0], none, none, []⟩,
 ⟨.mov, [.v 1], none, none, []⟩,
 ⟨.max, [.p 0, .c (.int .i64 1)], none, none, []⟩,
 ⟨.bslice 1 (.int .i64 0) 2 [0, 1], [.p 2, .p 0], none, none, []⟩,
 ⟨.call false 82, [.p 0], none, none, []⟩,
 ⟨.nilck, [.p 8], none, none, []⟩,
 ⟨.faddr 0, [.p 0], none, none, []⟩,
 ⟨.store 1, [.p 0, .p 2], none, none, []⟩] false),
[]⟩
def l_zcost_Of_0 : RCode := (.loop [true, true, true] (.seq (.seq (.region [⟨.mov, [.v 2], none, none, []⟩,
 ⟨.bin .geq, [.p 0, .c (.int .i64 0)], none, none, []⟩,
 ⟨.mov, [.p 0], none, none, []⟩,
 ⟨.mov, [.v 0], none, some (0, true), []⟩,
 ⟨.mov, [.v 2], none, some (1, true), []⟩,
 ⟨.iaddr 1, [.p 1, .p 0], none, some (2, true), []⟩,
 ⟨.load false 1, [.p 0], none, some (3, true), []⟩,
 ⟨.call false 104, [.p 0], none, some (4, true), []⟩,
 ⟨.bin .lss, [.p 0, .c (.int .i64 0)], none, some (5, true), []⟩,
 ⟨.pick, [.p 6, .p 0, .c (.bool false)], none, none, []⟩] false)
(.cond (.p 0) .skip (.exit 0)))
(.block 1 (.region [⟨.mov, [.v 2], none, none, []⟩,
 ⟨.bin .sub, [.p 0, .c (.int .i64 1)], none, none, []⟩,
 ⟨.mov, [.p 0], some 2, none, []⟩] false))))
def l_zcost_Of_1 : RCode := (.loop [false, true, false, true, false, true, true, true] (.seq (.region [⟨.bin .lss, [.v 7, .v 6], none, none, []⟩] false)
(.seq (.cond (.p 0) .skip (.exit 2))
(.seq (.block 3 (.seq (.region [⟨.iaddr 1, [.v 5, .v 7], none, none, []⟩,
 ⟨.load false 1, [.p 0], none, none, []⟩,
 ⟨.mov, [.p 0], some 4, none, []⟩] false)
(.region [⟨.faddr 1, [.v 3], none, none, []⟩,
 ⟨.load false 1, [.p 0], none, none, []⟩,
 ⟨.mov, [.v 4], none, none, []⟩,
 ⟨.call false 104, [.p 0], none, none, []⟩,
 ⟨.max, [.p 2, .p 0], none, none, []⟩,
 ⟨.faddr 2, [.v 3], none, none, []⟩,
 ⟨.load false 1, [.p 0], none, none, []⟩,
 ⟨.mov, [.v 4], none, none, []⟩,
 ⟨.call false 105, [.p 0], none, none, []⟩,
 ⟨.max, [.p 2, .p 0], none, none, []⟩,
 ⟨.faddr 1, [.v 3], none, none, []⟩,
 ⟨.store 1, [.p 0, .p 6], none, none, []⟩,
 ⟨.faddr 2, [.v 3], none, none, []⟩,
 ⟨.store 1, [.p 0, .p 3], none, none, []⟩] true)))
(.region [⟨.bin .add, [.v 7, .c (.int .i64 1)], none, none, []⟩,
 ⟨.mov, [.p 0], some 7, none, []⟩] false)))))
def c_zcost_Of : RFunc := ⟨1, [0, 2, 3, 4, 6, 30, 31, 32],
(.seq (.region [⟨.alloc (.agg [.int .i64 0, .int .i64 0, .int .i64 0]), [], some 1, none, []⟩] false)
(.seq (.region [⟨.mov, [.v 0], none, none, []⟩,
 ⟨.len false, [.p 0], none, none, []⟩,
 ⟨.bin .sub, [.p 0, .c (.int .i64 1)], none, none, []⟩,
 ⟨.mov, [.p 0], some 2, none, []⟩] false)
(.seq (.block 0 l_zcost_Of_0)
(.seq (.seq (.region [⟨.mov, [.v 2], none, none, []⟩,
 ⟨.bin .lss, [.p 0, .c (.int .i64 0)], none, none, []⟩] false)
(.cond (.p 0) (.seq (.region [⟨.build [.int .i64 0, .int .i64 0, .int .i64 0] [], [], none, none, []⟩,
 ⟨.store 3, [.v 1, .p 0], none, none, []⟩] false)
.ret) .skip))
(.seq (.region [⟨.mov, [.v 2], none, none, []⟩,
 ⟨.build [.int .i64 0, .int .i64 0, .int .i64 0] [(0, 1)], [.p 0], none, none, []⟩,
 ⟨.alloc (.agg [.int .i64 0, .int .i64 0, .int .i64 0]), [], some 3, none, []⟩,
 ⟨.store 3, [.v 3, .p 1], none, none, []⟩] false)
(.seq (.seq (.region [⟨.mov, [.v 0], none, none, []⟩,
 ⟨.mov, [.v 2], none, none, []⟩,
 ⟨.bin .add, [.p 0, .c (.int .i64 1)], none, none, []⟩,
 ⟨.slice 1 false true false, [.p 2, .p 0], some 5, none, []⟩,
 ⟨.len false, [.v 5], some 6, none, []⟩,
 ⟨.mov, [.c (.int .i64 0)], some 7, none, []⟩] false)
(.block 2 l_zcost_Of_1))
(.seq (.region [⟨.load true 3, [.v 3], none, none, []⟩,
 ⟨.store 3, [.v 1, .p 0], none, none, []⟩] false)
.ret))))))),
[.cell 1 true 3]⟩
def c_zcost_Product : RFunc := ⟨3, [0, 1, 2, 5, 6, 7, 8, 9, 10],
(.seq (.region [⟨.box, [.v 2], some 3, none, []⟩,
 ⟨.mov, [.c (.int .i64 0)], some 4, none, []⟩] false)
(.seq (.region [⟨.mov, [.v 0], none, none, []⟩,
 ⟨.call false 72, [.p 0], none, none, []⟩,
 ⟨.mov, [.v 1], none, none, []⟩,
 ⟨.call false 72, [.p 0], none, none, []⟩,
 ⟨.load true 2, [.v 3], none, none, []⟩,
 ⟨.call false 53, [.p 0], none, none, []⟩,
 ⟨.alloc (.agg [.int .i64 0, .int .i64 0, .int .i64 0]), [], some 5, none, []⟩,
 ⟨.alloc (.agg [.int .i64 0, .int .i64 0, .int .i64 0]), [], some 6, none, []⟩,
 ⟨.store 3, [.v 5, .p 6], none, none, []⟩,
 ⟨.store 3, [.v 6, .p 5], none, none, []⟩,
 ⟨.mov, [.p 4], some 7, none, []⟩] true)
(.seq (.region [⟨.faddr 2, [.v 5], none, none, []⟩,
 ⟨.load false 1, [.p 0], none, none, []⟩,
 ⟨.faddr 2, [.v 6], none, none, []⟩,
 ⟨.load false 1, [.p 0], none, none, []⟩,
 ⟨.faddr 0, [.v 5], none, none, []⟩,
 ⟨.load false 1, [.p 0], none, none, []⟩,
 ⟨.bin .add, [.p 0, .c (.int .i64 1)], none, none, []⟩,
 ⟨.faddr 1, [.v 6], none, none, []⟩,
 ⟨.load false 1, [.p 0], none, none, []⟩,
 ⟨.bin .add, [.p 0, .c (.int .i64 1)], none, none, []⟩,
 ⟨.bslice 1 (.int .i64 0) 2 [0, 1], [.p 3, .p 0], none, none, []⟩,
 ⟨.call false 82, [.p 0], none, none, []⟩,
 ⟨.faddr 0, [.v 5], none, none, []⟩,
 ⟨.load false 1, [.p 0], none, none, []⟩,
 ⟨.faddr 1, [.v 6], none, none, []⟩,
 ⟨.load false 1, [.p 0], none, none, []⟩,
 ⟨.bin .add, [.p 0, .c (.int .i64 1)], none, none, []⟩,
 ⟨.mov, [.v 7], none, none, []⟩,
 ⟨.bslice 1 (.int .i64 0) 3 [0, 1, 2], [.p 4, .p 1, .p 0], none, none, []⟩,
 ⟨.call false 82, [.p 0], none, none, []⟩,
 ⟨.bslice 1 (.int .i64 0) 5 [0, 1, 2, 3, 4], [.p 18, .p 16, .p 8, .p 0, .c (.int .i64 8)], none, none, []⟩,
 ⟨.call false 81, [.p 0], none, none, []⟩,
 ⟨.mov, [.p 0], some 8, none, []⟩] true)
(.seq (.region [⟨.faddr 0, [.v 5], none, none, []⟩,
 ⟨.load false 1, [.p 0], none, none, []⟩,
 ⟨.bin .add, [.p 0, .c (.int .i64 1)], none, none, []⟩,
 ⟨.faddr 0, [.v 6], none, none, []⟩,
 ⟨.load false 1, [.p 0], none, none, []⟩,
 ⟨.bin .add, [.p 0, .c (.int .i64 1)], none, none, []⟩,
 ⟨.faddr 1, [.v 5], none, none, []⟩,
 ⟨.load false 1, [.p 0], none, none, []⟩,
 ⟨.faddr 1, [.v 6], none, none, []⟩,
 ⟨.load false 1, [.p 0], none, none, []⟩,
 ⟨.bslice 1 (.int .i64 0) 3 [0, 1, 2], [.p 2, .p 0, .c (.int .i64 2)], none, none, []⟩,
 ⟨.call false 81, [.p 0], none, none, []⟩,
 ⟨.mov, [.v 8], none, none, []⟩,
 ⟨.bslice 1 (.int .i64 0) 4 [0, 1, 2, 3], [.p 10, .p 7, .p 1, .p 0], none, none, []⟩,
 ⟨.call false 106, [.p 0], none, none, []⟩,
 ⟨.mov, [.p 0], some 4, none, []⟩] true)
.ret)))),
[.v 4]⟩
def c_zcost_Apply : RFunc := ⟨3, [0, 1, 2, 5, 6, 7, 8, 9, 10],
(.seq (.region [⟨.box, [.v 2], some 3, none, []⟩,
 ⟨.mov, [.c (.int .i64 0)], some 4, none, []⟩] false)
(.seq (.region [⟨.mov, [.v 0], none, none, []⟩,
 ⟨.call false 72, [.p 0], none, none, []⟩,
 ⟨.mov, [.v 1], none, none, []⟩,
 ⟨.call false 104, [.p 0], none, none, []⟩,
 ⟨.load true 2, [.v 3], none, none, []⟩,
 ⟨.call false 53, [.p 0], none, none, []⟩,
 ⟨.alloc (.agg [.int .i64 0, .int .i64 0, .int .i64 0]), [], some 5, none, []⟩,
 ⟨.store 3, [.v 5, .p 5], none, none, []⟩,
 ⟨.mov, [.p 4], some 6, none, []⟩,
 ⟨.mov, [.p 3], some 7, none, []⟩] true)
(.seq (.region [⟨.faddr 2, [.v 5], none, none, []⟩,
 ⟨.load false 1, [.p 0], none, none, []⟩,
 ⟨.mov, [.v 1], none, none, []⟩,
 ⟨.call false 105, [.p 0], none, none, []⟩,
 ⟨.faddr 0, [.v 5], none, none, []⟩,
 ⟨.load false 1, [.p 0], none, none, []⟩,
 ⟨.bin .add, [.p 0, .c (.int .i64 1)], none, none, []⟩,
 ⟨.mov, [.v 6], none, none, []⟩,
 ⟨.bin .add, [.p 0, .c (.int .i64 2)], none, none, []⟩,
 ⟨.mov, [.v 7], none, none, []⟩,
 ⟨.bslice 1 (.int .i64 0) 2 [0, 1], [.p 0, .c (.int .i64 8)], none, none, []⟩,
 ⟨.call false 81, [.p 0], none, none, []⟩,
 ⟨.bslice 1 (.int .i64 0) 3 [0, 1, 2], [.p 5, .p 3, .p 0], none, none, []⟩,
 ⟨.call false 82, [.p 0], none, none, []⟩,
 ⟨.bslice 1 (.int .i64 0) 3 [0, 1, 2], [.p 12, .p 10, .p 0], none, none, []⟩,
 ⟨.call false 81, [.p 0], none, none, []⟩,
 ⟨.mov, [.p 0], some 8, none, []⟩] true)
(.seq (.region [⟨.faddr 0, [.v 5], none, none, []⟩,
 ⟨.load false 1, [.p 0], none, none, []⟩,
 ⟨.bin .add, [.p 0, .c (.int .i64 1)], none, none, []⟩,
 ⟨.faddr 1, [.v 5], none, none, []⟩,
 ⟨.load false 1, [.p 0], none, none, []⟩,
 ⟨.mov, [.v 6], none, none, []⟩,
 ⟨.bin .add, [.p 0, .c (.int .i64 3)], none, none, []⟩,
 ⟨.bslice 1 (.int .i64 0) 2 [0, 1], [.p 2, .p 0], none, none, []⟩,
 ⟨.call false 81, [.p 0], none, none, []⟩,
 ⟨.mov, [.v 8], none, none, []⟩,
 ⟨.bslice 1 (.int .i64 0) 3 [0, 1, 2], [.p 7, .p 1, .p 0], none, none, []⟩,
 ⟨.call false 106, [.p 0], none, none, []⟩,
 ⟨.mov, [.p 0], some 4, none, []⟩] true)
.ret)))),
[.v 4]⟩
def l_zcost_Add_0 : RCode := (.loop [false, false, true, false, true, true, true] (.seq (.region [⟨.bin .lss, [.v 6, .v 5], none, none, []⟩] false)
(.seq (.cond (.p 0) .skip (.exit 0))
(.seq (.block 1 (.seq (.region [⟨.iaddr 1, [.v 4, .v 6], none, none, []⟩,
 ⟨.load false 1, [.p 0], none, none, []⟩,
 ⟨.mov, [.p 0], some 3, none, []⟩] false)
(.seq (.seq (.region [⟨.mov, [.v 3], none, none, []⟩,
 ⟨.mov, [.v 2], none, none, []⟩,
 ⟨.bin .sub, [.c (.int .i64 4611686018427387904), .p 0], none, none, []⟩,
 ⟨.bin .gtr, [.p 2, .p 0], none, none, []⟩] false)
(.cond (.p 0) (.seq (.region [⟨.mov, [.c (.int .i64 4611686018427387904)], some 1, none, []⟩] false)
.ret) .skip))
(.region [⟨.mov, [.v 2], none, none, []⟩,
 ⟨.mov, [.v 3], none, none, []⟩,
 ⟨.bin .add, [.p 1, .p 0], none, none, []⟩,
 ⟨.mov, [.p 0], some 2, none, []⟩] false))))
(.region [⟨.bin .add, [.v 6, .c (.int .i64 1)], none, none, []⟩,
 ⟨.mov, [.p 0], some 6, none, []⟩] false)))))
def c_zcost_Add : RFunc := ⟨1, [0, 2, 3, 5, 6, 7, 8],
(.seq (.region [⟨.mov, [.c (.int .i64 0)], some 1, none, []⟩] false)
(.seq (.region [⟨.mov, [.c (.int .i64 0)], some 2, none, []⟩] false)
(.seq (.seq (.region [⟨.mov, [.v 0], some 4, none, []⟩,
 ⟨.len false, [.v 4], some 5, none, []⟩,
 ⟨.mov, [.c (.int .i64 0)], some 6, none, []⟩] false)
(.block 0 l_zcost_Add_0))
(.seq (.region [⟨.mov, [.v 2], none, none, []⟩,
 ⟨.mov, [.p 0], some 1, none, []⟩] false)
.ret)))),
[.v 1]⟩
def l_zcost_Mul_0 : RCode := (.loop [true, false, true, false, false, true, true, true] (.seq (.region [⟨.bin .lss, [.v 7, .v 6], none, none, []⟩] false)
(.seq (.cond (.p 0) .skip (.exit 0))
(.seq (.block 1 (.seq (.region [⟨.iaddr 1, [.v 5, .v 7], none, none, []⟩,
 ⟨.load false 1, [.p 0], none, none, []⟩,
 ⟨.mov, [.p 0], some 3, none, []⟩] false)
(.seq (.region [⟨.mov, [.v 3], none, none, []⟩,
 ⟨.bin .eql, [.p 0, .c (.int .i64 0)], none, none, []⟩] false)
(.cond (.p 0) (.seq (.region [⟨.mov, [.c (.int .i64 0)], some 1, none, []⟩] false)
.ret) .skip))))
(.region [⟨.bin .add, [.v 7, .c (.int .i64 1)], none, none, []⟩,
 ⟨.mov, [.p 0], some 7, none, []⟩] false)))))
def l_zcost_Mul_1 : RCode := (.loop [false, false, true, false, false, false, false, false, true, true, true] (.seq (.region [⟨.bin .lss, [.v 10, .v 9], none, none, []⟩] false)
(.seq (.cond (.p 0) .skip (.exit 2))
(.seq (.block 3 (.seq (.region [⟨.iaddr 1, [.v 8, .v 10], none, none, []⟩,
 ⟨.load false 1, [.p 0], none, none, []⟩,
 ⟨.mov, [.p 0], some 4, none, []⟩] false)
(.seq (.seq (.region [⟨.mov, [.v 2], none, none, []⟩,
 ⟨.mov, [.v 4], none, none, []⟩,
 ⟨.bin .quo, [.c (.int .i64 4611686018427387904), .p 0], none, none, []⟩,
 ⟨.bin .gtr, [.p 2, .p 0], none, none, []⟩] false)
(.cond (.p 0) (.seq (.region [⟨.mov, [.c (.int .i64 4611686018427387904)], some 1, none, []⟩] false)
.ret) .skip))
(.region [⟨.mov, [.v 2], none, none, []⟩,
 ⟨.mov, [.v 4], none, none, []⟩,
 ⟨.bin .mul, [.p 1, .p 0], none, none, []⟩,
 ⟨.mov, [.p 0], some 2, none, []⟩] false))))
(.region [⟨.bin .add, [.v 10, .c (.int .i64 1)], none, none, []⟩,
 ⟨.mov, [.p 0], some 10, none, []⟩] false)))))
def c_zcost_Mul : RFunc := ⟨1, [0, 2, 3, 5, 7, 8, 9, 10, 17, 18, 19],
(.seq (.region [⟨.mov, [.c (.int .i64 0)], some 1, none, []⟩] false)
(.seq (.region [⟨.mov, [.c (.int .i64 1)], some 2, none, []⟩] false)
(.seq (.seq (.region [⟨.mov, [.v 0], some 5, none, []⟩,
 ⟨.len false, [.v 5], some 6, none, []⟩,
 ⟨.mov, [.c (.int .i64 0)], some 7, none, []⟩] false)
(.block 0 l_zcost_Mul_0))
(.seq (.seq (.region [⟨.mov, [.v 0], some 8, none, []⟩,
 ⟨.len false, [.v 8], some 9, none, []⟩,
 ⟨.mov, [.c (.int .i64 0)], some 10, none, []⟩] false)
(.block 2 l_zcost_Mul_1))
(.seq (.region [⟨.mov, [.v 2], none, none, []⟩,
 ⟨.mov, [.p 0], some 1, none, []⟩] false)
.ret))))),
[.v 1]⟩
def l_zcost_Times_0 : RCode := (.loop [false, false, true, false, true, true, true] (.seq (.region [⟨.bin .lss, [.v 6, .v 5], none, none, []⟩] false)
(.seq (.cond (.p 0) .skip (.exit 0))
(.seq (.block 1 (.seq (.region [⟨.iaddr 1, [.v 4, .v 6], none, none, []⟩,
 ⟨.load false 1, [.p 0], none, none, []⟩,
 ⟨.mov, [.p 0], some 3, none, []⟩] false)
(.region [⟨.mov, [.v 2], none, none, []⟩,
 ⟨.mov, [.v 3], none, none, []⟩,
 ⟨.max, [.p 0, .c (.int .i64 1)], none, none, []⟩,
 ⟨.bslice 1 (.int .i64 0) 2 [0, 1], [.p 2, .p 0], none, none, []⟩,
 ⟨.call false 82, [.p 0], none, none, []⟩,
 ⟨.mov, [.p 0], some 2, none, []⟩] false)))
(.region [⟨.bin .add, [.v 6, .c (.int .i64 1)], none, none, []⟩,
 ⟨.mov, [.p 0], some 6, none, []⟩] false)))))
def c_zcost_Times : RFunc := ⟨1, [0, 2, 3, 5, 6, 7, 8],
(.seq (.region [⟨.mov, [.c (.int .i64 0)], some 1, none, []⟩] false)
(.seq (.region [⟨.mov, [.c (.int .i64 1)], some 2, none, []⟩] false)
(.seq (.seq (.region [⟨.mov, [.v 0], some 4, none, []⟩,
 ⟨.len false, [.v 4], some 5, none, []⟩,
 ⟨.mov, [.c (.int .i64 0)], some 6, none, []⟩] false)
(.block 0 l_zcost_Times_0))
(.seq (.region [⟨.mov, [.v 2], none, none, []⟩,
 ⟨.mov, [.p 0], some 1, none, []⟩] false)
.ret)))),
[.v 1]⟩
def c_upoly_Deg : RFunc := ⟨1, [0, 2],
(.seq (.region [⟨.mov, [.c (.int .i64 0)], some 1, none, []⟩] false)
(.seq (.region [⟨.mov, [.v 0], none, none, []⟩,
 ⟨.call false 119, [.p 0], none, none, []⟩,
 ⟨.len false, [.p 0], none, none, []⟩,
 ⟨.bin .sub, [.p 0, .c (.int .i64 1)], none, none, []⟩,
 ⟨.mov, [.p 0], some 1, none, []⟩] false)
.ret)),
[.v 1]⟩
def l_upoly_Bits_0 : RCode := (.loop [false, false, true, false, true, true, true] (.seq (.region [⟨.bin .lss, [.v 6, .v 5], none, none, []⟩] false)
(.seq (.cond (.p 0) .skip (.exit 0))
(.seq (.block 1 (.seq (.region [⟨.iaddr 2, [.v 4, .v 6], none, none, []⟩,
 ⟨.load true 2, [.p 0], none, none, []⟩,
 ⟨.alloc (.agg [.bool false, .slc true []]), [], some 3, none, []⟩,
 ⟨.store 2, [.v 3, .p 1], none, none, []⟩] false)
(.region [⟨.mov, [.v 2], none, none, []⟩,
 ⟨.load true 2, [.v 3], none, none, []⟩,
 ⟨.call false 53, [.p 0], none, none, []⟩,
 ⟨.max, [.p 2, .p 0], none, none, []⟩,
 ⟨.mov, [.p 0], some 2, none, []⟩] false)))
(.region [⟨.bin .add, [.v 6, .c (.int .i64 1)], none, none, []⟩,
 ⟨.mov, [.p 0], some 6, none, []⟩] false)))))
def c_upoly_Bits : RFunc := ⟨1, [0, 2, 3, 5, 6, 7, 8],
(.seq (.region [⟨.mov, [.c (.int .i64 0)], some 1, none, []⟩] false)
(.seq (.region [⟨.mov, [.c (.int .i64 0)], some 2, none, []⟩] false)
(.seq (.seq (.region [⟨.mov, [.v 0], some 4, none, []⟩,
 ⟨.len false, [.v 4], some 5, none, []⟩,
 ⟨.mov, [.c (.int .i64 0)], some 6, none, []⟩] false)
(.block 0 l_upoly_Bits_0))
(.seq (.region [⟨.mov, [.v 2], none, none, []⟩,
 ⟨.mov, [.p 0], some 1, none, []⟩] false)
.ret)))),
[.v 1]⟩
def l_upoly_cut_0 : RCode := (.loop [true, false, true] (.seq (.seq (.region [⟨.mov, [.v 2], none, none, []⟩,
 ⟨.bin .gtr, [.p 0, .c (.int .i64 0)], none, none, []⟩,
 ⟨.mov, [.p 0], none, none, []⟩,
 ⟨.mov, [.v 0], none, some (0, true), []⟩,
 ⟨.mov, [.v 2], none, some (1, true), []⟩,
 ⟨.bin .sub, [.p 0, .c (.int .i64 1)], none, some (2, true), []⟩,
 ⟨.iaddr 2, [.p 2, .p 0], none, some (3, true), []⟩,
 ⟨.load true 2, [.p 0], none, some (4, true), []⟩,
 ⟨.call false 52, [.p 0], none, some (5, true), []⟩,
 ⟨.bin .eql, [.p 0, .c (.int .i64 0)], none, some (6, true), []⟩,
 ⟨.pick, [.p 7, .p 0, .c (.bool false)], none, none, []⟩] false)
(.cond (.p 0) .skip (.exit 0)))
(.block 1 (.region [⟨.mov, [.v 2], none, none, []⟩,
 ⟨.bin .sub, [.p 0, .c (.int .i64 1)], none, none, []⟩,
 ⟨.mov, [.p 0], some 2, none, []⟩] false))))
def c_upoly_cut : RFunc := ⟨1, [0, 2, 3],
(.seq (.region [⟨.mov, [.c (.slc true [])], some 1, none, []⟩] false)
(.seq (.region [⟨.mov, [.v 0], none, none, []⟩,
 ⟨.len false, [.p 0], none, none, []⟩,
 ⟨.mov, [.p 0], some 2, none, []⟩] false)
(.seq (.block 0 l_upoly_cut_0)
(.seq (.seq (.region [⟨.mov, [.v 2], none, none, []⟩,
 ⟨.bin .eql, [.p 0, .c (.int .i64 0)], none, none, []⟩] false)
(.cond (.p 0) (.seq (.region [⟨.mov, [.c (.slc true [])], some 1, none, []⟩] false)
.ret) .skip))
(.seq (.region [⟨.mov, [.v 0], none, none, []⟩,
 ⟨.mov, [.v 2], none, none, []⟩,
 ⟨.slice 2 false true false, [.p 1, .p 0], none, none, []⟩,
 ⟨.mov, [.p 0], some 1, none, []⟩] false)
.ret))))),
[.v 1]⟩
def l_ashlarref3_From_0 : RCode := (.loop [true, false, true, true] (.seq (.seq (.region [⟨.mov, [.v 3], none, none, []⟩,
 ⟨.mov, [.v 0], none, none, []⟩,
 ⟨.len false, [.p 0], none, none, []⟩,
 ⟨.bin .lss, [.p 2, .p 0], none, none, []⟩] false)
(.cond (.p 0) .skip (.exit 0)))
(.seq (.block 1 (.region [⟨.mov, [.v 2], none, none, []⟩,
 ⟨.mov, [.v 0], none, none, []⟩,
 ⟨.mov, [.v 3], none, none, []⟩,
 ⟨.iaddr 2, [.p 1, .p 0], none, none, []⟩,
 ⟨.load true 2, [.p 0], none, none, []⟩,
 ⟨.call false 10, [.p 0], none, none, []⟩,
 ⟨.bslice 2 (.agg [.bool false, .slc true []]) 1 [0], [.p 0], none, none, []⟩,
 ⟨.app 32 2, [.p 6, .p 0], none, none, []⟩,
 ⟨.mov, [.p 0], some 2, none, []⟩] false))
(.region [⟨.mov, [.v 3], none, none, []⟩,
 ⟨.bin .add, [.p 0, .c (.int .i64 1)], none, none, []⟩,
 ⟨.mov, [.p 0], some 3, none, []⟩] false))))
def c_ashlarref3_From : RFunc := ⟨1, [0, 2, 3, 4],
(.seq (.region [⟨.mov, [.c (.slc true [])], some 1, none, []⟩] false)
(.seq (.region [⟨.mov, [.c (.slc true [])], some 2, none, []⟩] false)
(.seq (.seq (.region [⟨.mov, [.c (.int .i64 0)], some 3, none, []⟩] false)
(.block 0 l_ashlarref3_From_0))
(.seq (.region [⟨.mov, [.v 2], none, none, []⟩,
 ⟨.call false 70, [.p 0], none, none, []⟩,
 ⟨.mov, [.p 0], some 1, none, []⟩] false)
.ret)))),
[.v 1]⟩
def l_ashlarref3_Of_0 : RCode := (.loop [true, false, true, true] (.seq (.seq (.region [⟨.mov, [.v 3], none, none, []⟩,
 ⟨.mov, [.v 0], none, none, []⟩,
 ⟨.len false, [.p 0], none, none, []⟩,
 ⟨.bin .lss, [.p 2, .p 0], none, none, []⟩] false)
(.cond (.p 0) .skip (.exit 0)))
(.seq (.block 1 (.region [⟨.mov, [.v 2], none, none, []⟩,
 ⟨.mov, [.v 0], none, none, []⟩,
 ⟨.mov, [.v 3], none, none, []⟩,
 ⟨.iaddr 1, [.p 1, .p 0], none, none, []⟩,
 ⟨.load false 1, [.p 0], none, none, []⟩,
 ⟨.call false 34, [.p 0], none, none, []⟩,
 ⟨.bslice 2 (.agg [.bool false, .slc true []]) 1 [0], [.p 0], none, none, []⟩,
 ⟨.app 32 2, [.p 6, .p 0], none, none, []⟩,
 ⟨.mov, [.p 0], some 2, none, []⟩] false))
(.region [⟨.mov, [.v 3], none, none, []⟩,
 ⟨.bin .add, [.p 0, .c (.int .i64 1)], none, none, []⟩,
 ⟨.mov, [.p 0], some 3, none, []⟩] false))))
def c_ashlarref3_Of : RFunc := ⟨1, [0, 2, 3, 4],
(.seq (.region [⟨.mov, [.c (.slc true [])], some 1, none, []⟩] false)
(.seq (.region [⟨.mov, [.c (.slc true [])], some 2, none, []⟩] false)
(.seq (.seq (.region [⟨.mov, [.c (.int .i64 0)], some 3, none, []⟩] false)
(.block 0 l_ashlarref3_Of_0))
(.seq (.region [⟨.mov, [.v 2], none, none, []⟩,
 ⟨.call false 70, [.p 0], none, none, []⟩,
 ⟨.mov, [.p 0], some 1, none, []⟩] false)
.ret)))),
[.v 1]⟩
def l_ashlarref3_Trim_0 : RCode := (.loop [true, false, true] (.seq (.seq (.region [⟨.mov, [.v 2], none, none, []⟩,
 ⟨.bin .gtr, [.p 0, .c (.int .i64 0)], none, none, []⟩,
 ⟨.mov, [.p 0], none, none, []⟩,
 ⟨.mov, [.v 0], none, some (0, true), []⟩,
 ⟨.mov, [.v 2], none, some (1, true), []⟩,
 ⟨.bin .sub, [.p 0, .c (.int .i64 1)], none, some (2, true), []⟩,
 ⟨.iaddr 2, [.p 2, .p 0], none, some (3, true), []⟩,
 ⟨.load true 2, [.p 0], none, some (4, true), []⟩,
 ⟨.call false 25, [.p 0], none, some (5, true), []⟩,
 ⟨.bin .eql, [.p 0, .c (.int .i64 0)], none, some (6, true), []⟩,
 ⟨.pick, [.p 7, .p 0, .c (.bool false)], none, none, []⟩] false)
(.cond (.p 0) .skip (.exit 0)))
(.block 1 (.region [⟨.mov, [.v 2], none, none, []⟩,
 ⟨.bin .sub, [.p 0, .c (.int .i64 1)], none, none, []⟩,
 ⟨.mov, [.p 0], some 2, none, []⟩] false))))
def c_ashlarref3_Trim : RFunc := ⟨1, [0, 2, 3],
(.seq (.region [⟨.mov, [.c (.slc true [])], some 1, none, []⟩] false)
(.seq (.region [⟨.mov, [.v 0], none, none, []⟩,
 ⟨.len false, [.p 0], none, none, []⟩,
 ⟨.mov, [.p 0], some 2, none, []⟩] false)
(.seq (.block 0 l_ashlarref3_Trim_0)
(.seq (.region [⟨.mov, [.v 0], none, none, []⟩,
 ⟨.mov, [.v 2], none, none, []⟩,
 ⟨.mov, [.v 2], none, none, []⟩,
 ⟨.slice 2 false true true, [.p 2, .p 1, .p 0], none, none, []⟩,
 ⟨.mov, [.p 0], some 1, none, []⟩] false)
.ret)))),
[.v 1]⟩
def c_ashlarref3_Deg : RFunc := ⟨1, [0, 2],
(.seq (.region [⟨.mov, [.c (.int .i64 0)], some 1, none, []⟩] false)
(.seq (.region [⟨.mov, [.v 0], none, none, []⟩,
 ⟨.len false, [.p 0], none, none, []⟩,
 ⟨.bin .sub, [.p 0, .c (.int .i64 1)], none, none, []⟩,
 ⟨.mov, [.p 0], some 1, none, []⟩] false)
.ret)),
[.v 1]⟩
def l_ashlarref3_Bits_0 : RCode := (.loop [true, false, true, true] (.seq (.seq (.region [⟨.mov, [.v 3], none, none, []⟩,
 ⟨.mov, [.v 0], none, none, []⟩,
 ⟨.len false, [.p 0], none, none, []⟩,
 ⟨.bin .lss, [.p 2, .p 0], none, none, []⟩] false)
(.cond (.p 0) .skip (.exit 0)))
(.seq (.block 1 (.seq (.region [⟨.mov, [.v 0], none, none, []⟩,
 ⟨.mov, [.v 3], none, none, []⟩,
 ⟨.iaddr 2, [.p 1, .p 0], none, none, []⟩,
 ⟨.load true 2, [.p 0], none, none, []⟩,
 ⟨.call false 54, [.p 0], none, none, []⟩,
 ⟨.mov, [.p 0], some 4, none, []⟩] false)
(.seq (.region [⟨.mov, [.v 4], none, none, []⟩,
 ⟨.mov, [.v 2], none, none, []⟩,
 ⟨.bin .gtr, [.p 1, .p 0], none, none, []⟩] false)
(.cond (.p 0) (.region [⟨.mov, [.v 4], none, none, []⟩,
 ⟨.mov, [.p 0], some 2, none, []⟩] false) .skip))))
(.region [⟨.mov, [.v 3], none, none, []⟩,
 ⟨.bin .add, [.p 0, .c (.int .i64 1)], none, none, []⟩,
 ⟨.mov, [.p 0], some 3, none, []⟩] false))))
def c_ashlarref3_Bits : RFunc := ⟨1, [0, 2, 3, 4, 5],
(.seq (.region [⟨.mov, [.c (.int .i64 0)], some 1, none, []⟩] false)
(.seq (.region [⟨.mov, [.c (.int .i64 0)], some 2, none, []⟩] false)
(.seq (.seq (.region [⟨.mov, [.c (.int .i64 0)], some 3, none, []⟩] false)
(.block 0 l_ashlarref3_Bits_0))
(.seq (.region [⟨.mov, [.v 2], none, none, []⟩,
 ⟨.mov, [.p 0], some 1, none, []⟩] false)
.ret)))),
[.v 1]⟩
def l_ashlarref3_To_0 : RCode := (.loop [true, false, true, true] (.seq (.seq (.region [⟨.mov, [.v 3], none, none, []⟩,
 ⟨.mov, [.v 0], none, none, []⟩,
 ⟨.len false, [.p 0], none, none, []⟩,
 ⟨.bin .lss, [.p 2, .p 0], none, none, []⟩] false)
(.cond (.p 0) .skip (.exit 0)))
(.seq (.block 1 (.region [⟨.mov, [.v 2], none, none, []⟩,
 ⟨.mov, [.v 0], none, none, []⟩,
 ⟨.mov, [.v 3], none, none, []⟩,
 ⟨.iaddr 2, [.p 1, .p 0], none, none, []⟩,
 ⟨.load true 2, [.p 0], none, none, []⟩,
 ⟨.call false 93, [.p 0], none, none, []⟩,
 ⟨.bslice 2 (.agg [.bool false, .slc true []]) 1 [0], [.p 0], none, none, []⟩,
 ⟨.app 32 2, [.p 6, .p 0], none, none, []⟩,
 ⟨.mov, [.p 0], some 2, none, []⟩] false))
(.region [⟨.mov, [.v 3], none, none, []⟩,
 ⟨.bin .add, [.p 0, .c (.int .i64 1)], none, none, []⟩,
 ⟨.mov, [.p 0], some 3, none, []⟩] false))))
def c_ashlarref3_To : RFunc := ⟨1, [0, 2, 3, 4],
(.seq (.region [⟨.mov, [.c (.slc true [])], some 1, none, []⟩] false)
(.seq (.region [⟨.mov, [.c (.slc true [])], some 2, none, []⟩] false)
(.seq (.seq (.region [⟨.mov, [.c (.int .i64 0)], some 3, none, []⟩] false)
(.block 0 l_ashlarref3_To_0))
(.seq (.region [⟨.mov, [.v 2], none, none, []⟩,
 ⟨.mov, [.p 0], some 1, none, []⟩] false)
.ret)))),
[.v 1]⟩
def l_ashlarref8_From_0 : RCode := (.loop [true, false, true, true] (.seq (.seq (.region [⟨.mov, [.v 3], none, none, []⟩,
 ⟨.mov, [.v 0], none, none, []⟩,
 ⟨.len false, [.p 0], none, none, []⟩,
 ⟨.bin .lss, [.p 2, .p 0], none, none, []⟩] false)
(.cond (.p 0) .skip (.exit 0)))
(.seq (.block 1 (.region [⟨.mov, [.v 2], none, none, []⟩,
 ⟨.mov, [.v 0], none, none, []⟩,
 ⟨.mov, [.v 3], none, none, []⟩,
 ⟨.iaddr 1, [.p 1, .p 0], none, none, []⟩,
 ⟨.load false 1, [.p 0], none, none, []⟩,
 ⟨.call false 9, [.p 0], none, none, []⟩,
 ⟨.bslice 1 (.slc true []) 1 [0], [.p 0], none, none, []⟩,
 ⟨.app 24 1, [.p 6, .p 0], none, none, []⟩,
 ⟨.mov, [.p 0], some 2, none, []⟩] false))
(.region [⟨.mov, [.v 3], none, none, []⟩,
 ⟨.bin .add, [.p 0, .c (.int .i64 1)], none, none, []⟩,
 ⟨.mov, [.p 0], some 3, none, []⟩] false))))
def c_ashlarref8_From : RFunc := ⟨1, [0, 2, 3, 4],
(.seq (.region [⟨.mov, [.c (.slc true [])], some 1, none, []⟩] false)
(.seq (.region [⟨.mov, [.c (.slc true [])], some 2, none, []⟩] false)
(.seq (.seq (.region [⟨.mov, [.c (.int .i64 0)], some 3, none, []⟩] false)
(.block 0 l_ashlarref8_From_0))
(.seq (.region [⟨.mov, [.v 2], none, none, []⟩,
 ⟨.call false 69, [.p 0], none, none, []⟩,
 ⟨.mov, [.p 0], some 1, none, []⟩] false)
.ret)))),
[.v 1]⟩
def l_ashlarref8_Trim_0 : RCode := (.loop [true, false, true] (.seq (.seq (.region [⟨.mov, [.v 2], none, none, []⟩,
 ⟨.bin .gtr, [.p 0, .c (.int .i64 0)], none, none, []⟩,
 ⟨.mov, [.p 0], none, none, []⟩,
 ⟨.mov, [.v 0], none, some (0, true), []⟩,
 ⟨.mov, [.v 2], none, some (1, true), []⟩,
 ⟨.bin .sub, [.p 0, .c (.int .i64 1)], none, some (2, true), []⟩,
 ⟨.iaddr 1, [.p 2, .p 0], none, some (3, true), []⟩,
 ⟨.load false 1, [.p 0], none, some (4, true), []⟩,
 ⟨.len false, [.p 0], none, some (5, true), []⟩,
 ⟨.bin .eql, [.p 0, .c (.int .i64 0)], none, some (6, true), []⟩,
 ⟨.pick, [.p 7, .p 0, .c (.bool false)], none, none, []⟩] false)
(.cond (.p 0) .skip (.exit 0)))
(.block 1 (.region [⟨.mov, [.v 2], none, none, []⟩,
 ⟨.bin .sub, [.p 0, .c (.int .i64 1)], none, none, []⟩,
 ⟨.mov, [.p 0], some 2, none, []⟩] false))))
def c_ashlarref8_Trim : RFunc := ⟨1, [0, 2, 3],
(.seq (.region [⟨.mov, [.c (.slc true [])], some 1, none, []⟩] false)
(.seq (.region [⟨.mov, [.v 0], none, none, []⟩,
 ⟨.len false, [.p 0], none, none, []⟩,
 ⟨.mov, [.p 0], some 2, none, []⟩] false)
(.seq (.block 0 l_ashlarref8_Trim_0)
(.seq (.region [⟨.mov, [.v 0], none, none, []⟩,
 ⟨.mov, [.v 2], none, none, []⟩,
 ⟨.mov, [.v 2], none, none, []⟩,
 ⟨.slice 1 false true true, [.p 2, .p 1, .p 0], none, none, []⟩,
 ⟨.mov, [.p 0], some 1, none, []⟩] false)
.ret)))),
[.v 1]⟩
def c_ashlarref8_Order : RFunc := ⟨1, [0, 2],
(.seq (.region [⟨.mov, [.c (.int .i64 0)], some 1, none, []⟩] false)
(.seq (.region [⟨.mov, [.v 0], none, none, []⟩,
 ⟨.len false, [.p 0], none, none, []⟩,
 ⟨.bin .sub, [.p 0, .c (.int .i64 1)], none, none, []⟩,
 ⟨.mov, [.p 0], some 1, none, []⟩] false)
.ret)),
[.v 1]⟩
def l_ashlarref8_Degree_0 : RCode := (.loop [true, false, true, true] (.seq (.seq (.region [⟨.mov, [.v 3], none, none, []⟩,
 ⟨.mov, [.v 0], none, none, []⟩,
 ⟨.len false, [.p 0], none, none, []⟩,
 ⟨.bin .lss, [.p 2, .p 0], none, none, []⟩] false)
(.cond (.p 0) .skip (.exit 0)))
(.seq (.block 1 (.seq (.region [⟨.mov, [.v 0], none, none, []⟩,
 ⟨.mov, [.v 3], none, none, []⟩,
 ⟨.iaddr 1, [.p 1, .p 0], none, none, []⟩,
 ⟨.load false 1, [.p 0], none, none, []⟩,
 ⟨.call false 79, [.p 0], none, none, []⟩,
 ⟨.mov, [.p 0], some 4, none, []⟩] false)
(.seq (.region [⟨.mov, [.v 4], none, none, []⟩,
 ⟨.mov, [.v 2], none, none, []⟩,
 ⟨.bin .gtr, [.p 1, .p 0], none, none, []⟩] false)
(.cond (.p 0) (.region [⟨.mov, [.v 4], none, none, []⟩,
 ⟨.mov, [.p 0], some 2, none, []⟩] false) .skip))))
(.region [⟨.mov, [.v 3], none, none, []⟩,
 ⟨.bin .add, [.p 0, .c (.int .i64 1)], none, none, []⟩,
 ⟨.mov, [.p 0], some 3, none, []⟩] false))))
def c_ashlarref8_Degree : RFunc := ⟨1, [0, 2, 3, 4, 5],
(.seq (.region [⟨.mov, [.c (.int .i64 0)], some 1, none, []⟩] false)
(.seq (.region [⟨.mov, [.c (.int .i64 (-1))], some 2, none, []⟩] false)
(.seq (.seq (.region [⟨.mov, [.c (.int .i64 0)], some 3, none, []⟩] false)
(.block 0 l_ashlarref8_Degree_0))
(.seq (.region [⟨.mov, [.v 2], none, none, []⟩,
 ⟨.mov, [.p 0], some 1, none, []⟩] false)
.ret)))),
[.v 1]⟩
def l_ashlarref8_Bits_0 : RCode := (.loop [true, false, true, true] (.seq (.seq (.region [⟨.mov, [.v 3], none, none, []⟩,
 ⟨.mov, [.v 0], none, none, []⟩,
 ⟨.len false, [.p 0], none, none, []⟩,
 ⟨.bin .lss, [.p 2, .p 0], none, none, []⟩] false)
(.cond (.p 0) .skip (.exit 0)))
(.seq (.block 1 (.seq (.region [⟨.mov, [.v 0], none, none, []⟩,
 ⟨.mov, [.v 3], none, none, []⟩,
 ⟨.iaddr 1, [.p 1, .p 0], none, none, []⟩,
 ⟨.load false 1, [.p 0], none, none, []⟩,
 ⟨.call false 80, [.p 0], none, none, []⟩,
 ⟨.mov, [.p 0], some 4, none, []⟩] false)
(.seq (.region [⟨.mov, [.v 4], none, none, []⟩,
 ⟨.mov, [.v 2], none, none, []⟩,
 ⟨.bin .gtr, [.p 1, .p 0], none, none, []⟩] false)
(.cond (.p 0) (.region [⟨.mov, [.v 4], none, none, []⟩,
 ⟨.mov, [.p 0], some 2, none, []⟩] false) .skip))))
(.region [⟨.mov, [.v 3], none, none, []⟩,
 ⟨.bin .add, [.p 0, .c (.int .i64 1)], none, none, []⟩,
 ⟨.mov, [.p 0], some 3, none, []⟩] false))))
def c_ashlarref8_Bits : RFunc := ⟨1, [0, 2, 3, 4, 5],
(.seq (.region [⟨.mov, [.c (.int .i64 0)], some 1, none, []⟩] false)
(.seq (.region [⟨.mov, [.c (.int .i64 0)], some 2, none, []⟩] false)
(.seq (.seq (.region [⟨.mov, [.c (.int .i64 0)], some 3, none, []⟩] false)
(.block 0 l_ashlarref8_Bits_0))
(.seq (.region [⟨.mov, [.v 2], none, none, []⟩,
 ⟨.mov, [.p 0], some 1, none, []⟩] false)
.ret)))),
[.v 1]⟩
def l_ashlarref8_To_0 : RCode := (.loop [true, false, true, true] (.seq (.seq (.region [⟨.mov, [.v 3], none, none, []⟩,
 ⟨.mov, [.v 0], none, none, []⟩,
 ⟨.len false, [.p 0], none, none, []⟩,
 ⟨.bin .lss, [.p 2, .p 0], none, none, []⟩] false)
(.cond (.p 0) .skip (.exit 0)))
(.seq (.block 1 (.region [⟨.mov, [.v 2], none, none, []⟩,
 ⟨.mov, [.v 0], none, none, []⟩,
 ⟨.mov, [.v 3], none, none, []⟩,
 ⟨.iaddr 1, [.p 1, .p 0], none, none, []⟩,
 ⟨.load false 1, [.p 0], none, none, []⟩,
 ⟨.call false 118, [.p 0], none, none, []⟩,
 ⟨.bslice 1 (.slc true []) 1 [0], [.p 0], none, none, []⟩,
 ⟨.app 24 1, [.p 6, .p 0], none, none, []⟩,
 ⟨.mov, [.p 0], some 2, none, []⟩] false))
(.region [⟨.mov, [.v 3], none, none, []⟩,
 ⟨.bin .add, [.p 0, .c (.int .i64 1)], none, none, []⟩,
 ⟨.mov, [.p 0], some 3, none, []⟩] false))))
def c_ashlarref8_To : RFunc := ⟨1, [0, 2, 3, 4],
(.seq (.region [⟨.mov, [.c (.slc true [])], some 1, none, []⟩] false)
(.seq (.region [⟨.mov, [.c (.slc true [])], some 2, none, []⟩] false)
(.seq (.seq (.region [⟨.mov, [.c (.int .i64 0)], some 3, none, []⟩] false)
(.block 0 l_ashlarref8_To_0))
(.seq (.region [⟨.mov, [.v 2], none, none, []⟩,
 ⟨.mov, [.p 0], some 1, none, []⟩] false)
.ret)))),
[.v 1]⟩
def l_ashlarref9_Times_0 : RCode := (.loop [true, false, true, true] (.seq (.seq (.region [⟨.mov, [.v 3], none, none, []⟩,
 ⟨.mov, [.v 0], none, none, []⟩,
 ⟨.len false, [.p 0], none, none, []⟩,
 ⟨.bin .lss, [.p 2, .p 0], none, none, []⟩] false)
(.cond (.p 0) .skip (.exit 0)))
(.seq (.block 1 (.seq (.region [⟨.mov, [.v 0], none, none, []⟩,
 ⟨.mov, [.v 3], none, none, []⟩,
 ⟨.iaddr 1, [.p 1, .p 0], none, none, []⟩,
 ⟨.load false 1, [.p 0], none, none, []⟩,
 ⟨.bin .gtr, [.p 0, .c (.int .i64 1)], none, none, []⟩] false)
(.cond (.p 0) (.region [⟨.mov, [.v 2], none, none, []⟩,
 ⟨.mov, [.v 0], none, none, []⟩,
 ⟨.mov, [.v 3], none, none, []⟩,
 ⟨.iaddr 1, [.p 1, .p 0], none, none, []⟩,
 ⟨.load false 1, [.p 0], none, none, []⟩,
 ⟨.call false 68, [.p 4, .p 0], none, none, []⟩,
 ⟨.mov, [.p 0], some 2, none, []⟩] false) .skip)))
(.region [⟨.mov, [.v 3], none, none, []⟩,
 ⟨.bin .add, [.p 0, .c (.int .i64 1)], none, none, []⟩,
 ⟨.mov, [.p 0], some 3, none, []⟩] false))))
def c_ashlarref9_Times : RFunc := ⟨1, [0, 2, 3, 4],
(.seq (.region [⟨.mov, [.c (.int .i64 0)], some 1, none, []⟩] false)
(.seq (.region [⟨.mov, [.c (.int .i64 1)], some 2, none, []⟩] false)
(.seq (.seq (.region [⟨.mov, [.c (.int .i64 0)], some 3, none, []⟩] false)
(.block 0 l_ashlarref9_Times_0))
(.seq (.region [⟨.mov, [.v 2], none, none, []⟩,
 ⟨.mov, [.p 0], some 1, none, []⟩] false)
.ret)))),
[.v 1]⟩
def c_ashlarref9_Size : RFunc := ⟨1, [0, 2, 3, 4],
(.seq (.region [⟨.mov, [.c (.int .i64 0)], some 1, none, []⟩,
 ⟨.mov, [.c (.int .i64 0)], some 2, none, []⟩,
 ⟨.mov, [.c (.int .i64 0)], some 3, none, []⟩] false)
(.seq (.seq (.region [⟨.mov, [.v 0], none, none, []⟩,
 ⟨.len false, [.p 0], none, none, []⟩,
 ⟨.bin .eql, [.p 0, .c (.int .i64 0)], none, none, []⟩] false)
(.cond (.p 0) (.seq (.region [⟨.mov, [.c (.int .i64 0)], some 1, none, []⟩,
 ⟨.mov, [.c (.int .i64 0)], some 2, none, []⟩,
 ⟨.mov, [.c (.int .i64 0)], some 3, none, []⟩] false)
.ret) .skip))
(.seq (.region [⟨.mov, [.v 0], none, none, []⟩,
 ⟨.call false 73, [.p 0], none, none, []⟩,
 ⟨.mov, [.v 0], none, none, []⟩,
 ⟨.call false 74, [.p 0], none, none, []⟩,
 ⟨.mov, [.v 0], none, none, []⟩,
 ⟨.call false 75, [.p 0], none, none, []⟩,
 ⟨.mov, [.p 4], some 1, none, []⟩,
 ⟨.mov, [.p 3], some 2, none, []⟩,
 ⟨.mov, [.p 2], some 3, none, []⟩] false)
.ret))),
[.v 1, .v 2, .v 3]⟩
def c_ashlarref9_Mul : RFunc := ⟨3, [0, 1, 2, 5, 6, 7, 8, 9, 10, 11, 12, 13],
(.seq (.region [⟨.box, [.v 2], some 3, none, []⟩,
 ⟨.mov, [.c (.int .i64 0)], some 4, none, []⟩] false)
(.seq (.region [⟨.mov, [.v 0], none, none, []⟩,
 ⟨.call false 12, [.p 0], none, none, []⟩,
 ⟨.mov, [.p 0], none, none, []⟩,
 ⟨.extract 0, [.p 0], none, none, []⟩,
 ⟨.extract 1, [.p 1], none, none, []⟩,
 ⟨.extract 2, [.p 2], none, none, []⟩,
 ⟨.mov, [.p 2], some 5, none, []⟩,
 ⟨.mov, [.p 2], some 6, none, []⟩,
 ⟨.mov, [.p 2], some 7, none, []⟩] false)
(.seq (.region [⟨.mov, [.v 1], none, none, []⟩,
 ⟨.call false 12, [.p 0], none, none, []⟩,
 ⟨.mov, [.p 0], none, none, []⟩,
 ⟨.extract 0, [.p 0], none, none, []⟩,
 ⟨.extract 1, [.p 1], none, none, []⟩,
 ⟨.extract 2, [.p 2], none, none, []⟩,
 ⟨.mov, [.p 2], some 8, none, []⟩,
 ⟨.mov, [.p 2], some 9, none, []⟩,
 ⟨.mov, [.p 2], some 10, none, []⟩] false)
(.seq (.region [⟨.load true 2, [.v 3], none, none, []⟩,
 ⟨.call false 54, [.p 0], none, none, []⟩,
 ⟨.mov, [.p 0], some 11, none, []⟩] false)
(.seq (.region [⟨.mov, [.v 5], none, none, []⟩,
 ⟨.bin .add, [.p 0, .c (.int .i64 1)], none, none, []⟩,
 ⟨.mov, [.v 8], none, none, []⟩,
 ⟨.bin .add, [.p 0, .c (.int .i64 1)], none, none, []⟩,
 ⟨.mov, [.v 6], none, none, []⟩,
 ⟨.mov, [.v 9], none, none, []⟩,
 ⟨.bin .add, [.p 1, .p 0], none, none, []⟩,
 ⟨.bin .add, [.p 0, .c (.int .i64 2)], none, none, []⟩,
 ⟨.mov, [.v 7], none, none, []⟩,
 ⟨.mov, [.v 10], none, none, []⟩,
 ⟨.mov, [.v 5], none, none, []⟩,
 ⟨.bin .add, [.p 0, .c (.int .i64 1)], none, none, []⟩,
 ⟨.mov, [.v 9], none, none, []⟩,
 ⟨.bin .add, [.p 0, .c (.int .i64 1)], none, none, []⟩,
 ⟨.call false 68, [.p 2, .p 0], none, none, []⟩,
 ⟨.mov, [.v 5], none, none, []⟩,
 ⟨.mov, [.v 9], none, none, []⟩,
 ⟨.bin .add, [.p 0, .c (.int .i64 1)], none, none, []⟩,
 ⟨.call false 68, [.p 2, .p 0], none, none, []⟩,
 ⟨.mov, [.v 11], none, none, []⟩,
 ⟨.call false 68, [.p 1, .p 0], none, none, []⟩,
 ⟨.bslice 1 (.int .i64 0) 5 [0, 1, 2, 3, 4], [.p 12, .p 11, .p 6, .p 0, .c (.int .i64 8)], none, none, []⟩,
 ⟨.call false 77, [.p 0], none, none, []⟩,
 ⟨.bslice 1 (.int .i64 0) 4 [0, 1, 2, 3], [.p 21, .p 19, .p 15, .p 0], none, none, []⟩,
 ⟨.call false 4, [.p 0], none, none, []⟩,
 ⟨.mov, [.p 0], some 4, none, []⟩] false)
.ret))))),
[.v 4]⟩
def c_ashlarref9_Apply : RFunc := ⟨3, [0, 1, 2, 5, 6, 7, 8, 9, 10, 11],
(.seq (.region [⟨.box, [.v 2], some 3, none, []⟩,
 ⟨.mov, [.c (.int .i64 0)], some 4, none, []⟩] false)
(.seq (.region [⟨.mov, [.v 0], none, none, []⟩,
 ⟨.call false 12, [.p 0], none, none, []⟩,
 ⟨.mov, [.p 0], none, none, []⟩,
 ⟨.extract 0, [.p 0], none, none, []⟩,
 ⟨.extract 1, [.p 1], none, none, []⟩,
 ⟨.extract 2, [.p 2], none, none, []⟩,
 ⟨.mov, [.p 2], some 5, none, []⟩,
 ⟨.mov, [.p 2], some 6, none, []⟩,
 ⟨.mov, [.p 2], some 7, none, []⟩] false)
(.seq (.region [⟨.load true 2, [.v 3], none, none, []⟩,
 ⟨.call false 54, [.p 0], none, none, []⟩,
 ⟨.mov, [.p 0], some 8, none, []⟩] false)
(.seq (.region [⟨.mov, [.v 1], none, none, []⟩,
 ⟨.call false 79, [.p 0], none, none, []⟩,
 ⟨.mov, [.p 0], some 9, none, []⟩] false)
(.seq (.region [⟨.mov, [.v 5], none, none, []⟩,
 ⟨.bin .add, [.p 0, .c (.int .i64 1)], none, none, []⟩,
 ⟨.mov, [.v 6], none, none, []⟩,
 ⟨.mov, [.v 9], none, none, []⟩,
 ⟨.bin .add, [.p 1, .p 0], none, none, []⟩,
 ⟨.bin .add, [.p 0, .c (.int .i64 3)], none, none, []⟩,
 ⟨.mov, [.v 7], none, none, []⟩,
 ⟨.mov, [.v 1], none, none, []⟩,
 ⟨.call false 80, [.p 0], none, none, []⟩,
 ⟨.mov, [.v 5], none, none, []⟩,
 ⟨.bin .add, [.p 0, .c (.int .i64 1)], none, none, []⟩,
 ⟨.mov, [.v 9], none, none, []⟩,
 ⟨.bin .add, [.p 0, .c (.int .i64 2)], none, none, []⟩,
 ⟨.call false 68, [.p 2, .p 0], none, none, []⟩,
 ⟨.mov, [.v 8], none, none, []⟩,
 ⟨.bin .add, [.p 0, .c (.int .i64 8)], none, none, []⟩,
 ⟨.call false 68, [.p 2, .p 0], none, none, []⟩,
 ⟨.bslice 1 (.int .i64 0) 3 [0, 1, 2], [.p 10, .p 8, .p 0], none, none, []⟩,
 ⟨.call false 77, [.p 0], none, none, []⟩,
 ⟨.bslice 1 (.int .i64 0) 3 [0, 1, 2], [.p 17, .p 13, .p 0], none, none, []⟩,
 ⟨.call false 4, [.p 0], none, none, []⟩,
 ⟨.mov, [.p 0], some 4, none, []⟩] false)
.ret))))),
[.v 4]⟩
def c_ashlarref9_Divide : RFunc := ⟨3, [0, 1, 2, 5, 6, 7, 8, 9, 10, 11, 12, 13],
(.seq (.region [⟨.box, [.v 2], some 3, none, []⟩,
 ⟨.mov, [.c (.int .i64 0)], some 4, none, []⟩] false)
(.seq (.region [⟨.mov, [.v 0], none, none, []⟩,
 ⟨.call false 12, [.p 0], none, none, []⟩,
 ⟨.mov, [.p 0], none, none, []⟩,
 ⟨.extract 0, [.p 0], none, none, []⟩,
 ⟨.extract 1, [.p 1], none, none, []⟩,
 ⟨.extract 2, [.p 2], none, none, []⟩,
 ⟨.mov, [.p 2], some 5, none, []⟩,
 ⟨.mov, [.p 2], some 6, none, []⟩,
 ⟨.mov, [.p 2], some 7, none, []⟩] false)
(.seq (.region [⟨.mov, [.v 1], none, none, []⟩,
 ⟨.call false 12, [.p 0], none, none, []⟩,
 ⟨.mov, [.p 0], none, none, []⟩,
 ⟨.extract 0, [.p 0], none, none, []⟩,
 ⟨.extract 1, [.p 1], none, none, []⟩,
 ⟨.extract 2, [.p 2], none, none, []⟩,
 ⟨.mov, [.p 2], some 8, none, []⟩,
 ⟨.mov, [.p 2], some 9, none, []⟩,
 ⟨.mov, [.p 2], some 10, none, []⟩] false)
(.seq (.region [⟨.load true 2, [.v 3], none, none, []⟩,
 ⟨.call false 54, [.p 0], none, none, []⟩,
 ⟨.mov, [.p 0], some 11, none, []⟩] false)
(.seq (.region [⟨.mov, [.v 5], none, none, []⟩,
 ⟨.bin .add, [.p 0, .c (.int .i64 1)], none, none, []⟩,
 ⟨.mov, [.v 8], none, none, []⟩,
 ⟨.bin .add, [.p 0, .c (.int .i64 1)], none, none, []⟩,
 ⟨.mov, [.v 5], none, none, []⟩,
 ⟨.mov, [.v 8], none, none, []⟩,
 ⟨.bin .add, [.p 1, .p 0], none, none, []⟩,
 ⟨.bin .add, [.p 0, .c (.int .i64 2)], none, none, []⟩,
 ⟨.mov, [.v 6], none, none, []⟩,
 ⟨.mov, [.v 9], none, none, []⟩,
 ⟨.bin .add, [.p 1, .p 0], none, none, []⟩,
 ⟨.bin .add, [.p 0, .c (.int .i64 2)], none, none, []⟩,
 ⟨.mov, [.v 7], none, none, []⟩,
 ⟨.mov, [.v 10], none, none, []⟩,
 ⟨.mov, [.v 5], none, none, []⟩,
 ⟨.bin .add, [.p 0, .c (.int .i64 1)], none, none, []⟩,
 ⟨.mov, [.v 11], none, none, []⟩,
 ⟨.bin .add, [.p 0, .c (.int .i64 2)], none, none, []⟩,
 ⟨.call false 68, [.p 2, .p 0], none, none, []⟩,
 ⟨.bslice 1 (.int .i64 0) 4 [0, 1, 2, 3], [.p 6, .p 5, .p 0, .c (.int .i64 8)], none, none, []⟩,
 ⟨.call false 77, [.p 0], none, none, []⟩,
 ⟨.bslice 1 (.int .i64 0) 5 [0, 1, 2, 3, 4], [.p 19, .p 17, .p 13, .p 9, .p 0], none, none, []⟩,
 ⟨.call false 4, [.p 0], none, none, []⟩,
 ⟨.mov, [.p 0], some 4, none, []⟩] false)
.ret))))),
[.v 4]⟩
def c_ashlarref9_Common : RFunc := ⟨3, [0, 1, 2, 5, 6, 7, 8, 9, 10, 11, 12, 13, 14],
(.seq (.region [⟨.box, [.v 2], some 3, none, []⟩,
 ⟨.mov, [.c (.int .i64 0)], some 4, none, []⟩] false)
(.seq (.region [⟨.mov, [.v 0], none, none, []⟩,
 ⟨.call false 12, [.p 0], none, none, []⟩,
 ⟨.mov, [.p 0], none, none, []⟩,
 ⟨.extract 0, [.p 0], none, none, []⟩,
 ⟨.extract 1, [.p 1], none, none, []⟩,
 ⟨.extract 2, [.p 2], none, none, []⟩,
 ⟨.mov, [.p 2], some 5, none, []⟩,
 ⟨.mov, [.p 2], some 6, none, []⟩,
 ⟨.mov, [.p 2], some 7, none, []⟩] false)
(.seq (.region [⟨.mov, [.v 1], none, none, []⟩,
 ⟨.call false 12, [.p 0], none, none, []⟩,
 ⟨.mov, [.p 0], none, none, []⟩,
 ⟨.extract 0, [.p 0], none, none, []⟩,
 ⟨.extract 1, [.p 1], none, none, []⟩,
 ⟨.extract 2, [.p 2], none, none, []⟩,
 ⟨.mov, [.p 2], some 8, none, []⟩,
 ⟨.mov, [.p 2], some 9, none, []⟩,
 ⟨.mov, [.p 2], some 10, none, []⟩] false)
(.seq (.region [⟨.load true 2, [.v 3], none, none, []⟩,
 ⟨.call false 54, [.p 0], none, none, []⟩,
 ⟨.mov, [.p 0], some 11, none, []⟩] false)
(.seq (.region [⟨.mov, [.v 5], none, none, []⟩,
 ⟨.mov, [.v 8], none, none, []⟩,
 ⟨.bin .add, [.p 1, .p 0], none, none, []⟩,
 ⟨.bin .add, [.p 0, .c (.int .i64 2)], none, none, []⟩,
 ⟨.mov, [.p 0], some 12, none, []⟩] false)
(.seq (.region [⟨.mov, [.v 12], none, none, []⟩,
 ⟨.mov, [.v 12], none, none, []⟩,
 ⟨.mov, [.v 12], none, none, []⟩,
 ⟨.mov, [.v 12], none, none, []⟩,
 ⟨.mov, [.v 6], none, none, []⟩,
 ⟨.mov, [.v 9], none, none, []⟩,
 ⟨.bin .add, [.p 1, .p 0], none, none, []⟩,
 ⟨.call false 68, [.p 3, .p 0], none, none, []⟩,
 ⟨.call false 83, [.p 0, .c (.int .i64 2)], none, none, []⟩,
 ⟨.mov, [.v 7], none, none, []⟩,
 ⟨.mov, [.v 10], none, none, []⟩,
 ⟨.mov, [.v 5], none, none, []⟩,
 ⟨.mov, [.v 8], none, none, []⟩,
 ⟨.bin .add, [.p 1, .p 0], none, none, []⟩,
 ⟨.bin .add, [.p 0, .c (.int .i64 1)], none, none, []⟩,
 ⟨.mov, [.v 11], none, none, []⟩,
 ⟨.bin .add, [.p 0, .c (.int .i64 2)], none, none, []⟩,
 ⟨.call false 68, [.p 2, .p 0], none, none, []⟩,
 ⟨.bslice 1 (.int .i64 0) 4 [0, 1, 2, 3], [.p 8, .p 7, .p 0, .c (.int .i64 8)], none, none, []⟩,
 ⟨.call false 77, [.p 0], none, none, []⟩,
 ⟨.bslice 1 (.int .i64 0) 5 [0, 1, 2, 3, 4], [.p 19, .p 18, .p 17, .p 11, .p 0], none, none, []⟩,
 ⟨.call false 4, [.p 0], none, none, []⟩,
 ⟨.mov, [.p 0], some 4, none, []⟩] false)
.ret)))))),
[.v 4]⟩
def c_ashlarref9_By : RFunc := ⟨2, [0, 1, 4],
(.seq (.region [⟨.mov, [.c (.int .i64 0)], some 2, none, []⟩] false)
(.seq (.seq (.region [⟨.mov, [.v 0], none, none, []⟩,
 ⟨.bin .gtr, [.p 0, .c (.int .i64 4611686018427387904)], none, none, []⟩] false)
(.cond (.p 0) (.region [⟨.mov, [.c (.int .i64 4611686018427387904)], some 0, none, []⟩] false) .skip))
(.seq (.seq (.region [⟨.mov, [.v 0], none, none, []⟩,
 ⟨.bin .neq, [.p 0, .c (.int .i64 0)], none, none, []⟩,
 ⟨.mov, [.p 0], none, none, []⟩,
 ⟨.mov, [.v 1], none, some (0, true), []⟩,
 ⟨.mov, [.v 0], none, some (1, true), []⟩,
 ⟨.bin .quo, [.c (.int .i64 4611686018427387904), .p 0], none, some (2, true), []⟩,
 ⟨.bin .gtr, [.p 2, .p 0], none, some (3, true), []⟩,
 ⟨.pick, [.p 4, .p 0, .c (.bool false)], none, none, []⟩] false)
(.cond (.p 0) (.seq (.region [⟨.mov, [.c (.int .i64 4611686018427387904)], some 2, none, []⟩] false)
.ret) .skip))
(.seq (.region [⟨.mov, [.v 0], none, none, []⟩,
 ⟨.mov, [.v 1], none, none, []⟩,
 ⟨.bin .mul, [.p 1, .p 0], none, none, []⟩,
 ⟨.mov, [.p 0], some 2, none, []⟩] false)
.ret)))),
[.v 2]⟩
def l_ashlarref9_Sum_0 : RCode := (.loop [true, false, true, true] (.seq (.seq (.region [⟨.mov, [.v 3], none, none, []⟩,
 ⟨.mov, [.v 0], none, none, []⟩,
 ⟨.len false, [.p 0], none, none, []⟩,
 ⟨.bin .lss, [.p 2, .p 0], none, none, []⟩] false)
(.cond (.p 0) .skip (.exit 0)))
(.seq (.block 1 (.region [⟨.mov, [.v 2], none, none, []⟩,
 ⟨.mov, [.v 0], none, none, []⟩,
 ⟨.mov, [.v 3], none, none, []⟩,
 ⟨.iaddr 1, [.p 1, .p 0], none, none, []⟩,
 ⟨.load false 1, [.p 0], none, none, []⟩,
 ⟨.call false 83, [.p 4, .p 0], none, none, []⟩,
 ⟨.mov, [.p 0], some 2, none, []⟩] false))
(.region [⟨.mov, [.v 3], none, none, []⟩,
 ⟨.bin .add, [.p 0, .c (.int .i64 1)], none, none, []⟩,
 ⟨.mov, [.p 0], some 3, none, []⟩] false))))
def c_ashlarref9_Sum : RFunc := ⟨1, [0, 2, 3, 4],
(.seq (.region [⟨.mov, [.c (.int .i64 0)], some 1, none, []⟩] false)
(.seq (.region [⟨.mov, [.c (.int .i64 0)], some 2, none, []⟩] false)
(.seq (.seq (.region [⟨.mov, [.c (.int .i64 0)], some 3, none, []⟩] false)
(.block 0 l_ashlarref9_Sum_0))
(.seq (.region [⟨.mov, [.v 2], none, none, []⟩,
 ⟨.mov, [.p 0], some 1, none, []⟩] false)
.ret)))),
[.v 1]⟩
def c_ashlarref9_Plus : RFunc := ⟨2, [0, 1, 4],
(.seq (.region [⟨.mov, [.c (.int .i64 0)], some 2, none, []⟩] false)
(.seq (.seq (.region [⟨.mov, [.v 0], none, none, []⟩,
 ⟨.mov, [.v 1], none, none, []⟩,
 ⟨.bin .sub, [.c (.int .i64 4611686018427387904), .p 0], none, none, []⟩,
 ⟨.bin .gtr, [.p 2, .p 0], none, none, []⟩] false)
(.cond (.p 0) (.seq (.region [⟨.mov, [.c (.int .i64 4611686018427387904)], some 2, none, []⟩] false)
.ret) .skip))
(.seq (.region [⟨.mov, [.v 0], none, none, []⟩,
 ⟨.mov, [.v 1], none, none, []⟩,
 ⟨.bin .add, [.p 1, .p 0], none, none, []⟩,
 ⟨.mov, [.p 0], some 2, none, []⟩] false)
.ret))),
[.v 2]⟩
def l_ashlarlaw9_GaugeTimes_0 : RCode := (.loop [true, false, true, true, true] (.seq (.seq (.region [⟨.mov, [.v 4], none, none, []⟩,
 ⟨.bin .geq, [.p 0, .c (.int .i64 0)], none, none, []⟩] false)
(.cond (.p 0) .skip (.exit 0)))
(.seq (.block 1 (.region [⟨.mov, [.v 3], none, none, []⟩,
 ⟨.mov, [.v 0], none, none, []⟩,
 ⟨.mov, [.v 4], none, none, []⟩,
 ⟨.iaddr 1, [.p 1, .p 0], none, none, []⟩,
 ⟨.load false 1, [.p 0], none, none, []⟩,
 ⟨.bslice 1 (.int .i64 0) 1 [0], [.p 0], none, none, []⟩,
 ⟨.app 8 1, [.p 5, .p 0], none, none, []⟩,
 ⟨.mov, [.p 0], some 3, none, []⟩] false))
(.region [⟨.mov, [.v 4], none, none, []⟩,
 ⟨.bin .sub, [.p 0, .c (.int .i64 1)], none, none, []⟩,
 ⟨.mov, [.p 0], some 4, none, []⟩] false))))
def c_ashlarlaw9_GaugeTimes : RFunc := ⟨1, [0, 2, 3, 4, 5, 6],
(.seq (.region [⟨.mov, [.c (.bool false)], some 1, none, []⟩] false)
(.seq (.region [⟨.call false 2, [], none, none, []⟩,
 ⟨.mov, [.p 0], some 2, none, []⟩] false)
(.seq (.seq (.region [⟨.mov, [.v 0], none, none, []⟩,
 ⟨.len false, [.p 0], none, none, []⟩,
 ⟨.bin .gtr, [.p 0, .c (.int .i64 50)], none, none, []⟩] false)
(.cond (.p 0) (.region [⟨.mov, [.v 0], none, none, []⟩,
 ⟨.slice 1 false true false, [.p 0, .c (.int .i64 50)], none, none, []⟩,
 ⟨.mov, [.p 0], some 0, none, []⟩] false) .skip))
(.seq (.region [⟨.mov, [.c (.slc true [])], some 3, none, []⟩] false)
(.seq (.seq (.region [⟨.mov, [.v 0], none, none, []⟩,
 ⟨.len false, [.p 0], none, none, []⟩,
 ⟨.bin .sub, [.p 0, .c (.int .i64 1)], none, none, []⟩,
 ⟨.mov, [.p 0], some 4, none, []⟩] false)
(.block 0 l_ashlarlaw9_GaugeTimes_0))
(.seq (.region [⟨.mov, [.v 0], none, none, []⟩,
 ⟨.call false 3, [.p 0], none, none, []⟩,
 ⟨.mov, [.p 0], some 5, none, []⟩] false)
(.seq (.region [⟨.mov, [.v 2], none, none, []⟩,
 ⟨.mov, [.p 0], none, none, []⟩,
 ⟨.mov, [.v 5], none, some (0, true), []⟩,
 ⟨.mov, [.v 0], none, some (1, true), []⟩,
 ⟨.call false 4, [.p 0], none, some (2, true), []⟩,
 ⟨.bin .eql, [.p 2, .p 0], none, some (3, true), []⟩,
 ⟨.pick, [.p 4, .p 0, .c (.bool false)], none, none, []⟩,
 ⟨.mov, [.p 0], none, none, []⟩,
 ⟨.mov, [.v 3], none, some (0, true), []⟩,
 ⟨.call false 3, [.p 0], none, some (1, true), []⟩,
 ⟨.mov, [.v 5], none, some (2, true), []⟩,
 ⟨.bin .eql, [.p 1, .p 0], none, some (3, true), []⟩,
 ⟨.pick, [.p 4, .p 0, .c (.bool false)], none, none, []⟩,
 ⟨.mov, [.p 0], none, none, []⟩,
 ⟨.mov, [.v 5], none, some (0, true), []⟩,
 ⟨.bin .geq, [.p 0, .c (.int .i64 1)], none, some (1, true), []⟩,
 ⟨.pick, [.p 2, .p 0, .c (.bool false)], none, none, []⟩,
 ⟨.mov, [.p 0], none, none, []⟩,
 ⟨.mov, [.v 5], none, some (0, true), []⟩,
 ⟨.bin .leq, [.p 0, .c (.int .i64 4611686018427387904)], none, some (1, true), []⟩,
 ⟨.pick, [.p 2, .p 0, .c (.bool false)], none, none, []⟩,
 ⟨.mov, [.p 0], some 1, none, []⟩] false)
.ret))))))),
[.v 1]⟩
def c_ashlarlaw9_GaugeOps : RFunc := ⟨4, [0, 1, 2, 3, 7, 8, 9, 10, 11, 12, 13, 14, 15, 16, 17],
(.seq (.region [⟨.box, [.v 3], some 4, none, []⟩,
 ⟨.mov, [.c (.bool false)], some 5, none, []⟩] false)
(.seq (.region [⟨.call false 2, [], none, none, []⟩,
 ⟨.mov, [.p 0], some 6, none, []⟩] false)
(.seq (.region [⟨.mov, [.v 0], none, none, []⟩,
 ⟨.call false 6, [.p 0, .c (.int .i64 8), .c (.int .i64 8), .c (.int .i64 4)], none, none, []⟩,
 ⟨.mov, [.v 1], none, none, []⟩,
 ⟨.call false 6, [.p 0, .c (.int .i64 8), .c (.int .i64 8), .c (.int .i64 4)], none, none, []⟩,
 ⟨.mov, [.v 2], none, none, []⟩,
 ⟨.call false 7, [.p 0, .c (.int .i64 9), .c (.int .i64 4)], none, none, []⟩,
 ⟨.load true 2, [.v 4], none, none, []⟩,
 ⟨.bslice 2 (.agg [.bool false, .slc true []]) 1 [0], [.p 0], none, none, []⟩,
 ⟨.call false 7, [.p 0, .c (.int .i64 1), .c (.int .i64 4)], none, none, []⟩,
 ⟨.iaddr 2, [.p 0, .c (.int .i64 0)], none, none, []⟩,
 ⟨.load true 2, [.p 0], none, none, []⟩,
 ⟨.mov, [.p 9], some 0, none, []⟩,
 ⟨.mov, [.p 8], some 1, none, []⟩,
 ⟨.mov, [.p 7], some 2, none, []⟩,
 ⟨.store 2, [.v 4, .p 3], none, none, []⟩] true)
(.seq (.region [⟨.mov, [.v 0], none, none, []⟩,
 ⟨.call false 8, [.p 0], none, none, []⟩,
 ⟨.mov, [.v 1], none, none, []⟩,
 ⟨.call false 8, [.p 0], none, none, []⟩,
 ⟨.mov, [.v 2], none, none, []⟩,
 ⟨.call false 9, [.p 0], none, none, []⟩,
 ⟨.load true 2, [.v 4], none, none, []⟩,
 ⟨.call false 10, [.p 0], none, none, []⟩,
 ⟨.alloc (.agg [.bool false, .slc true []]), [], some 10, none, []⟩,
 ⟨.mov, [.p 7], some 7, none, []⟩,
 ⟨.mov, [.p 6], some 8, none, []⟩,
 ⟨.mov, [.p 5], some 9, none, []⟩,
 ⟨.store 2, [.v 10, .p 4], none, none, []⟩] true)
(.seq (.region [⟨.mov, [.v 0], none, none, []⟩,
 ⟨.call false 11, [.p 0], none, none, []⟩,
 ⟨.alloc (.agg [.int .i64 0, .int .i64 0, .int .i64 0]), [], some 11, none, []⟩,
 ⟨.store 3, [.v 11, .p 1], none, none, []⟩] false)
(.seq (.region [⟨.mov, [.v 7], none, none, []⟩,
 ⟨.call false 12, [.p 0], none, none, []⟩,
 ⟨.mov, [.p 0], none, none, []⟩,
 ⟨.extract 0, [.p 0], none, none, []⟩,
 ⟨.extract 1, [.p 1], none, none, []⟩,
 ⟨.extract 2, [.p 2], none, none, []⟩,
 ⟨.mov, [.p 2], some 12, none, []⟩,
 ⟨.mov, [.p 2], some 13, none, []⟩,
 ⟨.mov, [.p 2], some 14, none, []⟩] false)
(.seq (.region [⟨.mov, [.v 6], none, none, []⟩,
 ⟨.mov, [.p 0], none, none, []⟩,
 ⟨.faddr 0, [.v 11], none, some (0, true), []⟩,
 ⟨.load false 1, [.p 0], none, some (1, true), []⟩,
 ⟨.mov, [.v 12], none, some (2, true), []⟩,
 ⟨.bin .eql, [.p 1, .p 0], none, some (3, true), []⟩,
 ⟨.pick, [.p 4, .p 0, .c (.bool false)], none, none, []⟩,
 ⟨.mov, [.p 0], none, none, []⟩,
 ⟨.faddr 1, [.v 11], none, some (0, true), []⟩,
 ⟨.load false 1, [.p 0], none, some (1, true), []⟩,
 ⟨.mov, [.v 13], none, some (2, true), []⟩,
 ⟨.bin .eql, [.p 1, .p 0], none, some (3, true), []⟩,
 ⟨.pick, [.p 4, .p 0, .c (.bool false)], none, none, []⟩,
 ⟨.mov, [.p 0], none, none, []⟩,
 ⟨.faddr 2, [.v 11], none, some (0, true), []⟩,
 ⟨.load false 1, [.p 0], none, some (1, true), []⟩,
 ⟨.mov, [.v 14], none, some (2, true), []⟩,
 ⟨.bin .eql, [.p 1, .p 0], none, some (3, true), []⟩,
 ⟨.pick, [.p 4, .p 0, .c (.bool false)], none, none, []⟩,
 ⟨.mov, [.p 0], none, none, []⟩,
 ⟨.mov, [.v 0], none, some (0, true), []⟩,
 ⟨.mov, [.v 1], none, some (1, true), []⟩,
 ⟨.load true 2, [.v 4], none, some (2, true), []⟩,
 ⟨.call false 13, [.p 2, .p 1, .p 0], none, some (3, true), []⟩,
 ⟨.mov, [.v 7], none, some (4, true), []⟩,
 ⟨.mov, [.v 8], none, some (5, true), []⟩,
 ⟨.load true 2, [.v 10], none, some (6, true), []⟩,
 ⟨.call false 14, [.p 2, .p 1, .p 0], none, some (7, true), []⟩,
 ⟨.bin .eql, [.p 4, .p 0], none, some (8, true), []⟩,
 ⟨.pick, [.p 9, .p 0, .c (.bool false)], none, none, []⟩,
 ⟨.mov, [.p 0], none, none, []⟩,
 ⟨.mov, [.v 0], none, some (0, true), []⟩,
 ⟨.mov, [.v 2], none, some (1, true), []⟩,
 ⟨.load true 2, [.v 4], none, some (2, true), []⟩,
 ⟨.call false 15, [.p 2, .p 1, .p 0], none, some (3, true), []⟩,
 ⟨.mov, [.v 7], none, some (4, true), []⟩,
 ⟨.mov, [.v 9], none, some (5, true), []⟩,
 ⟨.load true 2, [.v 10], none, some (6, true), []⟩,
 ⟨.call false 16, [.p 2, .p 1, .p 0], none, some (7, true), []⟩,
 ⟨.bin .eql, [.p 4, .p 0], none, some (8, true), []⟩,
 ⟨.pick, [.p 9, .p 0, .c (.bool false)], none, none, []⟩,
 ⟨.mov, [.p 0], none, none, []⟩,
 ⟨.mov, [.v 0], none, some (0, true), []⟩,
 ⟨.mov, [.v 1], none, some (1, true), []⟩,
 ⟨.load true 2, [.v 4], none, some (2, true), []⟩,
 ⟨.call false 17, [.p 2, .p 1, .p 0], none, some (3, true), []⟩,
 ⟨.mov, [.v 7], none, some (4, true), []⟩,
 ⟨.mov, [.v 8], none, some (5, true), []⟩,
 ⟨.load true 2, [.v 10], none, some (6, true), []⟩,
 ⟨.call false 18, [.p 2, .p 1, .p 0], none, some (7, true), []⟩,
 ⟨.bin .eql, [.p 4, .p 0], none, some (8, true), []⟩,
 ⟨.pick, [.p 9, .p 0, .c (.bool false)], none, none, []⟩,
 ⟨.mov, [.p 0], none, none, []⟩,
 ⟨.mov, [.v 0], none, some (0, true), []⟩,
 ⟨.mov, [.v 1], none, some (1, true), []⟩,
 ⟨.load true 2, [.v 4], none, some (2, true), []⟩,
 ⟨.call false 19, [.p 2, .p 1, .p 0], none, some (3, true), []⟩,
 ⟨.mov, [.v 7], none, some (4, true), []⟩,
 ⟨.mov, [.v 8], none, some (5, true), []⟩,
 ⟨.load true 2, [.v 10], none, some (6, true), []⟩,
 ⟨.call false 20, [.p 2, .p 1, .p 0], none, some (7, true), []⟩,
 ⟨.bin .eql, [.p 4, .p 0], none, some (8, true), []⟩,
 ⟨.pick, [.p 9, .p 0, .c (.bool false)], none, none, []⟩,
 ⟨.mov, [.p 0], some 5, none, []⟩] true)
.ret))))))),
[.v 5]⟩
def c_ashlarlaw9_begun : RFunc := ⟨0, [0, 1, 2, 3],
(.seq (.region [⟨.mov, [.c (.bool false)], some 0, none, []⟩] false)
(.seq (.region [⟨.bslice 1 (.int .i64 0) 1 [0], [.c (.int .i64 1)], none, none, []⟩,
 ⟨.call false 64, [.p 0], none, none, []⟩,
 ⟨.bslice 1 (.slc true []) 2 [0, 1], [.c (.slc true []), .p 0], none, none, []⟩,
 ⟨.call false 65, [.p 0], none, none, []⟩,
 ⟨.mov, [.p 0], some 1, none, []⟩] false)
(.seq (.region [⟨.bslice 1 (.int .i64 0) 2 [0, 1], [.c (.int .i64 1), .c (.int .i64 1)], none, none, []⟩,
 ⟨.call false 64, [.p 0], none, none, []⟩,
 ⟨.bslice 1 (.slc true []) 1 [0], [.p 0], none, none, []⟩,
 ⟨.call false 65, [.p 0], none, none, []⟩,
 ⟨.mov, [.p 0], some 2, none, []⟩] false)
(.seq (.region [⟨.mov, [.v 1], none, none, []⟩,
 ⟨.call false 11, [.p 0], none, none, []⟩,
 ⟨.alloc (.agg [.int .i64 0, .int .i64 0, .int .i64 0]), [], some 3, none, []⟩,
 ⟨.store 3, [.v 3, .p 1], none, none, []⟩] false)
(.seq (.region [⟨.mov, [.v 1], none, none, []⟩,
 ⟨.mov, [.v 2], none, none, []⟩,
 ⟨.build [.bool false, .slc true []] [], [], none, none, []⟩,
 ⟨.call false 13, [.p 2, .p 1, .p 0], none, none, []⟩,
 ⟨.bin .eql, [.p 0, .c (.int .i64 84)], none, none, []⟩,
 ⟨.mov, [.p 0], none, none, []⟩,
 ⟨.call false 3, [.c (.slc true [])], none, some (0, true), []⟩,
 ⟨.bin .eql, [.p 0, .c (.int .i64 1)], none, some (1, true), []⟩,
 ⟨.pick, [.p 2, .p 0, .c (.bool false)], none, none, []⟩,
 ⟨.mov, [.p 0], none, none, []⟩,
 ⟨.bslice 1 (.int .i64 0) 2 [0, 1], [.c (.int .i64 0), .c (.int .i64 5)], none, some (0, true), []⟩,
 ⟨.call false 3, [.p 0], none, some (1, true), []⟩,
 ⟨.bin .eql, [.p 0, .c (.int .i64 5)], none, some (2, true), []⟩,
 ⟨.pick, [.p 3, .p 0, .c (.bool false)], none, none, []⟩,
 ⟨.mov, [.p 0], none, none, []⟩,
 ⟨.faddr 0, [.v 3], none, some (0, true), []⟩,
 ⟨.load false 1, [.p 0], none, some (1, true), []⟩,
 ⟨.bin .eql, [.p 0, .c (.int .i64 1)], none, some (2, true), []⟩,
 ⟨.pick, [.p 3, .p 0, .c (.bool false)], none, none, []⟩,
 ⟨.mov, [.p 0], none, none, []⟩,
 ⟨.faddr 1, [.v 3], none, some (0, true), []⟩,
 ⟨.load false 1, [.p 0], none, some (1, true), []⟩,
 ⟨.bin .eql, [.p 0, .c (.int .i64 0)], none, some (2, true), []⟩,
 ⟨.pick, [.p 3, .p 0, .c (.bool false)], none, none, []⟩,
 ⟨.mov, [.p 0], none, none, []⟩,
 ⟨.faddr 2, [.v 3], none, some (0, true), []⟩,
 ⟨.load false 1, [.p 0], none, some (1, true), []⟩,
 ⟨.bin .eql, [.p 0, .c (.int .i64 1)], none, some (2, true), []⟩,
 ⟨.pick, [.p 3, .p 0, .c (.bool false)], none, none, []⟩,
 ⟨.mov, [.p 0], some 0, none, []⟩] false)
.ret))))),
[.v 0]⟩
def l_ashlarlaw8_Cut_0 : RCode := (.loop [true, true, true, true, false, true, true] (.seq (.seq (.region [⟨.mov, [.v 6], none, none, []⟩,
 ⟨.mov, [.v 0], none, none, []⟩,
 ⟨.len false, [.p 0], none, none, []⟩,
 ⟨.bin .lss, [.p 2, .p 0], none, none, []⟩,
 ⟨.mov, [.p 0], none, none, []⟩,
 ⟨.mov, [.v 6], none, some (0, true), []⟩,
 ⟨.mov, [.v 1], none, some (1, true), []⟩,
 ⟨.bin .leq, [.p 1, .p 0], none, some (2, true), []⟩,
 ⟨.pick, [.p 3, .p 0, .c (.bool false)], none, none, []⟩] false)
(.cond (.p 0) .skip (.exit 0)))
(.seq (.block 1 (.region [⟨.mov, [.v 5], none, none, []⟩,
 ⟨.mov, [.v 0], none, none, []⟩,
 ⟨.mov, [.v 6], none, none, []⟩,
 ⟨.iaddr 1, [.p 1, .p 0], none, none, []⟩,
 ⟨.load false 1, [.p 0], none, none, []⟩,
 ⟨.mov, [.v 2], none, none, []⟩,
 ⟨.mov, [.v 3], none, none, []⟩,
 ⟨.call false 7, [.p 2, .p 1, .p 0], none, none, []⟩,
 ⟨.bslice 1 (.slc true []) 1 [0], [.p 0], none, none, []⟩,
 ⟨.app 24 1, [.p 8, .p 0], none, none, []⟩,
 ⟨.mov, [.p 0], some 5, none, []⟩] false))
(.region [⟨.mov, [.v 6], none, none, []⟩,
 ⟨.bin .add, [.p 0, .c (.int .i64 1)], none, none, []⟩,
 ⟨.mov, [.p 0], some 6, none, []⟩] false))))
def c_ashlarlaw8_Cut : RFunc := ⟨4, [0, 1, 2, 3, 8, 9, 10],
(.seq (.region [⟨.mov, [.c (.slc true [])], some 4, none, []⟩] false)
(.seq (.region [⟨.mov, [.c (.slc true [])], some 5, none, []⟩] false)
(.seq (.seq (.region [⟨.mov, [.c (.int .i64 0)], some 6, none, []⟩] false)
(.block 0 l_ashlarlaw8_Cut_0))
(.seq (.region [⟨.mov, [.v 5], none, none, []⟩,
 ⟨.mov, [.p 0], some 4, none, []⟩] false)
.ret)))),
[.v 4]⟩
def l_ashlarlaw8_Op_0 : RCode := (.loop [true, false, true, true] (.seq (.seq (.region [⟨.mov, [.v 3], none, none, []⟩,
 ⟨.mov, [.v 0], none, none, []⟩,
 ⟨.len false, [.p 0], none, none, []⟩,
 ⟨.bin .lss, [.p 2, .p 0], none, none, []⟩] false)
(.cond (.p 0) .skip (.exit 0)))
(.seq (.block 1 (.region [⟨.mov, [.v 2], none, none, []⟩,
 ⟨.mov, [.v 0], none, none, []⟩,
 ⟨.mov, [.v 3], none, none, []⟩,
 ⟨.iaddr 1, [.p 1, .p 0], none, none, []⟩,
 ⟨.load false 1, [.p 0], none, none, []⟩,
 ⟨.bslice 1 (.slc true []) 1 [0], [.p 0], none, none, []⟩,
 ⟨.app 24 1, [.p 5, .p 0], none, none, []⟩,
 ⟨.mov, [.p 0], some 2, none, []⟩] false))
(.region [⟨.mov, [.v 3], none, none, []⟩,
 ⟨.bin .add, [.p 0, .c (.int .i64 1)], none, none, []⟩,
 ⟨.mov, [.p 0], some 3, none, []⟩] false))))
def c_ashlarlaw8_Op : RFunc := ⟨1, [0, 2, 3, 4],
(.seq (.region [⟨.mov, [.c (.slc true [])], some 1, none, []⟩] false)
(.seq (.region [⟨.mov, [.c (.slc true [])], some 2, none, []⟩] false)
(.seq (.seq (.region [⟨.mov, [.c (.int .i64 0)], some 3, none, []⟩] false)
(.block 0 l_ashlarlaw8_Op_0))
(.seq (.region [⟨.mov, [.v 2], none, none, []⟩,
 ⟨.call false 69, [.p 0], none, none, []⟩,
 ⟨.call false 103, [.p 0], none, none, []⟩,
 ⟨.mov, [.p 0], some 1, none, []⟩] false)
.ret)))),
[.v 1]⟩
def l_ashlarlaw3_Cut_0 : RCode := (.loop [true, true, true, false, true, true] (.seq (.seq (.region [⟨.mov, [.v 5], none, none, []⟩,
 ⟨.mov, [.v 0], none, none, []⟩,
 ⟨.len false, [.p 0], none, none, []⟩,
 ⟨.bin .lss, [.p 2, .p 0], none, none, []⟩,
 ⟨.mov, [.p 0], none, none, []⟩,
 ⟨.mov, [.v 5], none, some (0, true), []⟩,
 ⟨.mov, [.v 1], none, some (1, true), []⟩,
 ⟨.bin .lss, [.p 1, .p 0], none, some (2, true), []⟩,
 ⟨.pick, [.p 3, .p 0, .c (.bool false)], none, none, []⟩] false)
(.cond (.p 0) .skip (.exit 0)))
(.seq (.block 1 (.seq (.region [⟨.mov, [.v 0], none, none, []⟩,
 ⟨.mov, [.v 5], none, none, []⟩,
 ⟨.iaddr 2, [.p 1, .p 0], none, none, []⟩,
 ⟨.load true 2, [.p 0], none, none, []⟩,
 ⟨.call false 23, [.p 0], none, none, []⟩,
 ⟨.alloc (.agg [.bool false, .slc true []]), [], some 6, none, []⟩,
 ⟨.store 2, [.v 6, .p 1], none, none, []⟩] false)
(.seq (.seq (.region [⟨.faddr 1, [.v 6], none, none, []⟩,
 ⟨.load false 1, [.p 0], none, none, []⟩,
 ⟨.len false, [.p 0], none, none, []⟩,
 ⟨.mov, [.v 2], none, none, []⟩,
 ⟨.bin .gtr, [.p 1, .p 0], none, none, []⟩] false)
(.cond (.p 0) (.region [⟨.faddr 1, [.v 6], none, none, []⟩,
 ⟨.load false 1, [.p 0], none, none, []⟩,
 ⟨.mov, [.v 2], none, none, []⟩,
 ⟨.slice 1 false true false, [.p 1, .p 0], none, none, []⟩,
 ⟨.faddr 1, [.v 6], none, none, []⟩,
 ⟨.store 1, [.p 0, .p 1], none, none, []⟩] false) .skip))
(.region [⟨.mov, [.v 4], none, none, []⟩,
 ⟨.load true 2, [.v 6], none, none, []⟩,
 ⟨.bslice 2 (.agg [.bool false, .slc true []]) 1 [0], [.p 0], none, none, []⟩,
 ⟨.app 32 2, [.p 2, .p 0], none, none, []⟩,
 ⟨.mov, [.p 0], some 4, none, []⟩] false))))
(.region [⟨.mov, [.v 5], none, none, []⟩,
 ⟨.bin .add, [.p 0, .c (.int .i64 1)], none, none, []⟩,
 ⟨.mov, [.p 0], some 5, none, []⟩] false))))
def c_ashlarlaw3_Cut : RFunc := ⟨3, [0, 1, 2, 6, 7, 8, 9],
(.seq (.region [⟨.mov, [.c (.slc true [])], some 3, none, []⟩] false)
(.seq (.region [⟨.mov, [.c (.slc true [])], some 4, none, []⟩] false)
(.seq (.seq (.region [⟨.mov, [.c (.int .i64 0)], some 5, none, []⟩] false)
(.block 0 l_ashlarlaw3_Cut_0))
(.seq (.region [⟨.mov, [.v 4], none, none, []⟩,
 ⟨.mov, [.p 0], some 3, none, []⟩] false)
.ret)))),
[.v 3]⟩
class CodeGauge (F : Nat → Option RFunc) : Prop where
  gauge_Times : F 3 = some c_gauge_Times
  gauge_Of : F 11 = some c_gauge_Of
  gauge_Mul : F 13 = some c_gauge_Mul
  gauge_Apply : F 15 = some c_gauge_Apply
  gauge_Divide : F 17 = some c_gauge_Divide
  gauge_Common : F 19 = some c_gauge_Common
  gauge_each : F 67 = some c_gauge_each
  gauge_product_take : F 66 = some c_gauge_product_take
  zcost_Of : F 72 = some c_zcost_Of
  zcost_Product : F 76 = some c_zcost_Product
  zcost_Apply : F 78 = some c_zcost_Apply
  zcost_Add : F 81 = some c_zcost_Add
  zcost_Mul : F 82 = some c_zcost_Mul
  zcost_Times : F 106 = some c_zcost_Times
  upoly_Deg : F 104 = some c_upoly_Deg
  upoly_Bits : F 105 = some c_upoly_Bits
  upoly_cut : F 119 = some c_upoly_cut
  ashlarref3_From : F 9 = some c_ashlarref3_From
  ashlarref3_Of : F 64 = some c_ashlarref3_Of
  ashlarref3_Trim : F 70 = some c_ashlarref3_Trim
  ashlarref3_Deg : F 79 = some c_ashlarref3_Deg
  ashlarref3_Bits : F 80 = some c_ashlarref3_Bits
  ashlarref3_To : F 118 = some c_ashlarref3_To
  ashlarref8_From : F 8 = some c_ashlarref8_From
  ashlarref8_Trim : F 69 = some c_ashlarref8_Trim
  ashlarref8_Order : F 73 = some c_ashlarref8_Order
  ashlarref8_Degree : F 74 = some c_ashlarref8_Degree
  ashlarref8_Bits : F 75 = some c_ashlarref8_Bits
  ashlarref8_To : F 103 = some c_ashlarref8_To
  ashlarref9_Times : F 4 = some c_ashlarref9_Times
  ashlarref9_Size : F 12 = some c_ashlarref9_Size
  ashlarref9_Mul : F 14 = some c_ashlarref9_Mul
  ashlarref9_Apply : F 16 = some c_ashlarref9_Apply
  ashlarref9_Divide : F 18 = some c_ashlarref9_Divide
  ashlarref9_Common : F 20 = some c_ashlarref9_Common
  ashlarref9_By : F 68 = some c_ashlarref9_By
  ashlarref9_Sum : F 77 = some c_ashlarref9_Sum
  ashlarref9_Plus : F 83 = some c_ashlarref9_Plus
  ashlarlaw9_GaugeTimes : F 5 = some c_ashlarlaw9_GaugeTimes
  ashlarlaw9_GaugeOps : F 21 = some c_ashlarlaw9_GaugeOps
  ashlarlaw9_begun : F 2 = some c_ashlarlaw9_begun
  ashlarlaw8_Cut : F 6 = some c_ashlarlaw8_Cut
  ashlarlaw8_Op : F 65 = some c_ashlarlaw8_Op
  ashlarlaw3_Cut : F 7 = some c_ashlarlaw3_Cut
def tabCodeGauge : List (Nat × RFunc) := [(3, c_gauge_Times), (11, c_gauge_Of), (13, c_gauge_Mul), (15, c_gauge_Apply), (17, c_gauge_Divide), (19, c_gauge_Common), (67, c_gauge_each), (66, c_gauge_product_take), (72, c_zcost_Of), (76, c_zcost_Product), (78, c_zcost_Apply), (81, c_zcost_Add), (82, c_zcost_Mul), (106, c_zcost_Times), (104, c_upoly_Deg), (105, c_upoly_Bits), (119, c_upoly_cut), (9, c_ashlarref3_From), (64, c_ashlarref3_Of), (70, c_ashlarref3_Trim), (79, c_ashlarref3_Deg), (80, c_ashlarref3_Bits), (118, c_ashlarref3_To), (8, c_ashlarref8_From), (69, c_ashlarref8_Trim), (73, c_ashlarref8_Order), (74, c_ashlarref8_Degree), (75, c_ashlarref8_Bits), (103, c_ashlarref8_To), (4, c_ashlarref9_Times), (12, c_ashlarref9_Size), (14, c_ashlarref9_Mul), (16, c_ashlarref9_Apply), (18, c_ashlarref9_Divide), (20, c_ashlarref9_Common), (68, c_ashlarref9_By), (77, c_ashlarref9_Sum), (83, c_ashlarref9_Plus), (5, c_ashlarlaw9_GaugeTimes), (21, c_ashlarlaw9_GaugeOps), (2, c_ashlarlaw9_begun), (6, c_ashlarlaw8_Cut), (65, c_ashlarlaw8_Op), (7, c_ashlarlaw3_Cut)]
end Go.Ash
