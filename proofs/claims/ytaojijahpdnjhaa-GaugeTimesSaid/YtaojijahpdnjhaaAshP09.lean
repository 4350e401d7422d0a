/- The abstract interpreter of this work and its uses, part 9: AshCodeGauge, AshGauge1, AshOpenZ. -/
import Derived.Test.YtaojijahpdnjhaaAshP08
set_option linter.all false
/- The code of functions of the given program, printed by a program of this work out of the dump (codes.py): data alone. -/
namespace Go.Ash
set_option maxRecDepth 10000
def c_gauge_Times : RFunc := ⟨1, [0, 2, 3],
(.seq (.region [⟨.mov, [.c (.int .i64 0)], some 1, none, []⟩] false)
(.seq (.region [⟨.build [.int .i64 0] [(0, 1)], [.c (.int .i64 1)], none, none, []⟩,
 ⟨.box, [.p 0], none, none, []⟩,
 ⟨.mov, [.p 0], some 2, none, []⟩] false)
(.seq (.region [⟨.mov, [.v 2], none, none, []⟩,
 ⟨.mkfn 66 1, [.p 0], none, none, []⟩,
 ⟨.mov, [.v 0], none, none, []⟩,
 ⟨.call true 67, [.p 1, .p 0], none, none, []⟩] false)
(.seq (.region [⟨.mov, [.v 2], none, none, []⟩,
 ⟨.nilck, [.p 0], none, none, []⟩,
 ⟨.faddr 0, [.p 0], none, none, []⟩,
 ⟨.load false 1, [.p 0], none, none, []⟩,
 ⟨.mov, [.p 0], some 1, none, []⟩] false)
.ret)))),
[.v 1]⟩
def c_gauge_Of : RFunc := ⟨1, [0, 2],
(.seq (.region [⟨.alloc (.agg [.int .i64 0, .int .i64 0, .int .i64 0]), [], some 1, none, []⟩] false)
(.seq (.region [⟨.mov, [.v 0], none, none, []⟩,
 ⟨.call false 72, [.p 0], none, none, []⟩,
 ⟨.store 3, [.v 1, .p 0], none, none, []⟩] false)
.ret)),
[.cell 1 true 3]⟩
def c_gauge_Mul : RFunc := ⟨3, [0, 1, 2, 5, 6],
(.seq (.region [⟨.box, [.v 2], some 3, none, []⟩,
 ⟨.mov, [.c (.int .i64 0)], some 4, none, []⟩] false)
(.seq (.region [⟨.mov, [.v 0], none, none, []⟩,
 ⟨.mov, [.v 1], none, none, []⟩,
 ⟨.load true 2, [.v 3], none, none, []⟩,
 ⟨.call false 76, [.p 2, .p 1, .p 0], none, none, []⟩,
 ⟨.mov, [.p 0], some 4, none, []⟩] false)
.ret)),
[.v 4]⟩
def c_gauge_Apply : RFunc := ⟨3, [0, 1, 2, 5, 6],
(.seq (.region [⟨.box, [.v 2], some 3, none, []⟩,
 ⟨.mov, [.c (.int .i64 0)], some 4, none, []⟩] false)
(.seq (.region [⟨.mov, [.v 0], none, none, []⟩,
 ⟨.mov, [.v 1], none, none, []⟩,
 ⟨.load true 2, [.v 3], none, none, []⟩,
 ⟨.call false 78, [.p 2, .p 1, .p 0], none, none, []⟩,
 ⟨.mov, [.p 0], some 4, none, []⟩] false)
.ret)),
[.v 4]⟩
def c_gauge_Divide : RFunc := ⟨3, [0, 1, 2, 5, 6, 7, 8, 9, 10],
(.seq (.region [⟨.box, [.v 2], some 3, none, []⟩,
 ⟨.mov, [.c (.int .i64 0)], some 4, none, []⟩] false)
(.seq (.region [⟨.mov, [.v 0], none, none, []⟩,
 ⟨.call false 11, [.p 0], none, none, []⟩,
 ⟨.mov, [.v 1], none, none, []⟩,
 ⟨.call false 11, [.p 0], none, none, []⟩,
 ⟨.load true 2, [.v 3], none, none, []⟩,
 ⟨.call false 53, [.p 0], none, none, []⟩,
 ⟨.alloc (.agg [.int .i64 0, .int .i64 0, .int .i64 0]), [], some 5, none, []⟩,
 ⟨.alloc (.agg [.int .i64 0, .int .i64 0, .int .i64 0]), [], some 6, none, []⟩,
 ⟨.store 3, [.v 5, .p 6], none, none, []⟩,
 ⟨.store 3, [.v 6, .p 5], none, none, []⟩,
 ⟨.mov, [.p 4], some 7, none, []⟩] true)
(.seq (.region [⟨.faddr 2, [.v 5], none, none, []⟩,
 ⟨.load false 1, [.p 0], none, none, []⟩,
 ⟨.faddr 2, [.v 6], none, none, []⟩,
 ⟨.load false 1, [.p 0], none, none, []⟩,
 ⟨.faddr 0, [.v 5], none, none, []⟩,
 ⟨.load false 1, [.p 0], none, none, []⟩,
 ⟨.bin .add, [.p 0, .c (.int .i64 1)], none, none, []⟩,
 ⟨.mov, [.v 7], none, none, []⟩,
 ⟨.bslice 1 (.int .i64 0) 2 [0, 1], [.p 0, .c (.int .i64 2)], none, none, []⟩,
 ⟨.call false 81, [.p 0], none, none, []⟩,
 ⟨.bslice 1 (.int .i64 0) 2 [0, 1], [.p 3, .p 0], none, none, []⟩,
 ⟨.call false 82, [.p 0], none, none, []⟩,
 ⟨.bslice 1 (.int .i64 0) 4 [0, 1, 2, 3], [.p 10, .p 8, .p 0, .c (.int .i64 8)], none, none, []⟩,
 ⟨.call false 81, [.p 0], none, none, []⟩,
 ⟨.mov, [.p 0], some 8, none, []⟩] true)
(.seq (.region [⟨.faddr 0, [.v 5], none, none, []⟩,
 ⟨.load false 1, [.p 0], none, none, []⟩,
 ⟨.bin .add, [.p 0, .c (.int .i64 1)], none, none, []⟩,
 ⟨.faddr 0, [.v 6], none, none, []⟩,
 ⟨.load false 1, [.p 0], none, none, []⟩,
 ⟨.bin .add, [.p 0, .c (.int .i64 1)], none, none, []⟩,
 ⟨.faddr 0, [.v 5], none, none, []⟩,
 ⟨.load false 1, [.p 0], none, none, []⟩,
 ⟨.faddr 0, [.v 6], none, none, []⟩,
 ⟨.load false 1, [.p 0], none, none, []⟩,
 ⟨.bslice 1 (.int .i64 0) 3 [0, 1, 2], [.p 2, .p 0, .c (.int .i64 2)], none, none, []⟩,
 ⟨.call false 81, [.p 0], none, none, []⟩,
 ⟨.faddr 1, [.v 5], none, none, []⟩,
 ⟨.load false 1, [.p 0], none, none, []⟩,
 ⟨.faddr 1, [.v 6], none, none, []⟩,
 ⟨.load false 1, [.p 0], none, none, []⟩,
 ⟨.bslice 1 (.int .i64 0) 3 [0, 1, 2], [.p 2, .p 0, .c (.int .i64 2)], none, none, []⟩,
 ⟨.call false 81, [.p 0], none, none, []⟩,
 ⟨.mov, [.v 8], none, none, []⟩,
 ⟨.bslice 1 (.int .i64 0) 5 [0, 1, 2, 3, 4], [.p 16, .p 13, .p 7, .p 1, .p 0], none, none, []⟩,
 ⟨.call false 3, [.p 0], none, none, []⟩,
 ⟨.mov, [.p 0], some 4, none, []⟩] true)
.ret)))),
[.v 4]⟩
def c_gauge_Common : RFunc := ⟨3, [0, 1, 2, 5, 6, 7, 8, 9, 10, 11],
(.seq (.region [⟨.box, [.v 2], some 3, none, []⟩,
 ⟨.mov, [.c (.int .i64 0)], some 4, none, []⟩] false)
(.seq (.region [⟨.mov, [.v 0], none, none, []⟩,
 ⟨.call false 11, [.p 0], none, none, []⟩,
 ⟨.mov, [.v 1], none, none, []⟩,
 ⟨.call false 11, [.p 0], none, none, []⟩,
 ⟨.load true 2, [.v 3], none, none, []⟩,
 ⟨.call false 53, [.p 0], none, none, []⟩,
 ⟨.alloc (.agg [.int .i64 0, .int .i64 0, .int .i64 0]), [], some 5, none, []⟩,
 ⟨.alloc (.agg [.int .i64 0, .int .i64 0, .int .i64 0]), [], some 6, none, []⟩,
 ⟨.store 3, [.v 5, .p 6], none, none, []⟩,
 ⟨.store 3, [.v 6, .p 5], none, none, []⟩,
 ⟨.mov, [.p 4], some 7, none, []⟩] true)
(.seq (.region [⟨.faddr 0, [.v 5], none, none, []⟩,
 ⟨.load false 1, [.p 0], none, none, []⟩,
 ⟨.faddr 0, [.v 6], none, none, []⟩,
 ⟨.load false 1, [.p 0], none, none, []⟩,
 ⟨.bslice 1 (.int .i64 0) 3 [0, 1, 2], [.p 2, .p 0, .c (.int .i64 2)], none, none, []⟩,
 ⟨.call false 81, [.p 0], none, none, []⟩,
 ⟨.mov, [.p 0], some 8, none, []⟩] false)
(.seq (.region [⟨.faddr 2, [.v 5], none, none, []⟩,
 ⟨.load false 1, [.p 0], none, none, []⟩,
 ⟨.faddr 2, [.v 6], none, none, []⟩,
 ⟨.load false 1, [.p 0], none, none, []⟩,
 ⟨.mov, [.v 8], none, none, []⟩,
 ⟨.bin .sub, [.p 0, .c (.int .i64 1)], none, none, []⟩,
 ⟨.mov, [.v 7], none, none, []⟩,
 ⟨.bslice 1 (.int .i64 0) 2 [0, 1], [.p 0, .c (.int .i64 2)], none, none, []⟩,
 ⟨.call false 81, [.p 0], none, none, []⟩,
 ⟨.bslice 1 (.int .i64 0) 2 [0, 1], [.p 3, .p 0], none, none, []⟩,
 ⟨.call false 82, [.p 0], none, none, []⟩,
 ⟨.bslice 1 (.int .i64 0) 4 [0, 1, 2, 3], [.p 9, .p 7, .p 0, .c (.int .i64 8)], none, none, []⟩,
 ⟨.call false 81, [.p 0], none, none, []⟩,
 ⟨.mov, [.p 0], some 9, none, []⟩] true)
(.seq (.region [⟨.mov, [.v 8], none, none, []⟩,
 ⟨.mov, [.v 8], none, none, []⟩,
 ⟨.mov, [.v 8], none, none, []⟩,
 ⟨.mov, [.v 8], none, none, []⟩,
 ⟨.faddr 1, [.v 5], none, none, []⟩,
 ⟨.load false 1, [.p 0], none, none, []⟩,
 ⟨.faddr 1, [.v 6], none, none, []⟩,
 ⟨.load false 1, [.p 0], none, none, []⟩,
 ⟨.bslice 1 (.int .i64 0) 2 [0, 1], [.p 2, .p 0], none, none, []⟩,
 ⟨.call false 81, [.p 0], none, none, []⟩,
 ⟨.bslice 1 (.int .i64 0) 2 [0, 1], [.p 6, .p 0], none, none, []⟩,
 ⟨.call false 82, [.p 0], none, none, []⟩,
 ⟨.bslice 1 (.int .i64 0) 2 [0, 1], [.p 0, .c (.int .i64 2)], none, none, []⟩,
 ⟨.call false 81, [.p 0], none, none, []⟩,
 ⟨.mov, [.v 9], none, none, []⟩,
 ⟨.bslice 1 (.int .i64 0) 5 [0, 1, 2, 3, 4], [.p 14, .p 13, .p 12, .p 1, .p 0], none, none, []⟩,
 ⟨.call false 3, [.p 0], none, none, []⟩,
 ⟨.mov, [.p 0], some 4, none, []⟩] false)
.ret))))),
[.v 4]⟩
def l_gauge_each_0 : RCode := (.loop [true, false, false, true, true, true] (.seq (.region [⟨.bin .lss, [.v 5, .v 4], none, none, []⟩] false)
(.seq (.cond (.p 0) .skip (.exit 0))
(.seq (.block 1 (.seq (.region [⟨.iaddr 1, [.v 3, .v 5], none, none, []⟩,
 ⟨.load false 1, [.p 0], none, none, []⟩,
 ⟨.mov, [.p 0], some 2, none, []⟩] false)
(.region [⟨.mov, [.v 0], none, none, []⟩,
 ⟨.mov, [.v 2], none, none, []⟩,
 ⟨.callv true, [.p 1, .p 0], none, none, []⟩] false)))
(.region [⟨.bin .add, [.v 5, .c (.int .i64 1)], none, none, []⟩,
 ⟨.mov, [.p 0], some 5, none, []⟩] false)))))
def c_gauge_each : RFunc := ⟨2, [0, 1, 5, 6, 7, 8],
(.seq (.region [⟨.mov, [.v 1], some 3, none, []⟩,
 ⟨.len false, [.v 3], some 4, none, []⟩,
 ⟨.mov, [.c (.int .i64 0)], some 5, none, []⟩] false)
(.block 0 l_gauge_each_0)),
[]⟩
def c_gauge_product_take : RFunc := ⟨2, [0, 1],
(.region [⟨.mov, [.v 0], none, none, []⟩,
 ⟨.mov, [.v 0], none, none, []⟩,
 ⟨.nilck, [.p 0], none, none, []⟩,
 ⟨.faddr 0, [.p 0], none, none, []⟩,
 ⟨.load false 1, [.p 0], none, none, []⟩,
 ⟨.mov, [.v 1], none, none, []⟩,
 ⟨.max, [.p 0, .c (.int .i64 1)], none, none, []⟩,
 ⟨.bslice 1 (.int .i64 0) 2 [0, 1], [.p 2, .p 0], none, none, []⟩,
 ⟨.call false 82, [.p 0], none, none, []⟩,
 ⟨.nilck, [.p 8], none, none, []⟩,
 ⟨.faddr 0, [.p 0], none, none, []⟩,
 ⟨.store 1, [.p 0, .p 2], none, none, []⟩] false),
[]⟩
def l_zcost_Of_0 : RCode := (.loop [true, true, true] (.seq (.seq (.region [⟨.mov, [.v 2], none, none, []⟩,
 ⟨.bin .geq, [.p 0, .c (.int .i64 0)], none, none, []⟩,
 ⟨.mov, [.p 0], none, none, []⟩,
 ⟨.mov, [.v 0], none, some (0, true), []⟩,
 ⟨.mov, [.v 2], none, some (1, true), []⟩,
 ⟨.iaddr 1, [.p 1, .p 0], none, some (2, true), []⟩,
 ⟨.load false 1, [.p 0], none, some (3, true), []⟩,
 ⟨.call false 104, [.p 0], none, some (4, true), []⟩,
 ⟨.bin .lss, [.p 0, .c (.int .i64 0)], none, some (5, true), []⟩,
 ⟨.pick, [.p 6, .p 0, .c (.bool false)], none, none, []⟩] false)
(.cond (.p 0) .skip (.exit 0)))
(.block 1 (.region [⟨.mov, [.v 2], none, none, []⟩,
 ⟨.bin .sub, [.p 0, .c (.int .i64 1)], none, none, []⟩,
 ⟨.mov, [.p 0], some 2, none, []⟩] false))))
def l_zcost_Of_1 : RCode := (.loop [false, true, false, true, false, true, true, true] (.seq (.region [⟨.bin .lss, [.v 7, .v 6], none, none, []⟩] false)
(.seq (.cond (.p 0) .skip (.exit 2))
(.seq (.block 3 (.seq (.region [⟨.iaddr 1, [.v 5, .v 7], none, none, []⟩,
 ⟨.load false 1, [.p 0], none, none, []⟩,
 ⟨.mov, [.p 0], some 4, none, []⟩] false)
(.region [⟨.faddr 1, [.v 3], none, none, []⟩,
 ⟨.load false 1, [.p 0], none, none, []⟩,
 ⟨.mov, [.v 4], none, none, []⟩,
 ⟨.call false 104, [.p 0], none, none, []⟩,
 ⟨.max, [.p 2, .p 0], none, none, []⟩,
 ⟨.faddr 2, [.v 3], none, none, []⟩,
 ⟨.load false 1, [.p 0], none, none, []⟩,
 ⟨.mov, [.v 4], none, none, []⟩,
 ⟨.call false 105, [.p 0], none, none, []⟩,
 ⟨.max, [.p 2, .p 0], none, none, []⟩,
 ⟨.faddr 1, [.v 3], none, none, []⟩,
 ⟨.store 1, [.p 0, .p 6], none, none, []⟩,
 ⟨.faddr 2, [.v 3], none, none, []⟩,
 ⟨.store 1, [.p 0, .p 3], none, none, []⟩] true)))
(.region [⟨.bin .add, [.v 7, .c (.int .i64 1)], none, none, []⟩,
 ⟨.mov, [.p 0], some 7, none, []⟩] false)))))
def c_zcost_Of : RFunc := ⟨1, [0, 2, 3, 4, 6, 30, 31, 32],
(.seq (.region [⟨.alloc (.agg [.int .i64 0, .int .i64 0, .int .i64 0]), [], some 1, none, []⟩] false)
(.seq (.region [⟨.mov, [.v 0], none, none, []⟩,
 ⟨.len false, [.p 0], none, none, []⟩,
 ⟨.bin .sub, [.p 0, .c (.int .i64 1)], none, none, []⟩,
 ⟨.mov, [.p 0], some 2, none, []⟩] false)
(.seq (.block 0 l_zcost_Of_0)
(.seq (.seq (.region [⟨.mov, [.v 2], none, none, []⟩,
 ⟨.bin .lss, [.p 0, .c (.int .i64 0)], none, none, []⟩] false)
(.cond (.p 0) (.seq (.region [⟨.build [.int .i64 0, .int .i64 0, .int .i64 0] [], [], none, none, []⟩,
 ⟨.store 3, [.v 1, .p 0], none, none, []⟩] false)
.ret) .skip))
(.seq (.region [⟨.mov, [.v 2], none, none, []⟩,
 ⟨.build [.int .i64 0, .int .i64 0, .int .i64 0] [(0, 1)], [.p 0], none, none, []⟩,
 ⟨.alloc (.agg [.int .i64 0, .int .i64 0, .int .i64 0]), [], some 3, none, []⟩,
 ⟨.store 3, [.v 3, .p 1], none, none, []⟩] false)
(.seq (.seq (.region [⟨.mov, [.v 0], none, none, []⟩,
 ⟨.mov, [.v 2], none, none, []⟩,
 ⟨.bin .add, [.p 0, .c (.int .i64 1)], none, none, []⟩,
 ⟨.slice 1 false true false, [.p 2, .p 0], some 5, none, []⟩,
 ⟨.len false, [.v 5], some 6, none, []⟩,
 ⟨.mov, [.c (.int .i64 0)], some 7, none, []⟩] false)
(.block 2 l_zcost_Of_1))
(.seq (.region [⟨.load true 3, [.v 3], none, none, []⟩,
 ⟨.store 3, [.v 1, .p 0], none, none, []⟩] false)
.ret))))))),
[.cell 1 true 3]⟩
def c_zcost_Product : RFunc := ⟨3, [0, 1, 2, 5, 6, 7, 8, 9, 10],
(.seq (.region [⟨.box, [.v 2], some 3, none, []⟩,
 ⟨.mov, [.c (.int .i64 0)], some 4, none, []⟩] false)
(.seq (.region [⟨.mov, [.v 0], none, none, []⟩,
 ⟨.call false 72, [.p 0], none, none, []⟩,
 ⟨.mov, [.v 1], none, none, []⟩,
 ⟨.call false 72, [.p 0], none, none, []⟩,
 ⟨.load true 2, [.v 3], none, none, []⟩,
 ⟨.call false 53, [.p 0], none, none, []⟩,
 ⟨.alloc (.agg [.int .i64 0, .int .i64 0, .int .i64 0]), [], some 5, none, []⟩,
 ⟨.alloc (.agg [.int .i64 0, .int .i64 0, .int .i64 0]), [], some 6, none, []⟩,
 ⟨.store 3, [.v 5, .p 6], none, none, []⟩,
 ⟨.store 3, [.v 6, .p 5], none, none, []⟩,
 ⟨.mov, [.p 4], some 7, none, []⟩] true)
(.seq (.region [⟨.faddr 2, [.v 5], none, none, []⟩,
 ⟨.load false 1, [.p 0], none, none, []⟩,
 ⟨.faddr 2, [.v 6], none, none, []⟩,
 ⟨.load false 1, [.p 0], none, none, []⟩,
 ⟨.faddr 0, [.v 5], none, none, []⟩,
 ⟨.load false 1, [.p 0], none, none, []⟩,
 ⟨.bin .add, [.p 0, .c (.int .i64 1)], none, none, []⟩,
 ⟨.faddr 1, [.v 6], none, none, []⟩,
 ⟨.load false 1, [.p 0], none, none, []⟩,
 ⟨.bin .add, [.p 0, .c (.int .i64 1)], none, none, []⟩,
 ⟨.bslice 1 (.int .i64 0) 2 [0, 1], [.p 3, .p 0], none, none, []⟩,
 ⟨.call false 82, [.p 0], none, none, []⟩,
 ⟨.faddr 0, [.v 5], none, none, []⟩,
 ⟨.load false 1, [.p 0], none, none, []⟩,
 ⟨.faddr 1, [.v 6], none, none, []⟩,
 ⟨.load false 1, [.p 0], none, none, []⟩,
 ⟨.bin .add, [.p 0, .c (.int .i64 1)], none, none, []⟩,
 ⟨.mov, [.v 7], none, none, []⟩,
 ⟨.bslice 1 (.int .i64 0) 3 [0, 1, 2], [.p 4, .p 1, .p 0], none, none, []⟩,
 ⟨.call false 82, [.p 0], none, none, []⟩,
 ⟨.bslice 1 (.int .i64 0) 5 [0, 1, 2, 3, 4], [.p 18, .p 16, .p 8, .p 0, .c (.int .i64 8)], none, none, []⟩,
 ⟨.call false 81, [.p 0], none, none, []⟩,
 ⟨.mov, [.p 0], some 8, none, []⟩] true)
(.seq (.region [⟨.faddr 0, [.v 5], none, none, []⟩,
 ⟨.load false 1, [.p 0], none, none, []⟩,
 ⟨.bin .add, [.p 0, .c (.int .i64 1)], none, none, []⟩,
 ⟨.faddr 0, [.v 6], none, none, []⟩,
 ⟨.load false 1, [.p 0], none, none, []⟩,
 ⟨.bin .add, [.p 0, .c (.int .i64 1)], none, none, []⟩,
 ⟨.faddr 1, [.v 5], none, none, []⟩,
 ⟨.load false 1, [.p 0], none, none, []⟩,
 ⟨.faddr 1, [.v 6], none, none, []⟩,
 ⟨.load false 1, [.p 0], none, none, []⟩,
 ⟨.bslice 1 (.int .i64 0) 3 [0, 1, 2], [.p 2, .p 0, .c (.int .i64 2)], none, none, []⟩,
 ⟨.call false 81, [.p 0], none, none, []⟩,
 ⟨.mov, [.v 8], none, none, []⟩,
 ⟨.bslice 1 (.int .i64 0) 4 [0, 1, 2, 3], [.p 10, .p 7, .p 1, .p 0], none, none, []⟩,
 ⟨.call false 106, [.p 0], none, none, []⟩,
 ⟨.mov, [.p 0], some 4, none, []⟩] true)
.ret)))),
[.v 4]⟩
def c_zcost_Apply : RFunc := ⟨3, [0, 1, 2, 5, 6, 7, 8, 9, 10],
(.seq (.region [⟨.box, [.v 2], some 3, none, []⟩,
 ⟨.mov, [.c (.int .i64 0)], some 4, none, []⟩] false)
(.seq (.region [⟨.mov, [.v 0], none, none, []⟩,
 ⟨.call false 72, [.p 0], none, none, []⟩,
 ⟨.mov, [.v 1], none, none, []⟩,
 ⟨.call false 104, [.p 0], none, none, []⟩,
 ⟨.load true 2, [.v 3], none, none, []⟩,
 ⟨.call false 53, [.p 0], none, none, []⟩,
 ⟨.alloc (.agg [.int .i64 0, .int .i64 0, .int .i64 0]), [], some 5, none, []⟩,
 ⟨.store 3, [.v 5, .p 5], none, none, []⟩,
 ⟨.mov, [.p 4], some 6, none, []⟩,
 ⟨.mov, [.p 3], some 7, none, []⟩] true)
(.seq (.region [⟨.faddr 2, [.v 5], none, none, []⟩,
 ⟨.load false 1, [.p 0], none, none, []⟩,
 ⟨.mov, [.v 1], none, none, []⟩,
 ⟨.call false 105, [.p 0], none, none, []⟩,
 ⟨.faddr 0, [.v 5], none, none, []⟩,
 ⟨.load false 1, [.p 0], none, none, []⟩,
 ⟨.bin .add, [.p 0, .c (.int .i64 1)], none, none, []⟩,
 ⟨.mov, [.v 6], none, none, []⟩,
 ⟨.bin .add, [.p 0, .c (.int .i64 2)], none, none, []⟩,
 ⟨.mov, [.v 7], none, none, []⟩,
 ⟨.bslice 1 (.int .i64 0) 2 [0, 1], [.p 0, .c (.int .i64 8)], none, none, []⟩,
 ⟨.call false 81, [.p 0], none, none, []⟩,
 ⟨.bslice 1 (.int .i64 0) 3 [0, 1, 2], [.p 5, .p 3, .p 0], none, none, []⟩,
 ⟨.call false 82, [.p 0], none, none, []⟩,
 ⟨.bslice 1 (.int .i64 0) 3 [0, 1, 2], [.p 12, .p 10, .p 0], none, none, []⟩,
 ⟨.call false 81, [.p 0], none, none, []⟩,
 ⟨.mov, [.p 0], some 8, none, []⟩] true)
(.seq (.region [⟨.faddr 0, [.v 5], none, none, []⟩,
 ⟨.load false 1, [.p 0], none, none, []⟩,
 ⟨.bin .add, [.p 0, .c (.int .i64 1)], none, none, []⟩,
 ⟨.faddr 1, [.v 5], none, none, []⟩,
 ⟨.load false 1, [.p 0], none, none, []⟩,
 ⟨.mov, [.v 6], none, none, []⟩,
 ⟨.bin .add, [.p 0, .c (.int .i64 3)], none, none, []⟩,
 ⟨.bslice 1 (.int .i64 0) 2 [0, 1], [.p 2, .p 0], none, none, []⟩,
 ⟨.call false 81, [.p 0], none, none, []⟩,
 ⟨.mov, [.v 8], none, none, []⟩,
 ⟨.bslice 1 (.int .i64 0) 3 [0, 1, 2], [.p 7, .p 1, .p 0], none, none, []⟩,
 ⟨.call false 106, [.p 0], none, none, []⟩,
 ⟨.mov, [.p 0], some 4, none, []⟩] true)
.ret)))),
[.v 4]⟩
def l_zcost_Add_0 : RCode := (.loop [false, false, true, false, true, true, true] (.seq (.region [⟨.bin .lss, [.v 6, .v 5], none, none, []⟩] false)
(.seq (.cond (.p 0) .skip (.exit 0))
(.seq (.block 1 (.seq (.region [⟨.iaddr 1, [.v 4, .v 6], none, none, []⟩,
 ⟨.load false 1, [.p 0], none, none, []⟩,
 ⟨.mov, [.p 0], some 3, none, []⟩] false)
(.seq (.seq (.region [⟨.mov, [.v 3], none, none, []⟩,
 ⟨.mov, [.v 2], none, none, []⟩,
 ⟨.bin .sub, [.c (.int .i64 4611686018427387904), .p 0], none, none, []⟩,
 ⟨.bin .gtr, [.p 2, .p 0], none, none, []⟩] false)
(.cond (.p 0) (.seq (.region [⟨.mov, [.c (.int .i64 4611686018427387904)], some 1, none, []⟩] false)
.ret) .skip))
(.region [⟨.mov, [.v 2], none, none, []⟩,
 ⟨.mov, [.v 3], none, none, []⟩,
 ⟨.bin .add, [.p 1, .p 0], none, none, []⟩,
 ⟨.mov, [.p 0], some 2, none, []⟩] false))))
(.region [⟨.bin .add, [.v 6, .c (.int .i64 1)], none, none, []⟩,
 ⟨.mov, [.p 0], some 6, none, []⟩] false)))))
def c_zcost_Add : RFunc := ⟨1, [0, 2, 3, 5, 6, 7, 8],
(.seq (.region [⟨.mov, [.c (.int .i64 0)], some 1, none, []⟩] false)
(.seq (.region [⟨.mov, [.c (.int .i64 0)], some 2, none, []⟩] false)
(.seq (.seq (.region [⟨.mov, [.v 0], some 4, none, []⟩,
 ⟨.len false, [.v 4], some 5, none, []⟩,
 ⟨.mov, [.c (.int .i64 0)], some 6, none, []⟩] false)
(.block 0 l_zcost_Add_0))
(.seq (.region [⟨.mov, [.v 2], none, none, []⟩,
 ⟨.mov, [.p 0], some 1, none, []⟩] false)
.ret)))),
[.v 1]⟩
def l_zcost_Mul_0 : RCode := (.loop [true, false, true, false, false, true, true, true] (.seq (.region [⟨.bin .lss, [.v 7, .v 6], none, none, []⟩] false)
(.seq (.cond (.p 0) .skip (.exit 0))
(.seq (.block 1 (.seq (.region [⟨.iaddr 1, [.v 5, .v 7], none, none, []⟩,
 ⟨.load false 1, [.p 0], none, none, []⟩,
 ⟨.mov, [.p 0], some 3, none, []⟩] false)
(.seq (.region [⟨.mov, [.v 3], none, none, []⟩,
 ⟨.bin .eql, [.p 0, .c (.int .i64 0)], none, none, []⟩] false)
(.cond (.p 0) (.seq (.region [⟨.mov, [.c (.int .i64 0)], some 1, none, []⟩] false)
.ret) .skip))))
(.region [⟨.bin .add, [.v 7, .c (.int .i64 1)], none, none, []⟩,
 ⟨.mov, [.p 0], some 7, none, []⟩] false)))))
def l_zcost_Mul_1 : RCode := (.loop [false, false, true, false, false, false, false, false, true, true, true] (.seq (.region [⟨.bin .lss, [.v 10, .v 9], none, none, []⟩] false)
(.seq (.cond (.p 0) .skip (.exit 2))
(.seq (.block 3 (.seq (.region [⟨.iaddr 1, [.v 8, .v 10], none, none, []⟩,
 ⟨.load false 1, [.p 0], none, none, []⟩,
 ⟨.mov, [.p 0], some 4, none, []⟩] false)
(.seq (.seq (.region [⟨.mov, [.v 2], none, none, []⟩,
 ⟨.mov, [.v 4], none, none, []⟩,
 ⟨.bin .quo, [.c (.int .i64 4611686018427387904), .p 0], none, none, []⟩,
 ⟨.bin .gtr, [.p 2, .p 0], none, none, []⟩] false)
(.cond (.p 0) (.seq (.region [⟨.mov, [.c (.int .i64 4611686018427387904)], some 1, none, []⟩] false)
.ret) .skip))
(.region [⟨.mov, [.v 2], none, none, []⟩,
 ⟨.mov, [.v 4], none, none, []⟩,
 ⟨.bin .mul, [.p 1, .p 0], none, none, []⟩,
 ⟨.mov, [.p 0], some 2, none, []⟩] false))))
(.region [⟨.bin .add, [.v 10, .c (.int .i64 1)], none, none, []⟩,
 ⟨.mov, [.p 0], some 10, none, []⟩] false)))))
def c_zcost_Mul : RFunc := ⟨1, [0, 2, 3, 5, 7, 8, 9, 10, 17, 18, 19],
(.seq (.region [⟨.mov, [.c (.int .i64 0)], some 1, none, []⟩] false)
(.seq (.region [⟨.mov, [.c (.int .i64 1)], some 2, none, []⟩] false)
(.seq (.seq (.region [⟨.mov, [.v 0], some 5, none, []⟩,
 ⟨.len false, [.v 5], some 6, none, []⟩,
 ⟨.mov, [.c (.int .i64 0)], some 7, none, []⟩] false)
(.block 0 l_zcost_Mul_0))
(.seq (.seq (.region [⟨.mov, [.v 0], some 8, none, []⟩,
 ⟨.len false, [.v 8], some 9, none, []⟩,
 ⟨.mov, [.c (.int .i64 0)], some 10, none, []⟩] false)
(.block 2 l_zcost_Mul_1))
(.seq (.region [⟨.mov, [.v 2], none, none, []⟩,
 ⟨.mov, [.p 0], some 1, none, []⟩] false)
.ret))))),
[.v 1]⟩
def l_zcost_Times_0 : RCode := (.loop [false, false, true, false, true, true, true] (.seq (.region [⟨.bin .lss, [.v 6, .v 5], none, none, []⟩] false)
(.seq (.cond (.p 0) .skip (.exit 0))
(.seq (.block 1 (.seq (.region [⟨.iaddr 1, [.v 4, .v 6], none, none, []⟩,
 ⟨.load false 1, [.p 0], none, none, []⟩,
 ⟨.mov, [.p 0], some 3, none, []⟩] false)
(.region [⟨.mov, [.v 2], none, none, []⟩,
 ⟨.mov, [.v 3], none, none, []⟩,
 ⟨.max, [.p 0, .c (.int .i64 1)], none, none, []⟩,
 ⟨.bslice 1 (.int .i64 0) 2 [0, 1], [.p 2, .p 0], none, none, []⟩,
 ⟨.call false 82, [.p 0], none, none, []⟩,
 ⟨.mov, [.p 0], some 2, none, []⟩] false)))
(.region [⟨.bin .add, [.v 6, .c (.int .i64 1)], none, none, []⟩,
 ⟨.mov, [.p 0], some 6, none, []⟩] false)))))
def c_zcost_Times : RFunc := ⟨1, [0, 2, 3, 5, 6, 7, 8],
(.seq (.region [⟨.mov, [.c (.int .i64 0)], some 1, none, []⟩] false)
(.seq (.region [⟨.mov, [.c (.int .i64 1)], some 2, none, []⟩] false)
(.seq (.seq (.region [⟨.mov, [.v 0], some 4, none, []⟩,
 ⟨.len false, [.v 4], some 5, none, []⟩,
 ⟨.mov, [.c (.int .i64 0)], some 6, none, []⟩] false)
(.block 0 l_zcost_Times_0))
(.seq (.region [⟨.mov, [.v 2], none, none, []⟩,
 ⟨.mov, [.p 0], some 1, none, []⟩] false)
.ret)))),
[.v 1]⟩
def c_upoly_Deg : RFunc := ⟨1, [0, 2],
(.seq (.region [⟨.mov, [.c (.int .i64 0)], some 1, none, []⟩] false)
(.seq (.region [⟨.mov, [.v 0], none, none, []⟩,
 ⟨.call false 119, [.p 0], none, none, []⟩,
 ⟨.len false, [.p 0], none, none, []⟩,
 ⟨.bin .sub, [.p 0, .c (.int .i64 1)], none, none, []⟩,
 ⟨.mov, [.p 0], some 1, none, []⟩] false)
.ret)),
[.v 1]⟩
def l_upoly_Bits_0 : RCode := (.loop [false, false, true, false, true, true, true] (.seq (.region [⟨.bin .lss, [.v 6, .v 5], none, none, []⟩] false)
(.seq (.cond (.p 0) .skip (.exit 0))
(.seq (.block 1 (.seq (.region [⟨.iaddr 2, [.v 4, .v 6], none, none, []⟩,
 ⟨.load true 2, [.p 0], none, none, []⟩,
 ⟨.alloc (.agg [.bool false, .slc true []]), [], some 3, none, []⟩,
 ⟨.store 2, [.v 3, .p 1], none, none, []⟩] false)
(.region [⟨.mov, [.v 2], none, none, []⟩,
 ⟨.load true 2, [.v 3], none, none, []⟩,
 ⟨.call false 53, [.p 0], none, none, []⟩,
 ⟨.max, [.p 2, .p 0], none, none, []⟩,
 ⟨.mov, [.p 0], some 2, none, []⟩] false)))
(.region [⟨.bin .add, [.v 6, .c (.int .i64 1)], none, none, []⟩,
 ⟨.mov, [.p 0], some 6, none, []⟩] false)))))
def c_upoly_Bits : RFunc := ⟨1, [0, 2, 3, 5, 6, 7, 8],
(.seq (.region [⟨.mov, [.c (.int .i64 0)], some 1, none, []⟩] false)
(.seq (.region [⟨.mov, [.c (.int .i64 0)], some 2, none, []⟩] false)
(.seq (.seq (.region [⟨.mov, [.v 0], some 4, none, []⟩,
 ⟨.len false, [.v 4], some 5, none, []⟩,
 ⟨.mov, [.c (.int .i64 0)], some 6, none, []⟩] false)
(.block 0 l_upoly_Bits_0))
(.seq (.region [⟨.mov, [.v 2], none, none, []⟩,
 ⟨.mov, [.p 0], some 1, none, []⟩] false)
.ret)))),
[.v 1]⟩
def l_upoly_cut_0 : RCode := (.loop [true, false, true] (.seq (.seq (.region [⟨.mov, [.v 2], none, none, []⟩,
 ⟨.bin .gtr, [.p 0, .c (.int .i64 0)], none, none, []⟩,
 ⟨.mov, [.p 0], none, none, []⟩,
 ⟨.mov, [.v 0], none, some (0, true), []⟩,
 ⟨.mov, [.v 2], none, some (1, true), []⟩,
 ⟨.bin .sub, [.p 0, .c (.int .i64 1)], none, some (2, true), []⟩,
 ⟨.iaddr 2, [.p 2, .p 0], none, some (3, true), []⟩,
 ⟨.load true 2, [.p 0], none, some (4, true), []⟩,
 ⟨.call false 52, [.p 0], none, some (5, true), []⟩,
 ⟨.bin .eql, [.p 0, .c (.int .i64 0)], none, some (6, true), []⟩,
 ⟨.pick, [.p 7, .p 0, .c (.bool false)], none, none, []⟩] false)
(.cond (.p 0) .skip (.exit 0)))
(.block 1 (.region [⟨.mov, [.v 2], none, none, []⟩,
 ⟨.bin .sub, [.p 0, .c (.int .i64 1)], none, none, []⟩,
 ⟨.mov, [.p 0], some 2, none, []⟩] false))))
def c_upoly_cut : RFunc := ⟨1, [0, 2, 3],
(.seq (.region [⟨.mov, [.c (.slc true [])], some 1, none, []⟩] false)
(.seq (.region [⟨.mov, [.v 0], none, none, []⟩,
 ⟨.len false, [.p 0], none, none, []⟩,
 ⟨.mov, [.p 0], some 2, none, []⟩] false)
(.seq (.block 0 l_upoly_cut_0)
(.seq (.seq (.region [⟨.mov, [.v 2], none, none, []⟩,
 ⟨.bin .eql, [.p 0, .c (.int .i64 0)], none, none, []⟩] false)
(.cond (.p 0) (.seq (.region [⟨.mov, [.c (.slc true [])], some 1, none, []⟩] false)
.ret) .skip))
(.seq (.region [⟨.mov, [.v 0], none, none, []⟩,
 ⟨.mov, [.v 2], none, none, []⟩,
 ⟨.slice 2 false true false, [.p 1, .p 0], none, none, []⟩,
 ⟨.mov, [.p 0], some 1, none, []⟩] false)
.ret))))),
[.v 1]⟩
def l_ashlarref3_From_0 : RCode := (.loop [true, false, true, true] (.seq (.seq (.region [⟨.mov, [.v 3], none, none, []⟩,
 ⟨.mov, [.v 0], none, none, []⟩,
 ⟨.len false, [.p 0], none, none, []⟩,
 ⟨.bin .lss, [.p 2, .p 0], none, none, []⟩] false)
(.cond (.p 0) .skip (.exit 0)))
(.seq (.block 1 (.region [⟨.mov, [.v 2], none, none, []⟩,
 ⟨.mov, [.v 0], none, none, []⟩,
 ⟨.mov, [.v 3], none, none, []⟩,
 ⟨.iaddr 2, [.p 1, .p 0], none, none, []⟩,
 ⟨.load true 2, [.p 0], none, none, []⟩,
 ⟨.call false 10, [.p 0], none, none, []⟩,
 ⟨.bslice 2 (.agg [.bool false, .slc true []]) 1 [0], [.p 0], none, none, []⟩,
 ⟨.app 32 2, [.p 6, .p 0], none, none, []⟩,
 ⟨.mov, [.p 0], some 2, none, []⟩] false))
(.region [⟨.mov, [.v 3], none, none, []⟩,
 ⟨.bin .add, [.p 0, .c (.int .i64 1)], none, none, []⟩,
 ⟨.mov, [.p 0], some 3, none, []⟩] false))))
def c_ashlarref3_From : RFunc := ⟨1, [0, 2, 3, 4],
(.seq (.region [⟨.mov, [.c (.slc true [])], some 1, none, []⟩] false)
(.seq (.region [⟨.mov, [.c (.slc true [])], some 2, none, []⟩] false)
(.seq (.seq (.region [⟨.mov, [.c (.int .i64 0)], some 3, none, []⟩] false)
(.block 0 l_ashlarref3_From_0))
(.seq (.region [⟨.mov, [.v 2], none, none, []⟩,
 ⟨.call false 70, [.p 0], none, none, []⟩,
 ⟨.mov, [.p 0], some 1, none, []⟩] false)
.ret)))),
[.v 1]⟩
def l_ashlarref3_Of_0 : RCode := (.loop [true, false, true, true] (.seq (.seq (.region [⟨.mov, [.v 3], none, none, []⟩,
 ⟨.mov, [.v 0], none, none, []⟩,
 ⟨.len false, [.p 0], none, none, []⟩,
 ⟨.bin .lss, [.p 2, .p 0], none, none, []⟩] false)
(.cond (.p 0) .skip (.exit 0)))
(.seq (.block 1 (.region [⟨.mov, [.v 2], none, none, []⟩,
 ⟨.mov, [.v 0], none, none, []⟩,
 ⟨.mov, [.v 3], none, none, []⟩,
 ⟨.iaddr 1, [.p 1, .p 0], none, none, []⟩,
 ⟨.load false 1, [.p 0], none, none, []⟩,
 ⟨.call false 34, [.p 0], none, none, []⟩,
 ⟨.bslice 2 (.agg [.bool false, .slc true []]) 1 [0], [.p 0], none, none, []⟩,
 ⟨.app 32 2, [.p 6, .p 0], none, none, []⟩,
 ⟨.mov, [.p 0], some 2, none, []⟩] false))
(.region [⟨.mov, [.v 3], none, none, []⟩,
 ⟨.bin .add, [.p 0, .c (.int .i64 1)], none, none, []⟩,
 ⟨.mov, [.p 0], some 3, none, []⟩] false))))
def c_ashlarref3_Of : RFunc := ⟨1, [0, 2, 3, 4],
(.seq (.region [⟨.mov, [.c (.slc true [])], some 1, none, []⟩] false)
(.seq (.region [⟨.mov, [.c (.slc true [])], some 2, none, []⟩] false)
(.seq (.seq (.region [⟨.mov, [.c (.int .i64 0)], some 3, none, []⟩] false)
(.block 0 l_ashlarref3_Of_0))
(.seq (.region [⟨.mov, [.v 2], none, none, []⟩,
 ⟨.call false 70, [.p 0], none, none, []⟩,
 ⟨.mov, [.p 0], some 1, none, []⟩] false)
.ret)))),
[.v 1]⟩
def l_ashlarref3_Trim_0 : RCode := (.loop [true, false, true] (.seq (.seq (.region [⟨.mov, [.v 2], none, none, []⟩,
 ⟨.bin .gtr, [.p 0, .c (.int .i64 0)], none, none, []⟩,
 ⟨.mov, [.p 0], none, none, []⟩,
 ⟨.mov, [.v 0], none, some (0, true), []⟩,
 ⟨.mov, [.v 2], none, some (1, true), []⟩,
 ⟨.bin .sub, [.p 0, .c (.int .i64 1)], none, some (2, true), []⟩,
 ⟨.iaddr 2, [.p 2, .p 0], none, some (3, true), []⟩,
 ⟨.load true 2, [.p 0], none, some (4, true), []⟩,
 ⟨.call false 25, [.p 0], none, some (5, true), []⟩,
 ⟨.bin .eql, [.p 0, .c (.int .i64 0)], none, some (6, true), []⟩,
 ⟨.pick, [.p 7, .p 0, .c (.bool false)], none, none, []⟩] false)
(.cond (.p 0) .skip (.exit 0)))
(.block 1 (.region [⟨.mov, [.v 2], none, none, []⟩,
 ⟨.bin .sub, [.p 0, .c (.int .i64 1)], none, none, []⟩,
 ⟨.mov, [.p 0], some 2, none, []⟩] false))))
def c_ashlarref3_Trim : RFunc := ⟨1, [0, 2, 3],
(.seq (.region [⟨.mov, [.c (.slc true [])], some 1, none, []⟩] false)
(.seq (.region [⟨.mov, [.v 0], none, none, []⟩,
 ⟨.len false, [.p 0], none, none, []⟩,
 ⟨.mov, [.p 0], some 2, none, []⟩] false)
(.seq (.block 0 l_ashlarref3_Trim_0)
(.seq (.region [⟨.mov, [.v 0], none, none, []⟩,
 ⟨.mov, [.v 2], none, none, []⟩,
 ⟨.mov, [.v 2], none, none, []⟩,
 ⟨.slice 2 false true true, [.p 2, .p 1, .p 0], none, none, []⟩,
 ⟨.mov, [.p 0], some 1, none, []⟩] false)
.ret)))),
[.v 1]⟩
def c_ashlarref3_Deg : RFunc := ⟨1, [0, 2],
(.seq (.region [⟨.mov, [.c (.int .i64 0)], some 1, none, []⟩] false)
(.seq (.region [⟨.mov, [.v 0], none, none, []⟩,
 ⟨.len false, [.p 0], none, none, []⟩,
 ⟨.bin .sub, [.p 0, .c (.int .i64 1)], none, none, []⟩,
 ⟨.mov, [.p 0], some 1, none, []⟩] false)
.ret)),
[.v 1]⟩
def l_ashlarref3_Bits_0 : RCode := (.loop [true, false, true, true] (.seq (.seq (.region [⟨.mov, [.v 3], none, none, []⟩,
 ⟨.mov, [.v 0], none, none, []⟩,
 ⟨.len false, [.p 0], none, none, []⟩,
 ⟨.bin .lss, [.p 2, .p 0], none, none, []⟩] false)
(.cond (.p 0) .skip (.exit 0)))
(.seq (.block 1 (.seq (.region [⟨.mov, [.v 0], none, none, []⟩,
 ⟨.mov, [.v 3], none, none, []⟩,
 ⟨.iaddr 2, [.p 1, .p 0], none, none, []⟩,
 ⟨.load true 2, [.p 0], none, none, []⟩,
 ⟨.call false 54, [.p 0], none, none, []⟩,
 ⟨.mov, [.p 0], some 4, none, []⟩] false)
(.seq (.region [⟨.mov, [.v 4], none, none, []⟩,
 ⟨.mov, [.v 2], none, none, []⟩,
 ⟨.bin .gtr, [.p 1, .p 0], none, none, []⟩] false)
(.cond (.p 0) (.region [⟨.mov, [.v 4], none, none, []⟩,
 ⟨.mov, [.p 0], some 2, none, []⟩] false) .skip))))
(.region [⟨.mov, [.v 3], none, none, []⟩,
 ⟨.bin .add, [.p 0, .c (.int .i64 1)], none, none, []⟩,
 ⟨.mov, [.p 0], some 3, none, []⟩] false))))
def c_ashlarref3_Bits : RFunc := ⟨1, [0, 2, 3, 4, 5],
(.seq (.region [⟨.mov, [.c (.int .i64 0)], some 1, none, []⟩] false)
(.seq (.region [⟨.mov, [.c (.int .i64 0)], some 2, none, []⟩] false)
(.seq (.seq (.region [⟨.mov, [.c (.int .i64 0)], some 3, none, []⟩] false)
(.block 0 l_ashlarref3_Bits_0))
(.seq (.region [⟨.mov, [.v 2], none, none, []⟩,
 ⟨.mov, [.p 0], some 1, none, []⟩] false)
.ret)))),
[.v 1]⟩
def l_ashlarref3_To_0 : RCode := (.loop [true, false, true, true] (.seq (.seq (.region [⟨.mov, [.v 3], none, none, []⟩,
 ⟨.mov, [.v 0], none, none, []⟩,
 ⟨.len false, [.p 0], none, none, []⟩,
 ⟨.bin .lss, [.p 2, .p 0], none, none, []⟩] false)
(.cond (.p 0) .skip (.exit 0)))
(.seq (.block 1 (.region [⟨.mov, [.v 2], none, none, []⟩,
 ⟨.mov, [.v 0], none, none, []⟩,
 ⟨.mov, [.v 3], none, none, []⟩,
 ⟨.iaddr 2, [.p 1, .p 0], none, none, []⟩,
 ⟨.load true 2, [.p 0], none, none, []⟩,
 ⟨.call false 93, [.p 0], none, none, []⟩,
 ⟨.bslice 2 (.agg [.bool false, .slc true []]) 1 [0], [.p 0], none, none, []⟩,
 ⟨.app 32 2, [.p 6, .p 0], none, none, []⟩,
 ⟨.mov, [.p 0], some 2, none, []⟩] false))
(.region [⟨.mov, [.v 3], none, none, []⟩,
 ⟨.bin .add, [.p 0, .c (.int .i64 1)], none, none, []⟩,
 ⟨.mov, [.p 0], some 3, none, []⟩] false))))
def c_ashlarref3_To : RFunc := ⟨1, [0, 2, 3, 4],
(.seq (.region [⟨.mov, [.c (.slc true [])], some 1, none, []⟩] false)
(.seq (.region [⟨.mov, [.c (.slc true [])], some 2, none, []⟩] false)
(.seq (.seq (.region [⟨.mov, [.c (.int .i64 0)], some 3, none, []⟩] false)
(.block 0 l_ashlarref3_To_0))
(.seq (.region [⟨.mov, [.v 2], none, none, []⟩,
 ⟨.mov, [.p 0], some 1, none, []⟩] false)
.ret)))),
[.v 1]⟩
def l_ashlarref8_From_0 : RCode := (.loop [true, false, true, true] (.seq (.seq (.region [⟨.mov, [.v 3], none, none, []⟩,
 ⟨.mov, [.v 0], none, none, []⟩,
 ⟨.len false, [.p 0], none, none, []⟩,
 ⟨.bin .lss, [.p 2, .p 0], none, none, []⟩] false)
(.cond (.p 0) .skip (.exit 0)))
(.seq (.block 1 (.region [⟨.mov, [.v 2], none, none, []⟩,
 ⟨.mov, [.v 0], none, none, []⟩,
 ⟨.mov, [.v 3], none, none, []⟩,
 ⟨.iaddr 1, [.p 1, .p 0], none, none, []⟩,
 ⟨.load false 1, [.p 0], none, none, []⟩,
 ⟨.call false 9, [.p 0], none, none, []⟩,
 ⟨.bslice 1 (.slc true []) 1 [0], [.p 0], none, none, []⟩,
 ⟨.app 24 1, [.p 6, .p 0], none, none, []⟩,
 ⟨.mov, [.p 0], some 2, none, []⟩] false))
(.region [⟨.mov, [.v 3], none, none, []⟩,
 ⟨.bin .add, [.p 0, .c (.int .i64 1)], none, none, []⟩,
 ⟨.mov, [.p 0], some 3, none, []⟩] false))))
def c_ashlarref8_From : RFunc := ⟨1, [0, 2, 3, 4],
(.seq (.region [⟨.mov, [.c (.slc true [])], some 1, none, []⟩] false)
(.seq (.region [⟨.mov, [.c (.slc true [])], some 2, none, []⟩] false)
(.seq (.seq (.region [⟨.mov, [.c (.int .i64 0)], some 3, none, []⟩] false)
(.block 0 l_ashlarref8_From_0))
(.seq (.region [⟨.mov, [.v 2], none, none, []⟩,
 ⟨.call false 69, [.p 0], none, none, []⟩,
 ⟨.mov, [.p 0], some 1, none, []⟩] false)
.ret)))),
[.v 1]⟩
def l_ashlarref8_Trim_0 : RCode := (.loop [true, false, true] (.seq (.seq (.region [⟨.mov, [.v 2], none, none, []⟩,
 ⟨.bin .gtr, [.p 0, .c (.int .i64 0)], none, none, []⟩,
 ⟨.mov, [.p 0], none, none, []⟩,
 ⟨.mov, [.v 0], none, some (0, true), []⟩,
 ⟨.mov, [.v 2], none, some (1, true), []⟩,
 ⟨.bin .sub, [.p 0, .c (.int .i64 1)], none, some (2, true), []⟩,
 ⟨.iaddr 1, [.p 2, .p 0], none, some (3, true), []⟩,
 ⟨.load false 1, [.p 0], none, some (4, true), []⟩,
 ⟨.len false, [.p 0], none, some (5, true), []⟩,
 ⟨.bin .eql, [.p 0, .c (.int .i64 0)], none, some (6, true), []⟩,
 ⟨.pick, [.p 7, .p 0, .c (.bool false)], none, none, []⟩] false)
(.cond (.p 0) .skip (.exit 0)))
(.block 1 (.region [⟨.mov, [.v 2], none, none, []⟩,
 ⟨.bin .sub, [.p 0, .c (.int .i64 1)], none, none, []⟩,
 ⟨.mov, [.p 0], some 2, none, []⟩] false))))
def c_ashlarref8_Trim : RFunc := ⟨1, [0, 2, 3],
(.seq (.region [⟨.mov, [.c (.slc true [])], some 1, none, []⟩] false)
(.seq (.region [⟨.mov, [.v 0], none, none, []⟩,
 ⟨.len false, [.p 0], none, none, []⟩,
 ⟨.mov, [.p 0], some 2, none, []⟩] false)
(.seq (.block 0 l_ashlarref8_Trim_0)
(.seq (.region [⟨.mov, [.v 0], none, none, []⟩,
 ⟨.mov, [.v 2], none, none, []⟩,
 ⟨.mov, [.v 2], none, none, []⟩,
 ⟨.slice 1 false true true, [.p 2, .p 1, .p 0], none, none, []⟩,
 ⟨.mov, [.p 0], some 1, none, []⟩] false)
.ret)))),
[.v 1]⟩
def c_ashlarref8_Order : RFunc := ⟨1, [0, 2],
(.seq (.region [⟨.mov, [.c (.int .i64 0)], some 1, none, []⟩] false)
(.seq (.region [⟨.mov, [.v 0], none, none, []⟩,
 ⟨.len false, [.p 0], none, none, []⟩,
 ⟨.bin .sub, [.p 0, .c (.int .i64 1)], none, none, []⟩,
 ⟨.mov, [.p 0], some 1, none, []⟩] false)
.ret)),
[.v 1]⟩
def l_ashlarref8_Degree_0 : RCode := (.loop [true, false, true, true] (.seq (.seq (.region [⟨.mov, [.v 3], none, none, []⟩,
 ⟨.mov, [.v 0], none, none, []⟩,
 ⟨.len false, [.p 0], none, none, []⟩,
 ⟨.bin .lss, [.p 2, .p 0], none, none, []⟩] false)
(.cond (.p 0) .skip (.exit 0)))
(.seq (.block 1 (.seq (.region [⟨.mov, [.v 0], none, none, []⟩,
 ⟨.mov, [.v 3], none, none, []⟩,
 ⟨.iaddr 1, [.p 1, .p 0], none, none, []⟩,
 ⟨.load false 1, [.p 0], none, none, []⟩,
 ⟨.call false 79, [.p 0], none, none, []⟩,
 ⟨.mov, [.p 0], some 4, none, []⟩] false)
(.seq (.region [⟨.mov, [.v 4], none, none, []⟩,
 ⟨.mov, [.v 2], none, none, []⟩,
 ⟨.bin .gtr, [.p 1, .p 0], none, none, []⟩] false)
(.cond (.p 0) (.region [⟨.mov, [.v 4], none, none, []⟩,
 ⟨.mov, [.p 0], some 2, none, []⟩] false) .skip))))
(.region [⟨.mov, [.v 3], none, none, []⟩,
 ⟨.bin .add, [.p 0, .c (.int .i64 1)], none, none, []⟩,
 ⟨.mov, [.p 0], some 3, none, []⟩] false))))
def c_ashlarref8_Degree : RFunc := ⟨1, [0, 2, 3, 4, 5],
(.seq (.region [⟨.mov, [.c (.int .i64 0)], some 1, none, []⟩] false)
(.seq (.region [⟨.mov, [.c (.int .i64 (-1))], some 2, none, []⟩] false)
(.seq (.seq (.region [⟨.mov, [.c (.int .i64 0)], some 3, none, []⟩] false)
(.block 0 l_ashlarref8_Degree_0))
(.seq (.region [⟨.mov, [.v 2], none, none, []⟩,
 ⟨.mov, [.p 0], some 1, none, []⟩] false)
.ret)))),
[.v 1]⟩
def l_ashlarref8_Bits_0 : RCode := (.loop [true, false, true, true] (.seq (.seq (.region [⟨.mov, [.v 3], none, none, []⟩,
 ⟨.mov, [.v 0], none, none, []⟩,
 ⟨.len false, [.p 0], none, none, []⟩,
 ⟨.bin .lss, [.p 2, .p 0], none, none, []⟩] false)
(.cond (.p 0) .skip (.exit 0)))
(.seq (.block 1 (.seq (.region [⟨.mov, [.v 0], none, none, []⟩,
 ⟨.mov, [.v 3], none, none, []⟩,
 ⟨.iaddr 1, [.p 1, .p 0], none, none, []⟩,
 ⟨.load false 1, [.p 0], none, none, []⟩,
 ⟨.call false 80, [.p 0], none, none, []⟩,
 ⟨.mov, [.p 0], some 4, none, []⟩] false)
(.seq (.region [⟨.mov, [.v 4], none, none, []⟩,
 ⟨.mov, [.v 2], none, none, []⟩,
 ⟨.bin .gtr, [.p 1, .p 0], none, none, []⟩] false)
(.cond (.p 0) (.region [⟨.mov, [.v 4], none, none, []⟩,
 ⟨.mov, [.p 0], some 2, none, []⟩] false) .skip))))
(.region [⟨.mov, [.v 3], none, none, []⟩,
 ⟨.bin .add, [.p 0, .c (.int .i64 1)], none, none, []⟩,
 ⟨.mov, [.p 0], some 3, none, []⟩] false))))
def c_ashlarref8_Bits : RFunc := ⟨1, [0, 2, 3, 4, 5],
(.seq (.region [⟨.mov, [.c (.int .i64 0)], some 1, none, []⟩] false)
(.seq (.region [⟨.mov, [.c (.int .i64 0)], some 2, none, []⟩] false)
(.seq (.seq (.region [⟨.mov, [.c (.int .i64 0)], some 3, none, []⟩] false)
(.block 0 l_ashlarref8_Bits_0))
(.seq (.region [⟨.mov, [.v 2], none, none, []⟩,
 ⟨.mov, [.p 0], some 1, none, []⟩] false)
.ret)))),
[.v 1]⟩
def l_ashlarref8_To_0 : RCode := (.loop [true, false, true, true] (.seq (.seq (.region [⟨.mov, [.v 3], none, none, []⟩,
 ⟨.mov, [.v 0], none, none, []⟩,
 ⟨.len false, [.p 0], none, none, []⟩,
 ⟨.bin .lss, [.p 2, .p 0], none, none, []⟩] false)
(.cond (.p 0) .skip (.exit 0)))
(.seq (.block 1 (.region [⟨.mov, [.v 2], none, none, []⟩,
 ⟨.mov, [.v 0], none, none, []⟩,
 ⟨.mov, [.v 3], none, none, []⟩,
 ⟨.iaddr 1, [.p 1, .p 0], none, none, []⟩,
 ⟨.load false 1, [.p 0], none, none, []⟩,
 ⟨.call false 118, [.p 0], none, none, []⟩,
 ⟨.bslice 1 (.slc true []) 1 [0], [.p 0], none, none, []⟩,
 ⟨.app 24 1, [.p 6, .p 0], none, none, []⟩,
 ⟨.mov, [.p 0], some 2, none, []⟩] false))
(.region [⟨.mov, [.v 3], none, none, []⟩,
 ⟨.bin .add, [.p 0, .c (.int .i64 1)], none, none, []⟩,
 ⟨.mov, [.p 0], some 3, none, []⟩] false))))
def c_ashlarref8_To : RFunc := ⟨1, [0, 2, 3, 4],
(.seq (.region [⟨.mov, [.c (.slc true [])], some 1, none, []⟩] false)
(.seq (.region [⟨.mov, [.c (.slc true [])], some 2, none, []⟩] false)
(.seq (.seq (.region [⟨.mov, [.c (.int .i64 0)], some 3, none, []⟩] false)
(.block 0 l_ashlarref8_To_0))
(.seq (.region [⟨.mov, [.v 2], none, none, []⟩,
 ⟨.mov, [.p 0], some 1, none, []⟩] false)
.ret)))),
[.v 1]⟩
def l_ashlarref9_Times_0 : RCode := (.loop [true, false, true, true] (.seq (.seq (.region [⟨.mov, [.v 3], none, none, []⟩,
 ⟨.mov, [.v 0], none, none, []⟩,
 ⟨.len false, [.p 0], none, none, []⟩,
 ⟨.bin .lss, [.p 2, .p 0], none, none, []⟩] false)
(.cond (.p 0) .skip (.exit 0)))
(.seq (.block 1 (.seq (.region [⟨.mov, [.v 0], none, none, []⟩,
 ⟨.mov, [.v 3], none, none, []⟩,
 ⟨.iaddr 1, [.p 1, .p 0], none, none, []⟩,
 ⟨.load false 1, [.p 0], none, none, []⟩,
 ⟨.bin .gtr, [.p 0, .c (.int .i64 1)], none, none, []⟩] false)
(.cond (.p 0) (.region [⟨.mov, [.v 2], none, none, []⟩,
 ⟨.mov, [.v 0], none, none, []⟩,
 ⟨.mov, [.v 3], none, none, []⟩,
 ⟨.iaddr 1, [.p 1, .p 0], none, none, []⟩,
 ⟨.load false 1, [.p 0], none, none, []⟩,
 ⟨.call false 68, [.p 4, .p 0], none, none, []⟩,
 ⟨.mov, [.p 0], some 2, none, []⟩] false) .skip)))
(.region [⟨.mov, [.v 3], none, none, []⟩,
 ⟨.bin .add, [.p 0, .c (.int .i64 1)], none, none, []⟩,
 ⟨.mov, [.p 0], some 3, none, []⟩] false))))
def c_ashlarref9_Times : RFunc := ⟨1, [0, 2, 3, 4],
(.seq (.region [⟨.mov, [.c (.int .i64 0)], some 1, none, []⟩] false)
(.seq (.region [⟨.mov, [.c (.int .i64 1)], some 2, none, []⟩] false)
(.seq (.seq (.region [⟨.mov, [.c (.int .i64 0)], some 3, none, []⟩] false)
(.block 0 l_ashlarref9_Times_0))
(.seq (.region [⟨.mov, [.v 2], none, none, []⟩,
 ⟨.mov, [.p 0], some 1, none, []⟩] false)
.ret)))),
[.v 1]⟩
def c_ashlarref9_Size : RFunc := ⟨1, [0, 2, 3, 4],
(.seq (.region [⟨.mov, [.c (.int .i64 0)], some 1, none, []⟩,
 ⟨.mov, [.c (.int .i64 0)], some 2, none, []⟩,
 ⟨.mov, [.c (.int .i64 0)], some 3, none, []⟩] false)
(.seq (.seq (.region [⟨.mov, [.v 0], none, none, []⟩,
 ⟨.len false, [.p 0], none, none, []⟩,
 ⟨.bin .eql, [.p 0, .c (.int .i64 0)], none, none, []⟩] false)
(.cond (.p 0) (.seq (.region [⟨.mov, [.c (.int .i64 0)], some 1, none, []⟩,
 ⟨.mov, [.c (.int .i64 0)], some 2, none, []⟩,
 ⟨.mov, [.c (.int .i64 0)], some 3, none, []⟩] false)
.ret) .skip))
(.seq (.region [⟨.mov, [.v 0], none, none, []⟩,
 ⟨.call false 73, [.p 0], none, none, []⟩,
 ⟨.mov, [.v 0], none, none, []⟩,
 ⟨.call false 74, [.p 0], none, none, []⟩,
 ⟨.mov, [.v 0], none, none, []⟩,
 ⟨.call false 75, [.p 0], none, none, []⟩,
 ⟨.mov, [.p 4], some 1, none, []⟩,
 ⟨.mov, [.p 3], some 2, none, []⟩,
 ⟨.mov, [.p 2], some 3, none, []⟩] false)
.ret))),
[.v 1, .v 2, .v 3]⟩
def c_ashlarref9_Mul : RFunc := ⟨3, [0, 1, 2, 5, 6, 7, 8, 9, 10, 11, 12, 13],
(.seq (.region [⟨.box, [.v 2], some 3, none, []⟩,
 ⟨.mov, [.c (.int .i64 0)], some 4, none, []⟩] false)
(.seq (.region [⟨.mov, [.v 0], none, none, []⟩,
 ⟨.call false 12, [.p 0], none, none, []⟩,
 ⟨.mov, [.p 0], none, none, []⟩,
 ⟨.extract 0, [.p 0], none, none, []⟩,
 ⟨.extract 1, [.p 1], none, none, []⟩,
 ⟨.extract 2, [.p 2], none, none, []⟩,
 ⟨.mov, [.p 2], some 5, none, []⟩,
 ⟨.mov, [.p 2], some 6, none, []⟩,
 ⟨.mov, [.p 2], some 7, none, []⟩] false)
(.seq (.region [⟨.mov, [.v 1], none, none, []⟩,
 ⟨.call false 12, [.p 0], none, none, []⟩,
 ⟨.mov, [.p 0], none, none, []⟩,
 ⟨.extract 0, [.p 0], none, none, []⟩,
 ⟨.extract 1, [.p 1], none, none, []⟩,
 ⟨.extract 2, [.p 2], none, none, []⟩,
 ⟨.mov, [.p 2], some 8, none, []⟩,
 ⟨.mov, [.p 2], some 9, none, []⟩,
 ⟨.mov, [.p 2], some 10, none, []⟩] false)
(.seq (.region [⟨.load true 2, [.v 3], none, none, []⟩,
 ⟨.call false 54, [.p 0], none, none, []⟩,
 ⟨.mov, [.p 0], some 11, none, []⟩] false)
(.seq (.region [⟨.mov, [.v 5], none, none, []⟩,
 ⟨.bin .add, [.p 0, .c (.int .i64 1)], none, none, []⟩,
 ⟨.mov, [.v 8], none, none, []⟩,
 ⟨.bin .add, [.p 0, .c (.int .i64 1)], none, none, []⟩,
 ⟨.mov, [.v 6], none, none, []⟩,
 ⟨.mov, [.v 9], none, none, []⟩,
 ⟨.bin .add, [.p 1, .p 0], none, none, []⟩,
 ⟨.bin .add, [.p 0, .c (.int .i64 2)], none, none, []⟩,
 ⟨.mov, [.v 7], none, none, []⟩,
 ⟨.mov, [.v 10], none, none, []⟩,
 ⟨.mov, [.v 5], none, none, []⟩,
 ⟨.bin .add, [.p 0, .c (.int .i64 1)], none, none, []⟩,
 ⟨.mov, [.v 9], none, none, []⟩,
 ⟨.bin .add, [.p 0, .c (.int .i64 1)], none, none, []⟩,
 ⟨.call false 68, [.p 2, .p 0], none, none, []⟩,
 ⟨.mov, [.v 5], none, none, []⟩,
 ⟨.mov, [.v 9], none, none, []⟩,
 ⟨.bin .add, [.p 0, .c (.int .i64 1)], none, none, []⟩,
 ⟨.call false 68, [.p 2, .p 0], none, none, []⟩,
 ⟨.mov, [.v 11], none, none, []⟩,
 ⟨.call false 68, [.p 1, .p 0], none, none, []⟩,
 ⟨.bslice 1 (.int .i64 0) 5 [0, 1, 2, 3, 4], [.p 12, .p 11, .p 6, .p 0, .c (.int .i64 8)], none, none, []⟩,
 ⟨.call false 77, [.p 0], none, none, []⟩,
 ⟨.bslice 1 (.int .i64 0) 4 [0, 1, 2, 3], [.p 21, .p 19, .p 15, .p 0], none, none, []⟩,
 ⟨.call false 4, [.p 0], none, none, []⟩,
 ⟨.mov, [.p 0], some 4, none, []⟩] false)
.ret))))),
[.v 4]⟩
def c_ashlarref9_Apply : RFunc := ⟨3, [0, 1, 2, 5, 6, 7, 8, 9, 10, 11],
(.seq (.region [⟨.box, [.v 2], some 3, none, []⟩,
 ⟨.mov, [.c (.int .i64 0)], some 4, none, []⟩] false)
(.seq (.region [⟨.mov, [.v 0], none, none, []⟩,
 ⟨.call false 12, [.p 0], none, none, []⟩,
 ⟨.mov, [.p 0], none, none, []⟩,
 ⟨.extract 0, [.p 0], none, none, []⟩,
 ⟨.extract 1, [.p 1], none, none, []⟩,
 ⟨.extract 2, [.p 2], none, none, []⟩,
 ⟨.mov, [.p 2], some 5, none, []⟩,
 ⟨.mov, [.p 2], some 6, none, []⟩,
 ⟨.mov, [.p 2], some 7, none, []⟩] false)
(.seq (.region [⟨.load true 2, [.v 3], none, none, []⟩,
 ⟨.call false 54, [.p 0], none, none, []⟩,
 ⟨.mov, [.p 0], some 8, none, []⟩] false)
(.seq (.region [⟨.mov, [.v 1], none, none, []⟩,
 ⟨.call false 79, [.p 0], none, none, []⟩,
 ⟨.mov, [.p 0], some 9, none, []⟩] false)
(.seq (.region [⟨.mov, [.v 5], none, none, []⟩,
 ⟨.bin .add, [.p 0, .c (.int .i64 1)], none, none, []⟩,
 ⟨.mov, [.v 6], none, none, []⟩,
 ⟨.mov, [.v 9], none, none, []⟩,
 ⟨.bin .add, [.p 1, .p 0], none, none, []⟩,
 ⟨.bin .add, [.p 0, .c (.int .i64 3)], none, none, []⟩,
 ⟨.mov, [.v 7], none, none, []⟩,
 ⟨.mov, [.v 1], none, none, []⟩,
 ⟨.call false 80, [.p 0], none, none, []⟩,
 ⟨.mov, [.v 5], none, none, []⟩,
 ⟨.bin .add, [.p 0, .c (.int .i64 1)], none, none, []⟩,
 ⟨.mov, [.v 9], none, none, []⟩,
 ⟨.bin .add, [.p 0, .c (.int .i64 2)], none, none, []⟩,
 ⟨.call false 68, [.p 2, .p 0], none, none, []⟩,
 ⟨.mov, [.v 8], none, none, []⟩,
 ⟨.bin .add, [.p 0, .c (.int .i64 8)], none, none, []⟩,
 ⟨.call false 68, [.p 2, .p 0], none, none, []⟩,
 ⟨.bslice 1 (.int .i64 0) 3 [0, 1, 2], [.p 10, .p 8, .p 0], none, none, []⟩,
 ⟨.call false 77, [.p 0], none, none, []⟩,
 ⟨.bslice 1 (.int .i64 0) 3 [0, 1, 2], [.p 17, .p 13, .p 0], none, none, []⟩,
 ⟨.call false 4, [.p 0], none, none, []⟩,
 ⟨.mov, [.p 0], some 4, none, []⟩] false)
.ret))))),
[.v 4]⟩
def c_ashlarref9_Divide : RFunc := ⟨3, [0, 1, 2, 5, 6, 7, 8, 9, 10, 11, 12, 13],
(.seq (.region [⟨.box, [.v 2], some 3, none, []⟩,
 ⟨.mov, [.c (.int .i64 0)], some 4, none, []⟩] false)
(.seq (.region [⟨.mov, [.v 0], none, none, []⟩,
 ⟨.call false 12, [.p 0], none, none, []⟩,
 ⟨.mov, [.p 0], none, none, []⟩,
 ⟨.extract 0, [.p 0], none, none, []⟩,
 ⟨.extract 1, [.p 1], none, none, []⟩,
 ⟨.extract 2, [.p 2], none, none, []⟩,
 ⟨.mov, [.p 2], some 5, none, []⟩,
 ⟨.mov, [.p 2], some 6, none, []⟩,
 ⟨.mov, [.p 2], some 7, none, []⟩] false)
(.seq (.region [⟨.mov, [.v 1], none, none, []⟩,
 ⟨.call false 12, [.p 0], none, none, []⟩,
 ⟨.mov, [.p 0], none, none, []⟩,
 ⟨.extract 0, [.p 0], none, none, []⟩,
 ⟨.extract 1, [.p 1], none, none, []⟩,
 ⟨.extract 2, [.p 2], none, none, []⟩,
 ⟨.mov, [.p 2], some 8, none, []⟩,
 ⟨.mov, [.p 2], some 9, none, []⟩,
 ⟨.mov, [.p 2], some 10, none, []⟩] false)
(.seq (.region [⟨.load true 2, [.v 3], none, none, []⟩,
 ⟨.call false 54, [.p 0], none, none, []⟩,
 ⟨.mov, [.p 0], some 11, none, []⟩] false)
(.seq (.region [⟨.mov, [.v 5], none, none, []⟩,
 ⟨.bin .add, [.p 0, .c (.int .i64 1)], none, none, []⟩,
 ⟨.mov, [.v 8], none, none, []⟩,
 ⟨.bin .add, [.p 0, .c (.int .i64 1)], none, none, []⟩,
 ⟨.mov, [.v 5], none, none, []⟩,
 ⟨.mov, [.v 8], none, none, []⟩,
 ⟨.bin .add, [.p 1, .p 0], none, none, []⟩,
 ⟨.bin .add, [.p 0, .c (.int .i64 2)], none, none, []⟩,
 ⟨.mov, [.v 6], none, none, []⟩,
 ⟨.mov, [.v 9], none, none, []⟩,
 ⟨.bin .add, [.p 1, .p 0], none, none, []⟩,
 ⟨.bin .add, [.p 0, .c (.int .i64 2)], none, none, []⟩,
 ⟨.mov, [.v 7], none, none, []⟩,
 ⟨.mov, [.v 10], none, none, []⟩,
 ⟨.mov, [.v 5], none, none, []⟩,
 ⟨.bin .add, [.p 0, .c (.int .i64 1)], none, none, []⟩,
 ⟨.mov, [.v 11], none, none, []⟩,
 ⟨.bin .add, [.p 0, .c (.int .i64 2)], none, none, []⟩,
 ⟨.call false 68, [.p 2, .p 0], none, none, []⟩,
 ⟨.bslice 1 (.int .i64 0) 4 [0, 1, 2, 3], [.p 6, .p 5, .p 0, .c (.int .i64 8)], none, none, []⟩,
 ⟨.call false 77, [.p 0], none, none, []⟩,
 ⟨.bslice 1 (.int .i64 0) 5 [0, 1, 2, 3, 4], [.p 19, .p 17, .p 13, .p 9, .p 0], none, none, []⟩,
 ⟨.call false 4, [.p 0], none, none, []⟩,
 ⟨.mov, [.p 0], some 4, none, []⟩] false)
.ret))))),
[.v 4]⟩
def c_ashlarref9_Common : RFunc := ⟨3, [0, 1, 2, 5, 6, 7, 8, 9, 10, 11, 12, 13, 14],
(.seq (.region [⟨.box, [.v 2], some 3, none, []⟩,
 ⟨.mov, [.c (.int .i64 0)], some 4, none, []⟩] false)
(.seq (.region [⟨.mov, [.v 0], none, none, []⟩,
 ⟨.call false 12, [.p 0], none, none, []⟩,
 ⟨.mov, [.p 0], none, none, []⟩,
 ⟨.extract 0, [.p 0], none, none, []⟩,
 ⟨.extract 1, [.p 1], none, none, []⟩,
 ⟨.extract 2, [.p 2], none, none, []⟩,
 ⟨.mov, [.p 2], some 5, none, []⟩,
 ⟨.mov, [.p 2], some 6, none, []⟩,
 ⟨.mov, [.p 2], some 7, none, []⟩] false)
(.seq (.region [⟨.mov, [.v 1], none, none, []⟩,
 ⟨.call false 12, [.p 0], none, none, []⟩,
 ⟨.mov, [.p 0], none, none, []⟩,
 ⟨.extract 0, [.p 0], none, none, []⟩,
 ⟨.extract 1, [.p 1], none, none, []⟩,
 ⟨.extract 2, [.p 2], none, none, []⟩,
 ⟨.mov, [.p 2], some 8, none, []⟩,
 ⟨.mov, [.p 2], some 9, none, []⟩,
 ⟨.mov, [.p 2], some 10, none, []⟩] false)
(.seq (.region [⟨.load true 2, [.v 3], none, none, []⟩,
 ⟨.call false 54, [.p 0], none, none, []⟩,
 ⟨.mov, [.p 0], some 11, none, []⟩] false)
(.seq (.region [⟨.mov, [.v 5], none, none, []⟩,
 ⟨.mov, [.v 8], none, none, []⟩,
 ⟨.bin .add, [.p 1, .p 0], none, none, []⟩,
 ⟨.bin .add, [.p 0, .c (.int .i64 2)], none, none, []⟩,
 ⟨.mov, [.p 0], some 12, none, []⟩] false)
(.seq (.region [⟨.mov, [.v 12], none, none, []⟩,
 ⟨.mov, [.v 12], none, none, []⟩,
 ⟨.mov, [.v 12], none, none, []⟩,
 ⟨.mov, [.v 12], none, none, []⟩,
 ⟨.mov, [.v 6], none, none, []⟩,
 ⟨.mov, [.v 9], none, none, []⟩,
 ⟨.bin .add, [.p 1, .p 0], none, none, []⟩,
 ⟨.call false 68, [.p 3, .p 0], none, none, []⟩,
 ⟨.call false 83, [.p 0, .c (.int .i64 2)], none, none, []⟩,
 ⟨.mov, [.v 7], none, none, []⟩,
 ⟨.mov, [.v 10], none, none, []⟩,
 ⟨.mov, [.v 5], none, none, []⟩,
 ⟨.mov, [.v 8], none, none, []⟩,
 ⟨.bin .add, [.p 1, .p 0], none, none, []⟩,
 ⟨.bin .add, [.p 0, .c (.int .i64 1)], none, none, []⟩,
 ⟨.mov, [.v 11], none, none, []⟩,
 ⟨.bin .add, [.p 0, .c (.int .i64 2)], none, none, []⟩,
 ⟨.call false 68, [.p 2, .p 0], none, none, []⟩,
 ⟨.bslice 1 (.int .i64 0) 4 [0, 1, 2, 3], [.p 8, .p 7, .p 0, .c (.int .i64 8)], none, none, []⟩,
 ⟨.call false 77, [.p 0], none, none, []⟩,
 ⟨.bslice 1 (.int .i64 0) 5 [0, 1, 2, 3, 4], [.p 19, .p 18, .p 17, .p 11, .p 0], none, none, []⟩,
 ⟨.call false 4, [.p 0], none, none, []⟩,
 ⟨.mov, [.p 0], some 4, none, []⟩] false)
.ret)))))),
[.v 4]⟩
def c_ashlarref9_By : RFunc := ⟨2, [0, 1, 4],
(.seq (.region [⟨.mov, [.c (.int .i64 0)], some 2, none, []⟩] false)
(.seq (.seq (.region [⟨.mov, [.v 0], none, none, []⟩,
 ⟨.bin .gtr, [.p 0, .c (.int .i64 4611686018427387904)], none, none, []⟩] false)
(.cond (.p 0) (.region [⟨.mov, [.c (.int .i64 4611686018427387904)], some 0, none, []⟩] false) .skip))
(.seq (.seq (.region [⟨.mov, [.v 0], none, none, []⟩,
 ⟨.bin .neq, [.p 0, .c (.int .i64 0)], none, none, []⟩,
 ⟨.mov, [.p 0], none, none, []⟩,
 ⟨.mov, [.v 1], none, some (0, true), []⟩,
 ⟨.mov, [.v 0], none, some (1, true), []⟩,
 ⟨.bin .quo, [.c (.int .i64 4611686018427387904), .p 0], none, some (2, true), []⟩,
 ⟨.bin .gtr, [.p 2, .p 0], none, some (3, true), []⟩,
 ⟨.pick, [.p 4, .p 0, .c (.bool false)], none, none, []⟩] false)
(.cond (.p 0) (.seq (.region [⟨.mov, [.c (.int .i64 4611686018427387904)], some 2, none, []⟩] false)
.ret) .skip))
(.seq (.region [⟨.mov, [.v 0], none, none, []⟩,
 ⟨.mov, [.v 1], none, none, []⟩,
 ⟨.bin .mul, [.p 1, .p 0], none, none, []⟩,
 ⟨.mov, [.p 0], some 2, none, []⟩] false)
.ret)))),
[.v 2]⟩
def l_ashlarref9_Sum_0 : RCode := (.loop [true, false, true, true] (.seq (.seq (.region [⟨.mov, [.v 3], none, none, []⟩,
 ⟨.mov, [.v 0], none, none, []⟩,
 ⟨.len false, [.p 0], none, none, []⟩,
 ⟨.bin .lss, [.p 2, .p 0], none, none, []⟩] false)
(.cond (.p 0) .skip (.exit 0)))
(.seq (.block 1 (.region [⟨.mov, [.v 2], none, none, []⟩,
 ⟨.mov, [.v 0], none, none, []⟩,
 ⟨.mov, [.v 3], none, none, []⟩,
 ⟨.iaddr 1, [.p 1, .p 0], none, none, []⟩,
 ⟨.load false 1, [.p 0], none, none, []⟩,
 ⟨.call false 83, [.p 4, .p 0], none, none, []⟩,
 ⟨.mov, [.p 0], some 2, none, []⟩] false))
(.region [⟨.mov, [.v 3], none, none, []⟩,
 ⟨.bin .add, [.p 0, .c (.int .i64 1)], none, none, []⟩,
 ⟨.mov, [.p 0], some 3, none, []⟩] false))))
def c_ashlarref9_Sum : RFunc := ⟨1, [0, 2, 3, 4],
(.seq (.region [⟨.mov, [.c (.int .i64 0)], some 1, none, []⟩] false)
(.seq (.region [⟨.mov, [.c (.int .i64 0)], some 2, none, []⟩] false)
(.seq (.seq (.region [⟨.mov, [.c (.int .i64 0)], some 3, none, []⟩] false)
(.block 0 l_ashlarref9_Sum_0))
(.seq (.region [⟨.mov, [.v 2], none, none, []⟩,
 ⟨.mov, [.p 0], some 1, none, []⟩] false)
.ret)))),
[.v 1]⟩
def c_ashlarref9_Plus : RFunc := ⟨2, [0, 1, 4],
(.seq (.region [⟨.mov, [.c (.int .i64 0)], some 2, none, []⟩] false)
(.seq (.seq (.region [⟨.mov, [.v 0], none, none, []⟩,
 ⟨.mov, [.v 1], none, none, []⟩,
 ⟨.bin .sub, [.c (.int .i64 4611686018427387904), .p 0], none, none, []⟩,
 ⟨.bin .gtr, [.p 2, .p 0], none, none, []⟩] false)
(.cond (.p 0) (.seq (.region [⟨.mov, [.c (.int .i64 4611686018427387904)], some 2, none, []⟩] false)
.ret) .skip))
(.seq (.region [⟨.mov, [.v 0], none, none, []⟩,
 ⟨.mov, [.v 1], none, none, []⟩,
 ⟨.bin .add, [.p 1, .p 0], none, none, []⟩,
 ⟨.mov, [.p 0], some 2, none, []⟩] false)
.ret))),
[.v 2]⟩
def l_ashlarlaw9_GaugeTimes_0 : RCode := (.loop [true, false, true, true, true] (.seq (.seq (.region [⟨.mov, [.v 4], none, none, []⟩,
 ⟨.bin .geq, [.p 0, .c (.int .i64 0)], none, none, []⟩] false)
(.cond (.p 0) .skip (.exit 0)))
(.seq (.block 1 (.region [⟨.mov, [.v 3], none, none, []⟩,
 ⟨.mov, [.v 0], none, none, []⟩,
 ⟨.mov, [.v 4], none, none, []⟩,
 ⟨.iaddr 1, [.p 1, .p 0], none, none, []⟩,
 ⟨.load false 1, [.p 0], none, none, []⟩,
 ⟨.bslice 1 (.int .i64 0) 1 [0], [.p 0], none, none, []⟩,
 ⟨.app 8 1, [.p 5, .p 0], none, none, []⟩,
 ⟨.mov, [.p 0], some 3, none, []⟩] false))
(.region [⟨.mov, [.v 4], none, none, []⟩,
 ⟨.bin .sub, [.p 0, .c (.int .i64 1)], none, none, []⟩,
 ⟨.mov, [.p 0], some 4, none, []⟩] false))))
def c_ashlarlaw9_GaugeTimes : RFunc := ⟨1, [0, 2, 3, 4, 5, 6],
(.seq (.region [⟨.mov, [.c (.bool false)], some 1, none, []⟩] false)
(.seq (.region [⟨.call false 2, [], none, none, []⟩,
 ⟨.mov, [.p 0], some 2, none, []⟩] false)
(.seq (.seq (.region [⟨.mov, [.v 0], none, none, []⟩,
 ⟨.len false, [.p 0], none, none, []⟩,
 ⟨.bin .gtr, [.p 0, .c (.int .i64 50)], none, none, []⟩] false)
(.cond (.p 0) (.region [⟨.mov, [.v 0], none, none, []⟩,
 ⟨.slice 1 false true false, [.p 0, .c (.int .i64 50)], none, none, []⟩,
 ⟨.mov, [.p 0], some 0, none, []⟩] false) .skip))
(.seq (.region [⟨.mov, [.c (.slc true [])], some 3, none, []⟩] false)
(.seq (.seq (.region [⟨.mov, [.v 0], none, none, []⟩,
 ⟨.len false, [.p 0], none, none, []⟩,
 ⟨.bin .sub, [.p 0, .c (.int .i64 1)], none, none, []⟩,
 ⟨.mov, [.p 0], some 4, none, []⟩] false)
(.block 0 l_ashlarlaw9_GaugeTimes_0))
(.seq (.region [⟨.mov, [.v 0], none, none, []⟩,
 ⟨.call false 3, [.p 0], none, none, []⟩,
 ⟨.mov, [.p 0], some 5, none, []⟩] false)
(.seq (.region [⟨.mov, [.v 2], none, none, []⟩,
 ⟨.mov, [.p 0], none, none, []⟩,
 ⟨.mov, [.v 5], none, some (0, true), []⟩,
 ⟨.mov, [.v 0], none, some (1, true), []⟩,
 ⟨.call false 4, [.p 0], none, some (2, true), []⟩,
 ⟨.bin .eql, [.p 2, .p 0], none, some (3, true), []⟩,
 ⟨.pick, [.p 4, .p 0, .c (.bool false)], none, none, []⟩,
 ⟨.mov, [.p 0], none, none, []⟩,
 ⟨.mov, [.v 3], none, some (0, true), []⟩,
 ⟨.call false 3, [.p 0], none, some (1, true), []⟩,
 ⟨.mov, [.v 5], none, some (2, true), []⟩,
 ⟨.bin .eql, [.p 1, .p 0], none, some (3, true), []⟩,
 ⟨.pick, [.p 4, .p 0, .c (.bool false)], none, none, []⟩,
 ⟨.mov, [.p 0], none, none, []⟩,
 ⟨.mov, [.v 5], none, some (0, true), []⟩,
 ⟨.bin .geq, [.p 0, .c (.int .i64 1)], none, some (1, true), []⟩,
 ⟨.pick, [.p 2, .p 0, .c (.bool false)], none, none, []⟩,
 ⟨.mov, [.p 0], none, none, []⟩,
 ⟨.mov, [.v 5], none, some (0, true), []⟩,
 ⟨.bin .leq, [.p 0, .c (.int .i64 4611686018427387904)], none, some (1, true), []⟩,
 ⟨.pick, [.p 2, .p 0, .c (.bool false)], none, none, []⟩,
 ⟨.mov, [.p 0], some 1, none, []⟩] false)
.ret))))))),
[.v 1]⟩
def c_ashlarlaw9_GaugeOps : RFunc := ⟨4, [0, 1, 2, 3, 7, 8, 9, 10, 11, 12, 13, 14, 15, 16, 17],
(.seq (.region [⟨.box, [.v 3], some 4, none, []⟩,
 ⟨.mov, [.c (.bool false)], some 5, none, []⟩] false)
(.seq (.region [⟨.call false 2, [], none, none, []⟩,
 ⟨.mov, [.p 0], some 6, none, []⟩] false)
(.seq (.region [⟨.mov, [.v 0], none, none, []⟩,
 ⟨.call false 6, [.p 0, .c (.int .i64 8), .c (.int .i64 8), .c (.int .i64 4)], none, none, []⟩,
 ⟨.mov, [.v 1], none, none, []⟩,
 ⟨.call false 6, [.p 0, .c (.int .i64 8), .c (.int .i64 8), .c (.int .i64 4)], none, none, []⟩,
 ⟨.mov, [.v 2], none, none, []⟩,
 ⟨.call false 7, [.p 0, .c (.int .i64 9), .c (.int .i64 4)], none, none, []⟩,
 ⟨.load true 2, [.v 4], none, none, []⟩,
 ⟨.bslice 2 (.agg [.bool false, .slc true []]) 1 [0], [.p 0], none, none, []⟩,
 ⟨.call false 7, [.p 0, .c (.int .i64 1), .c (.int .i64 4)], none, none, []⟩,
 ⟨.iaddr 2, [.p 0, .c (.int .i64 0)], none, none, []⟩,
 ⟨.load true 2, [.p 0], none, none, []⟩,
 ⟨.mov, [.p 9], some 0, none, []⟩,
 ⟨.mov, [.p 8], some 1, none, []⟩,
 ⟨.mov, [.p 7], some 2, none, []⟩,
 ⟨.store 2, [.v 4, .p 3], none, none, []⟩] true)
(.seq (.region [⟨.mov, [.v 0], none, none, []⟩,
 ⟨.call false 8, [.p 0], none, none, []⟩,
 ⟨.mov, [.v 1], none, none, []⟩,
 ⟨.call false 8, [.p 0], none, none, []⟩,
 ⟨.mov, [.v 2], none, none, []⟩,
 ⟨.call false 9, [.p 0], none, none, []⟩,
 ⟨.load true 2, [.v 4], none, none, []⟩,
 ⟨.call false 10, [.p 0], none, none, []⟩,
 ⟨.alloc (.agg [.bool false, .slc true []]), [], some 10, none, []⟩,
 ⟨.mov, [.p 7], some 7, none, []⟩,
 ⟨.mov, [.p 6], some 8, none, []⟩,
 ⟨.mov, [.p 5], some 9, none, []⟩,
 ⟨.store 2, [.v 10, .p 4], none, none, []⟩] true)
(.seq (.region [⟨.mov, [.v 0], none, none, []⟩,
 ⟨.call false 11, [.p 0], none, none, []⟩,
 ⟨.alloc (.agg [.int .i64 0, .int .i64 0, .int .i64 0]), [], some 11, none, []⟩,
 ⟨.store 3, [.v 11, .p 1], none, none, []⟩] false)
(.seq (.region [⟨.mov, [.v 7], none, none, []⟩,
 ⟨.call false 12, [.p 0], none, none, []⟩,
 ⟨.mov, [.p 0], none, none, []⟩,
 ⟨.extract 0, [.p 0], none, none, []⟩,
 ⟨.extract 1, [.p 1], none, none, []⟩,
 ⟨.extract 2, [.p 2], none, none, []⟩,
 ⟨.mov, [.p 2], some 12, none, []⟩,
 ⟨.mov, [.p 2], some 13, none, []⟩,
 ⟨.mov, [.p 2], some 14, none, []⟩] false)
(.seq (.region [⟨.mov, [.v 6], none, none, []⟩,
 ⟨.mov, [.p 0], none, none, []⟩,
 ⟨.faddr 0, [.v 11], none, some (0, true), []⟩,
 ⟨.load false 1, [.p 0], none, some (1, true), []⟩,
 ⟨.mov, [.v 12], none, some (2, true), []⟩,
 ⟨.bin .eql, [.p 1, .p 0], none, some (3, true), []⟩,
 ⟨.pick, [.p 4, .p 0, .c (.bool false)], none, none, []⟩,
 ⟨.mov, [.p 0], none, none, []⟩,
 ⟨.faddr 1, [.v 11], none, some (0, true), []⟩,
 ⟨.load false 1, [.p 0], none, some (1, true), []⟩,
 ⟨.mov, [.v 13], none, some (2, true), []⟩,
 ⟨.bin .eql, [.p 1, .p 0], none, some (3, true), []⟩,
 ⟨.pick, [.p 4, .p 0, .c (.bool false)], none, none, []⟩,
 ⟨.mov, [.p 0], none, none, []⟩,
 ⟨.faddr 2, [.v 11], none, some (0, true), []⟩,
 ⟨.load false 1, [.p 0], none, some (1, true), []⟩,
 ⟨.mov, [.v 14], none, some (2, true), []⟩,
 ⟨.bin .eql, [.p 1, .p 0], none, some (3, true), []⟩,
 ⟨.pick, [.p 4, .p 0, .c (.bool false)], none, none, []⟩,
 ⟨.mov, [.p 0], none, none, []⟩,
 ⟨.mov, [.v 0], none, some (0, true), []⟩,
 ⟨.mov, [.v 1], none, some (1, true), []⟩,
 ⟨.load true 2, [.v 4], none, some (2, true), []⟩,
 ⟨.call false 13, [.p 2, .p 1, .p 0], none, some (3, true), []⟩,
 ⟨.mov, [.v 7], none, some (4, true), []⟩,
 ⟨.mov, [.v 8], none, some (5, true), []⟩,
 ⟨.load true 2, [.v 10], none, some (6, true), []⟩,
 ⟨.call false 14, [.p 2, .p 1, .p 0], none, some (7, true), []⟩,
 ⟨.bin .eql, [.p 4, .p 0], none, some (8, true), []⟩,
 ⟨.pick, [.p 9, .p 0, .c (.bool false)], none, none, []⟩,
 ⟨.mov, [.p 0], none, none, []⟩,
 ⟨.mov, [.v 0], none, some (0, true), []⟩,
 ⟨.mov, [.v 2], none, some (1, true), []⟩,
 ⟨.load true 2, [.v 4], none, some (2, true), []⟩,
 ⟨.call false 15, [.p 2, .p 1, .p 0], none, some (3, true), []⟩,
 ⟨.mov, [.v 7], none, some (4, true), []⟩,
 ⟨.mov, [.v 9], none, some (5, true), []⟩,
 ⟨.load true 2, [.v 10], none, some (6, true), []⟩,
 ⟨.call false 16, [.p 2, .p 1, .p 0], none, some (7, true), []⟩,
 ⟨.bin .eql, [.p 4, .p 0], none, some (8, true), []⟩,
 ⟨.pick, [.p 9, .p 0, .c (.bool false)], none, none, []⟩,
 ⟨.mov, [.p 0], none, none, []⟩,
 ⟨.mov, [.v 0], none, some (0, true), []⟩,
 ⟨.mov, [.v 1], none, some (1, true), []⟩,
 ⟨.load true 2, [.v 4], none, some (2, true), []⟩,
 ⟨.call false 17, [.p 2, .p 1, .p 0], none, some (3, true), []⟩,
 ⟨.mov, [.v 7], none, some (4, true), []⟩,
 ⟨.mov, [.v 8], none, some (5, true), []⟩,
 ⟨.load true 2, [.v 10], none, some (6, true), []⟩,
 ⟨.call false 18, [.p 2, .p 1, .p 0], none, some (7, true), []⟩,
 ⟨.bin .eql, [.p 4, .p 0], none, some (8, true), []⟩,
 ⟨.pick, [.p 9, .p 0, .c (.bool false)], none, none, []⟩,
 ⟨.mov, [.p 0], none, none, []⟩,
 ⟨.mov, [.v 0], none, some (0, true), []⟩,
 ⟨.mov, [.v 1], none, some (1, true), []⟩,
 ⟨.load true 2, [.v 4], none, some (2, true), []⟩,
 ⟨.call false 19, [.p 2, .p 1, .p 0], none, some (3, true), []⟩,
 ⟨.mov, [.v 7], none, some (4, true), []⟩,
 ⟨.mov, [.v 8], none, some (5, true), []⟩,
 ⟨.load true 2, [.v 10], none, some (6, true), []⟩,
 ⟨.call false 20, [.p 2, .p 1, .p 0], none, some (7, true), []⟩,
 ⟨.bin .eql, [.p 4, .p 0], none, some (8, true), []⟩,
 ⟨.pick, [.p 9, .p 0, .c (.bool false)], none, none, []⟩,
 ⟨.mov, [.p 0], some 5, none, []⟩] true)
.ret))))))),
[.v 5]⟩
def c_ashlarlaw9_begun : RFunc := ⟨0, [0, 1, 2, 3],
(.seq (.region [⟨.mov, [.c (.bool false)], some 0, none, []⟩] false)
(.seq (.region [⟨.bslice 1 (.int .i64 0) 1 [0], [.c (.int .i64 1)], none, none, []⟩,
 ⟨.call false 64, [.p 0], none, none, []⟩,
 ⟨.bslice 1 (.slc true []) 2 [0, 1], [.c (.slc true []), .p 0], none, none, []⟩,
 ⟨.call false 65, [.p 0], none, none, []⟩,
 ⟨.mov, [.p 0], some 1, none, []⟩] false)
(.seq (.region [⟨.bslice 1 (.int .i64 0) 2 [0, 1], [.c (.int .i64 1), .c (.int .i64 1)], none, none, []⟩,
 ⟨.call false 64, [.p 0], none, none, []⟩,
 ⟨.bslice 1 (.slc true []) 1 [0], [.p 0], none, none, []⟩,
 ⟨.call false 65, [.p 0], none, none, []⟩,
 ⟨.mov, [.p 0], some 2, none, []⟩] false)
(.seq (.region [⟨.mov, [.v 1], none, none, []⟩,
 ⟨.call false 11, [.p 0], none, none, []⟩,
 ⟨.alloc (.agg [.int .i64 0, .int .i64 0, .int .i64 0]), [], some 3, none, []⟩,
 ⟨.store 3, [.v 3, .p 1], none, none, []⟩] false)
(.seq (.region [⟨.mov, [.v 1], none, none, []⟩,
 ⟨.mov, [.v 2], none, none, []⟩,
 ⟨.build [.bool false, .slc true []] [], [], none, none, []⟩,
 ⟨.call false 13, [.p 2, .p 1, .p 0], none, none, []⟩,
 ⟨.bin .eql, [.p 0, .c (.int .i64 84)], none, none, []⟩,
 ⟨.mov, [.p 0], none, none, []⟩,
 ⟨.call false 3, [.c (.slc true [])], none, some (0, true), []⟩,
 ⟨.bin .eql, [.p 0, .c (.int .i64 1)], none, some (1, true), []⟩,
 ⟨.pick, [.p 2, .p 0, .c (.bool false)], none, none, []⟩,
 ⟨.mov, [.p 0], none, none, []⟩,
 ⟨.bslice 1 (.int .i64 0) 2 [0, 1], [.c (.int .i64 0), .c (.int .i64 5)], none, some (0, true), []⟩,
 ⟨.call false 3, [.p 0], none, some (1, true), []⟩,
 ⟨.bin .eql, [.p 0, .c (.int .i64 5)], none, some (2, true), []⟩,
 ⟨.pick, [.p 3, .p 0, .c (.bool false)], none, none, []⟩,
 ⟨.mov, [.p 0], none, none, []⟩,
 ⟨.faddr 0, [.v 3], none, some (0, true), []⟩,
 ⟨.load false 1, [.p 0], none, some (1, true), []⟩,
 ⟨.bin .eql, [.p 0, .c (.int .i64 1)], none, some (2, true), []⟩,
 ⟨.pick, [.p 3, .p 0, .c (.bool false)], none, none, []⟩,
 ⟨.mov, [.p 0], none, none, []⟩,
 ⟨.faddr 1, [.v 3], none, some (0, true), []⟩,
 ⟨.load false 1, [.p 0], none, some (1, true), []⟩,
 ⟨.bin .eql, [.p 0, .c (.int .i64 0)], none, some (2, true), []⟩,
 ⟨.pick, [.p 3, .p 0, .c (.bool false)], none, none, []⟩,
 ⟨.mov, [.p 0], none, none, []⟩,
 ⟨.faddr 2, [.v 3], none, some (0, true), []⟩,
 ⟨.load false 1, [.p 0], none, some (1, true), []⟩,
 ⟨.bin .eql, [.p 0, .c (.int .i64 1)], none, some (2, true), []⟩,
 ⟨.pick, [.p 3, .p 0, .c (.bool false)], none, none, []⟩,
 ⟨.mov, [.p 0], some 0, none, []⟩] false)
.ret))))),
[.v 0]⟩
def l_ashlarlaw8_Cut_0 : RCode := (.loop [true, true, true, true, false, true, true] (.seq (.seq (.region [⟨.mov, [.v 6], none, none, []⟩,
 ⟨.mov, [.v 0], none, none, []⟩,
 ⟨.len false, [.p 0], none, none, []⟩,
 ⟨.bin .lss, [.p 2, .p 0], none, none, []⟩,
 ⟨.mov, [.p 0], none, none, []⟩,
 ⟨.mov, [.v 6], none, some (0, true), []⟩,
 ⟨.mov, [.v 1], none, some (1, true), []⟩,
 ⟨.bin .leq, [.p 1, .p 0], none, some (2, true), []⟩,
 ⟨.pick, [.p 3, .p 0, .c (.bool false)], none, none, []⟩] false)
(.cond (.p 0) .skip (.exit 0)))
(.seq (.block 1 (.region [⟨.mov, [.v 5], none, none, []⟩,
 ⟨.mov, [.v 0], none, none, []⟩,
 ⟨.mov, [.v 6], none, none, []⟩,
 ⟨.iaddr 1, [.p 1, .p 0], none, none, []⟩,
 ⟨.load false 1, [.p 0], none, none, []⟩,
 ⟨.mov, [.v 2], none, none, []⟩,
 ⟨.mov, [.v 3], none, none, []⟩,
 ⟨.call false 7, [.p 2, .p 1, .p 0], none, none, []⟩,
 ⟨.bslice 1 (.slc true []) 1 [0], [.p 0], none, none, []⟩,
 ⟨.app 24 1, [.p 8, .p 0], none, none, []⟩,
 ⟨.mov, [.p 0], some 5, none, []⟩] false))
(.region [⟨.mov, [.v 6], none, none, []⟩,
 ⟨.bin .add, [.p 0, .c (.int .i64 1)], none, none, []⟩,
 ⟨.mov, [.p 0], some 6, none, []⟩] false))))
def c_ashlarlaw8_Cut : RFunc := ⟨4, [0, 1, 2, 3, 8, 9, 10],
(.seq (.region [⟨.mov, [.c (.slc true [])], some 4, none, []⟩] false)
(.seq (.region [⟨.mov, [.c (.slc true [])], some 5, none, []⟩] false)
(.seq (.seq (.region [⟨.mov, [.c (.int .i64 0)], some 6, none, []⟩] false)
(.block 0 l_ashlarlaw8_Cut_0))
(.seq (.region [⟨.mov, [.v 5], none, none, []⟩,
 ⟨.mov, [.p 0], some 4, none, []⟩] false)
.ret)))),
[.v 4]⟩
def l_ashlarlaw8_Op_0 : RCode := (.loop [true, false, true, true] (.seq (.seq (.region [⟨.mov, [.v 3], none, none, []⟩,
 ⟨.mov, [.v 0], none, none, []⟩,
 ⟨.len false, [.p 0], none, none, []⟩,
 ⟨.bin .lss, [.p 2, .p 0], none, none, []⟩] false)
(.cond (.p 0) .skip (.exit 0)))
(.seq (.block 1 (.region [⟨.mov, [.v 2], none, none, []⟩,
 ⟨.mov, [.v 0], none, none, []⟩,
 ⟨.mov, [.v 3], none, none, []⟩,
 ⟨.iaddr 1, [.p 1, .p 0], none, none, []⟩,
 ⟨.load false 1, [.p 0], none, none, []⟩,
 ⟨.bslice 1 (.slc true []) 1 [0], [.p 0], none, none, []⟩,
 ⟨.app 24 1, [.p 5, .p 0], none, none, []⟩,
 ⟨.mov, [.p 0], some 2, none, []⟩] false))
(.region [⟨.mov, [.v 3], none, none, []⟩,
 ⟨.bin .add, [.p 0, .c (.int .i64 1)], none, none, []⟩,
 ⟨.mov, [.p 0], some 3, none, []⟩] false))))
def c_ashlarlaw8_Op : RFunc := ⟨1, [0, 2, 3, 4],
(.seq (.region [⟨.mov, [.c (.slc true [])], some 1, none, []⟩] false)
(.seq (.region [⟨.mov, [.c (.slc true [])], some 2, none, []⟩] false)
(.seq (.seq (.region [⟨.mov, [.c (.int .i64 0)], some 3, none, []⟩] false)
(.block 0 l_ashlarlaw8_Op_0))
(.seq (.region [⟨.mov, [.v 2], none, none, []⟩,
 ⟨.call false 69, [.p 0], none, none, []⟩,
 ⟨.call false 103, [.p 0], none, none, []⟩,
 ⟨.mov, [.p 0], some 1, none, []⟩] false)
.ret)))),
[.v 1]⟩
def l_ashlarlaw3_Cut_0 : RCode := (.loop [true, true, true, false, true, true] (.seq (.seq (.region [⟨.mov, [.v 5], none, none, []⟩,
 ⟨.mov, [.v 0], none, none, []⟩,
 ⟨.len false, [.p 0], none, none, []⟩,
 ⟨.bin .lss, [.p 2, .p 0], none, none, []⟩,
 ⟨.mov, [.p 0], none, none, []⟩,
 ⟨.mov, [.v 5], none, some (0, true), []⟩,
 ⟨.mov, [.v 1], none, some (1, true), []⟩,
 ⟨.bin .lss, [.p 1, .p 0], none, some (2, true), []⟩,
 ⟨.pick, [.p 3, .p 0, .c (.bool false)], none, none, []⟩] false)
(.cond (.p 0) .skip (.exit 0)))
(.seq (.block 1 (.seq (.region [⟨.mov, [.v 0], none, none, []⟩,
 ⟨.mov, [.v 5], none, none, []⟩,
 ⟨.iaddr 2, [.p 1, .p 0], none, none, []⟩,
 ⟨.load true 2, [.p 0], none, none, []⟩,
 ⟨.call false 23, [.p 0], none, none, []⟩,
 ⟨.alloc (.agg [.bool false, .slc true []]), [], some 6, none, []⟩,
 ⟨.store 2, [.v 6, .p 1], none, none, []⟩] false)
(.seq (.seq (.region [⟨.faddr 1, [.v 6], none, none, []⟩,
 ⟨.load false 1, [.p 0], none, none, []⟩,
 ⟨.len false, [.p 0], none, none, []⟩,
 ⟨.mov, [.v 2], none, none, []⟩,
 ⟨.bin .gtr, [.p 1, .p 0], none, none, []⟩] false)
(.cond (.p 0) (.region [⟨.faddr 1, [.v 6], none, none, []⟩,
 ⟨.load false 1, [.p 0], none, none, []⟩,
 ⟨.mov, [.v 2], none, none, []⟩,
 ⟨.slice 1 false true false, [.p 1, .p 0], none, none, []⟩,
 ⟨.faddr 1, [.v 6], none, none, []⟩,
 ⟨.store 1, [.p 0, .p 1], none, none, []⟩] false) .skip))
(.region [⟨.mov, [.v 4], none, none, []⟩,
 ⟨.load true 2, [.v 6], none, none, []⟩,
 ⟨.bslice 2 (.agg [.bool false, .slc true []]) 1 [0], [.p 0], none, none, []⟩,
 ⟨.app 32 2, [.p 2, .p 0], none, none, []⟩,
 ⟨.mov, [.p 0], some 4, none, []⟩] false))))
(.region [⟨.mov, [.v 5], none, none, []⟩,
 ⟨.bin .add, [.p 0, .c (.int .i64 1)], none, none, []⟩,
 ⟨.mov, [.p 0], some 5, none, []⟩] false))))
def c_ashlarlaw3_Cut : RFunc := ⟨3, [0, 1, 2, 6, 7, 8, 9],
(.seq (.region [⟨.mov, [.c (.slc true [])], some 3, none, []⟩] false)
(.seq (.region [⟨.mov, [.c (.slc true [])], some 4, none, []⟩] false)
(.seq (.seq (.region [⟨.mov, [.c (.int .i64 0)], some 5, none, []⟩] false)
(.block 0 l_ashlarlaw3_Cut_0))
(.seq (.region [⟨.mov, [.v 4], none, none, []⟩,
 ⟨.mov, [.p 0], some 3, none, []⟩] false)
.ret)))),
[.v 3]⟩
class CodeGauge (F : Nat → Option RFunc) : Prop where
  gauge_Times : F 3 = some c_gauge_Times
  gauge_Of : F 11 = some c_gauge_Of
  gauge_Mul : F 13 = some c_gauge_Mul
  gauge_Apply : F 15 = some c_gauge_Apply
  gauge_Divide : F 17 = some c_gauge_Divide
  gauge_Common : F 19 = some c_gauge_Common
  gauge_each : F 67 = some c_gauge_each
  gauge_product_take : F 66 = some c_gauge_product_take
  zcost_Of : F 72 = some c_zcost_Of
  zcost_Product : F 76 = some c_zcost_Product
  zcost_Apply : F 78 = some c_zcost_Apply
  zcost_Add : F 81 = some c_zcost_Add
  zcost_Mul : F 82 = some c_zcost_Mul
  zcost_Times : F 106 = some c_zcost_Times
  upoly_Deg : F 104 = some c_upoly_Deg
  upoly_Bits : F 105 = some c_upoly_Bits
  upoly_cut : F 119 = some c_upoly_cut
  ashlarref3_From : F 9 = some c_ashlarref3_From
  ashlarref3_Of : F 64 = some c_ashlarref3_Of
  ashlarref3_Trim : F 70 = some c_ashlarref3_Trim
  ashlarref3_Deg : F 79 = some c_ashlarref3_Deg
  ashlarref3_Bits : F 80 = some c_ashlarref3_Bits
  ashlarref3_To : F 118 = some c_ashlarref3_To
  ashlarref8_From : F 8 = some c_ashlarref8_From
  ashlarref8_Trim : F 69 = some c_ashlarref8_Trim
  ashlarref8_Order : F 73 = some c_ashlarref8_Order
  ashlarref8_Degree : F 74 = some c_ashlarref8_Degree
  ashlarref8_Bits : F 75 = some c_ashlarref8_Bits
  ashlarref8_To : F 103 = some c_ashlarref8_To
  ashlarref9_Times : F 4 = some c_ashlarref9_Times
  ashlarref9_Size : F 12 = some c_ashlarref9_Size
  ashlarref9_Mul : F 14 = some c_ashlarref9_Mul
  ashlarref9_Apply : F 16 = some c_ashlarref9_Apply
  ashlarref9_Divide : F 18 = some c_ashlarref9_Divide
  ashlarref9_Common : F 20 = some c_ashlarref9_Common
  ashlarref9_By : F 68 = some c_ashlarref9_By
  ashlarref9_Sum : F 77 = some c_ashlarref9_Sum
  ashlarref9_Plus : F 83 = some c_ashlarref9_Plus
  ashlarlaw9_GaugeTimes : F 5 = some c_ashlarlaw9_GaugeTimes
  ashlarlaw9_GaugeOps : F 21 = some c_ashlarlaw9_GaugeOps
  ashlarlaw9_begun : F 2 = some c_ashlarlaw9_begun
  ashlarlaw8_Cut : F 6 = some c_ashlarlaw8_Cut
  ashlarlaw8_Op : F 65 = some c_ashlarlaw8_Op
  ashlarlaw3_Cut : F 7 = some c_ashlarlaw3_Cut
def tabCodeGauge : List (Nat × RFunc) := [(3, c_gauge_Times), (11, c_gauge_Of), (13, c_gauge_Mul), (15, c_gauge_Apply), (17, c_gauge_Divide), (19, c_gauge_Common), (67, c_gauge_each), (66, c_gauge_product_take), (72, c_zcost_Of), (76, c_zcost_Product), (78, c_zcost_Apply), (81, c_zcost_Add), (82, c_zcost_Mul), (106, c_zcost_Times), (104, c_upoly_Deg), (105, c_upoly_Bits), (119, c_upoly_cut), (9, c_ashlarref3_From), (64, c_ashlarref3_Of), (70, c_ashlarref3_Trim), (79, c_ashlarref3_Deg), (80, c_ashlarref3_Bits), (118, c_ashlarref3_To), (8, c_ashlarref8_From), (69, c_ashlarref8_Trim), (73, c_ashlarref8_Order), (74, c_ashlarref8_Degree), (75, c_ashlarref8_Bits), (103, c_ashlarref8_To), (4, c_ashlarref9_Times), (12, c_ashlarref9_Size), (14, c_ashlarref9_Mul), (16, c_ashlarref9_Apply), (18, c_ashlarref9_Divide), (20, c_ashlarref9_Common), (68, c_ashlarref9_By), (77, c_ashlarref9_Sum), (83, c_ashlarref9_Plus), (5, c_ashlarlaw9_GaugeTimes), (21, c_ashlarlaw9_GaugeOps), (2, c_ashlarlaw9_begun), (6, c_ashlarlaw8_Cut), (65, c_ashlarlaw8_Op), (7, c_ashlarlaw3_Cut)]
end Go.Ash
/- Estimates: products that stop at the top. -/
namespace Go.Ash
variable {F : Nat → Option RFunc} [h : CodeGauge F]

abbrev TOP : Nat := 4611686018427387904
def prodN : List Nat → Nat
  | [] => 1
  | x :: l => x * prodN l
theorem prodN_append : ∀ a b, prodN (a ++ b) = prodN a * prodN b
  | [], b => by simp [prodN]
  | x :: a, b => by simp [prodN, prodN_append a b, Nat.mul_assoc]
theorem prodN_snoc (a : List Nat) (x : Nat) : prodN (a ++ [x]) = prodN a * x := by rw [prodN_append]; simp [prodN]
theorem prodN_reverse : ∀ a, prodN a.reverse = prodN a
  | [] => rfl
  | x :: a => by rw [List.reverse_cons, prodN_snoc, prodN_reverse a, prodN, Nat.mul_comm]
theorem prodN_pos : ∀ {a : List Nat}, (∀ x ∈ a, 1 ≤ x) → 1 ≤ prodN a
  | [], _ => Nat.le_refl _
  | x :: a, h => Nat.mul_pos (h x (by simp)) (prodN_pos (a := a) (fun y hy => h y (by simp [hy])))
theorem prodN_zero : ∀ {a : List Nat}, 0 ∈ a → prodN a = 0
  | x :: a, h => by
    rcases List.mem_cons.1 h with rfl | h
    · simp [prodN]
    · simp [prodN, prodN_zero h]

theorem min_mul {p q T : Nat} (hq : 1 ≤ q) : min T (min T p * q) = min T (p * q) := by
  rcases Nat.le_total T p with h | h
  · rw [Nat.min_eq_left h]
    have h1 : T * 1 ≤ T * q := Nat.mul_le_mul_left _ hq
    have h2 : p * 1 ≤ p * q := Nat.mul_le_mul_left _ hq
    omega
  · rw [Nat.min_eq_right h]

/-- Ints of any sign, as values. -/
def zs (l : List Int) : List AVal := l.map (AVal.int .i64)
@[simp] theorem idsL_zs (l : List Int) : idsL (zs l) = [] := by
  induction l with
  | nil => rfl
  | cons a l ih => simpa [zs, idsL, AVal.ids] using ih
@[simp] theorem length_zs (l : List Int) : (zs l).length = l.length := by simp [zs]
@[simp] theorem gd_zs (l : List Int) (i : Nat) (h : i < l.length) : gd (zs l) i = .int .i64 l[i] := by
  induction l generalizing i with
  | nil => simp at h
  | cons a l ih => cases i with
    | zero => simp [zs, gd]
    | succ i => simpa [zs, gd] using ih i (by simpa using h)
theorem zs_take (l : List Int) (k : Nat) : (zs l).take k = zs (l.take k) := by simp [zs]
theorem zs_take_len (l : List Int) : (zs l).take l.length = zs l := List.take_of_length_le (by simp)
theorem zs_one (n : Int) : zs [n] = [.int .i64 n] := rfl
theorem zs_snoc (l : List Int) (n : Int) : zs l ++ [.int .i64 n] = zs (l ++ [n]) := by simp [zs]
@[simp] theorem renL_zs (ρ : Nat → Nat) (l : List Int) : renL ρ (zs l) = zs l := renL_self _ _ (idsL_zs l)

def Lim63 (l : List Nat) : Prop := ∀ x ∈ l, x < 9223372036854775808

theorem zmul_loop0 (nl : Bool) (l : List Nat) (hlen : l.length < 2^40) (b0 w1 w3 w4 w8 w9 w10 : AVal) :
    ∃ e st, (∀ env, exec F l_zcost_Mul_0 ⟨[.slc nl (i64s l), w1, .int .i64 1, w3, w4, .slc nl (i64s l), .int .i64 l.length, .int .i64 0, w8, w9, w10], env, [], 0⟩ = some (e, st)) ∧
      ((0 ∈ l ∧ e = .ret ∧ ∃ a c d f g i j, st = ⟨[a, .int .i64 0, c, d, f, g, i, j, .und, .und, .und], [], [], 0⟩) ∨
       (0 ∉ l ∧ e = .exit 0 ∧ ∃ d f g i, st = ⟨[.slc nl (i64s l), .und, .int .i64 1, d, f, g, .int .i64 l.length, i, .und, .und, .und], [], [], 0⟩)) := by
  refine loop_rule
    (fun n st => ∃ (i : Nat), st = ⟨[.slc nl (i64s l), .und, .int .i64 1, .und, .und, .slc nl (i64s l), .int .i64 l.length, .int .i64 i, .und, .und, .und], [], [], 0⟩ ∧ i + n = l.length ∧ (0 ∉ l.take i)) _ l.length _ ?_
    (tidy_none (by simp)) ⟨0, rfl, by omega, by simp⟩
  rintro n st ⟨i, rfl, hn, hno⟩
  rcases Nat.eq_zero_or_pos n with rfl | hpos
  · have : i = l.length := by omega
    subst this
    rw [List.take_length] at hno
    refine .out (.exit 0) _ (by simp) (.inr ⟨hno, rfl, .und, .und, .slc nl (i64s l), .int .i64 l.length, rfl⟩) ?_
    simp [after]
  · have hi : i < l.length := by omega
    by_cases h0 : l[i] = 0
    · refine .out .ret _ (by simp) (.inl ⟨by rw [← h0]; exact List.getElem_mem hi, rfl, .slc nl (i64s l), .int .i64 1, .int .i64 0, .und, .slc nl (i64s l), .int .i64 l.length, .int .i64 i, rfl⟩) ?_
      simp (disch := first | omega | simp) [after, if_pos, if_neg, decide_eq_true, hi, h0]
    · refine .more (n - 1) _ (by omega) ⟨i + 1, rfl, by omega, ?_⟩ ?_
      · rw [List.take_succ_eq_append_getElem hi]
        simp only [List.mem_append, List.mem_singleton, not_or]
        exact ⟨hno, fun h => h0 h.symm⟩
      · simp (disch := first | omega | simp) [after, tidy_none, if_pos, if_neg, decide_eq_true, hi, h0, wrap_i64]

theorem zmul_loop1 (nl : Bool) (l : List Nat) (hl : Lim63 l) (hlen : l.length < 2^40) (h0 : 0 ∉ l) (b0 w1 w3 w4 w5 w6 w7 : AVal) :
    ∃ e st, (∀ env, exec F l_zcost_Mul_1 ⟨[b0, w1, .int .i64 1, w3, w4, w5, w6, w7, .slc nl (i64s l), .int .i64 l.length, .int .i64 0], env, [], 0⟩ = some (e, st)) ∧
      ((TOP < prodN l ∧ e = .ret ∧ ∃ a c d f g i j k m n, st = ⟨[a, .int .i64 TOP, c, d, f, g, i, j, k, m, n], [], [], 0⟩) ∨
       (prodN l ≤ TOP ∧ e = .exit 2 ∧ ∃ a b d f g i j k m n, st = ⟨[a, b, .int .i64 (prodN l : Nat), d, f, g, i, j, k, m, n], [], [], 0⟩)) := by
  have h1 : ∀ x ∈ l, 1 ≤ x := fun x hx => Nat.pos_of_ne_zero (fun h => h0 (h ▸ hx))
  refine loop_rule
    (fun n st => ∃ (p r : List Nat), l = p ++ r ∧ r.length = n ∧ prodN p ≤ TOP ∧ st = ⟨[.und, .und, .int .i64 (prodN p : Nat), .und, .und, .und, .und, .und, .slc nl (i64s l), .int .i64 l.length, .int .i64 p.length], [], [], 0⟩) _ l.length _ ?_
    (tidy_none (by simp)) ⟨[], l, rfl, rfl, by decide, rfl⟩
  rintro n st ⟨p, r, hpr, hn, hple, rfl⟩
  rcases Nat.eq_zero_or_pos n with rfl | hpos
  · have : r = [] := List.length_eq_zero_iff.1 hn
    subst this
    have hp : p = l := by simpa using hpr.symm
    subst hp
    refine .out (.exit 2) _ (by simp) (.inr ⟨hple, rfl, .und, .und, .und, .und, .und, .und, .und, .slc nl (i64s p), .int .i64 p.length, .int .i64 p.length, rfl⟩) ?_
    simp [after]
  · obtain ⟨x, r, rfl⟩ : ∃ x r', r = x :: r' := by
      cases r with
      | nil => simp at hn; omega
      | cons x r => exact ⟨x, r, rfl⟩
    have hpl : p.length < l.length := by rw [hpr]; simp
    have hgx : l[p.length] = x := by simp [hpr]
    have hxl : x < 9223372036854775808 := hl x (by rw [hpr]; simp)
    have hx1 : 1 ≤ x := h1 x (by rw [hpr]; simp)
    have hr1 : 1 ≤ prodN r := prodN_pos (fun y hy => h1 y (by rw [hpr]; simp [hy]))
    have hP : prodN l = prodN p * x * prodN r := by rw [hpr, prodN_append]; simp [prodN, Nat.mul_assoc]
    have htd : (4611686018427387904 : Int).tdiv (x : Int) = ((TOP / x : Nat) : Int) := tdiv_nat TOP x
    have hle : TOP / x ≤ 4611686018427387904 := Nat.div_le_self _ _
    have hiff : TOP / x < prodN p ↔ TOP < prodN p * x := Nat.div_lt_iff_lt_mul hx1
    have hx0 : ¬ x = 0 := by omega
    by_cases hbig : TOP < prodN p * x
    · have hq := hiff.2 hbig
      refine .out .ret _ (by simp) (.inl ⟨?_, rfl, .und, .int .i64 (prodN p : Nat), .und, .int .i64 x, .und, .und, .und, .slc nl (i64s l), .int .i64 l.length, .int .i64 p.length, rfl⟩) ?_
      · rw [hP]
        have : prodN p * x * 1 ≤ prodN p * x * prodN r := Nat.mul_le_mul_left _ hr1
        omega
      · clear hpr hP hiff hbig
        have hTc : ((TOP : Nat) : Int) = 4611686018427387904 := rfl
        generalize TOP / x = q at *
        generalize prodN p = P at *
        simp (disch := first | omega | simp) [after, if_pos, if_neg, decide_eq_true, hgx, htd, hx0, wrap_i64, hTc]
    · have hq : ¬ TOP / x < prodN p := fun h => hbig (hiff.1 h)
      have hw : IntKind.i64.wrap ((prodN p : Int) * (x : Int)) = ((prodN p * x : Nat) : Int) := by
        have : prodN p * x ≤ 4611686018427387904 := Nat.le_of_not_lt hbig
        rw [← Int.natCast_mul]; exact wrap_i64 (by omega) (by omega)
      refine .more (n - 1) _ (by omega) ⟨p ++ [x], r, by rw [hpr]; simp, by simp at hn; omega, by rw [prodN_snoc]; omega, rfl⟩ ?_
      rw [prodN_snoc]
      clear hpr hP hiff hbig
      generalize prodN p * x = Q at *
      generalize TOP / x = q at *
      generalize prodN p = P at *
      simp (disch := first | omega | simp) [after, tidy_none, if_pos, if_neg, decide_eq_false, decide_eq_true, hgx, htd, hx0, hw, wrap_i64]

/-- zcost.Mul: the product, up to the top. -/
theorem pc_zmul (nl : Bool) (l : List Nat) (hl : Lim63 l) (hlen : l.length < 2^40) : pureCall (run F) 82 [.slc nl (i64s l)] = some (.int .i64 (min TOP (prodN l) : Nat)) := by
  obtain ⟨e, st, he, hq⟩ := zmul_loop0 (F := F) nl l hlen .und (.int .i64 0) .und .und .und .und .und
  refine pure_ret h.zcost_Mul rfl ?_
  rcases hq with ⟨h0, rfl, a, c, d, f, g, i, j, rfl⟩ | ⟨h0, rfl, d, f, g, i, rfl⟩
  · rw [prodN_zero h0]
    simp [c_zcost_Mul, he]
  · obtain ⟨e2, st2, he2, hq2⟩ := zmul_loop1 (F := F) nl l hl hlen h0 (.slc nl (i64s l)) .und d f g (.int .i64 l.length) i
    rcases hq2 with ⟨h1, rfl, a, c, d', f', g', i', j', k, m, n, rfl⟩ | ⟨h1, rfl, a, b, d', f', g', i', j', k, m, n, rfl⟩
    · rw [Nat.min_eq_left (by omega)]
      simp [c_zcost_Mul, he, he2]
    · rw [Nat.min_eq_right h1]
      simp [c_zcost_Mul, he, he2]

/-! ### gauge.Times -/

/-- What Times makes of numbers: their product up to the top, a number below 1 counting as 1. -/
def capZ (l : List Int) : Nat := min TOP (prodN (l.map fun n => (max n 1).toNat))

theorem capZ_snoc (l : List Int) (n : Int) : capZ (l ++ [n]) = min TOP (capZ l * (max n 1).toNat) := by
  unfold capZ
  rw [List.map_append, List.map_cons, List.map_nil, prodN_snoc, min_mul (by omega)]
theorem capZ_le (l : List Int) : capZ l ≤ 4611686018427387904 := Nat.min_le_left _ _
theorem prodZ_pos (l : List Int) : 1 ≤ prodN (l.map fun n => (max n 1).toNat) := prodN_pos (by
  intro x hx
  obtain ⟨n, _, rfl⟩ := List.mem_map.1 hx
  omega)
theorem capZ_pos (l : List Int) : 1 ≤ capZ l := by
  have := prodZ_pos l
  show 1 ≤ min 4611686018427387904 _
  omega

def L64 (l : List Int) : Prop := ∀ x ∈ l, -9223372036854775808 ≤ x ∧ x < 9223372036854775808

theorem leave_pin1' {fn : RFunc} {vars env : List AVal} {b0 : Blk} {x1 : Option Blk} {v : AVal} (h0 : idsL b0.elems = []) (hr : resL ⟨vars, env, [some b0, x1], 1⟩ fn.res = some []) :
    fn.leave ⟨vars, env, [some b0, x1], 1⟩ = some (.tup [], [some b0]) := by
  have h1 : reach [some b0, x1] fuelIds [0] [] = some [0] := reach_at (b := b0) rfl h0
  simp [RFunc.leave, hr, tupled, h1, pack, place_cons, blk_ren h0, List.range_succ]

theorem run_take (p : Nat) (n : Int) (hp : p ≤ 4611686018427387904) (hn0 : -9223372036854775808 ≤ n) (hn1 : n < 9223372036854775808) :
    run F 66 [.mptr 0 0 0, .int .i64 n] [some ⟨false, 1, [.agg [.int .i64 (p : Int)]]⟩] = some (.tup [], [some ⟨false, 1, [.agg [.int .i64 (min TOP (p * (max n 1).toNat) : Nat)]]⟩]) := by
  obtain ⟨m, hm⟩ : ∃ m : Nat, (max n 1).toNat = m := ⟨_, rfl⟩
  have hmx : (if n < 1 then (1 : Int) else n) = (m : Int) := by split <;> omega
  have hz := pc_zmul (F := F) false [p, m] (by intro x hx; simp at hx; rcases hx with rfl | rfl <;> omega) (by simp)
  have hpm : prodN [p, m] = p * m := by simp [prodN]
  rw [hpm] at hz
  rw [hm]
  generalize (min TOP (p * m) : Nat) = r at *
  have hz' : pureCall (run F) 82 [.slc false [.int .i64 (p : Int), .int .i64 (m : Int)]] = some (.int .i64 (r : Int)) := hz
  have hh : handOn [.mslc 1 0 2] [some ⟨false, 1, [.agg [.int .i64 (p : Int)]]⟩, some ⟨false, 1, [.int .i64 (p : Int), .int .i64 (m : Int)]⟩] =
      some ([.slc false [.int .i64 (p : Int), .int .i64 (m : Int)]], [some ⟨false, 1, [.agg [.int .i64 (p : Int)]]⟩, some ⟨true, 1, [.int .i64 (p : Int), .int .i64 (m : Int)]⟩]) := by
    have h1 := treeL_atE (H := [some ⟨false, 1, [.agg [.int .i64 (p : Int)]]⟩, some ⟨false, 1, [.int .i64 (p : Int), .int .i64 (m : Int)]⟩]) (id := 1) (n := 37) (len := 2) (rest := []) rfl (by simp) (by simp) (by simp)
    simp [handOn, fuelTree, h1, freeze, Heap.at]
  rw [run_eq h.gauge_product_take rfl]
  simp (disch := first | omega | simp) [c_gauge_product_take, hmx, goodElems, placeAll, any_pure, hh, hz', putElem, putAgg]
  exact leave_pin1' (v := .und) (by simp) rfl

theorem each_loop (nl : Bool) (l : List Int) (hl : L64 l) (hlen : l.length < 2^40) (w1 w2 : AVal) :
    ∃ e st, (∀ env, exec F l_gauge_each_0 ⟨[.fn 66 [.mptr 0 0 0] [], w1, w2, .slc nl (zs l), .int .i64 l.length, .int .i64 0], env, [some ⟨false, 1, [.agg [.int .i64 1]]⟩], 1⟩ = some (e, st)) ∧
      (e = .exit 0 ∧ ∃ vars, st = ⟨vars, [], [some ⟨false, 1, [.agg [.int .i64 (capZ l : Nat)]]⟩], 1⟩) := by
  refine loop_rule
    (fun n st => ∃ (p r : List Int), l = p ++ r ∧ r.length = n ∧ st = ⟨[.fn 66 [.mptr 0 0 0] [], .und, .und, .slc nl (zs l), .int .i64 l.length, .int .i64 p.length], [], [some ⟨false, 1, [.agg [.int .i64 (capZ p : Nat)]]⟩], 1⟩) _ l.length _ ?_
    (tidy_pin1 (by simp) (by simp)) ⟨[], l, rfl, rfl, rfl⟩
  rintro n st ⟨p, r, hpr, hn, rfl⟩
  rcases Nat.eq_zero_or_pos n with rfl | hpos
  · have : r = [] := List.length_eq_zero_iff.1 hn
    subst this
    have hp : p = l := by simpa using hpr.symm
    subst hp
    refine .out (.exit 0) _ (by simp) ⟨rfl, [.fn 66 [.mptr 0 0 0] [], .und, .und, .slc nl (zs p), .int .i64 p.length, .int .i64 p.length], rfl⟩ ?_
    simp [after]
  · obtain ⟨x, r, rfl⟩ : ∃ x r', r = x :: r' := by
      cases r with
      | nil => simp at hn; omega
      | cons x r => exact ⟨x, r, rfl⟩
    have hpl : p.length < l.length := by rw [hpr]; simp
    have hgx : l[p.length] = x := by simp [hpr]
    obtain ⟨hx0, hx1⟩ := hl x (by rw [hpr]; simp)
    have ht := run_take (F := F) (capZ p) x (capZ_le p) hx0 hx1
    refine .more (n - 1) _ (by omega) ⟨p ++ [x], r, by rw [hpr]; simp, by simp at hn; omega, rfl⟩ ?_
    rw [capZ_snoc]
    generalize (min TOP (capZ p * (max x 1).toNat) : Nat) = w at *
    have hraw : rawCall (run F) 66 [.mptr 0 0 0, .int .i64 x] [some ⟨false, 1, [.agg [.int .i64 (capZ p : Nat)]]⟩] = some (.tup [], [some ⟨false, 1, [.agg [.int .i64 (w : Int)]]⟩]) := by
      have hr : reach [some ⟨false, 1, [.agg [.int .i64 (capZ p : Nat)]]⟩] fuelIds [0] [] = some [0] := reach_at (b := ⟨false, 1, [.agg [.int .i64 (capZ p : Nat)]]⟩) rfl (by simp)
      unfold rawCall
      simp [hr, place_cons, pack, ht, putBack]
    clear hpr
    simp (disch := first | omega | simp) [after, tidy_pin1, if_pos, decide_eq_true, hgx, hraw, wrap_i64]

/-- gauge.Times. -/
theorem pc_gtimes (nl : Bool) (l : List Int) (hl : L64 l) (hlen : l.length < 2^40) : pureCall (run F) 3 [.slc nl (zs l)] = some (.int .i64 (capZ l : Nat)) := by
  obtain ⟨e, st, he, rfl, vars, rfl⟩ := each_loop (F := F) nl l hl hlen (.slc nl (zs l)) .und
  have hr : run F 67 [.fn 66 [.mptr 0 0 0] [], .slc nl (zs l)] [some ⟨false, 1, [.agg [.int .i64 1]]⟩] = some (.tup [], [some ⟨false, 1, [.agg [.int .i64 (capZ l : Nat)]]⟩]) := by
    rw [run_eq h.gauge_each rfl]
    simp (disch := first | omega | simp) [c_gauge_each, he, leave_pin1]
  have hraw : rawCall (run F) 67 [.fn 66 [.mptr 0 0 0] [], .slc nl (zs l)] [some ⟨false, 1, [.agg [.int .i64 1]]⟩] = some (.tup [], [some ⟨false, 1, [.agg [.int .i64 (capZ l : Nat)]]⟩]) := by
    have hre : reach [some ⟨false, 1, [.agg [.int .i64 1]]⟩] fuelIds [0] [] = some [0] := reach_at (b := ⟨false, 1, [.agg [.int .i64 1]]⟩) rfl (by simp)
    unfold rawCall
    simp [hre, place_cons, pack, hr, putBack]
  refine pure_ret h.gauge_Times rfl ?_
  simp (disch := first | omega | simp) [c_gauge_Times, fillA, setAll, hraw]

/-- The document's By: from 1 to the top, times something from 1 on. -/
theorem pc_by (a b : Nat) (ha : 1 ≤ a) (ha2 : a ≤ 4611686018427387904) (hb2 : b < 9223372036854775808) : pureCall (run F) 68 [.int .i64 a, .int .i64 b] = some (.int .i64 (min TOP (a * b) : Nat)) := by
  have htd : (4611686018427387904 : Int).tdiv (a : Int) = ((TOP / a : Nat) : Int) := tdiv_nat TOP a
  have hle : TOP / a ≤ 4611686018427387904 := Nat.div_le_self _ _
  have hiff : TOP / a < b ↔ TOP < b * a := Nat.div_lt_iff_lt_mul ha
  have ha0 : ¬ a = 0 := by omega
  refine pure_ret h.ashlarref9_By rfl ?_
  by_cases hbig : TOP < b * a
  · have hq := hiff.2 hbig
    rw [Nat.mul_comm, Nat.min_eq_left (by omega)]
    have hTc : ((TOP : Nat) : Int) = 4611686018427387904 := rfl
    rw [hTc]
    clear hbig hiff
    generalize TOP / a = q at *
    simp (disch := first | omega | simp) [c_ashlarref9_By, if_pos, if_neg, decide_eq_true, decide_eq_false, htd, ha0, wrap_i64]
  · have hq : ¬ TOP / a < b := fun h => hbig (hiff.1 h)
    rw [Nat.min_eq_right (by rw [Nat.mul_comm]; omega)]
    have hw : IntKind.i64.wrap ((a : Int) * (b : Int)) = ((a * b : Nat) : Int) := by
      have : a * b ≤ 4611686018427387904 := by rw [Nat.mul_comm]; exact Nat.le_of_not_lt hbig
      rw [← Int.natCast_mul]; exact wrap_i64 (by omega) (by omega)
    clear hbig hiff
    generalize a * b = w at *
    generalize TOP / a = q at *
    simp (disch := first | omega | simp) [c_ashlarref9_By, if_pos, if_neg, decide_eq_true, decide_eq_false, htd, ha0, hw, wrap_i64]

theorem rtimes9_loop (nl : Bool) (l : List Int) (hl : L64 l) (hlen : l.length < 2^40) (w1 : AVal) :
    ∃ e st, (∀ env, exec F l_ashlarref9_Times_0 ⟨[.slc nl (zs l), w1, .int .i64 1, .int .i64 0], env, [], 0⟩ = some (e, st)) ∧
      (e = .exit 0 ∧ ∃ a b c, st = ⟨[a, b, .int .i64 (capZ l : Nat), c], [], [], 0⟩) := by
  refine loop_rule
    (fun n st => ∃ (p r : List Int), l = p ++ r ∧ r.length = n ∧ st = ⟨[.slc nl (zs l), .und, .int .i64 (capZ p : Nat), .int .i64 p.length], [], [], 0⟩) _ l.length _ ?_
    (tidy_none (by simp)) ⟨[], l, rfl, rfl, rfl⟩
  rintro n st ⟨p, r, hpr, hn, rfl⟩
  rcases Nat.eq_zero_or_pos n with rfl | hpos
  · have : r = [] := List.length_eq_zero_iff.1 hn
    subst this
    have hp : p = l := by simpa using hpr.symm
    subst hp
    refine .out (.exit 0) _ (by simp) ⟨rfl, .slc nl (zs p), .und, .int .i64 p.length, rfl⟩ ?_
    simp [after]
  · obtain ⟨x, r, rfl⟩ : ∃ x r', r = x :: r' := by
      cases r with
      | nil => simp at hn; omega
      | cons x r => exact ⟨x, r, rfl⟩
    have hpl : p.length < l.length := by rw [hpr]; simp
    have hgx : l[p.length] = x := by simp [hpr]
    obtain ⟨hx0, hx1⟩ := hl x (by rw [hpr]; simp)
    refine .more (n - 1) _ (by omega) ⟨p ++ [x], r, by rw [hpr]; simp, by simp at hn; omega, rfl⟩ ?_
    have hle := capZ_le p
    have hpos := capZ_pos p
    by_cases hx : 1 < x
    · obtain ⟨m, rfl⟩ : ∃ m : Nat, x = m := ⟨x.toNat, by omega⟩
      have hb := pc_by (F := F) (capZ p) m hpos hle (by omega)
      have hs : capZ (p ++ [(m : Int)]) = min TOP (capZ p * m) := by rw [capZ_snoc]; congr 2; omega
      rw [hs]
      generalize (min TOP (capZ p * m) : Nat) = w at *
      clear hpr
      generalize capZ p = P at *
      simp (disch := first | omega | simp) [after, tidy_none, if_pos, decide_eq_true, hgx, any_pure, hb, wrap_i64]
    · have hs : capZ (p ++ [x]) = capZ p := by
        rw [capZ_snoc, show (max x 1).toNat = 1 from by omega, Nat.mul_one]
        exact Nat.min_eq_right hle
      rw [hs]
      clear hpr
      generalize capZ p = P at *
      simp (disch := first | omega | simp) [after, tidy_none, if_pos, if_neg, decide_eq_false, decide_eq_true, hgx, wrap_i64]

/-- The document's Times. -/
theorem pc_times9 (nl : Bool) (l : List Int) (hl : L64 l) (hlen : l.length < 2^40) : pureCall (run F) 4 [.slc nl (zs l)] = some (.int .i64 (capZ l : Nat)) := by
  obtain ⟨e, st, he, rfl, a, b, c, rfl⟩ := rtimes9_loop (F := F) nl l hl hlen (.int .i64 0)
  refine pure_ret h.ashlarref9_Times rfl ?_
  simp [c_ashlarref9_Times, he]

/-! ### The law -/

def gvz (id : Nat) (l : List Int) : AVal := if l = [] then .slc true [] else .mslc id 0 l.length
def gbz (l : List Int) : Heap := if l = [] then [] else [some ⟨false, 1, zs l⟩]
theorem gvz_nil (id : Nat) : gvz id [] = .slc true [] := rfl
theorem gbz_nil : gbz [] = [] := rfl
theorem gvz_cons {id : Nat} {l : List Int} (h : l ≠ []) : gvz id l = .mslc id 0 l.length := by simp [gvz, h]
theorem gbz_cons {l : List Int} (h : l ≠ []) : gbz l = [some ⟨false, 1, zs l⟩] := by simp [gbz, h]
theorem gvz_snoc (id : Nat) (l : List Int) (v : Int) : gvz id (l ++ [v]) = .mslc id 0 (l.length + 1) := by rw [gvz_cons (by simp)]; simp
theorem gbz_snoc (l : List Int) (v : Int) : gbz (l ++ [v]) = [some ⟨false, 1, zs (l ++ [v])⟩] := gbz_cons (by simp)

theorem back_loop (nl : Bool) (l : List Int) (hlen : l.length < 2^30) (w1 v2 : AVal) (hv2 : v2.ids = []) :
    ∃ e st, (∀ env, exec F l_ashlarlaw9_GaugeTimes_0 ⟨[.slc nl (zs l), w1, v2, .slc true [], .int .i64 ((l.length : Int) - 1), .und], env, [], 0⟩ = some (e, st)) ∧
      (e = .exit 0 ∧ ∃ i, st = ⟨[.slc nl (zs l), .und, v2, gvz 0 l.reverse, i, .und], [], gbz l.reverse, 0⟩) := by
  refine loop_rule
    (fun n st => st = ⟨[.slc nl (zs l), .und, v2, gvz 0 (l.drop n).reverse, .int .i64 ((n : Int) - 1), .und], [], gbz (l.drop n).reverse, 0⟩ ∧ n ≤ l.length) _ l.length _ ?_
    (tidy_none (by simp [hv2])) ⟨by rw [List.drop_of_length_le (Nat.le_refl _)]; rfl, Nat.le_refl _⟩
  rintro n st ⟨rfl, hn⟩
  rcases Nat.eq_zero_or_pos n with rfl | hpos
  · refine .out (.exit 0) _ (by simp) ⟨rfl, .int .i64 (-1), rfl⟩ ?_
    simp [after]
  · obtain ⟨n, rfl⟩ : ∃ k, n = k + 1 := ⟨n - 1, by omega⟩
    have hidx : ((n + 1 : Nat) : Int) - 1 = n := by omega
    have hnl : n < l.length := hn
    refine .more n _ (Nat.lt_succ_self _) ⟨rfl, by omega⟩ ?_
    rw [hidx, List.drop_eq_getElem_cons hnl, List.reverse_cons]
    have hdl : (l.drop (n + 1)).reverse.length ≤ l.length := by simp
    generalize hd : (l.drop (n + 1)).reverse = d at *
    generalize hx : l[n] = x at *
    have hv2r : ∀ ρ, v2.ren ρ = v2 := fun ρ => ren_self ρ v2 hv2
    by_cases h0 : d = []
    · subst h0
      simp (disch := first | omega | simp) [after, gvz_nil, gbz_nil, gvz_snoc, gbz_snoc, tidy_eq, reach_end, reach_more, fuelIds, place_cons, pack, if_pos, if_neg, decide_eq_true, wrap_i64, hx, goodElems, placeAll, elemsOf, maxB, zs_one, hv2, hv2r]
      exact ⟨(gvz_snoc 0 [] x).symm, (gbz_snoc [] x).symm⟩
    · rw [gvz_cons h0, gbz_cons h0, gvz_snoc, gbz_snoc]
      simp (disch := first | omega | simp) [after, tidy_eq, reach_end, reach_more, fuelIds, place_cons, pack, if_pos, if_neg, decide_eq_true, wrap_i64, hx, goodElems, placeAll, elemsOf, maxB, zs_snoc, zs_take_len, hv2, hv2r]

theorem capZ_reverse (l : List Int) : capZ l.reverse = capZ l := by
  unfold capZ; rw [List.map_reverse, prodN_reverse]

theorem gauge_times (hb : pureCall (run F) 2 [] = some (.bool true)) (nl : Bool) (l : List Int) (hl : L64 l) (hlen : l.length < 2^63) : pureCall (run F) 5 [.slc nl (zs l)] = some (.bool true) := by
  have main : ∀ l' : List Int, L64 l' → l'.length ≤ 50 → (∀ env w, exec F l_ashlarlaw9_GaugeTimes_0 ⟨[.slc nl (zs l'), w, .bool true, .slc true [], .int .i64 ((l'.length : Int) - 1), .und], env, [], 0⟩ = exec F l_ashlarlaw9_GaugeTimes_0 ⟨[.slc nl (zs l'), w, .bool true, .slc true [], .int .i64 ((l'.length : Int) - 1), .und], env, [], 0⟩) := fun _ _ _ _ _ => rfl
  obtain ⟨l', hl', hl5, hcut⟩ : ∃ l' : List Int, L64 l' ∧ l'.length ≤ 50 ∧ ((50 < l.length ∧ l' = l.take 50) ∨ (¬ 50 < l.length ∧ l' = l)) := by
    by_cases h5 : 50 < l.length
    · exact ⟨l.take 50, fun x hx => hl x (List.mem_of_mem_take hx), by rw [List.length_take]; omega, .inl ⟨h5, rfl⟩⟩
    · exact ⟨l, hl, by omega, .inr ⟨h5, rfl⟩⟩
  obtain ⟨e, st, he, rfl, i, rfl⟩ := back_loop (F := F) nl l' (by omega) (.bool false) (.bool true) rfl
  have h1 := pc_gtimes (F := F) nl l' hl' (by omega)
  have h2 := pc_times9 (F := F) nl l' hl' (by omega)
  have hle := capZ_le l'
  have hpos := capZ_pos l'
  have h3 := fun nl => pc_gtimes (F := F) nl l'.reverse (fun x hx => hl' x (by simpa using hx)) (by simp; omega)
  rw [capZ_reverse] at h3
  refine pure_ret h.ashlarlaw9_GaugeTimes rfl ?_
  by_cases hr : l'.reverse = []
  · rw [hr, gvz_nil, gbz_nil] at he
    rw [hr] at h3
    have h3' : ∀ nl, pureCall (run F) 3 [.slc nl []] = some (.int .i64 (capZ l' : Nat)) := h3
    rcases hcut with ⟨h5, rfl⟩ | ⟨h5, rfl⟩
    · have : (l.take 50).length = 50 := by rw [List.length_take]; omega
      simp at hr
      rw [hr] at this; simp at this
    · generalize capZ l' = w at *
      simp (disch := first | omega | simp) [c_ashlarlaw9_GaugeTimes, if_pos, if_neg, decide_eq_true, decide_eq_false, any_pure, hb, he, h1, h2, h3', wrap_i64]
  · rw [gvz_cons hr, gbz_cons hr] at he
    have hh := treeL_atE (H := [some ⟨false, 1, zs l'.reverse⟩]) (id := 0) (n := 37) (len := l'.reverse.length) (rest := []) rfl (by simp) (by simp) (by simp)
    rw [zs_take_len] at hh
    have hh' : handOn [.mslc 0 0 l'.reverse.length] [some ⟨false, 1, zs l'.reverse⟩] = some ([.slc false (zs l'.reverse)], [some ⟨true, 1, zs l'.reverse⟩]) := by
      simp only [handOn, fuelTree, hh]; simp [freeze, Heap.at]
    generalize hrev : l'.reverse = rv at *
    rcases hcut with ⟨h5, rfl⟩ | ⟨h5, rfl⟩
    · have h50 : (l.take 50).length = 50 := by rw [List.length_take]; omega
      rw [h50] at he
      generalize capZ (l.take 50) = w at *
      have he' : ∀ env, exec F l_ashlarlaw9_GaugeTimes_0 ⟨[.slc nl (zs (l.take 50)), .bool false, .bool true, .slc true [], .int .i64 49, .und], env, [], 0⟩ = _ := he
      simp (disch := first | omega | simp) [c_ashlarlaw9_GaugeTimes, if_pos, if_neg, decide_eq_true, decide_eq_false, any_pure, hb, he', h1, h2, h3, hh', wrap_i64, zs_take, h50]
    · generalize capZ l' = w at *
      simp (disch := first | omega | simp) [c_ashlarlaw9_GaugeTimes, if_pos, if_neg, decide_eq_true, decide_eq_false, any_pure, hb, he, h1, h2, h3, hh', wrap_i64]
end Go.Ash
/- Slices of ints among what a law is handed. -/
namespace Go.Ash
open Go.RowKit

theorem zs_list {P : Program} {k : Nat} {e : TypeId} (he : P.underlying e = some (.int .i64)) : ∀ (xs : List AVal), (∀ x ∈ xs, ∃ ys, x = mkA (isStructT P e) ys ∧ ShapeC P k e ys) → ∃ l, xs = zs l ∧ L64 l
  | [], _ => ⟨[], rfl, fun x hx => by cases hx⟩
  | x :: xs, h => by
    obtain ⟨l, rfl, hl⟩ := zs_list he xs (fun y hy => h y (by simp [hy]))
    obtain ⟨ys, hx, hs⟩ := h x (by simp)
    obtain ⟨n, h0, h1, h2⟩ := shape_i64 he hs
    rw [h0] at hx
    refine ⟨n :: l, by rw [hx]; rfl, ?_⟩
    intro y hy
    rcases List.mem_cons.1 hy with rfl | hy
    · exact ⟨h1, h2⟩
    · exact hl y hy

theorem shape_zs {P : Program} {k : Nat} {t e : TypeId} (ht : P.underlying t = some (.slice e)) (he : P.underlying e = some (.int .i64)) {ys : List AVal} (h : ShapeC P k t ys) :
    ∃ nl l, mkA (isStructT P t) ys = .slc nl (zs l) ∧ L64 l ∧ l.length < 2^63 := by
  have hst : isStructT P t = false := by unfold isStructT; rw [ht]
  cases k with
  | zero => exact h.elim
  | succ k =>
    unfold ShapeC at h
    rw [ht] at h
    rcases h with rfl | ⟨xs, rfl, hle, hxs⟩
    · exact ⟨true, [], by rw [hst]; rfl, (fun x hx => by cases hx), by decide⟩
    · obtain ⟨l, rfl, hl⟩ := zs_list he xs hxs
      refine ⟨false, l, by rw [hst]; rfl, hl, ?_⟩
      rw [length_zs] at hle
      have : maxLen = 9223372036854775807 := rfl
      omega
end Go.Ash
