/- The abstract interpreter of this work and its uses, part 9: AshCodeLaw1, AshRefEq, AshRef1d, AshRef1e, AshRef1f, AshRef1g. -/
import Derived.Test.YtaojijahpdnjhaaAshP08
set_option linter.all false
/- The code of functions of the given program, printed by a program of this work out of the dump (codes.py): data alone. -/
namespace Go.Ash
set_option maxRecDepth 10000
def c_ashlarlaw1_IntQuo : RFunc := ⟨2, [0, 1, 2, 3, 4, 5, 6, 7, 8, 9, 10, 11, 12, 13, 14],
(.seq (.region [⟨.box, [.v 0], some 2, none, []⟩,
 ⟨.box, [.v 1], some 3, none, []⟩,
 ⟨.mov, [.c (.bool false)], some 4, none, []⟩] false)
(.seq (.region [⟨.call false 22, [], none, none, []⟩,
 ⟨.mov, [.p 0], some 5, none, []⟩] false)
(.seq (.region [⟨.load true 2, [.v 2], none, none, []⟩,
 ⟨.call false 23, [.p 0], none, none, []⟩,
 ⟨.load true 2, [.v 3], none, none, []⟩,
 ⟨.call false 23, [.p 0], none, none, []⟩,
 ⟨.store 2, [.v 2, .p 2], none, none, []⟩,
 ⟨.store 2, [.v 3, .p 1], none, none, []⟩] true)
(.seq (.region [⟨.load true 2, [.v 2], none, none, []⟩,
 ⟨.call false 10, [.p 0], none, none, []⟩,
 ⟨.load true 2, [.v 3], none, none, []⟩,
 ⟨.call false 10, [.p 0], none, none, []⟩,
 ⟨.alloc (.agg [.bool false, .slc true []]), [], some 6, none, []⟩,
 ⟨.alloc (.agg [.bool false, .slc true []]), [], some 7, none, []⟩,
 ⟨.store 2, [.v 6, .p 4], none, none, []⟩,
 ⟨.store 2, [.v 7, .p 3], none, none, []⟩] true)
(.seq (.region [⟨.load true 2, [.v 2], none, none, []⟩,
 ⟨.load true 2, [.v 3], none, none, []⟩,
 ⟨.call false 24, [.p 1, .p 0], none, none, []⟩,
 ⟨.mov, [.p 0], none, none, []⟩,
 ⟨.extract 0, [.p 0], none, none, []⟩,
 ⟨.extract 1, [.p 1], none, none, []⟩,
 ⟨.extract 2, [.p 2], none, none, []⟩,
 ⟨.alloc (.agg [.bool false, .slc true []]), [], some 8, none, []⟩,
 ⟨.alloc (.agg [.bool false, .slc true []]), [], some 9, none, []⟩,
 ⟨.store 2, [.v 8, .p 4], none, none, []⟩,
 ⟨.store 2, [.v 9, .p 4], none, none, []⟩,
 ⟨.mov, [.p 4], some 10, none, []⟩] false)
(.seq (.seq (.region [⟨.load true 2, [.v 7], none, none, []⟩,
 ⟨.call false 25, [.p 0], none, none, []⟩,
 ⟨.bin .eql, [.p 0, .c (.int .i64 0)], none, none, []⟩] false)
(.cond (.p 0) (.seq (.region [⟨.mov, [.v 5], none, none, []⟩,
 ⟨.mov, [.p 0], none, none, []⟩,
 ⟨.mov, [.v 10], none, some (0, true), []⟩,
 ⟨.bin .eql, [.p 0, .c (.int .i64 2)], none, some (1, true), []⟩,
 ⟨.pick, [.p 2, .p 0, .c (.bool false)], none, none, []⟩,
 ⟨.mov, [.p 0], none, none, []⟩,
 ⟨.faddr 1, [.v 8], none, some (0, true), []⟩,
 ⟨.load false 1, [.p 0], none, some (1, true), []⟩,
 ⟨.len false, [.p 0], none, some (2, true), []⟩,
 ⟨.bin .eql, [.p 0, .c (.int .i64 0)], none, some (3, true), []⟩,
 ⟨.pick, [.p 4, .p 0, .c (.bool false)], none, none, []⟩,
 ⟨.mov, [.p 0], none, none, []⟩,
 ⟨.faddr 1, [.v 9], none, some (0, true), []⟩,
 ⟨.load false 1, [.p 0], none, some (1, true), []⟩,
 ⟨.len false, [.p 0], none, some (2, true), []⟩,
 ⟨.bin .eql, [.p 0, .c (.int .i64 0)], none, some (3, true), []⟩,
 ⟨.pick, [.p 4, .p 0, .c (.bool false)], none, none, []⟩,
 ⟨.mov, [.p 0], none, none, []⟩,
 ⟨.faddr 0, [.v 8], none, some (0, true), []⟩,
 ⟨.load false 1, [.p 0], none, some (1, true), []⟩,
 ⟨.un .not, [.p 0], none, some (2, true), []⟩,
 ⟨.pick, [.p 3, .p 0, .c (.bool false)], none, none, []⟩,
 ⟨.mov, [.p 0], none, none, []⟩,
 ⟨.faddr 0, [.v 9], none, some (0, true), []⟩,
 ⟨.load false 1, [.p 0], none, some (1, true), []⟩,
 ⟨.un .not, [.p 0], none, some (2, true), []⟩,
 ⟨.pick, [.p 3, .p 0, .c (.bool false)], none, none, []⟩,
 ⟨.mov, [.p 0], some 4, none, []⟩] false)
.ret) .skip))
(.seq (.region [⟨.load true 2, [.v 8], none, none, []⟩,
 ⟨.call false 10, [.p 0], none, none, []⟩,
 ⟨.load true 2, [.v 9], none, none, []⟩,
 ⟨.call false 10, [.p 0], none, none, []⟩,
 ⟨.alloc (.agg [.bool false, .slc true []]), [], some 11, none, []⟩,
 ⟨.alloc (.agg [.bool false, .slc true []]), [], some 12, none, []⟩,
 ⟨.store 2, [.v 11, .p 4], none, none, []⟩,
 ⟨.store 2, [.v 12, .p 3], none, none, []⟩] true)
(.seq (.region [⟨.load true 2, [.v 11], none, none, []⟩,
 ⟨.load true 2, [.v 7], none, none, []⟩,
 ⟨.call false 26, [.p 1, .p 0], none, none, []⟩,
 ⟨.load true 2, [.v 12], none, none, []⟩,
 ⟨.call false 27, [.p 1, .p 0], none, none, []⟩,
 ⟨.load true 2, [.v 6], none, none, []⟩,
 ⟨.call false 28, [.p 1, .p 0], none, none, []⟩,
 ⟨.bin .eql, [.p 0, .c (.int .i64 0)], none, none, []⟩,
 ⟨.mov, [.p 0], some 13, none, []⟩] true)
(.seq (.region [⟨.load true 2, [.v 8], none, none, []⟩,
 ⟨.load true 2, [.v 11], none, none, []⟩,
 ⟨.call false 29, [.p 1, .p 0], none, none, []⟩,
 ⟨.mov, [.p 0], none, none, []⟩,
 ⟨.load true 2, [.v 9], none, some (0, true), []⟩,
 ⟨.load true 2, [.v 12], none, some (1, true), []⟩,
 ⟨.call false 29, [.p 1, .p 0], none, some (2, true), []⟩,
 ⟨.pick, [.p 3, .p 0, .c (.bool false)], none, none, []⟩,
 ⟨.mov, [.p 0], some 14, none, []⟩] false)
(.seq (.region [⟨.mov, [.v 5], none, none, []⟩,
 ⟨.mov, [.p 0], none, none, []⟩,
 ⟨.mov, [.v 10], none, some (0, true), []⟩,
 ⟨.bin .eql, [.p 0, .c (.int .i64 0)], none, some (1, true), []⟩,
 ⟨.pick, [.p 2, .p 0, .c (.bool false)], none, none, []⟩,
 ⟨.mov, [.p 0], none, none, []⟩,
 ⟨.mov, [.v 13], none, some (0, true), []⟩,
 ⟨.pick, [.p 1, .p 0, .c (.bool false)], none, none, []⟩,
 ⟨.mov, [.p 0], none, none, []⟩,
 ⟨.mov, [.v 14], none, some (0, true), []⟩,
 ⟨.pick, [.p 1, .p 0, .c (.bool false)], none, none, []⟩,
 ⟨.mov, [.p 0], none, none, []⟩,
 ⟨.load true 2, [.v 12], none, some (0, true), []⟩,
 ⟨.call false 25, [.p 0], none, some (1, true), []⟩,
 ⟨.bin .geq, [.p 0, .c (.int .i64 0)], none, some (2, true), []⟩,
 ⟨.pick, [.p 3, .p 0, .c (.bool false)], none, none, []⟩,
 ⟨.mov, [.p 0], none, none, []⟩,
 ⟨.load true 2, [.v 12], none, some (0, true), []⟩,
 ⟨.load true 2, [.v 7], none, some (1, true), []⟩,
 ⟨.call false 30, [.p 0], none, some (2, true), []⟩,
 ⟨.call false 28, [.p 2, .p 0], none, some (3, true), []⟩,
 ⟨.bin .lss, [.p 0, .c (.int .i64 0)], none, some (4, true), []⟩,
 ⟨.pick, [.p 5, .p 0, .c (.bool false)], none, none, []⟩,
 ⟨.mov, [.p 0], some 4, none, []⟩] true)
.ret)))))))))),
[.v 4]⟩
def c_ashlarlaw1_IntSmall : RFunc := ⟨2, [0, 1, 3, 4, 5, 6, 7, 8, 9, 10, 11, 12, 13, 14, 15],
(.seq (.region [⟨.box, [.v 1], some 2, none, []⟩,
 ⟨.mov, [.c (.bool false)], some 3, none, []⟩] false)
(.seq (.region [⟨.call false 22, [], none, none, []⟩,
 ⟨.mov, [.p 0], some 4, none, []⟩] false)
(.seq (.region [⟨.mov, [.v 0], none, none, []⟩,
 ⟨.call false 32, [.p 0], none, none, []⟩,
 ⟨.alloc (.agg [.bool false, .slc true []]), [], some 5, none, []⟩,
 ⟨.store 2, [.v 5, .p 1], none, none, []⟩] false)
(.seq (.region [⟨.load true 2, [.v 5], none, none, []⟩,
 ⟨.call false 33, [.p 0], none, none, []⟩,
 ⟨.mov, [.p 0], none, none, []⟩,
 ⟨.extract 0, [.p 0], none, none, []⟩,
 ⟨.extract 1, [.p 1], none, none, []⟩,
 ⟨.mov, [.p 1], some 6, none, []⟩,
 ⟨.mov, [.p 1], some 7, none, []⟩] false)
(.seq (.region [⟨.load true 2, [.v 5], none, none, []⟩,
 ⟨.mov, [.v 0], none, none, []⟩,
 ⟨.call false 34, [.p 0], none, none, []⟩,
 ⟨.call false 29, [.p 2, .p 0], none, none, []⟩,
 ⟨.mov, [.p 0], some 8, none, []⟩] true)
(.seq (.region [⟨.load true 2, [.v 2], none, none, []⟩,
 ⟨.call false 23, [.p 0], none, none, []⟩,
 ⟨.store 2, [.v 2, .p 0], none, none, []⟩] false)
(.seq (.region [⟨.load true 2, [.v 2], none, none, []⟩,
 ⟨.call false 10, [.p 0], none, none, []⟩,
 ⟨.alloc (.agg [.bool false, .slc true []]), [], some 9, none, []⟩,
 ⟨.store 2, [.v 9, .p 1], none, none, []⟩] false)
(.seq (.region [⟨.load true 2, [.v 2], none, none, []⟩,
 ⟨.call false 33, [.p 0], none, none, []⟩,
 ⟨.mov, [.p 0], none, none, []⟩,
 ⟨.extract 0, [.p 0], none, none, []⟩,
 ⟨.extract 1, [.p 1], none, none, []⟩,
 ⟨.mov, [.p 1], some 10, none, []⟩,
 ⟨.mov, [.p 1], some 11, none, []⟩] false)
(.seq (.region [⟨.call false 34, [.c (.int .i64 (-9223372036854775808))], none, none, []⟩,
 ⟨.call false 34, [.c (.int .i64 9223372036854775807)], none, none, []⟩,
 ⟨.alloc (.agg [.bool false, .slc true []]), [], some 12, none, []⟩,
 ⟨.alloc (.agg [.bool false, .slc true []]), [], some 13, none, []⟩,
 ⟨.store 2, [.v 12, .p 3], none, none, []⟩,
 ⟨.store 2, [.v 13, .p 3], none, none, []⟩] false)
(.seq (.region [⟨.load true 2, [.v 9], none, none, []⟩,
 ⟨.load true 2, [.v 12], none, none, []⟩,
 ⟨.call false 28, [.p 1, .p 0], none, none, []⟩,
 ⟨.bin .geq, [.p 0, .c (.int .i64 0)], none, none, []⟩,
 ⟨.mov, [.p 0], none, none, []⟩,
 ⟨.load true 2, [.v 9], none, some (0, true), []⟩,
 ⟨.load true 2, [.v 13], none, some (1, true), []⟩,
 ⟨.call false 28, [.p 1, .p 0], none, some (2, true), []⟩,
 ⟨.bin .leq, [.p 0, .c (.int .i64 0)], none, some (3, true), []⟩,
 ⟨.pick, [.p 4, .p 0, .c (.bool false)], none, none, []⟩,
 ⟨.mov, [.p 0], some 14, none, []⟩] false)
(.seq (.seq (.region [⟨.mov, [.v 11], none, none, []⟩,
 ⟨.mov, [.v 14], none, none, []⟩,
 ⟨.beq true, [.p 1, .p 0], none, none, []⟩,
 ⟨.mov, [.p 0], none, none, []⟩,
 ⟨.mov, [.v 14], none, some (0, false), []⟩,
 ⟨.un .not, [.p 0], none, some (1, false), []⟩,
 ⟨.mov, [.p 0], none, some (2, false), []⟩,
 ⟨.mov, [.v 10], none, some (0, true), []⟩,
 ⟨.bin .neq, [.p 0, .c (.int .i64 0)], none, some (1, true), []⟩,
 ⟨.pick, [.p 2, .p 0, .c (.bool false)], none, some (5, false), []⟩,
 ⟨.pick, [.p 6, .c (.bool true), .p 0], none, none, []⟩,
 ⟨.mov, [.p 0], none, none, []⟩,
 ⟨.mov, [.v 14], none, some (0, false), []⟩,
 ⟨.mov, [.p 0], none, some (1, false), []⟩,
 ⟨.mov, [.v 10], none, some (0, true), []⟩,
 ⟨.call false 34, [.p 0], none, some (1, true), []⟩,
 ⟨.load true 2, [.v 9], none, some (2, true), []⟩,
 ⟨.call false 28, [.p 1, .p 0], none, some (3, true), []⟩,
 ⟨.bin .neq, [.p 0, .c (.int .i64 0)], none, some (4, true), []⟩,
 ⟨.pick, [.p 5, .p 0, .c (.bool false)], none, some (7, false), []⟩,
 ⟨.pick, [.p 8, .c (.bool true), .p 0], none, none, []⟩] true)
(.cond (.p 0) (.seq (.region [⟨.mov, [.c (.bool false)], some 3, none, []⟩] false)
.ret) .skip))
(.seq (.region [⟨.mov, [.v 4], none, none, []⟩,
 ⟨.mov, [.p 0], none, none, []⟩,
 ⟨.mov, [.v 7], none, some (0, true), []⟩,
 ⟨.pick, [.p 1, .p 0, .c (.bool false)], none, none, []⟩,
 ⟨.mov, [.p 0], none, none, []⟩,
 ⟨.mov, [.v 6], none, some (0, true), []⟩,
 ⟨.mov, [.v 0], none, some (1, true), []⟩,
 ⟨.bin .eql, [.p 1, .p 0], none, some (2, true), []⟩,
 ⟨.pick, [.p 3, .p 0, .c (.bool false)], none, none, []⟩,
 ⟨.mov, [.p 0], none, none, []⟩,
 ⟨.mov, [.v 8], none, some (0, true), []⟩,
 ⟨.pick, [.p 1, .p 0, .c (.bool false)], none, none, []⟩,
 ⟨.mov, [.p 0], some 3, none, []⟩] false)
.ret)))))))))))),
[.v 3]⟩
def c_ashlarlaw1_IntGcd : RFunc := ⟨3, [0, 1, 2, 3, 4, 5, 6, 7, 8, 9, 10, 11, 12, 13, 14, 15],
(.seq (.region [⟨.box, [.v 0], some 3, none, []⟩,
 ⟨.box, [.v 1], some 4, none, []⟩,
 ⟨.box, [.v 2], some 5, none, []⟩,
 ⟨.mov, [.c (.bool false)], some 6, none, []⟩] false)
(.seq (.region [⟨.call false 22, [], none, none, []⟩,
 ⟨.mov, [.p 0], some 7, none, []⟩] false)
(.seq (.region [⟨.load true 2, [.v 3], none, none, []⟩,
 ⟨.call false 23, [.p 0], none, none, []⟩,
 ⟨.load true 2, [.v 4], none, none, []⟩,
 ⟨.call false 23, [.p 0], none, none, []⟩,
 ⟨.load true 2, [.v 5], none, none, []⟩,
 ⟨.call false 23, [.p 0], none, none, []⟩,
 ⟨.store 2, [.v 3, .p 4], none, none, []⟩,
 ⟨.store 2, [.v 4, .p 3], none, none, []⟩,
 ⟨.store 2, [.v 5, .p 2], none, none, []⟩] true)
(.seq (.region [⟨.load true 2, [.v 3], none, none, []⟩,
 ⟨.call false 10, [.p 0], none, none, []⟩,
 ⟨.load true 2, [.v 4], none, none, []⟩,
 ⟨.call false 10, [.p 0], none, none, []⟩,
 ⟨.load true 2, [.v 5], none, none, []⟩,
 ⟨.call false 10, [.p 0], none, none, []⟩,
 ⟨.alloc (.agg [.bool false, .slc true []]), [], some 8, none, []⟩,
 ⟨.alloc (.agg [.bool false, .slc true []]), [], some 9, none, []⟩,
 ⟨.alloc (.agg [.bool false, .slc true []]), [], some 10, none, []⟩,
 ⟨.store 2, [.v 8, .p 7], none, none, []⟩,
 ⟨.store 2, [.v 9, .p 6], none, none, []⟩,
 ⟨.store 2, [.v 10, .p 5], none, none, []⟩] true)
(.seq (.region [⟨.load true 2, [.v 3], none, none, []⟩,
 ⟨.load true 2, [.v 4], none, none, []⟩,
 ⟨.call false 36, [.p 1, .p 0], none, none, []⟩,
 ⟨.alloc (.agg [.bool false, .slc true []]), [], some 11, none, []⟩,
 ⟨.store 2, [.v 11, .p 1], none, none, []⟩] false)
(.seq (.region [⟨.load true 2, [.v 11], none, none, []⟩,
 ⟨.call false 10, [.p 0], none, none, []⟩,
 ⟨.alloc (.agg [.bool false, .slc true []]), [], some 12, none, []⟩,
 ⟨.store 2, [.v 12, .p 1], none, none, []⟩] false)
(.seq (.region [⟨.load true 2, [.v 11], none, none, []⟩,
 ⟨.load true 2, [.v 8], none, none, []⟩,
 ⟨.load true 2, [.v 9], none, none, []⟩,
 ⟨.call false 37, [.p 1, .p 0], none, none, []⟩,
 ⟨.call false 29, [.p 3, .p 0], none, none, []⟩,
 ⟨.mov, [.p 0], some 13, none, []⟩] true)
(.seq (.region [⟨.load true 2, [.v 3], none, none, []⟩,
 ⟨.load true 2, [.v 5], none, none, []⟩,
 ⟨.call false 38, [.p 1, .p 0], none, none, []⟩,
 ⟨.load true 2, [.v 4], none, none, []⟩,
 ⟨.load true 2, [.v 5], none, none, []⟩,
 ⟨.call false 38, [.p 1, .p 0], none, none, []⟩,
 ⟨.call false 36, [.p 3, .p 0], none, none, []⟩,
 ⟨.alloc (.agg [.bool false, .slc true []]), [], some 14, none, []⟩,
 ⟨.store 2, [.v 14, .p 1], none, none, []⟩] true)
(.seq (.region [⟨.load true 2, [.v 14], none, none, []⟩,
 ⟨.load true 2, [.v 12], none, none, []⟩,
 ⟨.load true 2, [.v 10], none, none, []⟩,
 ⟨.call false 30, [.p 0], none, none, []⟩,
 ⟨.call false 26, [.p 2, .p 0], none, none, []⟩,
 ⟨.call false 29, [.p 4, .p 0], none, none, []⟩,
 ⟨.mov, [.p 0], some 15, none, []⟩] true)
(.seq (.region [⟨.mov, [.v 7], none, none, []⟩,
 ⟨.mov, [.p 0], none, none, []⟩,
 ⟨.mov, [.v 13], none, some (0, true), []⟩,
 ⟨.pick, [.p 1, .p 0, .c (.bool false)], none, none, []⟩,
 ⟨.mov, [.p 0], none, none, []⟩,
 ⟨.mov, [.v 15], none, some (0, true), []⟩,
 ⟨.pick, [.p 1, .p 0, .c (.bool false)], none, none, []⟩,
 ⟨.mov, [.p 0], some 6, none, []⟩] false)
.ret)))))))))),
[.v 6]⟩
def c_ashlarlaw1_IntMod : RFunc := ⟨2, [0, 1, 2, 4, 5, 6, 7],
(.seq (.region [⟨.box, [.v 0], some 2, none, []⟩,
 ⟨.mov, [.c (.bool false)], some 3, none, []⟩] false)
(.seq (.region [⟨.call false 22, [], none, none, []⟩,
 ⟨.mov, [.p 0], some 4, none, []⟩] false)
(.seq (.region [⟨.load true 2, [.v 2], none, none, []⟩,
 ⟨.call false 23, [.p 0], none, none, []⟩,
 ⟨.store 2, [.v 2, .p 0], none, none, []⟩] false)
(.seq (.region [⟨.load true 2, [.v 2], none, none, []⟩,
 ⟨.mov, [.v 1], none, none, []⟩,
 ⟨.call false 40, [.p 1, .p 0], none, none, []⟩,
 ⟨.mov, [.p 0], none, none, []⟩,
 ⟨.extract 0, [.p 0], none, none, []⟩,
 ⟨.extract 1, [.p 1], none, none, []⟩,
 ⟨.mov, [.p 1], some 5, none, []⟩,
 ⟨.mov, [.p 1], some 6, none, []⟩] false)
(.seq (.seq (.region [⟨.mov, [.v 1], none, none, []⟩,
 ⟨.bin .lss, [.p 0, .c (.int .i64 1)], none, none, []⟩,
 ⟨.mov, [.p 0], none, none, []⟩,
 ⟨.mov, [.v 1], none, some (0, false), []⟩,
 ⟨.bin .gtr, [.p 0, .c (.int .i64 2147483647)], none, some (1, false), []⟩,
 ⟨.pick, [.p 2, .c (.bool true), .p 0], none, none, []⟩] false)
(.cond (.p 0) (.seq (.region [⟨.mov, [.v 4], none, none, []⟩,
 ⟨.mov, [.p 0], none, none, []⟩,
 ⟨.mov, [.v 6], none, some (0, true), []⟩,
 ⟨.bin .eql, [.p 0, .c (.int .i64 1)], none, some (1, true), []⟩,
 ⟨.pick, [.p 2, .p 0, .c (.bool false)], none, none, []⟩,
 ⟨.mov, [.p 0], none, none, []⟩,
 ⟨.mov, [.v 5], none, some (0, true), []⟩,
 ⟨.bin .eql, [.p 0, .c (.int .i64 0)], none, some (1, true), []⟩,
 ⟨.pick, [.p 2, .p 0, .c (.bool false)], none, none, []⟩,
 ⟨.mov, [.p 0], some 3, none, []⟩] false)
.ret) .skip))
(.seq (.region [⟨.mov, [.v 4], none, none, []⟩,
 ⟨.mov, [.p 0], none, none, []⟩,
 ⟨.mov, [.v 6], none, some (0, true), []⟩,
 ⟨.bin .eql, [.p 0, .c (.int .i64 0)], none, some (1, true), []⟩,
 ⟨.pick, [.p 2, .p 0, .c (.bool false)], none, none, []⟩,
 ⟨.mov, [.p 0], none, none, []⟩,
 ⟨.mov, [.v 5], none, some (0, true), []⟩,
 ⟨.load true 2, [.v 2], none, some (1, true), []⟩,
 ⟨.call false 10, [.p 0], none, some (2, true), []⟩,
 ⟨.mov, [.v 1], none, some (3, true), []⟩,
 ⟨.call false 41, [.p 1, .p 0], none, some (4, true), []⟩,
 ⟨.bin .eql, [.p 4, .p 0], none, some (5, true), []⟩,
 ⟨.pick, [.p 6, .p 0, .c (.bool false)], none, none, []⟩,
 ⟨.mov, [.p 0], some 3, none, []⟩] false)
.ret)))))),
[.v 3]⟩
def l_ashlarlaw1_IntForms_0 : RCode := (.loop [false, false, true, true, true, false, true, true, true] (.seq (.seq (.region [⟨.mov, [.v 8], none, none, []⟩,
 ⟨.mov, [.v 2], none, none, []⟩,
 ⟨.bin .lss, [.p 1, .p 0], none, none, []⟩,
 ⟨.mov, [.p 0], none, none, []⟩,
 ⟨.mov, [.v 8], none, some (0, true), []⟩,
 ⟨.bin .lss, [.p 0, .c (.int .i64 5)], none, some (1, true), []⟩,
 ⟨.pick, [.p 2, .p 0, .c (.bool false)], none, none, []⟩] false)
(.cond (.p 0) .skip (.exit 0)))
(.seq (.block 1 (.region [⟨.faddr 1, [.v 7], none, none, []⟩,
 ⟨.load false 1, [.p 0], none, none, []⟩,
 ⟨.bslice 1 (.int .u32 0) 1 [0], [.c (.int .u32 0)], none, none, []⟩,
 ⟨.app 4 1, [.p 1, .p 0], none, none, []⟩,
 ⟨.faddr 1, [.v 7], none, none, []⟩,
 ⟨.store 1, [.p 0, .p 1], none, none, []⟩] false))
(.region [⟨.mov, [.v 8], none, none, []⟩,
 ⟨.bin .add, [.p 0, .c (.int .i64 1)], none, none, []⟩,
 ⟨.mov, [.p 0], some 8, none, []⟩] false))))
def l_ashlarlaw1_IntForms_1 : RCode := (.loop [false, false, false, true, true, false, true, true, false, true, true, true, true, true] (.seq (.seq (.region [⟨.mov, [.v 13], none, none, []⟩,
 ⟨.faddr 1, [.v 9], none, none, []⟩,
 ⟨.load false 1, [.p 0], none, none, []⟩,
 ⟨.len false, [.p 0], none, none, []⟩,
 ⟨.bin .lss, [.p 3, .p 0], none, none, []⟩] false)
(.cond (.p 0) .skip (.exit 2)))
(.seq (.block 3 (.region [⟨.faddr 1, [.v 9], none, none, []⟩,
 ⟨.load false 1, [.p 0], none, none, []⟩,
 ⟨.mov, [.v 13], none, none, []⟩,
 ⟨.iaddr 1, [.p 1, .p 0], none, none, []⟩,
 ⟨.store 1, [.p 0, .c (.int .u32 77)], none, none, []⟩] false))
(.region [⟨.mov, [.v 13], none, none, []⟩,
 ⟨.bin .add, [.p 0, .c (.int .i64 1)], none, none, []⟩,
 ⟨.mov, [.p 0], some 13, none, []⟩] false))))
def l_ashlarlaw1_IntForms_2 : RCode := (.loop [false, false, false, true, true, false, true, true, false, false, true, true, true, false, true] (.seq (.seq (.region [⟨.mov, [.v 14], none, none, []⟩,
 ⟨.faddr 1, [.v 3], none, none, []⟩,
 ⟨.load false 1, [.p 0], none, none, []⟩,
 ⟨.len false, [.p 0], none, none, []⟩,
 ⟨.bin .lss, [.p 3, .p 0], none, none, []⟩] false)
(.cond (.p 0) .skip (.exit 4)))
(.seq (.block 5 (.seq (.region [⟨.faddr 1, [.v 7], none, none, []⟩,
 ⟨.load false 1, [.p 0], none, none, []⟩,
 ⟨.mov, [.v 14], none, none, []⟩,
 ⟨.iaddr 1, [.p 1, .p 0], none, none, []⟩,
 ⟨.load false 1, [.p 0], none, none, []⟩,
 ⟨.faddr 1, [.v 3], none, none, []⟩,
 ⟨.load false 1, [.p 0], none, none, []⟩,
 ⟨.mov, [.v 14], none, none, []⟩,
 ⟨.iaddr 1, [.p 1, .p 0], none, none, []⟩,
 ⟨.load false 1, [.p 0], none, none, []⟩,
 ⟨.bin .neq, [.p 5, .p 0], none, none, []⟩] true)
(.cond (.p 0) (.seq (.region [⟨.mov, [.c (.bool false)], some 5, none, []⟩] false)
.ret) .skip)))
(.region [⟨.mov, [.v 14], none, none, []⟩,
 ⟨.bin .add, [.p 0, .c (.int .i64 1)], none, none, []⟩,
 ⟨.mov, [.p 0], some 14, none, []⟩] false))))
def c_ashlarlaw1_IntForms : RFunc := ⟨3, [0, 1, 2, 3, 4, 6, 7, 8, 9, 10, 11, 12, 13, 14, 15, 16, 17],
(.seq (.region [⟨.box, [.v 0], some 3, none, []⟩,
 ⟨.box, [.v 1], some 4, none, []⟩,
 ⟨.mov, [.c (.bool false)], some 5, none, []⟩] false)
(.seq (.region [⟨.call false 22, [], none, none, []⟩,
 ⟨.mov, [.p 0], some 6, none, []⟩] false)
(.seq (.region [⟨.load true 2, [.v 3], none, none, []⟩,
 ⟨.call false 23, [.p 0], none, none, []⟩,
 ⟨.load true 2, [.v 4], none, none, []⟩,
 ⟨.call false 23, [.p 0], none, none, []⟩,
 ⟨.store 2, [.v 3, .p 2], none, none, []⟩,
 ⟨.store 2, [.v 4, .p 1], none, none, []⟩] true)
(.seq (.region [⟨.faddr 0, [.v 3], none, none, []⟩,
 ⟨.load false 1, [.p 0], none, none, []⟩,
 ⟨.faddr 1, [.v 3], none, none, []⟩,
 ⟨.load false 1, [.p 0], none, none, []⟩,
 ⟨.app 4 1, [.c (.slc true []), .p 0], none, none, []⟩,
 ⟨.build [.bool false, .slc true []] [(0, 1), (1, 1)], [.p 3, .p 0], none, none, []⟩,
 ⟨.alloc (.agg [.bool false, .slc true []]), [], some 7, none, []⟩,
 ⟨.store 2, [.v 7, .p 1], none, none, []⟩] true)
(.seq (.seq (.region [⟨.mov, [.c (.int .i64 0)], some 8, none, []⟩] false)
(.block 0 l_ashlarlaw1_IntForms_0))
(.seq (.region [⟨.load true 2, [.v 3], none, none, []⟩,
 ⟨.load true 2, [.v 4], none, none, []⟩,
 ⟨.call true 38, [.p 1, .p 0], none, none, []⟩,
 ⟨.alloc (.agg [.bool false, .slc true []]), [], some 9, none, []⟩,
 ⟨.store 2, [.v 9, .p 1], none, none, []⟩] false)
(.seq (.region [⟨.load true 2, [.v 7], none, none, []⟩,
 ⟨.load true 2, [.v 4], none, none, []⟩,
 ⟨.call false 38, [.p 1, .p 0], none, none, []⟩,
 ⟨.alloc (.agg [.bool false, .slc true []]), [], some 10, none, []⟩,
 ⟨.store 2, [.v 10, .p 1], none, none, []⟩] false)
(.seq (.region [⟨.load true 2, [.v 7], none, none, []⟩,
 ⟨.load true 2, [.v 4], none, none, []⟩,
 ⟨.call false 43, [.p 1, .p 0], none, none, []⟩,
 ⟨.alloc (.agg [.bool false, .slc true []]), [], some 11, none, []⟩,
 ⟨.store 2, [.v 11, .p 1], none, none, []⟩] false)
(.seq (.region [⟨.load true 2, [.v 9], none, none, []⟩,
 ⟨.load true 2, [.v 10], none, none, []⟩,
 ⟨.call true 44, [.p 1, .p 0], none, none, []⟩,
 ⟨.mov, [.p 0], some 12, none, []⟩] false)
(.seq (.seq (.region [⟨.mov, [.c (.int .i64 0)], some 13, none, []⟩] false)
(.block 2 l_ashlarlaw1_IntForms_1))
(.seq (.seq (.region [⟨.mov, [.c (.int .i64 0)], some 14, none, []⟩] false)
(.block 4 l_ashlarlaw1_IntForms_2))
(.seq (.region [⟨.load true 2, [.v 10], none, none, []⟩,
 ⟨.load true 2, [.v 3], none, none, []⟩,
 ⟨.call false 10, [.p 0], none, none, []⟩,
 ⟨.load true 2, [.v 4], none, none, []⟩,
 ⟨.call false 10, [.p 0], none, none, []⟩,
 ⟨.call false 26, [.p 2, .p 0], none, none, []⟩,
 ⟨.call false 29, [.p 5, .p 0], none, none, []⟩,
 ⟨.mov, [.p 0], some 15, none, []⟩] true)
(.seq (.region [⟨.load true 2, [.v 11], none, none, []⟩,
 ⟨.load true 2, [.v 3], none, none, []⟩,
 ⟨.call false 10, [.p 0], none, none, []⟩,
 ⟨.load true 2, [.v 4], none, none, []⟩,
 ⟨.call false 10, [.p 0], none, none, []⟩,
 ⟨.call false 27, [.p 2, .p 0], none, none, []⟩,
 ⟨.call false 29, [.p 5, .p 0], none, none, []⟩,
 ⟨.mov, [.p 0], some 16, none, []⟩] true)
(.seq (.region [⟨.mov, [.v 6], none, none, []⟩,
 ⟨.mov, [.p 0], none, none, []⟩,
 ⟨.mov, [.v 12], none, some (0, true), []⟩,
 ⟨.pick, [.p 1, .p 0, .c (.bool false)], none, none, []⟩,
 ⟨.mov, [.p 0], none, none, []⟩,
 ⟨.mov, [.v 15], none, some (0, true), []⟩,
 ⟨.pick, [.p 1, .p 0, .c (.bool false)], none, none, []⟩,
 ⟨.mov, [.p 0], none, none, []⟩,
 ⟨.mov, [.v 16], none, some (0, true), []⟩,
 ⟨.pick, [.p 1, .p 0, .c (.bool false)], none, none, []⟩,
 ⟨.mov, [.p 0], some 5, none, []⟩] false)
.ret)))))))))))))),
[.v 5]⟩
def c_ashlarlaw1_IntRing : RFunc := ⟨3, [0, 1, 2, 3, 4, 5, 6, 7, 8, 9, 10],
(.seq (.region [⟨.box, [.v 0], some 3, none, []⟩,
 ⟨.box, [.v 1], some 4, none, []⟩,
 ⟨.box, [.v 2], some 5, none, []⟩,
 ⟨.mov, [.c (.bool false)], some 6, none, []⟩] false)
(.seq (.region [⟨.call false 22, [], none, none, []⟩,
 ⟨.mov, [.p 0], some 7, none, []⟩] false)
(.seq (.region [⟨.load true 2, [.v 3], none, none, []⟩,
 ⟨.call false 23, [.p 0], none, none, []⟩,
 ⟨.load true 2, [.v 4], none, none, []⟩,
 ⟨.call false 23, [.p 0], none, none, []⟩,
 ⟨.load true 2, [.v 5], none, none, []⟩,
 ⟨.call false 23, [.p 0], none, none, []⟩,
 ⟨.store 2, [.v 3, .p 4], none, none, []⟩,
 ⟨.store 2, [.v 4, .p 3], none, none, []⟩,
 ⟨.store 2, [.v 5, .p 2], none, none, []⟩] true)
(.seq (.region [⟨.load true 2, [.v 3], none, none, []⟩,
 ⟨.load true 2, [.v 4], none, none, []⟩,
 ⟨.load true 2, [.v 5], none, none, []⟩,
 ⟨.call false 43, [.p 1, .p 0], none, none, []⟩,
 ⟨.call false 38, [.p 3, .p 0], none, none, []⟩,
 ⟨.load true 2, [.v 3], none, none, []⟩,
 ⟨.load true 2, [.v 4], none, none, []⟩,
 ⟨.call false 38, [.p 1, .p 0], none, none, []⟩,
 ⟨.load true 2, [.v 3], none, none, []⟩,
 ⟨.load true 2, [.v 5], none, none, []⟩,
 ⟨.call false 38, [.p 1, .p 0], none, none, []⟩,
 ⟨.call false 43, [.p 3, .p 0], none, none, []⟩,
 ⟨.call false 44, [.p 7, .p 0], none, none, []⟩,
 ⟨.mov, [.p 0], some 8, none, []⟩] true)
(.seq (.region [⟨.load true 2, [.v 3], none, none, []⟩,
 ⟨.load true 2, [.v 4], none, none, []⟩,
 ⟨.call false 38, [.p 1, .p 0], none, none, []⟩,
 ⟨.load true 2, [.v 5], none, none, []⟩,
 ⟨.call false 38, [.p 1, .p 0], none, none, []⟩,
 ⟨.load true 2, [.v 3], none, none, []⟩,
 ⟨.load true 2, [.v 4], none, none, []⟩,
 ⟨.load true 2, [.v 5], none, none, []⟩,
 ⟨.call false 38, [.p 1, .p 0], none, none, []⟩,
 ⟨.call false 38, [.p 3, .p 0], none, none, []⟩,
 ⟨.call false 44, [.p 5, .p 0], none, none, []⟩,
 ⟨.mov, [.p 0], some 9, none, []⟩] true)
(.seq (.region [⟨.load true 2, [.v 3], none, none, []⟩,
 ⟨.load true 2, [.v 4], none, none, []⟩,
 ⟨.call false 43, [.p 1, .p 0], none, none, []⟩,
 ⟨.load true 2, [.v 4], none, none, []⟩,
 ⟨.call false 46, [.p 1, .p 0], none, none, []⟩,
 ⟨.load true 2, [.v 3], none, none, []⟩,
 ⟨.call false 32, [.c (.int .i64 0)], none, none, []⟩,
 ⟨.call false 43, [.p 1, .p 0], none, none, []⟩,
 ⟨.call false 44, [.p 3, .p 0], none, none, []⟩,
 ⟨.mov, [.p 0], some 10, none, []⟩] true)
(.seq (.region [⟨.mov, [.v 7], none, none, []⟩,
 ⟨.mov, [.p 0], none, none, []⟩,
 ⟨.mov, [.v 8], none, some (0, true), []⟩,
 ⟨.pick, [.p 1, .p 0, .c (.bool false)], none, none, []⟩,
 ⟨.mov, [.p 0], none, none, []⟩,
 ⟨.mov, [.v 9], none, some (0, true), []⟩,
 ⟨.pick, [.p 1, .p 0, .c (.bool false)], none, none, []⟩,
 ⟨.mov, [.p 0], none, none, []⟩,
 ⟨.mov, [.v 10], none, some (0, true), []⟩,
 ⟨.pick, [.p 1, .p 0, .c (.bool false)], none, none, []⟩,
 ⟨.mov, [.p 0], some 6, none, []⟩] false)
.ret))))))),
[.v 6]⟩
def c_ashlarlaw1_IntSums : RFunc := ⟨2, [0, 1, 2, 3, 4, 5, 6, 7, 8, 9, 10, 11],
(.seq (.region [⟨.box, [.v 0], some 2, none, []⟩,
 ⟨.box, [.v 1], some 3, none, []⟩,
 ⟨.mov, [.c (.bool false)], some 4, none, []⟩] false)
(.seq (.region [⟨.call false 22, [], none, none, []⟩,
 ⟨.mov, [.p 0], some 5, none, []⟩] false)
(.seq (.region [⟨.load true 2, [.v 2], none, none, []⟩,
 ⟨.call false 23, [.p 0], none, none, []⟩,
 ⟨.load true 2, [.v 3], none, none, []⟩,
 ⟨.call false 23, [.p 0], none, none, []⟩,
 ⟨.store 2, [.v 2, .p 2], none, none, []⟩,
 ⟨.store 2, [.v 3, .p 1], none, none, []⟩] true)
(.seq (.region [⟨.load true 2, [.v 2], none, none, []⟩,
 ⟨.call false 10, [.p 0], none, none, []⟩,
 ⟨.load true 2, [.v 3], none, none, []⟩,
 ⟨.call false 10, [.p 0], none, none, []⟩,
 ⟨.alloc (.agg [.bool false, .slc true []]), [], some 6, none, []⟩,
 ⟨.alloc (.agg [.bool false, .slc true []]), [], some 7, none, []⟩,
 ⟨.store 2, [.v 6, .p 4], none, none, []⟩,
 ⟨.store 2, [.v 7, .p 3], none, none, []⟩] true)
(.seq (.region [⟨.load true 2, [.v 2], none, none, []⟩,
 ⟨.load true 2, [.v 3], none, none, []⟩,
 ⟨.call false 43, [.p 1, .p 0], none, none, []⟩,
 ⟨.load true 2, [.v 6], none, none, []⟩,
 ⟨.load true 2, [.v 7], none, none, []⟩,
 ⟨.call false 27, [.p 1, .p 0], none, none, []⟩,
 ⟨.call false 29, [.p 3, .p 0], none, none, []⟩,
 ⟨.mov, [.p 0], some 8, none, []⟩] true)
(.seq (.region [⟨.load true 2, [.v 2], none, none, []⟩,
 ⟨.load true 2, [.v 3], none, none, []⟩,
 ⟨.call false 46, [.p 1, .p 0], none, none, []⟩,
 ⟨.load true 2, [.v 6], none, none, []⟩,
 ⟨.load true 2, [.v 7], none, none, []⟩,
 ⟨.call false 48, [.p 1, .p 0], none, none, []⟩,
 ⟨.call false 29, [.p 3, .p 0], none, none, []⟩,
 ⟨.mov, [.p 0], some 9, none, []⟩] true)
(.seq (.region [⟨.load true 2, [.v 2], none, none, []⟩,
 ⟨.load true 2, [.v 3], none, none, []⟩,
 ⟨.call false 38, [.p 1, .p 0], none, none, []⟩,
 ⟨.load true 2, [.v 6], none, none, []⟩,
 ⟨.load true 2, [.v 7], none, none, []⟩,
 ⟨.call false 26, [.p 1, .p 0], none, none, []⟩,
 ⟨.call false 29, [.p 3, .p 0], none, none, []⟩,
 ⟨.mov, [.p 0], some 10, none, []⟩] true)
(.seq (.region [⟨.load true 2, [.v 2], none, none, []⟩,
 ⟨.call false 49, [.p 0], none, none, []⟩,
 ⟨.load true 2, [.v 6], none, none, []⟩,
 ⟨.call false 50, [.p 0], none, none, []⟩,
 ⟨.call false 29, [.p 2, .p 0], none, none, []⟩,
 ⟨.mov, [.p 0], some 11, none, []⟩] true)
(.seq (.region [⟨.mov, [.v 5], none, none, []⟩,
 ⟨.mov, [.p 0], none, none, []⟩,
 ⟨.mov, [.v 8], none, some (0, true), []⟩,
 ⟨.pick, [.p 1, .p 0, .c (.bool false)], none, none, []⟩,
 ⟨.mov, [.p 0], none, none, []⟩,
 ⟨.mov, [.v 9], none, some (0, true), []⟩,
 ⟨.pick, [.p 1, .p 0, .c (.bool false)], none, none, []⟩,
 ⟨.mov, [.p 0], none, none, []⟩,
 ⟨.mov, [.v 10], none, some (0, true), []⟩,
 ⟨.pick, [.p 1, .p 0, .c (.bool false)], none, none, []⟩,
 ⟨.mov, [.p 0], none, none, []⟩,
 ⟨.mov, [.v 11], none, some (0, true), []⟩,
 ⟨.pick, [.p 1, .p 0, .c (.bool false)], none, none, []⟩,
 ⟨.mov, [.p 0], none, none, []⟩,
 ⟨.load true 2, [.v 2], none, some (0, true), []⟩,
 ⟨.load true 2, [.v 3], none, some (1, true), []⟩,
 ⟨.call false 51, [.p 1, .p 0], none, some (2, true), []⟩,
 ⟨.load true 2, [.v 6], none, some (3, true), []⟩,
 ⟨.load true 2, [.v 7], none, some (4, true), []⟩,
 ⟨.call false 28, [.p 1, .p 0], none, some (5, true), []⟩,
 ⟨.bin .eql, [.p 3, .p 0], none, some (6, true), []⟩,
 ⟨.pick, [.p 7, .p 0, .c (.bool false)], none, none, []⟩,
 ⟨.mov, [.p 0], none, none, []⟩,
 ⟨.load true 2, [.v 2], none, some (0, true), []⟩,
 ⟨.call false 52, [.p 0], none, some (1, true), []⟩,
 ⟨.load true 2, [.v 6], none, some (2, true), []⟩,
 ⟨.call false 25, [.p 0], none, some (3, true), []⟩,
 ⟨.bin .eql, [.p 2, .p 0], none, some (4, true), []⟩,
 ⟨.pick, [.p 5, .p 0, .c (.bool false)], none, none, []⟩,
 ⟨.mov, [.p 0], none, none, []⟩,
 ⟨.load true 2, [.v 2], none, some (0, true), []⟩,
 ⟨.call false 53, [.p 0], none, some (1, true), []⟩,
 ⟨.load true 2, [.v 6], none, some (2, true), []⟩,
 ⟨.call false 54, [.p 0], none, some (3, true), []⟩,
 ⟨.bin .eql, [.p 2, .p 0], none, some (4, true), []⟩,
 ⟨.pick, [.p 5, .p 0, .c (.bool false)], none, none, []⟩,
 ⟨.mov, [.p 0], some 4, none, []⟩] true)
.ret))))))))),
[.v 4]⟩
def c_ashlarlaw1_IntText : RFunc := ⟨2, [0, 1, 2, 4, 5, 6, 7, 8, 9, 10, 11, 12, 13, 14],
(.seq (.region [⟨.box, [.v 0], some 2, none, []⟩,
 ⟨.mov, [.c (.bool false)], some 3, none, []⟩] false)
(.seq (.region [⟨.call false 22, [], none, none, []⟩,
 ⟨.mov, [.p 0], some 4, none, []⟩] false)
(.seq (.region [⟨.load true 2, [.v 2], none, none, []⟩,
 ⟨.call false 23, [.p 0], none, none, []⟩,
 ⟨.store 2, [.v 2, .p 0], none, none, []⟩] false)
(.seq (.region [⟨.load true 2, [.v 2], none, none, []⟩,
 ⟨.call false 56, [.p 0], none, none, []⟩,
 ⟨.mov, [.p 0], some 5, none, []⟩] false)
(.seq (.region [⟨.mov, [.v 5], none, none, []⟩,
 ⟨.call false 57, [.p 0], none, none, []⟩,
 ⟨.mov, [.p 0], none, none, []⟩,
 ⟨.extract 0, [.p 0], none, none, []⟩,
 ⟨.extract 1, [.p 1], none, none, []⟩,
 ⟨.alloc (.agg [.bool false, .slc true []]), [], some 6, none, []⟩,
 ⟨.store 2, [.v 6, .p 2], none, none, []⟩,
 ⟨.mov, [.p 2], some 7, none, []⟩] false)
(.seq (.seq (.region [⟨.mov, [.v 1], none, none, []⟩,
 ⟨.len true, [.p 0], none, none, []⟩,
 ⟨.bin .gtr, [.p 0, .c (.int .i64 400)], none, none, []⟩,
 ⟨.mov, [.p 0], none, none, []⟩,
 ⟨.mov, [.v 1], none, some (0, true), []⟩,
 ⟨.len true, [.p 0], none, some (1, true), []⟩,
 ⟨.bin .leq, [.p 0, .c (.int .i64 65536)], none, some (2, true), []⟩,
 ⟨.pick, [.p 3, .p 0, .c (.bool false)], none, none, []⟩] false)
(.cond (.p 0) (.region [⟨.mov, [.v 1], none, none, []⟩,
 ⟨.slices false true, [.p 0, .c (.int .i64 400)], none, none, []⟩,
 ⟨.mov, [.p 0], some 1, none, []⟩] false) .skip))
(.seq (.region [⟨.mov, [.v 1], none, none, []⟩,
 ⟨.call false 57, [.p 0], none, none, []⟩,
 ⟨.mov, [.p 0], none, none, []⟩,
 ⟨.extract 0, [.p 0], none, none, []⟩,
 ⟨.extract 1, [.p 1], none, none, []⟩,
 ⟨.alloc (.agg [.bool false, .slc true []]), [], some 8, none, []⟩,
 ⟨.store 2, [.v 8, .p 2], none, none, []⟩,
 ⟨.mov, [.p 2], some 9, none, []⟩] false)
(.seq (.region [⟨.mov, [.v 1], none, none, []⟩,
 ⟨.call false 58, [.p 0], none, none, []⟩,
 ⟨.mov, [.p 0], none, none, []⟩,
 ⟨.extract 0, [.p 0], none, none, []⟩,
 ⟨.extract 1, [.p 1], none, none, []⟩,
 ⟨.alloc (.agg [.bool false, .slc true []]), [], some 10, none, []⟩,
 ⟨.store 2, [.v 10, .p 2], none, none, []⟩,
 ⟨.mov, [.p 2], some 11, none, []⟩] false)
(.seq (.region [⟨.load true 2, [.v 6], none, none, []⟩,
 ⟨.load true 2, [.v 2], none, none, []⟩,
 ⟨.call false 10, [.p 0], none, none, []⟩,
 ⟨.call false 29, [.p 2, .p 0], none, none, []⟩,
 ⟨.mov, [.p 0], some 12, none, []⟩] true)
(.seq (.region [⟨.load true 2, [.v 8], none, none, []⟩,
 ⟨.load true 2, [.v 10], none, none, []⟩,
 ⟨.call false 29, [.p 1, .p 0], none, none, []⟩,
 ⟨.mov, [.p 0], some 13, none, []⟩] false)
(.seq (.region [⟨.mov, [.v 4], none, none, []⟩,
 ⟨.mov, [.p 0], none, none, []⟩,
 ⟨.mov, [.v 5], none, some (0, true), []⟩,
 ⟨.load true 2, [.v 2], none, some (1, true), []⟩,
 ⟨.call false 10, [.p 0], none, some (2, true), []⟩,
 ⟨.call false 59, [.p 0], none, some (3, true), []⟩,
 ⟨.bin .eql, [.p 3, .p 0], none, some (4, true), []⟩,
 ⟨.pick, [.p 5, .p 0, .c (.bool false)], none, none, []⟩,
 ⟨.mov, [.p 0], none, none, []⟩,
 ⟨.mov, [.v 7], none, some (0, true), []⟩,
 ⟨.bin .eql, [.p 0, .c (.int .i64 0)], none, some (1, true), []⟩,
 ⟨.pick, [.p 2, .p 0, .c (.bool false)], none, none, []⟩,
 ⟨.mov, [.p 0], none, none, []⟩,
 ⟨.mov, [.v 12], none, some (0, true), []⟩,
 ⟨.pick, [.p 1, .p 0, .c (.bool false)], none, none, []⟩,
 ⟨.mov, [.p 0], none, none, []⟩,
 ⟨.mov, [.v 9], none, some (0, true), []⟩,
 ⟨.mov, [.v 11], none, some (1, true), []⟩,
 ⟨.bin .eql, [.p 1, .p 0], none, some (2, true), []⟩,
 ⟨.pick, [.p 3, .p 0, .c (.bool false)], none, none, []⟩,
 ⟨.mov, [.p 0], none, none, []⟩,
 ⟨.mov, [.v 13], none, some (0, true), []⟩,
 ⟨.pick, [.p 1, .p 0, .c (.bool false)], none, none, []⟩,
 ⟨.mov, [.p 0], some 3, none, []⟩] false)
.ret))))))))))),
[.v 3]⟩
def c_ashlarlaw1_IntPower : RFunc := ⟨2, [0, 1, 2, 4, 5, 6, 7, 8, 9, 10],
(.seq (.region [⟨.box, [.v 0], some 2, none, []⟩,
 ⟨.mov, [.c (.bool false)], some 3, none, []⟩] false)
(.seq (.region [⟨.call false 22, [], none, none, []⟩,
 ⟨.mov, [.p 0], some 4, none, []⟩] false)
(.seq (.region [⟨.load true 2, [.v 2], none, none, []⟩,
 ⟨.call false 23, [.p 0], none, none, []⟩,
 ⟨.store 2, [.v 2, .p 0], none, none, []⟩] false)
(.seq (.region [⟨.load true 2, [.v 2], none, none, []⟩,
 ⟨.call false 10, [.p 0], none, none, []⟩,
 ⟨.alloc (.agg [.bool false, .slc true []]), [], some 5, none, []⟩,
 ⟨.store 2, [.v 5, .p 1], none, none, []⟩] false)
(.seq (.region [⟨.load true 2, [.v 5], none, none, []⟩,
 ⟨.call false 54, [.p 0], none, none, []⟩,
 ⟨.mov, [.p 0], some 6, none, []⟩] false)
(.seq (.region [⟨.load true 2, [.v 2], none, none, []⟩,
 ⟨.mov, [.v 1], none, none, []⟩,
 ⟨.call false 61, [.p 1, .p 0], none, none, []⟩,
 ⟨.mov, [.p 0], none, none, []⟩,
 ⟨.extract 0, [.p 0], none, none, []⟩,
 ⟨.extract 1, [.p 1], none, none, []⟩,
 ⟨.alloc (.agg [.bool false, .slc true []]), [], some 7, none, []⟩,
 ⟨.store 2, [.v 7, .p 2], none, none, []⟩,
 ⟨.mov, [.p 2], some 8, none, []⟩] false)
(.seq (.seq (.region [⟨.mov, [.v 1], none, none, []⟩,
 ⟨.bin .lss, [.p 0, .c (.int .i64 0)], none, none, []⟩] false)
(.cond (.p 0) (.seq (.region [⟨.mov, [.v 4], none, none, []⟩,
 ⟨.mov, [.p 0], none, none, []⟩,
 ⟨.mov, [.v 8], none, some (0, true), []⟩,
 ⟨.bin .eql, [.p 0, .c (.int .i64 1)], none, some (1, true), []⟩,
 ⟨.pick, [.p 2, .p 0, .c (.bool false)], none, none, []⟩,
 ⟨.mov, [.p 0], none, none, []⟩,
 ⟨.faddr 1, [.v 7], none, some (0, true), []⟩,
 ⟨.load false 1, [.p 0], none, some (1, true), []⟩,
 ⟨.len false, [.p 0], none, some (2, true), []⟩,
 ⟨.bin .eql, [.p 0, .c (.int .i64 0)], none, some (3, true), []⟩,
 ⟨.pick, [.p 4, .p 0, .c (.bool false)], none, none, []⟩,
 ⟨.mov, [.p 0], some 3, none, []⟩] false)
.ret) .skip))
(.seq (.seq (.region [⟨.mov, [.v 6], none, none, []⟩,
 ⟨.bin .gtr, [.p 0, .c (.int .i64 1)], none, none, []⟩,
 ⟨.mov, [.p 0], none, none, []⟩,
 ⟨.mov, [.v 1], none, some (0, true), []⟩,
 ⟨.mov, [.v 6], none, some (1, true), []⟩,
 ⟨.bin .quo, [.c (.int .i64 1048576), .p 0], none, some (2, true), []⟩,
 ⟨.bin .gtr, [.p 2, .p 0], none, some (3, true), []⟩,
 ⟨.pick, [.p 4, .p 0, .c (.bool false)], none, none, []⟩] false)
(.cond (.p 0) (.seq (.region [⟨.mov, [.v 4], none, none, []⟩,
 ⟨.mov, [.p 0], none, none, []⟩,
 ⟨.mov, [.v 8], none, some (0, true), []⟩,
 ⟨.bin .eql, [.p 0, .c (.int .i64 4)], none, some (1, true), []⟩,
 ⟨.pick, [.p 2, .p 0, .c (.bool false)], none, none, []⟩,
 ⟨.mov, [.p 0], none, none, []⟩,
 ⟨.faddr 1, [.v 7], none, some (0, true), []⟩,
 ⟨.load false 1, [.p 0], none, some (1, true), []⟩,
 ⟨.len false, [.p 0], none, some (2, true), []⟩,
 ⟨.bin .eql, [.p 0, .c (.int .i64 0)], none, some (3, true), []⟩,
 ⟨.pick, [.p 4, .p 0, .c (.bool false)], none, none, []⟩,
 ⟨.mov, [.p 0], some 3, none, []⟩] false)
.ret) .skip))
(.seq (.seq (.region [⟨.mov, [.v 8], none, none, []⟩,
 ⟨.bin .neq, [.p 0, .c (.int .i64 0)], none, none, []⟩] false)
(.cond (.p 0) (.seq (.region [⟨.mov, [.c (.bool false)], some 3, none, []⟩] false)
.ret) .skip))
(.seq (.seq (.region [⟨.mov, [.v 6], none, none, []⟩,
 ⟨.bin .leq, [.p 0, .c (.int .i64 1)], none, none, []⟩] false)
(.cond (.p 0) (.seq (.region [⟨.load true 2, [.v 5], none, none, []⟩,
 ⟨.alloc (.agg [.bool false, .slc true []]), [], some 9, none, []⟩,
 ⟨.store 2, [.v 9, .p 1], none, none, []⟩] false)
(.seq (.seq (.region [⟨.mov, [.v 1], none, none, []⟩,
 ⟨.bin .eql, [.p 0, .c (.int .i64 0)], none, none, []⟩,
 ⟨.mov, [.p 0], none, none, []⟩,
 ⟨.mov, [.v 1], none, some (0, false), []⟩,
 ⟨.bin .rem, [.p 0, .c (.int .i64 2)], none, some (1, false), []⟩,
 ⟨.bin .eql, [.p 0, .c (.int .i64 0)], none, some (2, false), []⟩,
 ⟨.mov, [.p 0], none, some (3, false), []⟩,
 ⟨.mov, [.v 6], none, some (0, true), []⟩,
 ⟨.bin .eql, [.p 0, .c (.int .i64 1)], none, some (1, true), []⟩,
 ⟨.pick, [.p 2, .p 0, .c (.bool false)], none, some (6, false), []⟩,
 ⟨.pick, [.p 7, .c (.bool true), .p 0], none, none, []⟩] false)
(.cond (.p 0) (.region [⟨.call false 34, [.c (.int .i64 1)], none, none, []⟩,
 ⟨.store 2, [.v 9, .p 0], none, none, []⟩] false) .skip))
(.seq (.region [⟨.mov, [.v 4], none, none, []⟩,
 ⟨.mov, [.p 0], none, none, []⟩,
 ⟨.load true 2, [.v 7], none, some (0, true), []⟩,
 ⟨.load true 2, [.v 9], none, some (1, true), []⟩,
 ⟨.call false 29, [.p 1, .p 0], none, some (2, true), []⟩,
 ⟨.pick, [.p 3, .p 0, .c (.bool false)], none, none, []⟩,
 ⟨.mov, [.p 0], some 3, none, []⟩] false)
.ret))) .skip))
(.seq (.seq (.region [⟨.mov, [.v 1], none, none, []⟩,
 ⟨.bin .gtr, [.p 0, .c (.int .i64 20)], none, none, []⟩] false)
(.cond (.p 0) (.seq (.region [⟨.mov, [.v 4], none, none, []⟩,
 ⟨.mov, [.p 0], some 3, none, []⟩] false)
.ret) .skip))
(.seq (.region [⟨.mov, [.v 4], none, none, []⟩,
 ⟨.mov, [.p 0], none, none, []⟩,
 ⟨.load true 2, [.v 7], none, some (0, true), []⟩,
 ⟨.load true 2, [.v 5], none, some (1, true), []⟩,
 ⟨.mov, [.v 1], none, some (2, true), []⟩,
 ⟨.call false 62, [.p 1, .p 0], none, some (3, true), []⟩,
 ⟨.call false 29, [.p 3, .p 0], none, some (4, true), []⟩,
 ⟨.pick, [.p 5, .p 0, .c (.bool false)], none, none, []⟩,
 ⟨.mov, [.p 0], some 3, none, []⟩] true)
.ret)))))))))))),
[.v 3]⟩
def c_ashlarlaw1_begun : RFunc := ⟨0, [0, 1, 2, 3, 4, 5, 6],
(.seq (.region [⟨.mov, [.c (.bool false)], some 0, none, []⟩] false)
(.seq (.region [⟨.call false 32, [.c (.int .i64 (-7))], none, none, []⟩,
 ⟨.alloc (.agg [.bool false, .slc true []]), [], some 1, none, []⟩,
 ⟨.store 2, [.v 1, .p 1], none, none, []⟩] false)
(.seq (.region [⟨.load true 2, [.v 1], none, none, []⟩,
 ⟨.call false 32, [.c (.int .i64 2)], none, none, []⟩,
 ⟨.call false 24, [.p 1, .p 0], none, none, []⟩,
 ⟨.mov, [.p 0], none, none, []⟩,
 ⟨.extract 0, [.p 0], none, none, []⟩,
 ⟨.extract 1, [.p 1], none, none, []⟩,
 ⟨.extract 2, [.p 2], none, none, []⟩,
 ⟨.alloc (.agg [.bool false, .slc true []]), [], some 2, none, []⟩,
 ⟨.alloc (.agg [.bool false, .slc true []]), [], some 3, none, []⟩,
 ⟨.store 2, [.v 2, .p 4], none, none, []⟩,
 ⟨.store 2, [.v 3, .p 4], none, none, []⟩,
 ⟨.mov, [.p 4], some 4, none, []⟩] true)
(.seq (.region [⟨.load true 2, [.v 2], none, none, []⟩,
 ⟨.call false 32, [.c (.int .i64 3)], none, none, []⟩,
 ⟨.call false 38, [.p 1, .p 0], none, none, []⟩,
 ⟨.call false 33, [.p 0], none, none, []⟩,
 ⟨.mov, [.p 0], none, none, []⟩,
 ⟨.extract 0, [.p 0], none, none, []⟩,
 ⟨.extract 1, [.p 1], none, none, []⟩,
 ⟨.mov, [.p 1], some 5, none, []⟩,
 ⟨.mov, [.p 1], some 6, none, []⟩] true)
(.seq (.region [⟨.mov, [.v 4], none, none, []⟩,
 ⟨.bin .eql, [.p 0, .c (.int .i64 0)], none, none, []⟩,
 ⟨.mov, [.p 0], none, none, []⟩,
 ⟨.load true 2, [.v 1], none, some (0, true), []⟩,
 ⟨.call false 56, [.p 0], none, some (1, true), []⟩,
 ⟨.bin .eql, [.p 0, .c (.str ⟨#[45, 55]⟩)], none, some (2, true), []⟩,
 ⟨.pick, [.p 3, .p 0, .c (.bool false)], none, none, []⟩,
 ⟨.mov, [.p 0], none, none, []⟩,
 ⟨.load true 2, [.v 3], none, some (0, true), []⟩,
 ⟨.call false 56, [.p 0], none, some (1, true), []⟩,
 ⟨.bin .eql, [.p 0, .c (.str ⟨#[49]⟩)], none, some (2, true), []⟩,
 ⟨.pick, [.p 3, .p 0, .c (.bool false)], none, none, []⟩,
 ⟨.mov, [.p 0], none, none, []⟩,
 ⟨.mov, [.v 6], none, some (0, true), []⟩,
 ⟨.pick, [.p 1, .p 0, .c (.bool false)], none, none, []⟩,
 ⟨.mov, [.p 0], none, none, []⟩,
 ⟨.mov, [.v 5], none, some (0, true), []⟩,
 ⟨.bin .eql, [.p 0, .c (.int .i64 (-12))], none, some (1, true), []⟩,
 ⟨.pick, [.p 2, .p 0, .c (.bool false)], none, none, []⟩,
 ⟨.mov, [.p 0], none, none, []⟩,
 ⟨.load true 2, [.v 1], none, some (0, true), []⟩,
 ⟨.load true 2, [.v 2], none, some (1, true), []⟩,
 ⟨.call false 51, [.p 1, .p 0], none, some (2, true), []⟩,
 ⟨.bin .lss, [.p 0, .c (.int .i64 0)], none, some (3, true), []⟩,
 ⟨.pick, [.p 4, .p 0, .c (.bool false)], none, none, []⟩,
 ⟨.mov, [.p 0], none, none, []⟩,
 ⟨.load true 2, [.v 1], none, some (0, true), []⟩,
 ⟨.call false 52, [.p 0], none, some (1, true), []⟩,
 ⟨.bin .lss, [.p 0, .c (.int .i64 0)], none, some (2, true), []⟩,
 ⟨.pick, [.p 3, .p 0, .c (.bool false)], none, none, []⟩,
 ⟨.mov, [.p 0], none, none, []⟩,
 ⟨.load true 2, [.v 1], none, some (0, true), []⟩,
 ⟨.call false 53, [.p 0], none, some (1, true), []⟩,
 ⟨.bin .eql, [.p 0, .c (.int .i64 3)], none, some (2, true), []⟩,
 ⟨.pick, [.p 3, .p 0, .c (.bool false)], none, none, []⟩,
 ⟨.mov, [.p 0], some 0, none, []⟩] false)
.ret))))),
[.v 0]⟩
def c_ashlarlaw1_Cut : RFunc := ⟨1, [0, 1, 2, 3],
(.seq (.region [⟨.box, [.v 0], some 1, none, []⟩,
 ⟨.alloc (.agg [.bool false, .slc true []]), [], some 2, none, []⟩] false)
(.seq (.region [⟨.faddr 1, [.v 1], none, none, []⟩,
 ⟨.load false 1, [.p 0], none, none, []⟩,
 ⟨.len false, [.p 0], none, none, []⟩,
 ⟨.mov, [.p 0], some 3, none, []⟩] false)
(.seq (.seq (.region [⟨.mov, [.v 3], none, none, []⟩,
 ⟨.bin .gtr, [.p 0, .c (.int .i64 24)], none, none, []⟩] false)
(.cond (.p 0) (.region [⟨.mov, [.c (.int .i64 24)], some 3, none, []⟩] false) .skip))
(.seq (.region [⟨.faddr 0, [.v 1], none, none, []⟩,
 ⟨.load false 1, [.p 0], none, none, []⟩,
 ⟨.faddr 1, [.v 1], none, none, []⟩,
 ⟨.load false 1, [.p 0], none, none, []⟩,
 ⟨.mov, [.v 3], none, none, []⟩,
 ⟨.slice 1 false true false, [.p 1, .p 0], none, none, []⟩,
 ⟨.app 4 1, [.c (.slc true []), .p 0], none, none, []⟩,
 ⟨.build [.bool false, .slc true []] [(0, 1), (1, 1)], [.p 5, .p 0], none, none, []⟩,
 ⟨.store 2, [.v 2, .p 0], none, none, []⟩] true)
.ret)))),
[.cell 2 true 2]⟩
class CodeLaw1 (F : Nat → Option RFunc) : Prop where
  ashlarlaw1_IntQuo : F 31 = some c_ashlarlaw1_IntQuo
  ashlarlaw1_IntSmall : F 35 = some c_ashlarlaw1_IntSmall
  ashlarlaw1_IntGcd : F 39 = some c_ashlarlaw1_IntGcd
  ashlarlaw1_IntMod : F 42 = some c_ashlarlaw1_IntMod
  ashlarlaw1_IntForms : F 45 = some c_ashlarlaw1_IntForms
  ashlarlaw1_IntRing : F 47 = some c_ashlarlaw1_IntRing
  ashlarlaw1_IntSums : F 55 = some c_ashlarlaw1_IntSums
  ashlarlaw1_IntText : F 60 = some c_ashlarlaw1_IntText
  ashlarlaw1_IntPower : F 63 = some c_ashlarlaw1_IntPower
  ashlarlaw1_begun : F 22 = some c_ashlarlaw1_begun
  ashlarlaw1_Cut : F 23 = some c_ashlarlaw1_Cut
def tabCodeLaw1 : List (Nat × RFunc) := [(31, c_ashlarlaw1_IntQuo), (35, c_ashlarlaw1_IntSmall), (39, c_ashlarlaw1_IntGcd), (42, c_ashlarlaw1_IntMod), (45, c_ashlarlaw1_IntForms), (47, c_ashlarlaw1_IntRing), (55, c_ashlarlaw1_IntSums), (60, c_ashlarlaw1_IntText), (63, c_ashlarlaw1_IntPower), (22, c_ashlarlaw1_begun), (23, c_ashlarlaw1_Cut)]
end Go.Ash
/- ref1.Eq and law1.Cut. -/
namespace Go.Ash
variable {F : Nat → Option RFunc}

theorem eq_loop (a b n1 n2 : Bool) (x y : List Nat) (hxy : x.length = y.length) (hlen : x.length < 2^40) : ∀ (k i : Nat), i + k = x.length → ∀ (v0 v1 v4 : AVal) (env : List AVal),
    (x.drop i = y.drop i → exec F l_ashlarref1_Eq_0 ⟨[v0, v1, .mptr 0 0 0, .mptr 1 0 0, v4, .int .i64 i], env, [some ⟨false, 2, [.agg [.bool a, .slc n1 (u32s x)]]⟩, some ⟨false, 2, [.agg [.bool b, .slc n2 (u32s y)]]⟩], 0⟩ =
      some (.exit 0, ⟨[.und, .und, .mptr 0 0 0, .mptr 1 0 0, .und, .int .i64 x.length], [], [some ⟨false, 2, [.agg [.bool a, .slc n1 (u32s x)]]⟩, some ⟨false, 2, [.agg [.bool b, .slc n2 (u32s y)]]⟩], 0⟩)) ∧
    (x.drop i ≠ y.drop i → ∃ j, exec F l_ashlarref1_Eq_0 ⟨[v0, v1, .mptr 0 0 0, .mptr 1 0 0, v4, .int .i64 i], env, [some ⟨false, 2, [.agg [.bool a, .slc n1 (u32s x)]]⟩, some ⟨false, 2, [.agg [.bool b, .slc n2 (u32s y)]]⟩], 0⟩ =
      some (.ret, ⟨[.und, .und, .mptr 0 0 0, .mptr 1 0 0, .bool false, j], [], [some ⟨false, 2, [.agg [.bool a, .slc n1 (u32s x)]]⟩, some ⟨false, 2, [.agg [.bool b, .slc n2 (u32s y)]]⟩], 0⟩)) := by
  intro k
  induction k with
  | zero =>
    intro i hi v0 v1 v4 env
    have hi' : i = x.length := by omega
    subst hi'
    refine ⟨fun _ => ?_, fun h => absurd (by rw [List.drop_of_length_le (Nat.le_refl _), List.drop_of_length_le (by omega)]) h⟩
    unfold l_ashlarref1_Eq_0
    rw [exec_loop, tidy_two (by simp) (by simp) (by simp)]
    simp
  | succ k ih =>
    intro i hi v0 v1 v4 env
    have hix : i < x.length := by omega
    have hiy : i < y.length := by omega
    rw [List.drop_eq_getElem_cons hix, List.drop_eq_getElem_cons hiy]
    by_cases h0 : x[i] = y[i]
    · obtain ⟨ih1, ih2⟩ := ih (i + 1) (by omega) .und .und .und []
      have step : ∀ env, exec F l_ashlarref1_Eq_0 ⟨[v0, v1, .mptr 0 0 0, .mptr 1 0 0, v4, .int .i64 i], env, [some ⟨false, 2, [.agg [.bool a, .slc n1 (u32s x)]]⟩, some ⟨false, 2, [.agg [.bool b, .slc n2 (u32s y)]]⟩], 0⟩ =
          exec F l_ashlarref1_Eq_0 ⟨[.und, .und, .mptr 0 0 0, .mptr 1 0 0, .und, .int .i64 (i + 1 : Nat)], [], [some ⟨false, 2, [.agg [.bool a, .slc n1 (u32s x)]]⟩, some ⟨false, 2, [.agg [.bool b, .slc n2 (u32s y)]]⟩], 0⟩ := by
        intro env
        conv => lhs; unfold l_ashlarref1_Eq_0
        rw [exec_loop, tidy_two (by simp) (by simp) (by simp)]
        simp (disch := omega) [hix, hiy, h0, wrap_i64]
        exact exec_loop_env
      rw [step, h0]
      exact ⟨fun he => ih1 (List.cons.inj he).2, fun he => ih2 (fun h => he (by rw [h]))⟩
    · refine ⟨fun he => absurd (by simpa using (List.cons.inj he).1) h0, fun _ => ⟨.int .i64 i, ?_⟩⟩
      unfold l_ashlarref1_Eq_0
      rw [exec_loop, tidy_two (by simp) (by simp) (by simp)]
      simp (disch := omega) [hix, hiy, show ¬ ((x[i] : Int) = (y[i] : Int)) from by omega, wrap_i64]

theorem pc_eq [h : CodeRef1 F] (a b n1 n2 : Bool) (x y : List Nat) (hx : x.length < 2^40) (hy : y.length < 2^40) :
    pureCall (run F) 44 [.agg [.bool a, .slc n1 (u32s x)], .agg [.bool b, .slc n2 (u32s y)]] = some (.bool (decide (a = b ∧ x = y))) := by
  refine pure_ret h.ashlarref1_Eq rfl ?_
  by_cases hab : a = b
  · subst hab
    by_cases hl : x.length = y.length
    · obtain ⟨h1, h2⟩ := eq_loop (F := F) a a n1 n2 x y hl hx x.length 0 (by omega) (.agg [.bool a, .slc n1 (u32s x)]) (.agg [.bool a, .slc n2 (u32s y)]) (.bool false) [.int .i64 0]
      simp only [List.drop_zero] at h1 h2
      by_cases he : x = y
      · subst he
        have h1 := h1 rfl
        simp at h1
        simp [c_ashlarref1_Eq, h1]
      · obtain ⟨j, h2⟩ := h2 he
        simp at h2
        simp [c_ashlarref1_Eq, hl, he, h2]
    · have he : x ≠ y := by rintro rfl; exact hl rfl
      simp [c_ashlarref1_Eq, show ¬ ((x.length : Int) = y.length) from by omega, he]
  · have hn : (a != b) = true := by simpa using hab
    simp [c_ashlarref1_Eq, hab]

theorem eq_IV [h : CodeRef1 F] {x y : Int} (hx : (D x.natAbs).length < 2^40) (hy : (D y.natAbs).length < 2^40) : pureCall (run F) 44 [IV x, IV y] = some (.bool (decide (x = y))) := by
  unfold IV
  rw [pc_eq _ _ _ _ _ _ hx hy]
  congr 2
  by_cases hxy : x = y
  · subst hxy; simp
  · rw [decide_eq_false hxy, decide_eq_false]
    rintro ⟨h1, h2⟩
    have h3 : x.natAbs = y.natAbs := by rw [← ev_D x.natAbs, h2, ev_D]
    have h4 : (x < 0) ↔ (y < 0) := by simpa using h1
    omega

theorem reach_three {x y : Option Blk} {fz : Bool} {esz : Nat} {l : List Nat} : reach [x, y, some ⟨fz, esz, u32s l⟩] fuelIds [2] [] = some [2] := by
  simp [reach, fuelIds, Heap.at]

theorem tree_three {x y : Option Blk} {fz b : Bool} {esz n : Nat} {l : List Nat} (hn : n ≤ l.length) : treeL [x, y, some ⟨fz, esz, u32s l⟩] fuelTree [.agg [.bool b, .mslc 2 0 n]] =
    some ([.agg [.bool b, .slc false (u32s (l.take n))]], [2]) := by
  have h1 : AVal.tree [x, y, some ⟨fz, esz, u32s l⟩] 36 (.mslc 2 0 n) = some (.slc false (u32s (l.take n)), [2]) := by
    simp only [AVal.tree, Heap.at, length_u32s, Nat.zero_add, hn, if_true, List.drop_zero, u32s_take, treeL_free (n := 34) (idsL_u32s _), Option.map_some]
  have h2 : treeL [x, y, some ⟨fz, esz, u32s l⟩] 37 [.mslc 2 0 n] = some ([.slc false (u32s (l.take n))], [2]) := by
    rw [treeL_cons (by simp), h1]; rfl
  have h3 : treeL [x, y, some ⟨fz, esz, u32s l⟩] 38 [.bool b, .mslc 2 0 n] = some ([.bool b, .slc false (u32s (l.take n))], [2]) := by
    rw [treeL_cons (by simp), h2]; rfl
  have h4 : AVal.tree [x, y, some ⟨fz, esz, u32s l⟩] 39 (.agg [.bool b, .mslc 2 0 n]) = some (.agg [.bool b, .slc false (u32s (l.take n))], [2]) := by
    simp only [AVal.tree, h3, Option.map_some]
  unfold fuelTree
  rw [treeL_cons (by simp), h4]
  rfl

theorem pc_cut [h : CodeLaw1 F] (neg nl : Bool) (l : List Nat) (hlen : l.length < 2^63) : ∃ r, pureCall (run F) 23 [.agg [.bool neg, .slc nl (u32s l)]] = some (.agg [.bool neg, .slc r (u32s (l.take 24))]) := by
  by_cases h0 : l = []
  · subst h0
    refine ⟨true, pure_ret h.ashlarlaw1_Cut rfl ?_⟩
    simp [c_ashlarlaw1_Cut, u32s, bounds, elemsOf, goodElems, fillA, putElem, putAgg, setAll]
  · refine ⟨false, pure_ret h.ashlarlaw1_Cut rfl ?_⟩
    by_cases h24 : 24 < l.length
    · have h24' : (24 : Int) < l.length := by omega
      have h24'' : (24 : Int) ≤ l.length := by omega
      have hmin : min 24 l.length = 24 := by omega
      have m6 : (l.take 24).take 24 = l.take 24 := by rw [List.take_take, Nat.min_self]
      have m7 : (l.take 24).length = 24 := by rw [List.length_take]; omega
      simp (disch := omega) [c_ashlarlaw1_Cut, h24', h24'', bounds, elemsOf, u32s_take, good_u32s, maxB, fillA, putElem, putAgg, setAll, h0, hmin, reach_three, tree_three, m6]
    · have h24' : ¬ (24 : Int) < l.length := by omega
      have h2 : l.take 24 = l := List.take_of_length_le (by omega)
      have m1 : l.length * 4 ≤ 70368744177664 := by omega
      have m2 : l.length ≤ 70368744177664 := by omega
      rw [h2]
      simp (disch := omega) [c_ashlarlaw1_Cut, h24', bounds, elemsOf, u32s_take, good_u32s, maxB, fillA, putElem, putAgg, setAll, h0, m1, m2, reach_three, tree_three]
end Go.Ash
/- The document's integers: From, To, Is, Of. -/
namespace Go.Ash
variable {F : Nat → Option RFunc} [h : CodeRef1 F]

def split16 : List Nat → List Nat
  | [] => []
  | x :: l => x % 65536 :: x / 65536 :: split16 l
theorem split16_len : ∀ l, (split16 l).length = 2 * l.length
  | [] => rfl
  | x :: l => by simp [split16, split16_len l]; omega
theorem split16_snoc : ∀ (l : List Nat) (x : Nat), split16 (l ++ [x]) = split16 l ++ [x % 65536, x / 65536]
  | [], x => rfl
  | y :: l, x => by simp [split16, split16_snoc l x]
theorem split16_nil : ∀ l, split16 l = [] ↔ l = []
  | [] => by simp [split16]
  | x :: l => by simp [split16]
theorem split16_lim : ∀ {l}, Lim l → LimW (split16 l)
  | [], _ => fun x hx => by cases hx
  | x :: l, hl => by
    have h1 : x < 4294967296 := hl x (by simp)
    have ih := split16_lim (l := l) (fun y hy => hl y (by simp [hy]))
    intro y hy
    simp only [split16, List.mem_cons] at hy
    show y < 65536
    rcases hy with rfl | rfl | hy
    · omega
    · omega
    · exact ih y hy
theorem ew_split16 : ∀ l, ew (split16 l) = ev l
  | [] => rfl
  | x :: l => by
    simp only [split16, ew, ev, ew_split16 l]
    show x % 65536 + 65536 * (x / 65536 + 65536 * ev l) = x + 4294967296 * ev l
    omega

theorem i64s_snoc2 (l : List Nat) (p q : Nat) : i64s l ++ [.int .i64 (p : Int), .int .i64 (q : Int)] = i64s (l ++ [p, q]) := by simp [i64s]
theorem gv_snoc2 (id : Nat) (l : List Nat) (p q : Nat) : gv id (l ++ [p, q]) = .mslc id 0 (l.length + 2) := by rw [gv_cons (by simp)]; simp
theorem gb_snoc2 (l : List Nat) (p q : Nat) : gb (l ++ [p, q]) = [some ⟨false, 1, i64s (l ++ [p, q])⟩] := gb_cons (by simp)
theorem i64s_two (p q : Nat) : i64s [p, q] = [.int .i64 (p : Int), .int .i64 (q : Int)] := rfl

theorem u32_mod16 (n : Nat) : (n : Int).tmod 65536 = ((n % 65536 : Nat) : Int) := tmod_nat n 65536

theorem from_loop (v0 a : AVal) (b1 : Blk) (h1 : idsL b1.elems = []) (nl : Bool) (l : List Nat) (neg : Bool) (ha : a = .agg [.bool neg, .slc nl (u32s l)]) (hl : Lim l) (hlen : l.length < 2^38) :
    ∃ e st, (∀ env, exec F l_ashlarref1_From_0 ⟨[v0, .mptr 0 0 0, .mptr 1 0 0, .slc true [], .int .i64 0], env, [some ⟨false, 2, [a]⟩, some b1], 0⟩ = some (e, st)) ∧
      (e = .exit 0 ∧ ∃ i, st = ⟨[.und, .mptr 0 0 0, .mptr 1 0 0, gv 2 (split16 l), i], [], [some ⟨false, 2, [a]⟩, some b1] ++ gb (split16 l), 0⟩) := by
  subst ha
  refine loop_rule
    (fun n st => ∃ (p r : List Nat), l = p ++ r ∧ r.length = n ∧ st = ⟨[.und, .mptr 0 0 0, .mptr 1 0 0, gv 2 (split16 p), .int .i64 p.length], [], [some ⟨false, 2, [.agg [.bool neg, .slc nl (u32s l)]]⟩, some b1] ++ gb (split16 p), 0⟩) _ l.length _ ?_
    (tidy_two (by simp) (by simp) h1) ⟨[], l, rfl, rfl, rfl⟩
  rintro n st ⟨p, r, hpr, hn, rfl⟩
  rcases Nat.eq_zero_or_pos n with rfl | hpos
  · have : r = [] := List.length_eq_zero_iff.1 hn
    subst this
    have hp : p = l := by simpa using hpr.symm
    subst hp
    refine .out (.exit 0) _ (by simp) ⟨rfl, .int .i64 p.length, rfl⟩ ?_
    simp (disch := first | omega | simp) [after, if_pos, if_neg, decide_eq_false]
  · obtain ⟨x, r, rfl⟩ : ∃ x r', r = x :: r' := by
      cases r with
      | nil => simp at hn; omega
      | cons x r => exact ⟨x, r, rfl⟩
    have hpl : p.length < l.length := by rw [hpr]; simp
    have hgx : l[p.length] = x := by simp [hpr]
    have hxl : x < 4294967296 := hl x (by rw [hpr]; simp)
    have hsl := split16_len p
    refine .more (n - 1) _ (by omega) ⟨p ++ [x], r, by rw [hpr]; simp, by simp at hn; omega, rfl⟩ ?_
    have hm := u32_mod16 x
    have hq := i64_div x
    have hr1 : x % 65536 < 65536 := Nat.mod_lt _ (by decide)
    have hr2 : x / 65536 < 65536 := by omega
    rw [split16_snoc]
    clear hpr
    generalize x % 65536 = m at *
    generalize x / 65536 = q at *
    have hmB := maxB
    by_cases h0 : split16 p = []
    · have hp0 : p = [] := (split16_nil p).1 h0
      subst hp0
      simp only [List.length_nil] at hpl hgx
      simp (disch := first | omega | simp) [after, h0, gv_nil, gb_nil, gv_snoc2, gb_snoc2, tidy_eq, reach_end, reach_more, fuelIds, place_cons, pack, if_pos, if_neg, decide_eq_true, decide_eq_false, wrap_i64, wrap_u32, hm, hq, goodElems, placeAll, elemsOf, maxB, i64s_one, h1, hgx, renL_self, Blk.ren]
      exact ⟨(gv_snoc2 2 [] m q).symm, (gb_snoc2 [] m q).symm⟩
    · rw [gv_cons h0, gb_cons h0, gv_snoc2, gb_snoc2]
      simp (disch := first | omega | simp) [after, tidy_eq, reach_end, reach_more, fuelIds, place_cons, pack, if_pos, if_neg, decide_eq_true, decide_eq_false, wrap_i64, wrap_u32, hm, hq, goodElems, placeAll, elemsOf, maxB, i64s_snoc2, i64s_take_len, h1, hgx, renL_self, Blk.ren]

theorem gv_ids (id : Nat) (l : List Nat) : (gv id l).ids = if l = [] then [] else [id] := by
  unfold gv; split <;> simp

/-- From: whatever form an integer has. -/
theorem rfrom {a : AVal} {z : Int} {m : Nat} (ha : IsI a z m) (hm : m < 2^37) : ∃ nl, pureCall (run F) 10 [a] = some (RI nl z) := by
  obtain ⟨neg, nl, l, rfl, hl, hlen, rfl⟩ := ha
  obtain ⟨e, st, he, rfl, i, rfl⟩ := from_loop (F := F) (.agg [.bool neg, .slc nl (u32s l)]) _ ⟨false, 2, [.agg [.bool false, .slc true []]]⟩ (by simp) nl l neg rfl hl (by omega)
  have ht := pc_rtrim (F := F) neg (decide (split16 l = [])) (split16 l) (split16_lim hl) (by rw [split16_len]; omega)
  rw [ew_split16] at ht
  refine ⟨decide (split16 l = []), pure_ret h.ashlarref1_From rfl ?_⟩
  by_cases h0 : split16 l = []
  · rw [h0, gv_nil, gb_nil] at he
    simp only [h0, decide_true, i64s_empty] at ht
    simp (disch := omega) [c_ashlarref1_From, he, any_pure, ht, h0]
  · rw [gv_cons h0, gb_cons h0] at he
    have ht2 := treeL_atE (H := [some ⟨false, 2, [.agg [.bool neg, .slc nl (u32s l)]]⟩, some ⟨false, 2, [.agg [.bool false, .slc true []]]⟩, some ⟨false, 1, i64s (split16 l)⟩]) (id := 2) (n := 36) (len := (split16 l).length) (rest := []) rfl (by simp) (by simp) (by simp)
    rw [i64s_take_len] at ht2
    have hh : handOn [.bool neg, .mslc 2 0 (split16 l).length] [some ⟨false, 2, [.agg [.bool neg, .slc nl (u32s l)]]⟩, some ⟨false, 2, [.agg [.bool false, .slc true []]]⟩, some ⟨false, 1, i64s (split16 l)⟩] =
        some ([.bool neg, .slc false (i64s (split16 l))], [some ⟨false, 2, [.agg [.bool neg, .slc nl (u32s l)]]⟩, some ⟨false, 2, [.agg [.bool false, .slc true []]]⟩, some ⟨true, 1, i64s (split16 l)⟩]) := by
      have h1 : treeL [some ⟨false, 2, [.agg [.bool neg, .slc nl (u32s l)]]⟩, some ⟨false, 2, [.agg [.bool false, .slc true []]]⟩, some ⟨false, 1, i64s (split16 l)⟩] fuelTree [.bool neg, .mslc 2 0 (split16 l).length] = some ([.bool neg, .slc false (i64s (split16 l))], [2]) := by
        unfold fuelTree
        rw [treeL_cons (by simp), ht2]
        rfl
      simp [handOn, h1, freeze, Heap.at]
    simp only [h0, decide_false] at ht
    simp (disch := omega) [c_ashlarref1_From, he, any_pure, hh, ht, h0]

/-! ### To -/

def gbu (l : List Nat) : Heap := if l = [] then [] else [some ⟨false, 1, u32s l⟩]
theorem gbu_nil : gbu [] = [] := rfl
theorem gbu_cons {l : List Nat} (h : l ≠ []) : gbu l = [some ⟨false, 1, u32s l⟩] := by simp [gbu, h]
theorem gbu_snoc (l : List Nat) (v : Nat) : gbu (l ++ [v]) = [some ⟨false, 1, u32s (l ++ [v])⟩] := gbu_cons (by simp)
theorem u32s_snoc (l : List Nat) (n : Nat) : u32s l ++ [.int .u32 (n : Int)] = u32s (l ++ [n]) := by simp [u32s]
theorem u32s_take_len (l : List Nat) : (u32s l).take l.length = u32s l := List.take_of_length_le (by simp)

theorem B16_pow2 (k : Nat) : B16 ^ (2 * k) = B32 ^ k := by rw [Nat.pow_mul, show B16 ^ 2 = B32 from by decide]

theorem to_loop (v0 : AVal) (b1 : Blk) (h1 : idsL b1.elems = []) (nl : Bool) (z : Int) (hlen : (DW z.natAbs).length < 2^38) :
    ∃ e st, (∀ env, exec F l_ashlarref1_To_0 ⟨[v0, .mptr 0 0 0, .mptr 1 0 0, .slc true [], .int .i64 0, .und], env, [some ⟨false, 2, [RI nl z]⟩, some b1], 0⟩ = some (e, st)) ∧
      (e = .exit 0 ∧ ∃ i, st = ⟨[.und, .mptr 0 0 0, .mptr 1 0 0, gv 2 (D z.natAbs), i, .und], [], [some ⟨false, 2, [RI nl z]⟩, some b1] ++ gbu (D z.natAbs), 0⟩) := by
  have hdl := limW_DW z.natAbs
  generalize hD : DW z.natAbs = d at *
  refine loop_rule
    (fun n st => ∃ (l : List Nat) (j : Nat), st = ⟨[.und, .mptr 0 0 0, .mptr 1 0 0, gv 2 l, .int .i64 (2 * l.length : Nat), .und], [], [some ⟨false, 2, [RI nl z]⟩, some b1] ++ gbu l, 0⟩ ∧ n + l.length = (d.length + 1) / 2 ∧ Lim l ∧ ev l = ew (d.take (2 * l.length))) _ ((d.length + 1) / 2) _ ?_
    (tidy_two (by simp) (by simp) h1) ⟨[], 0, rfl, by simp, (fun a ha => by cases ha), by simp [ev, ew]⟩
  rintro n st ⟨l, j, rfl, hn, hlim, hev⟩
  rcases Nat.eq_zero_or_pos n with rfl | hpos
  · have hDl : D z.natAbs = l := by
      have hz : ev l = z.natAbs := by
        rw [hev, List.take_of_length_le (by omega), ← hD, ew_DW]
      rcases Nat.eq_zero_or_pos l.length with h0 | h0
      · have : l = [] := List.length_eq_zero_iff.1 h0
        subst this
        rw [← hz]; simp [ev]
      · have hle : (D (ev l)).length ≤ l.length := len_D_ev hlim
        have hge : l.length ≤ (D (ev l)).length := by
          apply Nat.le_of_not_lt
          intro hlt
          have h2 := le_of_D_len (n := ev l) (k := l.length - 1) (by omega)
          rw [← B16_pow2] at h2
          have h3 := DW_len_le h2
          rw [hz, hD] at h3
          omega
        have ht := take_D l hlim
        rw [List.take_of_length_le hge] at ht
        rw [← hz]; exact ht.symm
    refine .out (.exit 0) _ (by simp) ⟨rfl, .int .i64 (2 * l.length : Nat), by rw [hDl]⟩ ?_
    simp (disch := first | omega | simp) [after, if_pos, if_neg, decide_eq_false, hD]
  · have hi : 2 * l.length < d.length := by omega
    have hdi := hdl.get hi
    have hw := wrap_u32 (n := ((d[2 * l.length] : Nat) : Int)) (by omega) (by omega)
    by_cases hj : 2 * l.length + 1 < d.length
    · have hdj := hdl.get hj
      have hw2 := wrap_u32 (n := ((d[2 * l.length + 1] : Nat) : Int)) (by omega) (by omega)
      have hidx : (2 * (l.length : Int) + 1).toNat = 2 * l.length + 1 := by omega
      refine .more (n - 1) _ (by omega) ⟨l ++ [d[2 * l.length] + d[2 * l.length + 1] * 65536], 0, rfl, by simp; omega, lim_append hlim (by intro x hx; simp at hx; subst hx; show _ < 4294967296; omega), ?_⟩ ?_
      · rw [ev_snoc, hev, show 2 * (l ++ [d[2 * l.length] + d[2 * l.length + 1] * 65536]).length = 2 * l.length + 1 + 1 from by simp; omega, ew_take_succ hj, ew_take_succ hi, Nat.pow_succ, B16_pow2, Nat.mul_add, Nat.mul_assoc]
        have : B32 ^ l.length * (d[2 * l.length + 1] * 65536) = B32 ^ l.length * (B16 * d[2 * l.length + 1]) := by rw [Nat.mul_comm B16]
        omega
      · have hw3 : IntKind.u32.wrap ((d[2 * l.length] : Int) + (d[2 * l.length + 1] : Int) * 65536) = ((d[2 * l.length] + d[2 * l.length + 1] * 65536 : Nat) : Int) := by
          have : ((d[2 * l.length] : Int) + (d[2 * l.length + 1] : Int) * 65536) = ((d[2 * l.length] + d[2 * l.length + 1] * 65536 : Nat) : Int) := by omega
          rw [this]; exact wrap_u32 (by omega) (by omega)
        have hi2 : 2 * (l.length : Int) < d.length := by omega
        have hi3 : (2 * (l.length : Int)).toNat = 2 * l.length := by omega
        have hi4 : 2 * (l.length : Int) + 2 = 2 * (l.length + 1) := by omega
        have hll : ((l ++ [d[2 * l.length] + d[2 * l.length + 1] * 65536]).length : Nat) = l.length + 1 := by simp
        rw [hll]
        generalize hvv : d[2 * l.length] + d[2 * l.length + 1] * 65536 = v at *
        clear hev
        by_cases h0 : l = []
        · subst h0
          simp only [List.length_nil, Nat.mul_zero, Nat.zero_add] at hi hdi hj hdj hw hw2 hw3 hvv
          simp (disch := first | omega | simp) [after, gv_nil, gbu_nil, gv_snoc, gbu_snoc, tidy_eq, reach_end, reach_more, fuelIds, place_cons, pack, if_pos, if_neg, decide_eq_true, decide_eq_false, wrap_i64, wrap_u32, hD, hw, hw2, hw3, goodElems, placeAll, elemsOf, maxB, h1, renL_self, Blk.ren]
          exact ⟨(gv_snoc 2 [] v).symm, (gbu_snoc [] v).symm⟩
        · rw [gv_cons h0, gbu_cons h0, gv_snoc, gbu_snoc]
          simp (disch := first | omega | simp) [after, tidy_eq, reach_end, reach_more, fuelIds, place_cons, pack, if_pos, if_neg, decide_eq_true, decide_eq_false, wrap_i64, wrap_u32, hD, hw, hw2, hw3, hidx, hi3, hi4, goodElems, placeAll, elemsOf, maxB, u32s_snoc, u32s_take_len, h1, renL_self, Blk.ren]
    · have hl2 : d.length = 2 * l.length + 1 := by omega
      refine .more (n - 1) _ (by omega) ⟨l ++ [d[2 * l.length]], 0, rfl, by simp; omega, lim_append hlim (by intro x hx; simp at hx; subst hx; show _ < 4294967296; omega), ?_⟩ ?_
      · rw [ev_snoc, hev, show 2 * (l ++ [d[2 * l.length]]).length = 2 * l.length + 2 from by simp; omega, List.take_of_length_le (l := d) (i := 2 * l.length + 2) (by omega), ← B16_pow2, ← ew_take_succ hi, List.take_of_length_le (by omega)]
      · have hi2 : 2 * (l.length : Int) < d.length := by omega
        have hi3 : (2 * (l.length : Int)).toNat = 2 * l.length := by omega
        have hi4 : 2 * (l.length : Int) + 2 = 2 * (l.length + 1) := by omega
        have hll : ((l ++ [d[2 * l.length]]).length : Nat) = l.length + 1 := by simp
        rw [hll]
        generalize hvv : d[2 * l.length] = v at *
        clear hev
        by_cases h0 : l = []
        · subst h0
          simp only [List.length_nil, Nat.mul_zero, Nat.zero_add] at hi hdi hj hw hvv
          simp (disch := first | omega | simp) [after, gv_nil, gbu_nil, gv_snoc, gbu_snoc, tidy_eq, reach_end, reach_more, fuelIds, place_cons, pack, if_pos, if_neg, decide_eq_true, decide_eq_false, wrap_i64, wrap_u32, hD, hw, hvv, goodElems, placeAll, elemsOf, maxB, h1, renL_self, Blk.ren]
          exact ⟨(gv_snoc 2 [] v).symm, (gbu_snoc [] v).symm⟩
        · rw [gv_cons h0, gbu_cons h0, gv_snoc, gbu_snoc]
          simp (disch := first | omega | simp) [after, tidy_eq, reach_end, reach_more, fuelIds, place_cons, pack, if_pos, if_neg, decide_eq_true, decide_eq_false, wrap_i64, wrap_u32, hD, hw, hvv, hi3, hi4, goodElems, placeAll, elemsOf, maxB, u32s_snoc, u32s_take_len, h1, renL_self, Blk.ren]

/-- To: the one form. -/
theorem rto (nl : Bool) (z : Int) (hlen : (DW z.natAbs).length < 2^38) : pureCall (run F) 93 [RI nl z] = some (IV z) := by
  obtain ⟨e, st, he, rfl, i, rfl⟩ := to_loop (F := F) (RI nl z) ⟨false, 2, [.agg [.bool false, .slc true []]]⟩ (by simp) nl z hlen
  refine pure_ret h.ashlarref1_To rfl ?_
  by_cases h0 : D z.natAbs = []
  · have hz : z = 0 := by simp at h0; omega
    subst hz
    simp only [Int.natAbs_zero, D_zero, gv_nil, gbu_nil, List.append_nil] at he
    have e0 : IV 0 = .agg [.bool false, .slc true []] := by simp [IV]
    rw [e0]
    simp (disch := omega) [c_ashlarref1_To, he, fillA, setAll, putElem, putAgg]
  · have hz : ¬ z = 0 := by intro h; rw [h] at h0; simp at h0
    rw [gv_cons h0, gbu_cons h0] at he
    have hre := reach_three (x := some ⟨false, 2, [RI nl z]⟩) (y := some ⟨false, 2, [.agg [.bool (decide (z < 0)), .mslc 2 0 (D z.natAbs).length]]⟩) (fz := false) (esz := 1) (l := D z.natAbs)
    have htr := tree_three (x := some ⟨false, 2, [RI nl z]⟩) (y := some ⟨false, 2, [.agg [.bool (decide (z < 0)), .mslc 2 0 (D z.natAbs).length]]⟩) (fz := false) (esz := 1) (l := D z.natAbs) (b := decide (z < 0)) (n := (D z.natAbs).length) (Nat.le_refl _)
    rw [List.take_length] at htr
    have e0 : IV z = .agg [.bool (decide (z < 0)), .slc false (u32s (D z.natAbs))] := by simp [IV, hz]
    rw [e0]
    simp only [List.cons_append, List.nil_append] at he
    simp (disch := omega) [c_ashlarref1_To, he, fillA, setAll, putElem, putAgg, hre, htr]
end Go.Ash
/- The document's integers: Is, Of. -/
namespace Go.Ash
variable {F : Nat → Option RFunc} [h : CodeRef1 F]

theorem DW_len_D (n : Nat) : (DW n).length ≤ 2 * (D n).length := by
  apply DW_len_le
  rw [B16_pow2]
  exact D_lt n
theorem D_len_DW (n : Nat) : (D n).length ≤ (DW n).length := by
  apply D_len_le
  have h1 := DW_lt n
  have h2 : B16 ^ (DW n).length ≤ B32 ^ (DW n).length := Nat.pow_le_pow_left (by decide) _
  omega

/-- Is: an answer in its one form is the number. -/
theorem ris (nl : Bool) (w z : Int) (hw : (D w.natAbs).length < 2^40) (hz : (DW z.natAbs).length < 2^38) : pureCall (run F) 29 [IV w, RI nl z] = some (.bool (decide (w = z))) := by
  have h1 := rto (F := F) nl z hz
  have h2 := eq_IV (F := F) (x := w) (y := z) hw (by have := D_len_DW z.natAbs; omega)
  refine pure_ret h.ashlarref1_Is rfl ?_
  simp [c_ashlarref1_Is, any_pure, h1, h2]

theorem sgn_tdiv (s : Bool) (m : Nat) : (sgn s m).tdiv 65536 = sgn s (m / 65536) := by
  cases s
  · simp only [sgn, Bool.false_eq_true, if_false]; exact i64_div m
  · simp only [sgn, if_true]
    rw [Int.neg_tdiv, i64_div]
theorem sgn_tmod (s : Bool) (m : Nat) : (sgn s m).tmod 65536 = sgn s (m % 65536) := by
  cases s
  · simp only [sgn, Bool.false_eq_true, if_false]; exact i64_mod m
  · simp only [sgn, if_true]
    rw [Int.neg_tmod, i64_mod]

theorem of_loop (b0 : Blk) (h0 : idsL b0.elems = []) (s : Bool) (n0 : Nat) (hn0 : n0 ≤ 9223372036854775808) (hns : s = false → n0 < 9223372036854775808) :
    ∃ e st, (∀ env, exec F l_ashlarref1_Of_0 ⟨[.int .i64 (sgn s n0), .mptr 0 0 0, .bool s, .slc true [], .und], env, [some b0], 0⟩ = some (e, st)) ∧
      (e = .exit 0 ∧ ∃ v d, st = ⟨[v, .mptr 0 0 0, .bool s, gv 1 d, .und], [], [some b0] ++ gb d, 0⟩ ∧ LimW d ∧ ew d = n0 ∧ d.length ≤ 4) := by
  refine loop_rule
    (fun n st => ∃ (d : List Nat), st = ⟨[.int .i64 (sgn s n), .mptr 0 0 0, .bool s, gv 1 d, .und], [], [some b0] ++ gb d, 0⟩ ∧ n ≤ 9223372036854775808 ∧ (s = false → n < 9223372036854775808) ∧ LimW d ∧ ew d + B16 ^ d.length * n = n0 ∧ n < 65536 ^ (4 - d.length) ∧ d.length ≤ 4) _ n0 _ ?_
    (tidy_one (by simp) h0) ⟨[], rfl, hn0, hns, (fun a ha => by cases ha), by simp [ew], by show n0 < 65536 ^ 4; omega, by simp⟩
  rintro n st ⟨d, rfl, hn, hs, hdl, hev, hlt, hd4⟩
  rcases Nat.eq_zero_or_pos n with rfl | hpos
  · refine .out (.exit 0) _ (by simp) ⟨rfl, .int .i64 (sgn s 0), d, rfl, hdl, by simpa using hev, hd4⟩ ?_
    cases s <;> simp [after, sgn]
  · have hlen : d.length < 4 := by
      apply Nat.lt_of_not_le
      intro h
      have : 4 - d.length = 0 := by omega
      rw [this] at hlt
      omega
    refine .more (n / 65536) _ (Nat.div_lt_self hpos (by decide)) ⟨d ++ [n % 65536], rfl, by omega, fun h => by have := hs h; omega, limW_append hdl (by intro z hz; simp at hz; subst hz; exact Nat.mod_lt _ (by decide)), ?_, ?_, by simp; omega⟩ ?_
    · rw [ew_snoc, List.length_append, List.length_singleton, Nat.pow_succ]
      have e : B16 ^ d.length * n = B16 ^ d.length * (n % 65536) + B16 ^ d.length * B16 * (n / 65536) := by
        rw [Nat.mul_assoc, ← Nat.mul_add]
        congr 1
        show n = n % 65536 + 65536 * (n / 65536)
        omega
      omega
    · rw [Nat.div_lt_iff_lt_mul (by decide), ← Nat.pow_succ]
      have : (4 - (d ++ [n % 65536]).length).succ = 4 - d.length := by simp; omega
      rw [this]; exact hlt
    · have hq := sgn_tdiv s n
      have hr := sgn_tmod s n
      have hr1 : n % 65536 < 65536 := Nat.mod_lt _ (by decide)
      have hq1 : n / 65536 < 281474976710656 := by omega
      clear hev hlt hs
      generalize n % 65536 = r at *
      generalize n / 65536 = q at *
      have hw : IntKind.i64.wrap (sgn s q) = sgn s q := by cases s <;> simp only [sgn, if_true, if_false, Bool.false_eq_true] <;> rw [wrap_i64 (by omega) (by omega)]
      have hne : ¬ sgn s n = 0 := by cases s <;> simp [sgn] <;> omega
      by_cases hr0 : s = true ∧ 0 < r
      · obtain ⟨rfl, hr0⟩ := hr0
        have hr' : sgn true r = -(r : Int) := rfl
        rw [hr'] at hr
        by_cases hd0 : d = []
        · subst hd0
          simp (disch := first | omega | simp) [after, gv_nil, gb_nil, gv_snoc, gb_snoc, tidy_eq, reach_end, reach_more, fuelIds, place_cons, pack, if_pos, if_neg, decide_eq_true, decide_eq_false, wrap_i64, hq, hr, hw, hne, goodElems, placeAll, elemsOf, maxB, i64s_one, h0, renL_self, Blk.ren]
          exact ⟨(gv_snoc 1 [] r).symm, (gb_snoc [] r).symm⟩
        · rw [gv_cons hd0, gb_cons hd0, gv_snoc, gb_snoc]
          simp (disch := first | omega | simp) [after, tidy_eq, reach_end, reach_more, fuelIds, place_cons, pack, if_pos, if_neg, decide_eq_true, decide_eq_false, wrap_i64, hq, hr, hw, hne, goodElems, placeAll, elemsOf, maxB, i64s_snoc, i64s_take_len, h0, renL_self, Blk.ren]
      · have hr' : sgn s r = (r : Int) := by cases s <;> simp [sgn] at hr0 ⊢; omega
        rw [hr'] at hr
        by_cases hd0 : d = []
        · subst hd0
          simp (disch := first | omega | simp) [after, gv_nil, gb_nil, gv_snoc, gb_snoc, tidy_eq, reach_end, reach_more, fuelIds, place_cons, pack, if_pos, if_neg, decide_eq_true, decide_eq_false, wrap_i64, hq, hr, hw, hne, goodElems, placeAll, elemsOf, maxB, i64s_one, h0, renL_self, Blk.ren]
          exact ⟨(gv_snoc 1 [] r).symm, (gb_snoc [] r).symm⟩
        · rw [gv_cons hd0, gb_cons hd0, gv_snoc, gb_snoc]
          simp (disch := first | omega | simp) [after, tidy_eq, reach_end, reach_more, fuelIds, place_cons, pack, if_pos, if_neg, decide_eq_true, decide_eq_false, wrap_i64, hq, hr, hw, hne, goodElems, placeAll, elemsOf, maxB, i64s_snoc, i64s_take_len, h0, renL_self, Blk.ren]

theorem hand_bool_gv (b : Bool) (d : List Nat) (b0 : Option Blk) (hd : d ≠ []) : handOn [.bool b, .mslc 1 0 d.length] [b0, some ⟨false, 1, i64s d⟩] = some ([.bool b, .slc false (i64s d)], [b0, some ⟨true, 1, i64s d⟩]) := by
  have ht2 := treeL_atE (H := [b0, some ⟨false, 1, i64s d⟩]) (id := 1) (n := 36) (len := d.length) (rest := []) rfl (by simp) (by simp) (by simp)
  rw [i64s_take_len] at ht2
  have h1 : treeL [b0, some ⟨false, 1, i64s d⟩] fuelTree [.bool b, .mslc 1 0 d.length] = some ([.bool b, .slc false (i64s d)], [1]) := by
    unfold fuelTree
    rw [treeL_cons (by simp), ht2]
    rfl
  simp [handOn, h1, freeze, Heap.at]

/-- Of: a small number. -/
theorem rof (z : Int) (h1 : -9223372036854775808 ≤ z) (h2 : z < 9223372036854775808) : ∃ nl, pureCall (run F) 34 [.int .i64 z] = some (RI nl z) := by
  have hz : sgn (decide (z < 0)) z.natAbs = z := by by_cases h : z < 0 <;> simp [sgn, h] <;> omega
  obtain ⟨e, st, he, rfl, v, d, rfl, g1, g2, g3⟩ := of_loop (F := F) ⟨false, 2, [.agg [.bool false, .slc true []]]⟩ (by simp) (decide (z < 0)) z.natAbs (by omega) (by intro h; simp at h; omega)
  rw [hz] at he
  have ht := pc_rtrim (F := F) (decide (z < 0)) (decide (d = [])) d g1 (by omega)
  rw [g2, hz] at ht
  refine ⟨decide (d = []), pure_ret h.ashlarref1_Of rfl ?_⟩
  by_cases h0 : d = []
  · subst h0
    simp only [gv_nil, gb_nil, List.append_nil] at he
    simp only [decide_true, i64s_empty] at ht
    simp (disch := omega) [c_ashlarref1_Of, he, any_pure, ht]
  · rw [gv_cons h0, gb_cons h0] at he
    simp only [List.cons_append, List.nil_append] at he
    simp only [h0, decide_false] at ht
    have hh := fun b b0 => hand_bool_gv b d b0 h0
    simp (disch := omega) [c_ashlarref1_Of, he, any_pure, hh, ht, h0]
end Go.Ash
/- The document's integers: Mul. -/
namespace Go.Ash
variable {F : Nat → Option RFunc} [h : CodeRef1 F]

theorem tidy_four {live : List Bool} {vars env : List AVal} {b0 b1 b2 b3 : Blk} (hv : idsL (mask live vars) = [0, 1, 2, 3]) (h0 : idsL b0.elems = []) (h1 : idsL b1.elems = []) (h2 : idsL b2.elems = []) (h3 : idsL b3.elems = []) :
    tidy live ⟨vars, env, [some b0, some b1, some b2, some b3], 0⟩ = some ⟨mask live vars, [], [some b0, some b1, some b2, some b3], 0⟩ := by
  refine tidy_keep ?_ ?_
  · simp [hv, reach, fuelIds, Heap.at, h0, h1, h2, h3, List.range_succ]
  · intro x hx k hk y hy
    simp at hx
    rcases hx with rfl | rfl | rfl | rfl <;> cases hk
    · rw [h0] at hy; cases hy
    · rw [h1] at hy; cases hy
    · rw [h2] at hy; cases hy
    · rw [h3] at hy; cases hy

theorem mul_step {E A p o v c c2 u yj Y R B : Nat} (e : v + B * c2 = c + (o + u * yj)) (hs : A + p * o = E + p * v) (h : R = A + p * B * (c2 + u * Y)) : R = E + p * (c + u * (yj + B * Y)) := by
  have e2 : p * (v + B * c2) = p * (c + (o + u * yj)) := by rw [e]
  have e3 : u * (B * Y) = B * (u * Y) := by rw [Nat.mul_left_comm]
  simp only [Nat.mul_add, Nat.mul_assoc, e3] at e2 h ⊢
  omega

theorem rmul_inner (n1 n2 : Bool) (x y : Int) (b2 : Blk) (hb2 : idsL b2.elems = []) (X Y : List Nat) (hX : DW x.natAbs = X) (hY : DW y.natAbs = Y) (hlx : X.length < 2^38) (hly : Y.length < 2^38) (i : Nat) (hi : i < X.length) (v8 v9 w0 w1 : AVal) (out0 : List Nat) (hl0 : out0.length = X.length + Y.length + 1) (hlim0 : LimW out0) :
    ∃ e st, (∀ env, exec F l_ashlarref1_Mul_0 ⟨[w0, w1, .mptr 0 0 0, .mptr 1 0 0, .mptr 2 0 0, .mslc 3 0 (X.length + Y.length + 1), .int .i64 i, .int .i64 0, .int .i64 0, v9], env,
        [some ⟨false, 2, [RI n1 x]⟩, some ⟨false, 2, [RI n2 y]⟩, some b2, some ⟨false, 1, i64s out0⟩], 0⟩ = some (e, st)) ∧
      (e = .exit 2 ∧ ∃ (out : List Nat) (c : Nat), st = ⟨[.und, .und, .mptr 0 0 0, .mptr 1 0 0, .mptr 2 0 0, .mslc 3 0 (X.length + Y.length + 1), .int .i64 i, .int .i64 c, .int .i64 Y.length, .und], [],
        [some ⟨false, 2, [RI n1 x]⟩, some ⟨false, 2, [RI n2 y]⟩, some b2, some ⟨false, 1, i64s out⟩], 0⟩ ∧ out.length = X.length + Y.length + 1 ∧ LimW out ∧ c < 65536 ∧ (∀ q, i + Y.length ≤ q → out[q]? = out0[q]?) ∧
        ew out + B16 ^ (i + Y.length) * c = ew out0 + B16 ^ i * (X[i] * ew Y)) := by
  have hXl := limW_DW x.natAbs
  have hYl := limW_DW y.natAbs
  rw [hX] at hXl
  rw [hY] at hYl
  have hu := hXl.get hi
  refine loop_rule
    (fun n st => ∃ (out : List Nat) (c j : Nat), st = ⟨[.und, .und, .mptr 0 0 0, .mptr 1 0 0, .mptr 2 0 0, .mslc 3 0 (X.length + Y.length + 1), .int .i64 i, .int .i64 c, .int .i64 j, .und], [],
        [some ⟨false, 2, [RI n1 x]⟩, some ⟨false, 2, [RI n2 y]⟩, some b2, some ⟨false, 1, i64s out⟩], 0⟩ ∧ j + n = Y.length ∧ out.length = X.length + Y.length + 1 ∧ LimW out ∧ c < 65536 ∧ (∀ q, i + Y.length ≤ q → out[q]? = out0[q]?) ∧
        ew out0 + B16 ^ i * (X[i] * ew Y) = ew out + B16 ^ (i + j) * (c + X[i] * ew (Y.drop j))) _ Y.length _ ?_
    (tidy_four (by simp) (by simp) (by simp) hb2 (by simp)) ⟨out0, 0, 0, rfl, by omega, hl0, hlim0, by omega, fun _ _ => rfl, by simp⟩
  rintro n st ⟨out, c, j, rfl, hn, hout, hlim, hc, hk, hev⟩
  rcases Nat.eq_zero_or_pos n with rfl | hpos
  · have hj : j = Y.length := by omega
    subst hj
    refine .out (.exit 2) _ (by simp) ⟨rfl, out, c, rfl, hout, hlim, hc, hk, ?_⟩ ?_
    · rw [hev, List.drop_of_length_le (Nat.le_refl _)]; simp [ew]
    · simp (disch := first | omega | simp) [after, if_pos, if_neg, decide_eq_false, hX, hY]
  · have hjy : j < Y.length := by omega
    have hyj := hYl.get hjy
    have hko : i + j < out.length := by omega
    have hok := hlim.get hko
    have hPn : X[i] * Y[j] ≤ 65535 * 65535 := Nat.mul_le_mul (by omega) (by omega)
    have hw1 : IntKind.i64.wrap ((X[i] : Int) * (Y[j] : Int)) = ((X[i] * Y[j] : Nat) : Int) := by rw [← Int.natCast_mul]; exact wrap_i64 (by omega) (by omega)
    have hw2 : IntKind.i64.wrap ((out[i + j] : Int) + ((X[i] * Y[j] : Nat) : Int)) = ((out[i + j] + X[i] * Y[j] : Nat) : Int) := by rw [← Int.natCast_add]; exact wrap_i64 (by omega) (by omega)
    have hw3 : IntKind.i64.wrap ((c : Int) + ((out[i + j] + X[i] * Y[j] : Nat) : Int)) = ((c + (out[i + j] + X[i] * Y[j]) : Nat) : Int) := by rw [← Int.natCast_add]; exact wrap_i64 (by omega) (by omega)
    have hm := i64_mod (c + (out[i + j] + X[i] * Y[j]))
    have hq := i64_div (c + (out[i + j] + X[i] * Y[j]))
    have hset := set_ew hko ((c + (out[i + j] + X[i] * Y[j])) % 65536)
    have hdm := Nat.div_add_mod (c + (out[i + j] + X[i] * Y[j])) 65536
    have hij : ((i : Int) + j).toNat = i + j := by omega
    refine .more (n - 1) _ (by omega) ⟨out.set (i + j) ((c + (out[i + j] + X[i] * Y[j])) % 65536), (c + (out[i + j] + X[i] * Y[j])) / 65536, j + 1, rfl, by omega, by simpa using hout, limW_set hlim (Nat.mod_lt _ (by decide)), by omega, ?_, ?_⟩ ?_
    · intro q hq
      rw [← hk q hq, List.getElem?_set_ne (by omega)]
    · rw [hev, drop_ew hjy]
      exact (mul_step (B := B16) (c2 := (c + (out[i + j] + X[i] * Y[j])) / 65536) (by show _ + 65536 * _ = _; omega) hset (by rw [show i + (j + 1) = i + j + 1 from rfl, Nat.pow_succ])).symm
    · have hM1 : c + (out[i + j] + X[i] * Y[j]) < 4294967296 := by omega
      clear hset hdm hev hk
      generalize c + (out[i + j] + X[i] * Y[j]) = M at *
      generalize out[i + j] + X[i] * Y[j] = M2 at *
      generalize X[i] * Y[j] = M3 at *
      generalize hmm : M % 65536 = m at *
      generalize hqq : M / 65536 = q at *
      simp (disch := first | omega | simp) [after, tidy_four, if_pos, if_neg, decide_eq_true, wrap_i64, get?_i64s, set_i64n, putElem, putOne, hX, hY, hij, hw1, hw2, hw3, hm, hq, hb2]

theorem rmul_outer (n1 n2 : Bool) (x y : Int) (b2 : Blk) (hb2 : idsL b2.elems = []) (X Y : List Nat) (hX : DW x.natAbs = X) (hY : DW y.natAbs = Y) (hlx : X.length < 2^38) (hly : Y.length < 2^38) (w0 w1 v7 v8 v9 : AVal) :
    ∃ e st, (∀ env, exec F l_ashlarref1_Mul_2 ⟨[w0, w1, .mptr 0 0 0, .mptr 1 0 0, .mptr 2 0 0, .mslc 3 0 (X.length + Y.length + 1), .int .i64 0, v7, v8, v9], env,
        [some ⟨false, 2, [RI n1 x]⟩, some ⟨false, 2, [RI n2 y]⟩, some b2, some ⟨false, 1, i64s (List.replicate (X.length + Y.length + 1) 0)⟩], 0⟩ = some (e, st)) ∧
      (e = .exit 0 ∧ ∃ (out : List Nat), st = ⟨[.und, .und, .mptr 0 0 0, .mptr 1 0 0, .mptr 2 0 0, .mslc 3 0 (X.length + Y.length + 1), .int .i64 X.length, .und, .und, .und], [],
        [some ⟨false, 2, [RI n1 x]⟩, some ⟨false, 2, [RI n2 y]⟩, some b2, some ⟨false, 1, i64s out⟩], 0⟩ ∧ out.length = X.length + Y.length + 1 ∧ LimW out ∧ ew out = ew X * ew Y) := by
  have hz0 : ∀ k, ew (List.replicate k 0) = 0 := fun k => by have := ew_zeros [] k; simpa [ew] using this
  refine loop_rule
    (fun n st => ∃ (out : List Nat) (i : Nat), st = ⟨[.und, .und, .mptr 0 0 0, .mptr 1 0 0, .mptr 2 0 0, .mslc 3 0 (X.length + Y.length + 1), .int .i64 i, .und, .und, .und], [],
        [some ⟨false, 2, [RI n1 x]⟩, some ⟨false, 2, [RI n2 y]⟩, some b2, some ⟨false, 1, i64s out⟩], 0⟩ ∧ i + n = X.length ∧ out.length = X.length + Y.length + 1 ∧ LimW out ∧ (∀ q, i + Y.length ≤ q → q < X.length + Y.length + 1 → out[q]? = some 0) ∧ ew out = ew (X.take i) * ew Y) _ X.length _ ?_
    (tidy_four (by simp) (by simp) (by simp) hb2 (by simp)) ⟨_, 0, rfl, by omega, by simp, limW_replicate _, by intro q _ hq; rw [List.getElem?_replicate, if_pos hq], by rw [hz0]; simp [ew]⟩
  rintro n st ⟨out, i, rfl, hn, hout, hlim, hz, hev⟩
  rcases Nat.eq_zero_or_pos n with rfl | hpos
  · have hi : i = X.length := by omega
    subst hi
    refine .out (.exit 0) _ (by simp) ⟨rfl, out, rfl, hout, hlim, by rw [hev, List.take_length]⟩ ?_
    simp (disch := first | omega | simp) [after, if_pos, if_neg, decide_eq_false, hX, hY]
  · have hix : i < X.length := by omega
    obtain ⟨e1, st1, he1, rfl, out1, c, rfl, g1, g2, g3, g4, g5⟩ := rmul_inner (F := F) n1 n2 x y b2 hb2 X Y hX hY hlx hly i hix .und .und .und .und out hout hlim
    have hpo : i + Y.length < out1.length := by omega
    have hzero : out1[i + Y.length] = 0 := by
      have h1 := g4 (i + Y.length) (Nat.le_refl _)
      rw [hz _ (Nat.le_refl _) (by omega), List.getElem?_eq_getElem hpo] at h1
      exact Option.some.inj h1
    have hset := set_ew hpo c
    rw [hzero, Nat.mul_zero, Nat.add_zero] at hset
    have hev' : ew (out1.set (i + Y.length) c) = ew (X.take (i + 1)) * ew Y := by
      rw [hset, g5, hev, ew_take_succ hix, Nat.add_mul, Nat.mul_assoc]
    have hz' : ∀ q, i + 1 + Y.length ≤ q → q < X.length + Y.length + 1 → (out1.set (i + Y.length) c)[q]? = some 0 := by
      intro q h1 h2
      rw [List.getElem?_set_ne (by omega), g4 q (by omega)]
      exact hz q (by omega) h2
    have hij : ((i : Int) + Y.length).toNat = i + Y.length := by omega
    have t4 : ∀ {live vars env els}, idsL (mask live vars) = [0, 1, 2, 3] → idsL els = [] → tidy live ⟨vars, env, [some ⟨false, 2, [RI n1 x]⟩, some ⟨false, 2, [RI n2 y]⟩, some b2, some ⟨false, 1, els⟩], 0⟩ =
        some ⟨mask live vars, [], [some ⟨false, 2, [RI n1 x]⟩, some ⟨false, 2, [RI n2 y]⟩, some b2, some ⟨false, 1, els⟩], 0⟩ := fun hv he => tidy_four hv (by simp) (by simp) hb2 he
    rcases Nat.eq_zero_or_pos c with rfl | hc
    · have hs : out1.set (i + Y.length) 0 = out1 := by
        rw [← hzero]; exact List.set_getElem_self hpo
      rw [hs] at hev' hz'
      refine .more (n - 1) _ (by omega) ⟨out1, i + 1, rfl, by omega, g1, g2, hz', hev'⟩ ?_
      have he2 : ∀ env, exec F l_ashlarref1_Mul_1 ⟨[.und, .und, .mptr 0 0 0, .mptr 1 0 0, .mptr 2 0 0, .mslc 3 0 (X.length + Y.length + 1), .int .i64 i, .int .i64 0, .int .i64 Y.length, .int .i64 ((i : Int) + Y.length)], env,
          [some ⟨false, 2, [RI n1 x]⟩, some ⟨false, 2, [RI n2 y]⟩, some b2, some ⟨false, 1, i64s out1⟩], 0⟩ = some (.exit 4, ⟨[.und, .und, .mptr 0 0 0, .mptr 1 0 0, .mptr 2 0 0, .mslc 3 0 (X.length + Y.length + 1), .int .i64 i, .int .i64 0, .und, .int .i64 ((i : Int) + Y.length)], [],
          [some ⟨false, 2, [RI n1 x]⟩, some ⟨false, 2, [RI n2 y]⟩, some b2, some ⟨false, 1, i64s out1⟩], 0⟩) := by
        intro env
        unfold l_ashlarref1_Mul_1
        rw [exec_loop, t4 (by simp) (by simp)]
        simp
      simp (disch := first | omega | simp) [after, t4, if_pos, if_neg, decide_eq_true, wrap_i64, hX, hY, he1, he2]
    · refine .more (n - 1) _ (by omega) ⟨out1.set (i + Y.length) c, i + 1, rfl, by omega, by simpa using g1, limW_set g2 g3, hz', hev'⟩ ?_
      have hm : (c : Int).tmod 65536 = (c : Int) := by rw [i64_mod, Nat.mod_eq_of_lt g3]
      have hq : (c : Int).tdiv 65536 = 0 := by rw [i64_div, Nat.div_eq_of_lt g3]; rfl
      have he2 : ∀ env, exec F l_ashlarref1_Mul_1 ⟨[.und, .und, .mptr 0 0 0, .mptr 1 0 0, .mptr 2 0 0, .mslc 3 0 (X.length + Y.length + 1), .int .i64 i, .int .i64 c, .int .i64 Y.length, .int .i64 ((i : Int) + Y.length)], env,
          [some ⟨false, 2, [RI n1 x]⟩, some ⟨false, 2, [RI n2 y]⟩, some b2, some ⟨false, 1, i64s out1⟩], 0⟩ = some (.exit 4, ⟨[.und, .und, .mptr 0 0 0, .mptr 1 0 0, .mptr 2 0 0, .mslc 3 0 (X.length + Y.length + 1), .int .i64 i, .int .i64 0, .und, .int .i64 ((i : Int) + Y.length + 1)], [],
          [some ⟨false, 2, [RI n1 x]⟩, some ⟨false, 2, [RI n2 y]⟩, some b2, some ⟨false, 1, i64s (out1.set (i + Y.length) c)⟩], 0⟩) := by
        intro env
        unfold l_ashlarref1_Mul_1
        rw [exec_loop, t4 (by simp) (by simp)]
        simp (disch := first | omega | simp) [if_pos, if_neg, decide_eq_true, wrap_i64, get?_i64s, set_i64n, putElem, putOne, hij, hzero, hm, hq]
        rw [exec_loop, t4 (by simp) (by simp)]
        simp
      simp (disch := first | omega | simp) [after, t4, if_pos, if_neg, decide_eq_true, wrap_i64, hX, hY, he1, he2]

/-- Mul: the product. -/
theorem rMul (n1 n2 : Bool) (x y : Int) (hx : (DW x.natAbs).length < 2^38) (hy : (DW y.natAbs).length < 2^38) : ∃ nl, pureCall (run F) 26 [RI n1 x, RI n2 y] = some (RI nl (x * y)) := by
  obtain ⟨e, st, he, rfl, out, rfl, g1, g2, g3⟩ := rmul_outer (F := F) n1 n2 x y ⟨false, 2, [.agg [.bool false, .slc true []]]⟩ (by simp) _ _ rfl rfl hx hy (RI n1 x) (RI n2 y) .und .und .und
  rw [ew_DW, ew_DW] at g3
  have ht := fun s => pc_rtrim (F := F) s false out g2 (by omega)
  rw [g3] at ht
  have hh : ∀ (b : Bool) (b0 b1 b2 : Option Blk), handOn [.bool b, .mslc 3 0 ((DW x.natAbs).length + (DW y.natAbs).length + 1)] [b0, b1, b2, some ⟨false, 1, i64s out⟩] = some ([.bool b, .slc false (i64s out)], [b0, b1, b2, some ⟨true, 1, i64s out⟩]) := by
    intro b b0 b1 b2
    have ht2 := treeL_atE (H := [b0, b1, b2, some ⟨false, 1, i64s out⟩]) (id := 3) (n := 36) (len := out.length) (rest := []) rfl (by simp) (by simp) (by simp)
    rw [i64s_take_len, g1] at ht2
    have h1 : treeL [b0, b1, b2, some ⟨false, 1, i64s out⟩] fuelTree [.bool b, .mslc 3 0 ((DW x.natAbs).length + (DW y.natAbs).length + 1)] = some ([.bool b, .slc false (i64s out)], [3]) := by
      unfold fuelTree
      rw [treeL_cons (by simp), ht2]
      rfl
    simp [handOn, h1, freeze, Heap.at]
  have tn : (((DW x.natAbs).length : Int) + (DW y.natAbs).length + 1).toNat = (DW x.natAbs).length + (DW y.natAbs).length + 1 := by omega
  have e : sgn (decide (x < 0) != decide (y < 0)) (x.natAbs * y.natAbs) = x * y := by
    have h1 : sgn (decide (x < 0)) x.natAbs = x := by by_cases h : x < 0 <;> simp [sgn, h] <;> omega
    have h2 : sgn (decide (y < 0)) y.natAbs = y := by by_cases h : y < 0 <;> simp [sgn, h] <;> omega
    conv => rhs; rw [← h1, ← h2]
    generalize decide (x < 0) = s
    generalize decide (y < 0) = t
    cases s <;> cases t <;> simp [sgn, Int.neg_mul, Int.mul_neg]
  refine ⟨false, pure_ret h.ashlarref1_Mul rfl ?_⟩
  simp (disch := first | omega | simp) [c_ashlarref1_Mul, wrap_i64, if_pos, maxB, i64s_replicate, tn, he, any_pure, hh, ht]
  rw [← e]
  generalize decide (x < 0) = s
  generalize decide (y < 0) = t
  cases s <;> cases t <;> rfl
end Go.Ash
/- The document's integers: small, times, Bits, Mod. -/
namespace Go.Ash
variable {F : Nat → Option RFunc} [h : CodeRef1 F]

theorem drop_set_succ' {l : List Nat} {i v : Nat} (hi : i < l.length) : (l.set i v).drop i = v :: l.drop (i + 1) := drop_set_succ hi

theorem rsmall_loop (nx : Bool) (x : List Nat) (d : Nat) (hx : LimW x) (hd : 0 < d) (hdB : d < 4294967296) (hlen : x.length < 2^40) :
    ∃ e st, (∀ env, exec F l_ashlarref1_small_0 ⟨[.slc nx (i64s x), .int .i64 d, .slc true [], .int .i64 0, .mslc 0 0 x.length, .int .i64 0, .int .i64 ((x.length : Int) - 1)], env, [some ⟨false, 1, i64s (List.replicate x.length 0)⟩], 0⟩ = some (e, st)) ∧
      (e = .exit 0 ∧ ∃ out r, st = ⟨[.slc nx (i64s x), .int .i64 d, .und, .und, .mslc 0 0 x.length, .int .i64 (r : Nat), .int .i64 (-1)], [], [some ⟨false, 1, i64s out⟩], 0⟩ ∧
        out.length = x.length ∧ LimW out ∧ r < d ∧ ew x = d * ew out + r) := by
  refine loop_rule
    (fun n st => ∃ (out : List Nat) (r : Nat), st = ⟨[.slc nx (i64s x), .int .i64 d, .und, .und, .mslc 0 0 x.length, .int .i64 r, .int .i64 ((n : Int) - 1)], [], [some ⟨false, 1, i64s out⟩], 0⟩ ∧
      n ≤ x.length ∧ out.length = x.length ∧ LimW out ∧ r < d ∧ ew (x.drop n) = d * ew (out.drop n) + r) _ x.length _ ?_
    (tidy_one (by simp) (by simp)) ⟨_, 0, rfl, Nat.le_refl _, by simp, limW_replicate _, hd, by simp [ew]⟩
  rintro n st ⟨out, r, rfl, hn, hout, hlim, hr, hev⟩
  rcases Nat.eq_zero_or_pos n with rfl | hpos
  · refine .out (.exit 0) _ (by simp) ⟨rfl, out, r, rfl, hout, hlim, hr, by simpa using hev⟩ ?_
    simp [after]
  · obtain ⟨n, rfl⟩ : ∃ k, n = k + 1 := ⟨n - 1, by omega⟩
    have hidx : ((n + 1 : Nat) : Int) - 1 = n := by omega
    have hnx : n < x.length := hn
    have hxn := hx.get hnx
    have hno : n < out.length := by omega
    have hM : r * 65536 + x[n] < 281474976710656 := by omega
    have hq : (r * 65536 + x[n]) / d < 65536 := by
      rw [Nat.div_lt_iff_lt_mul hd]
      have : (r + 1) * 65536 ≤ d * 65536 := Nat.mul_le_mul_right _ hr
      omega
    have hr2 : (r * 65536 + x[n]) % d < d := Nat.mod_lt _ hd
    have hdm := Nat.div_add_mod (r * 65536 + x[n]) d
    have hc : (r : Int) * 65536 + (x[n] : Int) = ((r * 65536 + x[n] : Nat) : Int) := by omega
    have hd0 : ¬ d = 0 := by omega
    have htd := tdiv_nat (r * 65536 + x[n]) d
    have htm := tmod_nat (r * 65536 + x[n]) d
    rw [hidx]
    obtain ⟨M, hMM⟩ : ∃ M, r * 65536 + x[n] = M := ⟨_, rfl⟩
    simp only [hMM] at hM hq hr2 hdm hc htd htm
    generalize hQQ : M / d = q at *
    generalize hRR : M % d = m at *
    refine .more n _ (Nat.lt_succ_self _) ⟨out.set n q, m, rfl, by omega, by simpa using hout, limW_set hlim (by omega), hr2, ?_⟩ ?_
    · rw [drop_set_succ' hno, drop_ew hnx, hev]
      simp only [ew]
      have e1 : B16 * (d * ew (out.drop (n + 1))) = d * (B16 * ew (out.drop (n + 1))) := Nat.mul_left_comm _ _ _
      have e2 : B16 * r = r * 65536 := Nat.mul_comm _ _
      rw [Nat.mul_add, Nat.mul_add, e1, e2]
      omega
    · simp (disch := first | omega | simp) [after, tidy_one, if_pos, if_neg, decide_eq_true, hnx, wrap_i64, get?_i64s, set_i64n, putElem, putOne, hc, hd0, htd, htm]

theorem pc_rsmall (nx : Bool) (x : List Nat) (d : Nat) (hx : LimW x) (hd : 0 < d) (hdB : d < 4294967296) (hlen : x.length < 2^40) :
    ∃ out, pureCall (run F) 101 [.slc nx (i64s x), .int .i64 d] = some (.tup [.slc false (i64s out), .int .i64 (ew x % d : Nat)]) ∧ out.length = x.length ∧ LimW out ∧ ew out = ew x / d := by
  obtain ⟨e, st, he, rfl, out, r, rfl, ho, hl, hr, hev⟩ := rsmall_loop (F := F) nx x d hx hd hdB hlen
  have h1 : ew x / d = ew out := by rw [hev, Nat.mul_add_div hd, Nat.div_eq_of_lt hr, Nat.add_zero]
  have h2 : ew x % d = r := by rw [hev, Nat.mul_add_mod, Nat.mod_eq_of_lt hr]
  refine ⟨out, ?_, ho, hl, h1.symm⟩
  rw [h2]
  have hre := reach_at (H := [some ⟨false, 1, i64s out⟩]) (id := 0) rfl (by simp)
  have ht : treeL [some ⟨false, 1, i64s out⟩] fuelTree [.tup [.mslc 0 0 x.length, .int .i64 r]] = some ([.tup [.slc false (i64s out), .int .i64 r]], [0]) := by
    have h3 := treeL_atE (H := [some ⟨false, 1, i64s out⟩]) (id := 0) (n := 35) (len := out.length) (rest := [.int .i64 r]) rfl (by simp) (by simp) (by simp)
    rw [i64s_take_len, ho] at h3
    unfold fuelTree
    rw [treeL_cons (by simp)]
    simp only [AVal.tree, h3, Option.map_some, Option.bind_some, treeL_free (n := 38) (show idsL [] = [] from rfl)]
    simp
  refine pure_ret h.ashlarref1_small rfl ?_
  simp (disch := first | omega | simp) [c_ashlarref1_small, if_pos, wrap_i64, maxB, i64s_replicate, he, hre, ht]

theorem rtimes_loop (nx : Bool) (x : List Nat) (m : Nat) (hx : LimW x) (hm : m ≤ 65536) (hlen : x.length < 2^40) :
    ∃ e st, (∀ env, exec F l_ashlarref1_times_0 ⟨[.slc nx (i64s x), .int .i64 m, .slc true [], .mslc 0 0 (x.length + 1), .int .i64 0, .int .i64 0], env, [some ⟨false, 1, i64s (List.replicate (x.length + 1) 0)⟩], 0⟩ = some (e, st)) ∧
      (e = .exit 0 ∧ ∃ (out : List Nat) (c : Nat), st = ⟨[.slc nx (i64s x), .int .i64 m, .und, .mslc 0 0 (x.length + 1), .int .i64 c, .int .i64 x.length], [], [some ⟨false, 1, i64s out⟩], 0⟩ ∧
        out.length = x.length + 1 ∧ LimW out ∧ c ≤ 65535 ∧ ew (out.take x.length) + B16 ^ x.length * c = ew x * m) := by
  refine loop_rule
    (fun n st => ∃ (out : List Nat) (c i : Nat), st = ⟨[.slc nx (i64s x), .int .i64 m, .und, .mslc 0 0 (x.length + 1), .int .i64 c, .int .i64 i], [], [some ⟨false, 1, i64s out⟩], 0⟩ ∧
      i + n = x.length ∧ out.length = x.length + 1 ∧ LimW out ∧ c ≤ 65535 ∧ ew (out.take i) + B16 ^ i * c = ew (x.take i) * m) _ x.length _ ?_
    (tidy_one (by simp) (by simp)) ⟨_, 0, 0, rfl, by omega, by simp, limW_replicate _, by omega, by simp [ew]⟩
  rintro n st ⟨out, c, i, rfl, hn, hout, hlim, hc, hev⟩
  rcases Nat.eq_zero_or_pos n with rfl | hpos
  · have hi : i = x.length := by omega
    subst hi
    refine .out (.exit 0) _ (by simp) ⟨rfl, out, c, rfl, hout, hlim, hc, by rwa [List.take_length] at hev⟩ ?_
    simp [after]
  · have hix : i < x.length := by omega
    have hxi := hx.get hix
    have hio : i < out.length := by omega
    have hP : x[i] * m ≤ 65535 * 65536 := Nat.mul_le_mul (by omega) hm
    have hw1 : IntKind.i64.wrap ((x[i] : Int) * (m : Int)) = ((x[i] * m : Nat) : Int) := by rw [← Int.natCast_mul]; exact wrap_i64 (by omega) (by omega)
    have hw2 : IntKind.i64.wrap ((c : Int) + ((x[i] * m : Nat) : Int)) = ((c + x[i] * m : Nat) : Int) := by rw [← Int.natCast_add]; exact wrap_i64 (by omega) (by omega)
    have hmm := i64_mod (c + x[i] * m)
    have hqq := i64_div (c + x[i] * m)
    have hdm := Nat.div_add_mod (c + x[i] * m) 65536
    refine .more (n - 1) _ (by omega) ⟨out.set i ((c + x[i] * m) % 65536), (c + x[i] * m) / 65536, i + 1, rfl, by omega, by simpa using hout, limW_set hlim (Nat.mod_lt _ (by decide)), by omega, ?_⟩ ?_
    · rw [set_plusW hio, ew_take_succ hix, Nat.pow_succ, Nat.add_mul, ← hev, Nat.mul_assoc, Nat.mul_assoc]
      have e5 : B16 ^ i * (65536 * ((c + x[i] * m) / 65536) + (c + x[i] * m) % 65536) = B16 ^ i * (c + x[i] * m) := by rw [hdm]
      have e8 : B16 ^ i * (B16 * ((c + x[i] * m) / 65536)) = B16 ^ i * (65536 * ((c + x[i] * m) / 65536)) := rfl
      simp only [Nat.mul_add] at e5 ⊢
      omega
    · have hM1 : c + x[i] * m < 8589934592 := by omega
      clear hdm hev
      generalize c + x[i] * m = M at *
      generalize x[i] * m = M3 at *
      generalize hr2 : M % 65536 = r at *
      generalize hq2 : M / 65536 = q at *
      simp (disch := first | omega | simp) [after, tidy_one, if_pos, if_neg, decide_eq_true, wrap_i64, get?_i64s, set_i64n, putElem, putOne, hw1, hw2, hmm, hqq]

theorem run_rtimes (nx : Bool) (x : List Nat) (m : Nat) (hx : LimW x) (hm : m ≤ 65536) (hlen : x.length < 2^40) :
    ∃ out, run F 120 [.slc nx (i64s x), .int .i64 m] [] = some (.mslc 0 0 (x.length + 1), [some ⟨false, 1, i64s out⟩]) ∧ out.length = x.length + 1 ∧ LimW out ∧ ew out = ew x * m := by
  obtain ⟨e, st, he, rfl, out, c, rfl, g1, g2, g3, g4⟩ := rtimes_loop (F := F) nx x m hx hm hlen
  refine ⟨out.set x.length c, ?_, by simpa using g1, limW_set g2 (by omega), ?_⟩
  · rw [run_eq h.ashlarref1_times rfl]
    have hre : reach [some ⟨false, 1, i64s (out.set x.length c)⟩] fuelIds [0] [] = some [0] := reach_at (b := ⟨false, 1, i64s (out.set x.length c)⟩) rfl (by simp)
    have tn : ((x.length : Int) + 1).toNat = x.length + 1 := by omega
    simp (disch := first | omega | simp) [c_ashlarref1_times, if_pos, wrap_i64, maxB, i64s_replicate, he, get?_i64s, set_i64n, putElem, putOne, RFunc.leave, hre, pack, place_cons]
  · rw [← g4]
    have : out.set x.length c = (out.set x.length c).take (x.length + 1) := by rw [List.take_of_length_le (by simp; omega)]
    rw [this, set_plusW (by omega)]
end Go.Ash
