/- The abstract interpreter of this work and its uses, part 5: AshCodeLimbs. -/
import Derived.Test.YtaojijahpdnjhaaAshP04
set_option linter.all false
/- The code of functions of the given program, printed by a program of this work out of the dump (codes.py): data alone. -/
namespace Go.Ash
set_option maxRecDepth 10000
def c_limbs_Quo : RFunc := ⟨2, [0, 1, 2, 3, 4, 5, 6, 7, 8, 9],
(.seq (.region [⟨.box, [.v 0], some 2, none, []⟩,
 ⟨.box, [.v 1], some 3, none, []⟩,
 ⟨.alloc (.agg [.bool false, .slc true []]), [], some 4, none, []⟩,
 ⟨.alloc (.agg [.bool false, .slc true []]), [], some 5, none, []⟩,
 ⟨.mov, [.c (.int .i64 0)], some 6, none, []⟩] false)
(.seq (.region [⟨.load true 2, [.v 3], none, none, []⟩,
 ⟨.call false 84, [.p 0], none, none, []⟩,
 ⟨.mov, [.p 0], some 7, none, []⟩] false)
(.seq (.seq (.region [⟨.mov, [.v 7], none, none, []⟩,
 ⟨.len false, [.p 0], none, none, []⟩,
 ⟨.bin .eql, [.p 0, .c (.int .i64 0)], none, none, []⟩] false)
(.cond (.p 0) (.seq (.region [⟨.build [.bool false, .slc true []] [], [], none, none, []⟩,
 ⟨.build [.bool false, .slc true []] [], [], none, none, []⟩,
 ⟨.store 2, [.v 4, .p 1], none, none, []⟩,
 ⟨.store 2, [.v 5, .p 1], none, none, []⟩,
 ⟨.mov, [.c (.int .i64 2)], some 6, none, []⟩] false)
.ret) .skip))
(.seq (.region [⟨.load true 2, [.v 2], none, none, []⟩,
 ⟨.call false 84, [.p 0], none, none, []⟩,
 ⟨.mov, [.v 7], none, none, []⟩,
 ⟨.call false 85, [.p 1, .p 0], none, none, []⟩,
 ⟨.mov, [.p 0], none, none, []⟩,
 ⟨.extract 0, [.p 0], none, none, []⟩,
 ⟨.extract 1, [.p 1], none, none, []⟩,
 ⟨.mov, [.p 1], some 8, none, []⟩,
 ⟨.mov, [.p 1], some 9, none, []⟩] false)
(.seq (.seq (.region [⟨.load true 2, [.v 2], none, none, []⟩,
 ⟨.call false 86, [.p 0], none, none, []⟩,
 ⟨.mov, [.p 0], none, none, []⟩,
 ⟨.mov, [.v 9], none, some (0, true), []⟩,
 ⟨.len false, [.p 0], none, some (1, true), []⟩,
 ⟨.bin .gtr, [.p 0, .c (.int .i64 0)], none, some (2, true), []⟩,
 ⟨.pick, [.p 3, .p 0, .c (.bool false)], none, none, []⟩] false)
(.cond (.p 0) (.region [⟨.mov, [.v 8], none, none, []⟩,
 ⟨.bslice 1 (.int .u32 0) 1 [0], [.c (.int .u32 1)], none, none, []⟩,
 ⟨.call false 87, [.p 1, .p 0], none, none, []⟩,
 ⟨.mov, [.v 7], none, none, []⟩,
 ⟨.mov, [.v 9], none, none, []⟩,
 ⟨.call false 88, [.p 1, .p 0], none, none, []⟩,
 ⟨.mov, [.p 3], some 8, none, []⟩,
 ⟨.mov, [.p 1], some 9, none, []⟩] false) .skip))
(.seq (.region [⟨.load true 2, [.v 2], none, none, []⟩,
 ⟨.call false 86, [.p 0], none, none, []⟩,
 ⟨.load true 2, [.v 3], none, none, []⟩,
 ⟨.call false 86, [.p 0], none, none, []⟩,
 ⟨.beq true, [.p 2, .p 0], none, none, []⟩,
 ⟨.mov, [.v 8], none, none, []⟩,
 ⟨.call false 89, [.p 1, .p 0], none, none, []⟩,
 ⟨.mov, [.v 9], none, none, []⟩,
 ⟨.call false 89, [.c (.bool false), .p 0], none, none, []⟩,
 ⟨.store 2, [.v 4, .p 2], none, none, []⟩,
 ⟨.store 2, [.v 5, .p 1], none, none, []⟩,
 ⟨.mov, [.c (.int .i64 0)], some 6, none, []⟩] true)
.ret)))))),
[.cell 4 true 2, .cell 5 true 2, .v 6]⟩
def c_limbs_Of : RFunc := ⟨1, [0, 2, 3],
(.seq (.region [⟨.alloc (.agg [.bool false, .slc true []]), [], some 1, none, []⟩] false)
(.seq (.region [⟨.mov, [.v 0], none, none, []⟩,
 ⟨.conv .u64, [.p 0], none, none, []⟩,
 ⟨.mov, [.p 0], some 2, none, []⟩] false)
(.seq (.seq (.region [⟨.mov, [.v 0], none, none, []⟩,
 ⟨.bin .lss, [.p 0, .c (.int .i64 0)], none, none, []⟩] false)
(.cond (.p 0) (.region [⟨.mov, [.v 2], none, none, []⟩,
 ⟨.un .neg, [.p 0], none, none, []⟩,
 ⟨.mov, [.p 0], some 2, none, []⟩] false) .skip))
(.seq (.region [⟨.mov, [.v 0], none, none, []⟩,
 ⟨.bin .lss, [.p 0, .c (.int .i64 0)], none, none, []⟩,
 ⟨.mov, [.v 2], none, none, []⟩,
 ⟨.conv .u32, [.p 0], none, none, []⟩,
 ⟨.mov, [.v 2], none, none, []⟩,
 ⟨.bin .shr, [.p 0, .c (.int .u64 32)], none, none, []⟩,
 ⟨.conv .u32, [.p 0], none, none, []⟩,
 ⟨.bslice 1 (.int .u32 0) 2 [0, 1], [.p 3, .p 0], none, none, []⟩,
 ⟨.call false 89, [.p 6, .p 0], none, none, []⟩,
 ⟨.store 2, [.v 1, .p 0], none, none, []⟩] false)
.ret)))),
[.cell 1 true 2]⟩
def l_limbs_Small_0 : RCode := (.loop [false, true, false, false, false, true, false, false, true, true, true] (.seq (.region [⟨.bin .lss, [.v 10, .v 9], none, none, []⟩] false)
(.seq (.cond (.p 0) .skip (.exit 0))
(.seq (.block 1 (.seq (.region [⟨.mov, [.v 10], none, none, []⟩,
 ⟨.iaddr 1, [.v 8, .v 10], none, none, []⟩,
 ⟨.load false 1, [.p 0], none, none, []⟩,
 ⟨.mov, [.p 2], some 6, none, []⟩,
 ⟨.mov, [.p 1], some 7, none, []⟩] false)
(.region [⟨.mov, [.v 5], none, none, []⟩,
 ⟨.mov, [.v 7], none, none, []⟩,
 ⟨.conv .u64, [.p 0], none, none, []⟩,
 ⟨.mov, [.v 6], none, none, []⟩,
 ⟨.bin .mul, [.c (.int .i64 32), .p 0], none, none, []⟩,
 ⟨.bin .shl, [.p 2, .p 0], none, none, []⟩,
 ⟨.bin .or, [.p 5, .p 0], none, none, []⟩,
 ⟨.mov, [.p 0], some 5, none, []⟩] false)))
(.region [⟨.bin .add, [.v 10, .c (.int .i64 1)], none, none, []⟩,
 ⟨.mov, [.p 0], some 10, none, []⟩] false)))))
def c_limbs_Small : RFunc := ⟨1, [0, 1, 2, 3, 4, 5, 6, 7, 13, 14, 15],
(.seq (.region [⟨.box, [.v 0], some 1, none, []⟩,
 ⟨.mov, [.c (.int .i64 0)], some 2, none, []⟩,
 ⟨.mov, [.c (.bool false)], some 3, none, []⟩] false)
(.seq (.region [⟨.load true 2, [.v 1], none, none, []⟩,
 ⟨.call false 84, [.p 0], none, none, []⟩,
 ⟨.mov, [.p 0], some 4, none, []⟩] false)
(.seq (.seq (.region [⟨.mov, [.v 4], none, none, []⟩,
 ⟨.len false, [.p 0], none, none, []⟩,
 ⟨.bin .gtr, [.p 0, .c (.int .i64 2)], none, none, []⟩] false)
(.cond (.p 0) (.seq (.region [⟨.mov, [.c (.int .i64 0)], some 2, none, []⟩,
 ⟨.mov, [.c (.bool false)], some 3, none, []⟩] false)
.ret) .skip))
(.seq (.region [⟨.mov, [.c (.int .u64 0)], some 5, none, []⟩] false)
(.seq (.seq (.region [⟨.mov, [.v 4], some 8, none, []⟩,
 ⟨.len false, [.v 8], some 9, none, []⟩,
 ⟨.mov, [.c (.int .i64 0)], some 10, none, []⟩] false)
(.block 0 l_limbs_Small_0))
(.seq (.block 2 (.seq (.region [⟨.load true 2, [.v 1], none, none, []⟩,
 ⟨.call false 86, [.p 0], none, none, []⟩,
 ⟨.mov, [.p 0], none, none, []⟩,
 ⟨.mov, [.v 5], none, some (0, true), []⟩,
 ⟨.bin .leq, [.p 0, .c (.int .u64 9223372036854775808)], none, some (1, true), []⟩,
 ⟨.pick, [.p 2, .p 0, .c (.bool false)], none, none, []⟩,
 ⟨.mov, [.p 0], none, none, []⟩] false)
(.cond (.p 0) (.seq (.region [⟨.mov, [.v 5], none, none, []⟩,
 ⟨.un .neg, [.p 0], none, none, []⟩,
 ⟨.conv .i64, [.p 0], none, none, []⟩,
 ⟨.mov, [.p 0], some 2, none, []⟩,
 ⟨.mov, [.c (.bool true)], some 3, none, []⟩] false)
.ret) (.seq (.region [⟨.load true 2, [.v 1], none, none, []⟩,
 ⟨.call false 86, [.p 0], none, none, []⟩,
 ⟨.un .not, [.p 0], none, none, []⟩,
 ⟨.mov, [.p 0], none, none, []⟩,
 ⟨.mov, [.v 5], none, some (0, true), []⟩,
 ⟨.bin .lss, [.p 0, .c (.int .u64 9223372036854775808)], none, some (1, true), []⟩,
 ⟨.pick, [.p 2, .p 0, .c (.bool false)], none, none, []⟩,
 ⟨.mov, [.p 0], none, none, []⟩] false)
(.cond (.p 0) (.seq (.region [⟨.mov, [.v 5], none, none, []⟩,
 ⟨.conv .i64, [.p 0], none, none, []⟩,
 ⟨.mov, [.p 0], some 2, none, []⟩,
 ⟨.mov, [.c (.bool true)], some 3, none, []⟩] false)
.ret) .skip)))))
(.seq (.region [⟨.mov, [.c (.int .i64 0)], some 2, none, []⟩,
 ⟨.mov, [.c (.bool false)], some 3, none, []⟩] false)
.ret))))))),
[.v 2, .v 3]⟩
def l_limbs_Gcd_0 : RCode := (.loop [false, false, false, false, true, true, true] (.seq (.seq (.region [⟨.mov, [.v 6], none, none, []⟩,
 ⟨.len false, [.p 0], none, none, []⟩,
 ⟨.bin .gtr, [.p 0, .c (.int .i64 0)], none, none, []⟩] false)
(.cond (.p 0) .skip (.exit 0)))
(.block 1 (.seq (.region [⟨.mov, [.v 5], none, none, []⟩,
 ⟨.mov, [.v 6], none, none, []⟩,
 ⟨.call false 85, [.p 1, .p 0], none, none, []⟩,
 ⟨.mov, [.p 0], none, none, []⟩,
 ⟨.extract 0, [.p 0], none, none, []⟩,
 ⟨.extract 1, [.p 1], none, none, []⟩,
 ⟨.mov, [.p 1], none, none, []⟩,
 ⟨.mov, [.p 1], some 7, none, []⟩] false)
(.region [⟨.mov, [.v 6], none, none, []⟩,
 ⟨.mov, [.v 7], none, none, []⟩,
 ⟨.mov, [.p 1], some 5, none, []⟩,
 ⟨.mov, [.p 1], some 6, none, []⟩] false)))))
def c_limbs_Gcd : RFunc := ⟨2, [0, 1, 2, 3, 4, 5, 6, 8],
(.seq (.region [⟨.box, [.v 0], some 2, none, []⟩,
 ⟨.box, [.v 1], some 3, none, []⟩,
 ⟨.alloc (.agg [.bool false, .slc true []]), [], some 4, none, []⟩] false)
(.seq (.region [⟨.load true 2, [.v 2], none, none, []⟩,
 ⟨.call false 84, [.p 0], none, none, []⟩,
 ⟨.load true 2, [.v 3], none, none, []⟩,
 ⟨.call false 84, [.p 0], none, none, []⟩,
 ⟨.mov, [.p 2], some 5, none, []⟩,
 ⟨.mov, [.p 1], some 6, none, []⟩] true)
(.seq (.block 0 l_limbs_Gcd_0)
(.seq (.region [⟨.mov, [.v 5], none, none, []⟩,
 ⟨.call false 89, [.c (.bool false), .p 0], none, none, []⟩,
 ⟨.store 2, [.v 4, .p 0], none, none, []⟩] false)
.ret)))),
[.cell 4 true 2]⟩
def c_limbs_Mul : RFunc := ⟨2, [0, 1, 2, 3, 4],
(.seq (.region [⟨.box, [.v 0], some 2, none, []⟩,
 ⟨.box, [.v 1], some 3, none, []⟩,
 ⟨.alloc (.agg [.bool false, .slc true []]), [], some 4, none, []⟩] false)
(.seq (.region [⟨.load true 2, [.v 2], none, none, []⟩,
 ⟨.call false 86, [.p 0], none, none, []⟩,
 ⟨.load true 2, [.v 3], none, none, []⟩,
 ⟨.call false 86, [.p 0], none, none, []⟩,
 ⟨.beq true, [.p 2, .p 0], none, none, []⟩,
 ⟨.load true 2, [.v 2], none, none, []⟩,
 ⟨.call false 84, [.p 0], none, none, []⟩,
 ⟨.load true 2, [.v 3], none, none, []⟩,
 ⟨.call false 84, [.p 0], none, none, []⟩,
 ⟨.call false 95, [.p 2, .p 0], none, none, []⟩,
 ⟨.call false 89, [.p 5, .p 0], none, none, []⟩,
 ⟨.store 2, [.v 4, .p 0], none, none, []⟩] true)
.ret)),
[.cell 4 true 2]⟩
def c_limbs_Mod : RFunc := ⟨2, [0, 1, 2, 4, 5, 7],
(.seq (.region [⟨.box, [.v 0], some 2, none, []⟩,
 ⟨.mov, [.c (.int .i64 0)], some 3, none, []⟩,
 ⟨.mov, [.c (.int .i64 0)], some 4, none, []⟩] false)
(.seq (.seq (.region [⟨.mov, [.v 1], none, none, []⟩,
 ⟨.bin .lss, [.p 0, .c (.int .i64 1)], none, none, []⟩,
 ⟨.mov, [.p 0], none, none, []⟩,
 ⟨.mov, [.v 1], none, some (0, false), []⟩,
 ⟨.bin .gtr, [.p 0, .c (.int .i64 2147483647)], none, some (1, false), []⟩,
 ⟨.pick, [.p 2, .c (.bool true), .p 0], none, none, []⟩] false)
(.cond (.p 0) (.seq (.region [⟨.mov, [.c (.int .i64 0)], some 3, none, []⟩,
 ⟨.mov, [.c (.int .i64 1)], some 4, none, []⟩] false)
.ret) .skip))
(.seq (.region [⟨.load true 2, [.v 2], none, none, []⟩,
 ⟨.call false 84, [.p 0], none, none, []⟩,
 ⟨.mov, [.v 1], none, none, []⟩,
 ⟨.conv .u32, [.p 0], none, none, []⟩,
 ⟨.call false 96, [.p 2, .p 0], none, none, []⟩,
 ⟨.mov, [.p 0], none, none, []⟩,
 ⟨.extract 0, [.p 0], none, none, []⟩,
 ⟨.extract 1, [.p 1], none, none, []⟩,
 ⟨.mov, [.p 1], none, none, []⟩,
 ⟨.mov, [.p 1], some 5, none, []⟩] false)
(.seq (.seq (.region [⟨.load true 2, [.v 2], none, none, []⟩,
 ⟨.call false 86, [.p 0], none, none, []⟩,
 ⟨.mov, [.p 0], none, none, []⟩,
 ⟨.mov, [.v 5], none, some (0, true), []⟩,
 ⟨.bin .gtr, [.p 0, .c (.int .u32 0)], none, some (1, true), []⟩,
 ⟨.pick, [.p 2, .p 0, .c (.bool false)], none, none, []⟩] false)
(.cond (.p 0) (.seq (.region [⟨.mov, [.v 1], none, none, []⟩,
 ⟨.mov, [.v 5], none, none, []⟩,
 ⟨.conv .i64, [.p 0], none, none, []⟩,
 ⟨.bin .sub, [.p 2, .p 0], none, none, []⟩,
 ⟨.mov, [.p 0], some 3, none, []⟩,
 ⟨.mov, [.c (.int .i64 0)], some 4, none, []⟩] false)
.ret) .skip))
(.seq (.region [⟨.mov, [.v 5], none, none, []⟩,
 ⟨.conv .i64, [.p 0], none, none, []⟩,
 ⟨.mov, [.p 0], some 3, none, []⟩,
 ⟨.mov, [.c (.int .i64 0)], some 4, none, []⟩] false)
.ret))))),
[.v 3, .v 4]⟩
def c_limbs_Add : RFunc := ⟨2, [0, 1, 2, 3, 4],
(.seq (.region [⟨.box, [.v 0], some 2, none, []⟩,
 ⟨.box, [.v 1], some 3, none, []⟩,
 ⟨.alloc (.agg [.bool false, .slc true []]), [], some 4, none, []⟩] false)
(.seq (.region [⟨.load true 2, [.v 2], none, none, []⟩,
 ⟨.load true 2, [.v 3], none, none, []⟩,
 ⟨.call false 97, [.p 1, .p 0, .c (.bool false)], none, none, []⟩,
 ⟨.store 2, [.v 4, .p 0], none, none, []⟩] false)
.ret)),
[.cell 4 true 2]⟩
def c_limbs_Sub : RFunc := ⟨2, [0, 1, 2, 3, 4],
(.seq (.region [⟨.box, [.v 0], some 2, none, []⟩,
 ⟨.box, [.v 1], some 3, none, []⟩,
 ⟨.alloc (.agg [.bool false, .slc true []]), [], some 4, none, []⟩] false)
(.seq (.region [⟨.load true 2, [.v 2], none, none, []⟩,
 ⟨.load true 2, [.v 3], none, none, []⟩,
 ⟨.call false 97, [.p 1, .p 0, .c (.bool true)], none, none, []⟩,
 ⟨.store 2, [.v 4, .p 0], none, none, []⟩] false)
.ret)),
[.cell 4 true 2]⟩
def c_limbs_Neg : RFunc := ⟨1, [0, 1, 2],
(.seq (.region [⟨.box, [.v 0], some 1, none, []⟩,
 ⟨.alloc (.agg [.bool false, .slc true []]), [], some 2, none, []⟩] false)
(.seq (.region [⟨.load true 2, [.v 1], none, none, []⟩,
 ⟨.call false 86, [.p 0], none, none, []⟩,
 ⟨.un .not, [.p 0], none, none, []⟩,
 ⟨.load true 2, [.v 1], none, none, []⟩,
 ⟨.call false 84, [.p 0], none, none, []⟩,
 ⟨.call false 89, [.p 2, .p 0], none, none, []⟩,
 ⟨.store 2, [.v 2, .p 0], none, none, []⟩] true)
.ret)),
[.cell 2 true 2]⟩
def c_limbs_Cmp : RFunc := ⟨2, [0, 1, 2, 3, 4, 5, 6],
(.seq (.region [⟨.box, [.v 0], some 2, none, []⟩,
 ⟨.box, [.v 1], some 3, none, []⟩,
 ⟨.mov, [.c (.int .i64 0)], some 4, none, []⟩] false)
(.seq (.region [⟨.load true 2, [.v 2], none, none, []⟩,
 ⟨.call false 52, [.p 0], none, none, []⟩,
 ⟨.load true 2, [.v 3], none, none, []⟩,
 ⟨.call false 52, [.p 0], none, none, []⟩,
 ⟨.mov, [.p 2], some 5, none, []⟩,
 ⟨.mov, [.p 1], some 6, none, []⟩] true)
(.seq (.block 0 (.seq (.region [⟨.mov, [.v 5], none, none, []⟩,
 ⟨.mov, [.v 6], none, none, []⟩,
 ⟨.bin .lss, [.p 1, .p 0], none, none, []⟩,
 ⟨.mov, [.p 0], none, none, []⟩] false)
(.cond (.p 0) (.seq (.region [⟨.mov, [.c (.int .i64 (-1))], some 4, none, []⟩] false)
.ret) (.seq (.region [⟨.mov, [.v 5], none, none, []⟩,
 ⟨.mov, [.v 6], none, none, []⟩,
 ⟨.bin .gtr, [.p 1, .p 0], none, none, []⟩,
 ⟨.mov, [.p 0], none, none, []⟩] false)
(.cond (.p 0) (.seq (.region [⟨.mov, [.c (.int .i64 1)], some 4, none, []⟩] false)
.ret) .skip)))))
(.seq (.region [⟨.mov, [.v 5], none, none, []⟩,
 ⟨.load true 2, [.v 2], none, none, []⟩,
 ⟨.call false 84, [.p 0], none, none, []⟩,
 ⟨.load true 2, [.v 3], none, none, []⟩,
 ⟨.call false 84, [.p 0], none, none, []⟩,
 ⟨.call false 98, [.p 2, .p 0], none, none, []⟩,
 ⟨.bin .mul, [.p 5, .p 0], none, none, []⟩,
 ⟨.mov, [.p 0], some 4, none, []⟩] true)
.ret)))),
[.v 4]⟩
def c_limbs_Sign : RFunc := ⟨1, [0, 1, 2],
(.seq (.region [⟨.box, [.v 0], some 1, none, []⟩,
 ⟨.mov, [.c (.int .i64 0)], some 2, none, []⟩] false)
(.seq (.block 0 (.seq (.region [⟨.load true 2, [.v 1], none, none, []⟩,
 ⟨.call false 84, [.p 0], none, none, []⟩,
 ⟨.len false, [.p 0], none, none, []⟩,
 ⟨.bin .eql, [.p 0, .c (.int .i64 0)], none, none, []⟩,
 ⟨.mov, [.p 0], none, none, []⟩] false)
(.cond (.p 0) (.seq (.region [⟨.mov, [.c (.int .i64 0)], some 2, none, []⟩] false)
.ret) (.seq (.region [⟨.faddr 0, [.v 1], none, none, []⟩,
 ⟨.load false 1, [.p 0], none, none, []⟩,
 ⟨.mov, [.p 0], none, none, []⟩] false)
(.cond (.p 0) (.seq (.region [⟨.mov, [.c (.int .i64 (-1))], some 2, none, []⟩] false)
.ret) .skip)))))
(.seq (.region [⟨.mov, [.c (.int .i64 1)], some 2, none, []⟩] false)
.ret))),
[.v 2]⟩
def c_limbs_Bits : RFunc := ⟨1, [0, 1, 2, 3],
(.seq (.region [⟨.box, [.v 0], some 1, none, []⟩,
 ⟨.mov, [.c (.int .i64 0)], some 2, none, []⟩] false)
(.seq (.region [⟨.load true 2, [.v 1], none, none, []⟩,
 ⟨.call false 84, [.p 0], none, none, []⟩,
 ⟨.mov, [.p 0], some 3, none, []⟩] false)
(.seq (.seq (.region [⟨.mov, [.v 3], none, none, []⟩,
 ⟨.len false, [.p 0], none, none, []⟩,
 ⟨.bin .eql, [.p 0, .c (.int .i64 0)], none, none, []⟩] false)
(.cond (.p 0) (.seq (.region [⟨.mov, [.c (.int .i64 0)], some 2, none, []⟩] false)
.ret) .skip))
(.seq (.region [⟨.mov, [.v 3], none, none, []⟩,
 ⟨.len false, [.p 0], none, none, []⟩,
 ⟨.bin .sub, [.p 0, .c (.int .i64 1)], none, none, []⟩,
 ⟨.bin .mul, [.c (.int .i64 32), .p 0], none, none, []⟩,
 ⟨.mov, [.v 3], none, none, []⟩,
 ⟨.mov, [.v 3], none, none, []⟩,
 ⟨.len false, [.p 0], none, none, []⟩,
 ⟨.bin .sub, [.p 0, .c (.int .i64 1)], none, none, []⟩,
 ⟨.iaddr 1, [.p 3, .p 0], none, none, []⟩,
 ⟨.load false 1, [.p 0], none, none, []⟩,
 ⟨.call false 99, [.p 0], none, none, []⟩,
 ⟨.bin .add, [.p 7, .p 0], none, none, []⟩,
 ⟨.mov, [.p 0], some 2, none, []⟩] false)
.ret)))),
[.v 2]⟩
def l_limbs_Text_0 : RCode := (.loop [false, true, false, true, true, true, true] (.seq (.seq (.region [⟨.mov, [.v 6], none, none, []⟩,
 ⟨.bin .lss, [.p 0, .c (.int .i64 9)], none, none, []⟩,
 ⟨.mov, [.p 0], none, none, []⟩,
 ⟨.mov, [.v 5], none, some (0, true), []⟩,
 ⟨.bin .gtr, [.p 0, .c (.int .u32 0)], none, some (1, true), []⟩,
 ⟨.mov, [.p 0], none, some (2, true), []⟩,
 ⟨.mov, [.v 3], none, some (0, false), []⟩,
 ⟨.len false, [.p 0], none, some (1, false), []⟩,
 ⟨.bin .gtr, [.p 0, .c (.int .i64 0)], none, some (2, false), []⟩,
 ⟨.pick, [.p 3, .c (.bool true), .p 0], none, some (6, true), []⟩,
 ⟨.pick, [.p 7, .p 0, .c (.bool false)], none, none, []⟩] false)
(.cond (.p 0) .skip (.exit 2)))
(.seq (.block 3 (.seq (.region [⟨.mov, [.v 4], none, none, []⟩,
 ⟨.mov, [.v 5], none, none, []⟩,
 ⟨.bin .rem, [.p 0, .c (.int .u32 10)], none, none, []⟩,
 ⟨.bin .add, [.c (.int .u32 48), .p 0], none, none, []⟩,
 ⟨.conv .u8, [.p 0], none, none, []⟩,
 ⟨.bslice 1 (.int .u8 0) 1 [0], [.p 0], none, none, []⟩,
 ⟨.app 1 1, [.p 5, .p 0], none, none, []⟩,
 ⟨.mov, [.p 0], some 4, none, []⟩] false)
(.region [⟨.mov, [.v 5], none, none, []⟩,
 ⟨.bin .quo, [.p 0, .c (.int .u32 10)], none, none, []⟩,
 ⟨.mov, [.p 0], some 5, none, []⟩] false)))
(.region [⟨.mov, [.v 6], none, none, []⟩,
 ⟨.bin .add, [.p 0, .c (.int .i64 1)], none, none, []⟩,
 ⟨.mov, [.p 0], some 6, none, []⟩] false))))
def l_limbs_Text_1 : RCode := (.loop [false, true, false, true, true] (.seq (.seq (.region [⟨.mov, [.v 3], none, none, []⟩,
 ⟨.len false, [.p 0], none, none, []⟩,
 ⟨.bin .gtr, [.p 0, .c (.int .i64 0)], none, none, []⟩] false)
(.cond (.p 0) .skip (.exit 0)))
(.block 1 (.seq (.region [⟨.mov, [.c (.int .u32 0)], some 5, none, []⟩] false)
(.seq (.region [⟨.mov, [.v 3], none, none, []⟩,
 ⟨.call false 96, [.p 0, .c (.int .u32 1000000000)], none, none, []⟩,
 ⟨.mov, [.p 0], none, none, []⟩,
 ⟨.extract 0, [.p 0], none, none, []⟩,
 ⟨.extract 1, [.p 1], none, none, []⟩,
 ⟨.mov, [.p 1], some 3, none, []⟩,
 ⟨.mov, [.p 1], some 5, none, []⟩] false)
(.seq (.region [⟨.mov, [.c (.int .i64 0)], some 6, none, []⟩] false)
(.block 2 l_limbs_Text_0)))))))
def l_limbs_Text_2 : RCode := (.loop [false, false, false, false, true, false, false, true, true] (.seq (.seq (.region [⟨.mov, [.v 7], none, none, []⟩,
 ⟨.mov, [.v 8], none, none, []⟩,
 ⟨.bin .lss, [.p 1, .p 0], none, none, []⟩] false)
(.cond (.p 0) .skip (.exit 4)))
(.seq (.block 5 (.region [⟨.mov, [.v 4], none, none, []⟩,
 ⟨.mov, [.v 7], none, none, []⟩,
 ⟨.mov, [.v 4], none, none, []⟩,
 ⟨.mov, [.v 8], none, none, []⟩,
 ⟨.mov, [.v 4], none, none, []⟩,
 ⟨.mov, [.v 8], none, none, []⟩,
 ⟨.iaddr 1, [.p 1, .p 0], none, none, []⟩,
 ⟨.load false 1, [.p 0], none, none, []⟩,
 ⟨.mov, [.v 4], none, none, []⟩,
 ⟨.mov, [.v 7], none, none, []⟩,
 ⟨.iaddr 1, [.p 1, .p 0], none, none, []⟩,
 ⟨.load false 1, [.p 0], none, none, []⟩,
 ⟨.iaddr 1, [.p 11, .p 10], none, none, []⟩,
 ⟨.store 1, [.p 0, .p 5], none, none, []⟩,
 ⟨.iaddr 1, [.p 11, .p 10], none, none, []⟩,
 ⟨.store 1, [.p 0, .p 3], none, none, []⟩] true))
(.region [⟨.mov, [.v 7], none, none, []⟩,
 ⟨.bin .add, [.p 0, .c (.int .i64 1)], none, none, []⟩,
 ⟨.mov, [.v 8], none, none, []⟩,
 ⟨.bin .sub, [.p 0, .c (.int .i64 1)], none, none, []⟩,
 ⟨.mov, [.p 2], some 7, none, []⟩,
 ⟨.mov, [.p 1], some 8, none, []⟩] false))))
def c_limbs_Text : RFunc := ⟨1, [0, 1, 2, 3, 4, 5, 6, 7, 8],
(.seq (.region [⟨.box, [.v 0], some 1, none, []⟩,
 ⟨.mov, [.c (.str ByteArray.empty)], some 2, none, []⟩] false)
(.seq (.region [⟨.load true 2, [.v 1], none, none, []⟩,
 ⟨.call false 84, [.p 0], none, none, []⟩,
 ⟨.mov, [.p 0], some 3, none, []⟩] false)
(.seq (.seq (.region [⟨.mov, [.v 3], none, none, []⟩,
 ⟨.len false, [.p 0], none, none, []⟩,
 ⟨.bin .eql, [.p 0, .c (.int .i64 0)], none, none, []⟩] false)
(.cond (.p 0) (.seq (.region [⟨.mov, [.c (.str ⟨#[48]⟩)], some 2, none, []⟩] false)
.ret) .skip))
(.seq (.region [⟨.mov, [.c (.slc true [])], some 4, none, []⟩] false)
(.seq (.block 0 l_limbs_Text_1)
(.seq (.seq (.region [⟨.load true 2, [.v 1], none, none, []⟩,
 ⟨.call false 86, [.p 0], none, none, []⟩] false)
(.cond (.p 0) (.region [⟨.mov, [.v 4], none, none, []⟩,
 ⟨.bslice 1 (.int .u8 0) 1 [0], [.c (.int .u8 45)], none, none, []⟩,
 ⟨.app 1 1, [.p 1, .p 0], none, none, []⟩,
 ⟨.mov, [.p 0], some 4, none, []⟩] false) .skip))
(.seq (.seq (.region [⟨.mov, [.v 4], none, none, []⟩,
 ⟨.len false, [.p 0], none, none, []⟩,
 ⟨.bin .sub, [.p 0, .c (.int .i64 1)], none, none, []⟩,
 ⟨.mov, [.c (.int .i64 0)], some 7, none, []⟩,
 ⟨.mov, [.p 1], some 8, none, []⟩] false)
(.block 4 l_limbs_Text_2))
(.seq (.region [⟨.mov, [.v 4], none, none, []⟩,
 ⟨.bytesToStr, [.p 0], none, none, []⟩,
 ⟨.mov, [.p 0], some 2, none, []⟩] false)
.ret)))))))),
[.v 2]⟩
def l_limbs_Read_0 : RCode := (.loop [true, true, false, true, true, true, true, false, true, true] (.seq (.region [⟨.bin .lss, [.v 9, .v 8], none, none, []⟩] false)
(.seq (.cond (.p 0) .skip (.exit 0))
(.seq (.block 1 (.seq (.region [⟨.mov, [.v 9], none, none, []⟩,
 ⟨.mov, [.p 0], some 7, none, []⟩] false)
(.seq (.seq (.region [⟨.mov, [.v 0], none, none, []⟩,
 ⟨.mov, [.v 7], none, none, []⟩,
 ⟨.idx, [.p 1, .p 0], none, none, []⟩,
 ⟨.bin .lss, [.p 0, .c (.int .u8 48)], none, none, []⟩,
 ⟨.mov, [.p 0], none, none, []⟩,
 ⟨.mov, [.v 0], none, some (0, false), []⟩,
 ⟨.mov, [.v 7], none, some (1, false), []⟩,
 ⟨.idx, [.p 1, .p 0], none, some (2, false), []⟩,
 ⟨.bin .gtr, [.p 0, .c (.int .u8 57)], none, some (3, false), []⟩,
 ⟨.pick, [.p 4, .c (.bool true), .p 0], none, none, []⟩] false)
(.cond (.p 0) (.seq (.region [⟨.build [.bool false, .slc true []] [], [], none, none, []⟩,
 ⟨.store 2, [.v 1, .p 0], none, none, []⟩,
 ⟨.mov, [.c (.int .i64 8)], some 2, none, []⟩] false)
.ret) .skip))
(.seq (.region [⟨.mov, [.v 5], none, none, []⟩,
 ⟨.bin .mul, [.p 0, .c (.int .u32 10)], none, none, []⟩,
 ⟨.mov, [.v 0], none, none, []⟩,
 ⟨.mov, [.v 7], none, none, []⟩,
 ⟨.idx, [.p 1, .p 0], none, none, []⟩,
 ⟨.bin .sub, [.p 0, .c (.int .u8 48)], none, none, []⟩,
 ⟨.conv .u32, [.p 0], none, none, []⟩,
 ⟨.bin .add, [.p 5, .p 0], none, none, []⟩,
 ⟨.mov, [.v 6], none, none, []⟩,
 ⟨.bin .mul, [.p 0, .c (.int .u32 10)], none, none, []⟩,
 ⟨.mov, [.p 2], some 5, none, []⟩,
 ⟨.mov, [.p 1], some 6, none, []⟩] false)
(.seq (.region [⟨.mov, [.v 6], none, none, []⟩,
 ⟨.bin .eql, [.p 0, .c (.int .u32 1000000000)], none, none, []⟩,
 ⟨.mov, [.p 0], none, none, []⟩,
 ⟨.mov, [.v 7], none, some (0, false), []⟩,
 ⟨.mov, [.v 0], none, some (1, false), []⟩,
 ⟨.len true, [.p 0], none, some (2, false), []⟩,
 ⟨.bin .sub, [.p 0, .c (.int .i64 1)], none, some (3, false), []⟩,
 ⟨.bin .eql, [.p 3, .p 0], none, some (4, false), []⟩,
 ⟨.pick, [.p 5, .c (.bool true), .p 0], none, none, []⟩] false)
(.cond (.p 0) (.seq (.region [⟨.mov, [.v 4], none, none, []⟩,
 ⟨.mov, [.v 6], none, none, []⟩,
 ⟨.mov, [.v 5], none, none, []⟩,
 ⟨.call true 100, [.p 2, .p 1, .p 0], none, none, []⟩,
 ⟨.mov, [.p 0], some 4, none, []⟩] false)
(.region [⟨.mov, [.c (.int .u32 0)], some 5, none, []⟩,
 ⟨.mov, [.c (.int .u32 1)], some 6, none, []⟩] false)) .skip))))))
(.region [⟨.bin .add, [.v 9, .c (.int .i64 1)], none, none, []⟩,
 ⟨.mov, [.p 0], some 9, none, []⟩] false)))))
def c_limbs_Read : RFunc := ⟨1, [0, 2, 3, 4, 5, 6, 7, 8, 41, 42],
(.seq (.region [⟨.alloc (.agg [.bool false, .slc true []]), [], some 1, none, []⟩,
 ⟨.mov, [.c (.int .i64 0)], some 2, none, []⟩] false)
(.seq (.seq (.region [⟨.mov, [.v 0], none, none, []⟩,
 ⟨.len true, [.p 0], none, none, []⟩,
 ⟨.bin .gtr, [.p 0, .c (.int .i64 65536)], none, none, []⟩] false)
(.cond (.p 0) (.seq (.region [⟨.build [.bool false, .slc true []] [], [], none, none, []⟩,
 ⟨.store 2, [.v 1, .p 0], none, none, []⟩,
 ⟨.mov, [.c (.int .i64 8)], some 2, none, []⟩] false)
.ret) .skip))
(.seq (.region [⟨.mov, [.v 0], none, none, []⟩,
 ⟨.len true, [.p 0], none, none, []⟩,
 ⟨.bin .gtr, [.p 0, .c (.int .i64 0)], none, none, []⟩,
 ⟨.mov, [.p 0], none, none, []⟩,
 ⟨.mov, [.v 0], none, some (0, true), []⟩,
 ⟨.idx, [.p 0, .c (.int .i64 0)], none, some (1, true), []⟩,
 ⟨.bin .eql, [.p 0, .c (.int .u8 45)], none, some (2, true), []⟩,
 ⟨.pick, [.p 3, .p 0, .c (.bool false)], none, none, []⟩,
 ⟨.mov, [.p 0], some 3, none, []⟩] false)
(.seq (.seq (.region [⟨.mov, [.v 3], none, none, []⟩] false)
(.cond (.p 0) (.region [⟨.mov, [.v 0], none, none, []⟩,
 ⟨.slices true false, [.p 0, .c (.int .i64 1)], none, none, []⟩,
 ⟨.mov, [.p 0], some 0, none, []⟩] false) .skip))
(.seq (.seq (.region [⟨.mov, [.v 0], none, none, []⟩,
 ⟨.bin .eql, [.p 0, .c (.str ByteArray.empty)], none, none, []⟩,
 ⟨.mov, [.p 0], none, none, []⟩,
 ⟨.mov, [.v 0], none, some (0, false), []⟩,
 ⟨.idx, [.p 0, .c (.int .i64 0)], none, some (1, false), []⟩,
 ⟨.bin .eql, [.p 0, .c (.int .u8 48)], none, some (2, false), []⟩,
 ⟨.mov, [.p 0], none, some (3, false), []⟩,
 ⟨.mov, [.v 3], none, some (0, true), []⟩,
 ⟨.mov, [.p 0], none, some (1, true), []⟩,
 ⟨.mov, [.v 0], none, some (0, false), []⟩,
 ⟨.len true, [.p 0], none, some (1, false), []⟩,
 ⟨.bin .gtr, [.p 0, .c (.int .i64 1)], none, some (2, false), []⟩,
 ⟨.pick, [.p 3, .c (.bool true), .p 0], none, some (5, true), []⟩,
 ⟨.pick, [.p 6, .p 0, .c (.bool false)], none, some (10, false), []⟩,
 ⟨.pick, [.p 11, .c (.bool true), .p 0], none, none, []⟩] false)
(.cond (.p 0) (.seq (.region [⟨.build [.bool false, .slc true []] [], [], none, none, []⟩,
 ⟨.store 2, [.v 1, .p 0], none, none, []⟩,
 ⟨.mov, [.c (.int .i64 8)], some 2, none, []⟩] false)
.ret) .skip))
(.seq (.region [⟨.mov, [.c (.slc true [])], some 4, none, []⟩] false)
(.seq (.region [⟨.mov, [.c (.int .u32 0)], some 5, none, []⟩,
 ⟨.mov, [.c (.int .u32 1)], some 6, none, []⟩] false)
(.seq (.seq (.region [⟨.mov, [.v 0], none, none, []⟩,
 ⟨.len true, [.p 0], some 8, none, []⟩,
 ⟨.mov, [.c (.int .i64 0)], some 9, none, []⟩] false)
(.block 0 l_limbs_Read_0))
(.seq (.region [⟨.mov, [.v 3], none, none, []⟩,
 ⟨.mov, [.v 4], none, none, []⟩,
 ⟨.call false 89, [.p 1, .p 0], none, none, []⟩,
 ⟨.store 2, [.v 1, .p 0], none, none, []⟩,
 ⟨.mov, [.c (.int .i64 0)], some 2, none, []⟩] false)
.ret))))))))),
[.cell 1 true 2, .v 2]⟩
def l_limbs_Power_0 : RCode := (.loop [false, true, true, true, false, false, true, true, true] (.seq (.seq (.region [⟨.mov, [.v 8], none, none, []⟩,
 ⟨.bin .geq, [.p 0, .c (.int .i64 0)], none, none, []⟩] false)
(.cond (.p 0) .skip (.exit 1)))
(.seq (.block 2 (.seq (.region [⟨.mov, [.v 6], none, none, []⟩,
 ⟨.mov, [.v 6], none, none, []⟩,
 ⟨.call false 95, [.p 1, .p 0], none, none, []⟩,
 ⟨.mov, [.p 0], some 6, none, []⟩] false)
(.seq (.region [⟨.mov, [.v 1], none, none, []⟩,
 ⟨.mov, [.v 8], none, none, []⟩,
 ⟨.bin .shr, [.p 1, .p 0], none, none, []⟩,
 ⟨.bin .and, [.p 0, .c (.int .i64 1)], none, none, []⟩,
 ⟨.bin .eql, [.p 0, .c (.int .i64 1)], none, none, []⟩] false)
(.cond (.p 0) (.region [⟨.mov, [.v 6], none, none, []⟩,
 ⟨.mov, [.v 7], none, none, []⟩,
 ⟨.call false 95, [.p 1, .p 0], none, none, []⟩,
 ⟨.mov, [.p 0], some 6, none, []⟩] false) .skip))))
(.region [⟨.mov, [.v 8], none, none, []⟩,
 ⟨.bin .sub, [.p 0, .c (.int .i64 1)], none, none, []⟩,
 ⟨.mov, [.p 0], some 8, none, []⟩] false))))
def c_limbs_Power : RFunc := ⟨2, [0, 1, 2, 4, 5, 6, 7, 8, 9, 15],
(.seq (.region [⟨.box, [.v 0], some 2, none, []⟩,
 ⟨.alloc (.agg [.bool false, .slc true []]), [], some 3, none, []⟩,
 ⟨.mov, [.c (.int .i64 0)], some 4, none, []⟩] false)
(.seq (.seq (.region [⟨.mov, [.v 1], none, none, []⟩,
 ⟨.bin .lss, [.p 0, .c (.int .i64 0)], none, none, []⟩] false)
(.cond (.p 0) (.seq (.region [⟨.build [.bool false, .slc true []] [], [], none, none, []⟩,
 ⟨.store 2, [.v 3, .p 0], none, none, []⟩,
 ⟨.mov, [.c (.int .i64 1)], some 4, none, []⟩] false)
.ret) .skip))
(.seq (.region [⟨.load true 2, [.v 2], none, none, []⟩,
 ⟨.call false 53, [.p 0], none, none, []⟩,
 ⟨.mov, [.p 0], some 5, none, []⟩] false)
(.seq (.block 0 (.seq (.seq (.region [⟨.mov, [.v 5], none, none, []⟩,
 ⟨.bin .eql, [.p 0, .c (.int .i64 1)], none, none, []⟩,
 ⟨.mov, [.p 0], none, none, []⟩,
 ⟨.load true 2, [.v 2], none, some (0, true), []⟩,
 ⟨.call false 86, [.p 0], none, some (1, true), []⟩,
 ⟨.pick, [.p 2, .p 0, .c (.bool false)], none, none, []⟩,
 ⟨.mov, [.p 0], none, none, []⟩,
 ⟨.mov, [.v 1], none, some (0, true), []⟩,
 ⟨.bin .rem, [.p 0, .c (.int .i64 2)], none, some (1, true), []⟩,
 ⟨.bin .eql, [.p 0, .c (.int .i64 0)], none, some (2, true), []⟩,
 ⟨.pick, [.p 3, .p 0, .c (.bool false)], none, none, []⟩,
 ⟨.mov, [.p 0], some 9, none, []⟩] false)
(.cond (.v 9) .skip (.region [⟨.mov, [.v 1], none, none, []⟩,
 ⟨.bin .eql, [.p 0, .c (.int .i64 0)], none, none, []⟩,
 ⟨.mov, [.p 0], some 9, none, []⟩] false)))
(.cond (.v 9) (.seq (.region [⟨.call false 32, [.c (.int .i64 1)], none, none, []⟩,
 ⟨.store 2, [.v 3, .p 0], none, none, []⟩,
 ⟨.mov, [.c (.int .i64 0)], some 4, none, []⟩] false)
.ret) (.seq (.region [⟨.mov, [.v 5], none, none, []⟩,
 ⟨.bin .leq, [.p 0, .c (.int .i64 1)], none, none, []⟩,
 ⟨.mov, [.p 0], none, none, []⟩] false)
(.cond (.p 0) (.seq (.region [⟨.load true 2, [.v 2], none, none, []⟩,
 ⟨.call false 86, [.p 0], none, none, []⟩,
 ⟨.load true 2, [.v 2], none, none, []⟩,
 ⟨.call false 84, [.p 0], none, none, []⟩,
 ⟨.call false 89, [.p 2, .p 0], none, none, []⟩,
 ⟨.store 2, [.v 3, .p 0], none, none, []⟩,
 ⟨.mov, [.c (.int .i64 0)], some 4, none, []⟩] true)
.ret) (.seq (.region [⟨.mov, [.v 1], none, none, []⟩,
 ⟨.mov, [.v 5], none, none, []⟩,
 ⟨.bin .quo, [.c (.int .i64 1048576), .p 0], none, none, []⟩,
 ⟨.bin .gtr, [.p 2, .p 0], none, none, []⟩,
 ⟨.mov, [.p 0], none, none, []⟩] false)
(.cond (.p 0) (.seq (.region [⟨.build [.bool false, .slc true []] [], [], none, none, []⟩,
 ⟨.store 2, [.v 3, .p 0], none, none, []⟩,
 ⟨.mov, [.c (.int .i64 4)], some 4, none, []⟩] false)
.ret) .skip)))))))
(.seq (.region [⟨.bslice 1 (.int .u32 0) 1 [0], [.c (.int .u32 1)], none, none, []⟩,
 ⟨.load true 2, [.v 2], none, none, []⟩,
 ⟨.call false 84, [.p 0], none, none, []⟩,
 ⟨.mov, [.p 2], some 6, none, []⟩,
 ⟨.mov, [.p 1], some 7, none, []⟩] false)
(.seq (.seq (.region [⟨.mov, [.v 1], none, none, []⟩,
 ⟨.conv .u64, [.p 0], none, none, []⟩,
 ⟨.call false 102, [.p 0], none, none, []⟩,
 ⟨.bin .sub, [.p 0, .c (.int .i64 1)], none, none, []⟩,
 ⟨.mov, [.p 0], some 8, none, []⟩] false)
(.block 1 l_limbs_Power_0))
(.seq (.region [⟨.load true 2, [.v 2], none, none, []⟩,
 ⟨.call false 86, [.p 0], none, none, []⟩,
 ⟨.mov, [.p 0], none, none, []⟩,
 ⟨.mov, [.v 1], none, some (0, true), []⟩,
 ⟨.bin .rem, [.p 0, .c (.int .i64 2)], none, some (1, true), []⟩,
 ⟨.bin .eql, [.p 0, .c (.int .i64 1)], none, some (2, true), []⟩,
 ⟨.pick, [.p 3, .p 0, .c (.bool false)], none, none, []⟩,
 ⟨.mov, [.v 6], none, none, []⟩,
 ⟨.call false 89, [.p 1, .p 0], none, none, []⟩,
 ⟨.store 2, [.v 3, .p 0], none, none, []⟩,
 ⟨.mov, [.c (.int .i64 0)], some 4, none, []⟩] false)
.ret))))))),
[.cell 3 true 2, .v 4]⟩
def c_limbs_mag : RFunc := ⟨1, [0, 1, 2],
(.seq (.region [⟨.box, [.v 0], some 1, none, []⟩,
 ⟨.mov, [.c (.slc true [])], some 2, none, []⟩] false)
(.seq (.region [⟨.faddr 1, [.v 1], none, none, []⟩,
 ⟨.load false 1, [.p 0], none, none, []⟩,
 ⟨.call false 107, [.p 0], none, none, []⟩,
 ⟨.mov, [.p 0], some 2, none, []⟩] false)
.ret)),
[.v 2]⟩
def l_limbs_divide_0 : RCode := (.loop [false, false, false, false, false, false, true, true, true, true, true, true] (.seq (.seq (.region [⟨.mov, [.v 11], none, none, []⟩,
 ⟨.bin .geq, [.p 0, .c (.int .i64 0)], none, none, []⟩] false)
(.cond (.p 0) .skip (.exit 0)))
(.seq (.block 1 (.seq (.region [⟨.mov, [.v 8], none, none, []⟩,
 ⟨.mov, [.v 11], none, none, []⟩,
 ⟨.mov, [.v 7], none, none, []⟩,
 ⟨.bin .add, [.p 1, .p 0], none, none, []⟩,
 ⟨.iaddr 1, [.p 3, .p 0], none, none, []⟩,
 ⟨.load false 1, [.p 0], none, none, []⟩,
 ⟨.mov, [.v 8], none, none, []⟩,
 ⟨.mov, [.v 11], none, none, []⟩,
 ⟨.mov, [.v 7], none, none, []⟩,
 ⟨.bin .add, [.p 1, .p 0], none, none, []⟩,
 ⟨.bin .sub, [.p 0, .c (.int .i64 1)], none, none, []⟩,
 ⟨.iaddr 1, [.p 4, .p 0], none, none, []⟩,
 ⟨.load false 1, [.p 0], none, none, []⟩,
 ⟨.mov, [.v 8], none, none, []⟩,
 ⟨.mov, [.v 11], none, none, []⟩,
 ⟨.mov, [.v 7], none, none, []⟩,
 ⟨.bin .add, [.p 1, .p 0], none, none, []⟩,
 ⟨.bin .sub, [.p 0, .c (.int .i64 2)], none, none, []⟩,
 ⟨.iaddr 1, [.p 4, .p 0], none, none, []⟩,
 ⟨.load false 1, [.p 0], none, none, []⟩,
 ⟨.mov, [.v 9], none, none, []⟩,
 ⟨.mov, [.v 7], none, none, []⟩,
 ⟨.bin .sub, [.p 0, .c (.int .i64 1)], none, none, []⟩,
 ⟨.iaddr 1, [.p 2, .p 0], none, none, []⟩,
 ⟨.load false 1, [.p 0], none, none, []⟩,
 ⟨.mov, [.v 9], none, none, []⟩,
 ⟨.mov, [.v 7], none, none, []⟩,
 ⟨.bin .sub, [.p 0, .c (.int .i64 2)], none, none, []⟩,
 ⟨.iaddr 1, [.p 2, .p 0], none, none, []⟩,
 ⟨.load false 1, [.p 0], none, none, []⟩,
 ⟨.call false 110, [.p 24, .p 17, .p 10, .p 5, .p 0], none, none, []⟩,
 ⟨.mov, [.p 0], some 12, none, []⟩] true)
(.seq (.region [⟨.mov, [.v 8], none, none, []⟩,
 ⟨.mov, [.v 11], none, none, []⟩,
 ⟨.mov, [.v 11], none, none, []⟩,
 ⟨.mov, [.v 7], none, none, []⟩,
 ⟨.bin .add, [.p 1, .p 0], none, none, []⟩,
 ⟨.bin .add, [.p 0, .c (.int .i64 1)], none, none, []⟩,
 ⟨.slice 1 true true false, [.p 5, .p 4, .p 0], none, none, []⟩,
 ⟨.mov, [.p 0], some 13, none, []⟩] false)
(.seq (.seq (.region [⟨.mov, [.v 13], none, none, []⟩,
 ⟨.mov, [.v 9], none, none, []⟩,
 ⟨.mov, [.v 12], none, none, []⟩,
 ⟨.call true 111, [.p 2, .p 1, .p 0], none, none, []⟩] false)
(.cond (.p 0) (.seq (.region [⟨.mov, [.v 12], none, none, []⟩,
 ⟨.bin .sub, [.p 0, .c (.int .u64 1)], none, none, []⟩,
 ⟨.mov, [.p 0], some 12, none, []⟩] false)
(.region [⟨.mov, [.v 13], none, none, []⟩,
 ⟨.mov, [.v 9], none, none, []⟩,
 ⟨.call true 112, [.p 1, .p 0], none, none, []⟩] false)) .skip))
(.region [⟨.mov, [.v 10], none, none, []⟩,
 ⟨.mov, [.v 11], none, none, []⟩,
 ⟨.mov, [.v 12], none, none, []⟩,
 ⟨.conv .u32, [.p 0], none, none, []⟩,
 ⟨.iaddr 1, [.p 3, .p 2], none, none, []⟩,
 ⟨.store 1, [.p 0, .p 1], none, none, []⟩] false)))))
(.region [⟨.mov, [.v 11], none, none, []⟩,
 ⟨.bin .sub, [.p 0, .c (.int .i64 1)], none, none, []⟩,
 ⟨.mov, [.p 0], some 11, none, []⟩] false))))
def c_limbs_divide : RFunc := ⟨2, [0, 1, 4, 5, 6, 7, 8, 9, 10, 11, 12, 13, 14, 15],
(.seq (.region [⟨.mov, [.c (.slc true [])], some 2, none, []⟩,
 ⟨.mov, [.c (.slc true [])], some 3, none, []⟩] false)
(.seq (.seq (.region [⟨.mov, [.v 0], none, none, []⟩,
 ⟨.mov, [.v 1], none, none, []⟩,
 ⟨.call false 98, [.p 1, .p 0], none, none, []⟩,
 ⟨.bin .lss, [.p 0, .c (.int .i64 0)], none, none, []⟩] false)
(.cond (.p 0) (.seq (.region [⟨.mov, [.v 0], none, none, []⟩,
 ⟨.mov, [.c (.slc true [])], some 2, none, []⟩,
 ⟨.mov, [.p 1], some 3, none, []⟩] false)
.ret) .skip))
(.seq (.seq (.region [⟨.mov, [.v 1], none, none, []⟩,
 ⟨.len false, [.p 0], none, none, []⟩,
 ⟨.bin .eql, [.p 0, .c (.int .i64 1)], none, none, []⟩] false)
(.cond (.p 0) (.seq (.region [⟨.mov, [.v 0], none, none, []⟩,
 ⟨.mov, [.v 1], none, none, []⟩,
 ⟨.iaddr 1, [.p 0, .c (.int .i64 0)], none, none, []⟩,
 ⟨.load false 1, [.p 0], none, none, []⟩,
 ⟨.call false 96, [.p 3, .p 0], none, none, []⟩,
 ⟨.mov, [.p 0], none, none, []⟩,
 ⟨.extract 0, [.p 0], none, none, []⟩,
 ⟨.extract 1, [.p 1], none, none, []⟩,
 ⟨.mov, [.p 1], some 4, none, []⟩,
 ⟨.mov, [.p 1], some 5, none, []⟩] false)
(.seq (.region [⟨.mov, [.v 4], none, none, []⟩,
 ⟨.mov, [.v 5], none, none, []⟩,
 ⟨.bslice 1 (.int .u32 0) 1 [0], [.p 0], none, none, []⟩,
 ⟨.call true 107, [.p 0], none, none, []⟩,
 ⟨.mov, [.p 3], some 2, none, []⟩,
 ⟨.mov, [.p 1], some 3, none, []⟩] false)
.ret)) .skip))
(.seq (.region [⟨.mov, [.v 1], none, none, []⟩,
 ⟨.mov, [.v 1], none, none, []⟩,
 ⟨.len false, [.p 0], none, none, []⟩,
 ⟨.bin .sub, [.p 0, .c (.int .i64 1)], none, none, []⟩,
 ⟨.iaddr 1, [.p 3, .p 0], none, none, []⟩,
 ⟨.load false 1, [.p 0], none, none, []⟩,
 ⟨.call false 108, [.p 0], none, none, []⟩,
 ⟨.mov, [.p 0], some 6, none, []⟩] false)
(.seq (.region [⟨.mov, [.v 1], none, none, []⟩,
 ⟨.len false, [.p 0], none, none, []⟩,
 ⟨.mov, [.p 0], some 7, none, []⟩] false)
(.seq (.region [⟨.mov, [.v 0], none, none, []⟩,
 ⟨.mov, [.v 6], none, none, []⟩,
 ⟨.call true 109, [.p 1, .p 0], none, none, []⟩,
 ⟨.mov, [.v 1], none, none, []⟩,
 ⟨.mov, [.v 6], none, none, []⟩,
 ⟨.call true 109, [.p 1, .p 0], none, none, []⟩,
 ⟨.call true 107, [.p 0], none, none, []⟩,
 ⟨.mov, [.p 4], some 8, none, []⟩,
 ⟨.mov, [.p 1], some 9, none, []⟩] false)
(.seq (.region [⟨.mov, [.v 8], none, none, []⟩,
 ⟨.len false, [.p 0], none, none, []⟩,
 ⟨.mov, [.v 7], none, none, []⟩,
 ⟨.bin .sub, [.p 1, .p 0], none, none, []⟩,
 ⟨.mkslice 1 (.int .u32 0) 4, [.p 0, .p 0], none, none, []⟩,
 ⟨.mov, [.p 0], some 10, none, []⟩] false)
(.seq (.seq (.region [⟨.mov, [.v 8], none, none, []⟩,
 ⟨.len false, [.p 0], none, none, []⟩,
 ⟨.mov, [.v 7], none, none, []⟩,
 ⟨.bin .sub, [.p 1, .p 0], none, none, []⟩,
 ⟨.bin .sub, [.p 0, .c (.int .i64 1)], none, none, []⟩,
 ⟨.mov, [.p 0], some 11, none, []⟩] false)
(.block 0 l_limbs_divide_0))
(.seq (.region [⟨.mov, [.v 10], none, none, []⟩,
 ⟨.call true 107, [.p 0], none, none, []⟩,
 ⟨.mov, [.v 8], none, none, []⟩,
 ⟨.call true 107, [.p 0], none, none, []⟩,
 ⟨.mov, [.v 6], none, none, []⟩,
 ⟨.call false 113, [.p 1, .p 0], none, none, []⟩,
 ⟨.mov, [.p 4], some 2, none, []⟩,
 ⟨.mov, [.p 1], some 3, none, []⟩] false)
.ret))))))))),
[.v 2, .v 3]⟩
def c_limbs_neg : RFunc := ⟨1, [0, 1, 2],
(.seq (.region [⟨.box, [.v 0], some 1, none, []⟩,
 ⟨.mov, [.c (.bool false)], some 2, none, []⟩] false)
(.seq (.region [⟨.faddr 0, [.v 1], none, none, []⟩,
 ⟨.load false 1, [.p 0], none, none, []⟩,
 ⟨.mov, [.p 0], none, none, []⟩,
 ⟨.load true 2, [.v 1], none, some (0, true), []⟩,
 ⟨.call false 84, [.p 0], none, some (1, true), []⟩,
 ⟨.len false, [.p 0], none, some (2, true), []⟩,
 ⟨.bin .gtr, [.p 0, .c (.int .i64 0)], none, some (3, true), []⟩,
 ⟨.pick, [.p 4, .p 0, .c (.bool false)], none, none, []⟩,
 ⟨.mov, [.p 0], some 2, none, []⟩] false)
.ret)),
[.v 2]⟩
def l_limbs_plus_0 : RCode := (.loop [true, true, false, true, true, false, true, true] (.seq (.region [⟨.bin .lss, [.v 7, .v 6], none, none, []⟩] false)
(.seq (.cond (.p 0) .skip (.exit 0))
(.seq (.block 1 (.seq (.region [⟨.mov, [.v 7], none, none, []⟩,
 ⟨.mov, [.p 0], some 5, none, []⟩] false)
(.seq (.region [⟨.mov, [.v 4], none, none, []⟩,
 ⟨.mov, [.v 0], none, none, []⟩,
 ⟨.mov, [.v 5], none, none, []⟩,
 ⟨.iaddr 1, [.p 1, .p 0], none, none, []⟩,
 ⟨.load false 1, [.p 0], none, none, []⟩,
 ⟨.conv .u64, [.p 0], none, none, []⟩,
 ⟨.bin .add, [.p 5, .p 0], none, none, []⟩,
 ⟨.mov, [.p 0], some 4, none, []⟩] false)
(.seq (.seq (.region [⟨.mov, [.v 5], none, none, []⟩,
 ⟨.mov, [.v 1], none, none, []⟩,
 ⟨.len false, [.p 0], none, none, []⟩,
 ⟨.bin .lss, [.p 2, .p 0], none, none, []⟩] false)
(.cond (.p 0) (.region [⟨.mov, [.v 4], none, none, []⟩,
 ⟨.mov, [.v 1], none, none, []⟩,
 ⟨.mov, [.v 5], none, none, []⟩,
 ⟨.iaddr 1, [.p 1, .p 0], none, none, []⟩,
 ⟨.load false 1, [.p 0], none, none, []⟩,
 ⟨.conv .u64, [.p 0], none, none, []⟩,
 ⟨.bin .add, [.p 5, .p 0], none, none, []⟩,
 ⟨.mov, [.p 0], some 4, none, []⟩] false) .skip))
(.seq (.region [⟨.mov, [.v 3], none, none, []⟩,
 ⟨.mov, [.v 5], none, none, []⟩,
 ⟨.mov, [.v 4], none, none, []⟩,
 ⟨.conv .u32, [.p 0], none, none, []⟩,
 ⟨.iaddr 1, [.p 3, .p 2], none, none, []⟩,
 ⟨.store 1, [.p 0, .p 1], none, none, []⟩] false)
(.region [⟨.mov, [.v 4], none, none, []⟩,
 ⟨.bin .shr, [.p 0, .c (.int .u64 32)], none, none, []⟩,
 ⟨.mov, [.p 0], some 4, none, []⟩] false))))))
(.region [⟨.bin .add, [.v 7, .c (.int .i64 1)], none, none, []⟩,
 ⟨.mov, [.p 0], some 7, none, []⟩] false)))))
def c_limbs_plus : RFunc := ⟨2, [0, 1, 4, 5, 6, 7, 20, 21],
(.seq (.region [⟨.mov, [.c (.slc true [])], some 2, none, []⟩] false)
(.seq (.seq (.region [⟨.mov, [.v 0], none, none, []⟩,
 ⟨.len false, [.p 0], none, none, []⟩,
 ⟨.mov, [.v 1], none, none, []⟩,
 ⟨.len false, [.p 0], none, none, []⟩,
 ⟨.bin .lss, [.p 2, .p 0], none, none, []⟩] false)
(.cond (.p 0) (.region [⟨.mov, [.v 1], none, none, []⟩,
 ⟨.mov, [.v 0], none, none, []⟩,
 ⟨.mov, [.p 1], some 0, none, []⟩,
 ⟨.mov, [.p 1], some 1, none, []⟩] false) .skip))
(.seq (.region [⟨.mov, [.v 0], none, none, []⟩,
 ⟨.len false, [.p 0], none, none, []⟩,
 ⟨.bin .add, [.p 0, .c (.int .i64 1)], none, none, []⟩,
 ⟨.mkslice 1 (.int .u32 0) 4, [.p 0, .p 0], none, none, []⟩,
 ⟨.mov, [.p 0], some 3, none, []⟩] false)
(.seq (.region [⟨.mov, [.c (.int .u64 0)], some 4, none, []⟩] false)
(.seq (.seq (.region [⟨.mov, [.v 0], none, none, []⟩,
 ⟨.len false, [.p 0], some 6, none, []⟩,
 ⟨.mov, [.c (.int .i64 0)], some 7, none, []⟩] false)
(.block 0 l_limbs_plus_0))
(.seq (.region [⟨.mov, [.v 3], none, none, []⟩,
 ⟨.mov, [.v 0], none, none, []⟩,
 ⟨.len false, [.p 0], none, none, []⟩,
 ⟨.mov, [.v 4], none, none, []⟩,
 ⟨.conv .u32, [.p 0], none, none, []⟩,
 ⟨.iaddr 1, [.p 4, .p 2], none, none, []⟩,
 ⟨.store 1, [.p 0, .p 1], none, none, []⟩] false)
(.seq (.region [⟨.mov, [.v 3], none, none, []⟩,
 ⟨.call false 107, [.p 0], none, none, []⟩,
 ⟨.mov, [.p 0], some 2, none, []⟩] false)
.ret))))))),
[.v 2]⟩
def l_limbs_minus_0 : RCode := (.loop [true, true, false, true, true, false, false, true, true] (.seq (.region [⟨.bin .lss, [.v 8, .v 7], none, none, []⟩] false)
(.seq (.cond (.p 0) .skip (.exit 0))
(.seq (.block 1 (.seq (.region [⟨.mov, [.v 8], none, none, []⟩,
 ⟨.mov, [.p 0], some 5, none, []⟩] false)
(.seq (.region [⟨.mov, [.v 0], none, none, []⟩,
 ⟨.mov, [.v 5], none, none, []⟩,
 ⟨.iaddr 1, [.p 1, .p 0], none, none, []⟩,
 ⟨.load false 1, [.p 0], none, none, []⟩,
 ⟨.conv .u64, [.p 0], none, none, []⟩,
 ⟨.mov, [.v 4], none, none, []⟩,
 ⟨.bin .sub, [.p 1, .p 0], none, none, []⟩,
 ⟨.mov, [.p 0], some 6, none, []⟩] false)
(.seq (.seq (.region [⟨.mov, [.v 5], none, none, []⟩,
 ⟨.mov, [.v 1], none, none, []⟩,
 ⟨.len false, [.p 0], none, none, []⟩,
 ⟨.bin .lss, [.p 2, .p 0], none, none, []⟩] false)
(.cond (.p 0) (.region [⟨.mov, [.v 6], none, none, []⟩,
 ⟨.mov, [.v 1], none, none, []⟩,
 ⟨.mov, [.v 5], none, none, []⟩,
 ⟨.iaddr 1, [.p 1, .p 0], none, none, []⟩,
 ⟨.load false 1, [.p 0], none, none, []⟩,
 ⟨.conv .u64, [.p 0], none, none, []⟩,
 ⟨.bin .sub, [.p 5, .p 0], none, none, []⟩,
 ⟨.mov, [.p 0], some 6, none, []⟩] false) .skip))
(.seq (.region [⟨.mov, [.v 3], none, none, []⟩,
 ⟨.mov, [.v 5], none, none, []⟩,
 ⟨.mov, [.v 6], none, none, []⟩,
 ⟨.conv .u32, [.p 0], none, none, []⟩,
 ⟨.iaddr 1, [.p 3, .p 2], none, none, []⟩,
 ⟨.store 1, [.p 0, .p 1], none, none, []⟩] false)
(.region [⟨.mov, [.v 6], none, none, []⟩,
 ⟨.bin .shr, [.p 0, .c (.int .u64 63)], none, none, []⟩,
 ⟨.mov, [.p 0], some 4, none, []⟩] false))))))
(.region [⟨.bin .add, [.v 8, .c (.int .i64 1)], none, none, []⟩,
 ⟨.mov, [.p 0], some 8, none, []⟩] false)))))
def c_limbs_minus : RFunc := ⟨2, [0, 1, 4, 5, 6, 7, 8, 13, 14],
(.seq (.region [⟨.mov, [.c (.slc true [])], some 2, none, []⟩] false)
(.seq (.region [⟨.mov, [.v 0], none, none, []⟩,
 ⟨.len false, [.p 0], none, none, []⟩,
 ⟨.mkslice 1 (.int .u32 0) 4, [.p 0, .p 0], none, none, []⟩,
 ⟨.mov, [.p 0], some 3, none, []⟩] false)
(.seq (.region [⟨.mov, [.c (.int .u64 0)], some 4, none, []⟩] false)
(.seq (.seq (.region [⟨.mov, [.v 0], none, none, []⟩,
 ⟨.len false, [.p 0], some 7, none, []⟩,
 ⟨.mov, [.c (.int .i64 0)], some 8, none, []⟩] false)
(.block 0 l_limbs_minus_0))
(.seq (.region [⟨.mov, [.v 3], none, none, []⟩,
 ⟨.call false 107, [.p 0], none, none, []⟩,
 ⟨.mov, [.p 0], some 2, none, []⟩] false)
.ret))))),
[.v 2]⟩
def c_limbs_made : RFunc := ⟨2, [0, 1, 4],
(.seq (.region [⟨.alloc (.agg [.bool false, .slc true []]), [], some 2, none, []⟩] false)
(.seq (.region [⟨.mov, [.v 1], none, none, []⟩,
 ⟨.call false 107, [.p 0], none, none, []⟩,
 ⟨.mov, [.p 0], some 1, none, []⟩] false)
(.seq (.seq (.region [⟨.mov, [.v 1], none, none, []⟩,
 ⟨.len false, [.p 0], none, none, []⟩,
 ⟨.bin .eql, [.p 0, .c (.int .i64 0)], none, none, []⟩] false)
(.cond (.p 0) (.seq (.region [⟨.build [.bool false, .slc true []] [], [], none, none, []⟩,
 ⟨.store 2, [.v 2, .p 0], none, none, []⟩] false)
.ret) .skip))
(.seq (.region [⟨.mov, [.v 0], none, none, []⟩,
 ⟨.mov, [.v 1], none, none, []⟩,
 ⟨.app 4 1, [.c (.slc true []), .p 0], none, none, []⟩,
 ⟨.build [.bool false, .slc true []] [(0, 1), (1, 1)], [.p 2, .p 0], none, none, []⟩,
 ⟨.store 2, [.v 2, .p 0], none, none, []⟩] false)
.ret)))),
[.cell 2 true 2]⟩
def c_limbs_times : RFunc := ⟨2, [0, 1, 4, 5, 6, 7, 8, 9, 10, 11, 12],
(.seq (.region [⟨.mov, [.c (.slc true [])], some 2, none, []⟩] false)
(.seq (.seq (.region [⟨.mov, [.v 0], none, none, []⟩,
 ⟨.len false, [.p 0], none, none, []⟩,
 ⟨.mov, [.v 1], none, none, []⟩,
 ⟨.len false, [.p 0], none, none, []⟩,
 ⟨.bin .lss, [.p 2, .p 0], none, none, []⟩] false)
(.cond (.p 0) (.region [⟨.mov, [.v 1], none, none, []⟩,
 ⟨.mov, [.v 0], none, none, []⟩,
 ⟨.mov, [.p 1], some 0, none, []⟩,
 ⟨.mov, [.p 1], some 1, none, []⟩] false) .skip))
(.seq (.seq (.region [⟨.mov, [.v 1], none, none, []⟩,
 ⟨.len false, [.p 0], none, none, []⟩,
 ⟨.bin .lss, [.p 0, .c (.int .i64 40)], none, none, []⟩] false)
(.cond (.p 0) (.seq (.region [⟨.mov, [.v 0], none, none, []⟩,
 ⟨.mov, [.v 1], none, none, []⟩,
 ⟨.call false 115, [.p 1, .p 0], none, none, []⟩,
 ⟨.mov, [.p 0], some 2, none, []⟩] false)
.ret) .skip))
(.seq (.region [⟨.mov, [.v 0], none, none, []⟩,
 ⟨.len false, [.p 0], none, none, []⟩,
 ⟨.bin .add, [.p 0, .c (.int .i64 1)], none, none, []⟩,
 ⟨.bin .quo, [.p 0, .c (.int .i64 2)], none, none, []⟩,
 ⟨.mov, [.p 0], some 3, none, []⟩] false)
(.seq (.region [⟨.mov, [.v 0], none, none, []⟩,
 ⟨.mov, [.v 3], none, none, []⟩,
 ⟨.slice 1 false true false, [.p 1, .p 0], none, none, []⟩,
 ⟨.call false 107, [.p 0], none, none, []⟩,
 ⟨.mov, [.v 0], none, none, []⟩,
 ⟨.mov, [.v 3], none, none, []⟩,
 ⟨.slice 1 true false false, [.p 1, .p 0], none, none, []⟩,
 ⟨.mov, [.p 3], some 4, none, []⟩,
 ⟨.mov, [.p 1], some 5, none, []⟩] true)
(.seq (.seq (.region [⟨.mov, [.v 1], none, none, []⟩,
 ⟨.len false, [.p 0], none, none, []⟩,
 ⟨.mov, [.v 3], none, none, []⟩,
 ⟨.bin .leq, [.p 1, .p 0], none, none, []⟩] false)
(.cond (.p 0) (.seq (.region [⟨.mov, [.v 4], none, none, []⟩,
 ⟨.mov, [.v 1], none, none, []⟩,
 ⟨.call false 95, [.p 1, .p 0], none, none, []⟩,
 ⟨.mov, [.v 5], none, none, []⟩,
 ⟨.mov, [.v 1], none, none, []⟩,
 ⟨.call false 95, [.p 1, .p 0], none, none, []⟩,
 ⟨.mov, [.v 3], none, none, []⟩,
 ⟨.call false 116, [.p 1, .p 0], none, none, []⟩,
 ⟨.call false 87, [.p 5, .p 0], none, none, []⟩,
 ⟨.mov, [.p 0], some 2, none, []⟩] false)
.ret) .skip))
(.seq (.region [⟨.mov, [.v 1], none, none, []⟩,
 ⟨.mov, [.v 3], none, none, []⟩,
 ⟨.slice 1 false true false, [.p 1, .p 0], none, none, []⟩,
 ⟨.call false 107, [.p 0], none, none, []⟩,
 ⟨.mov, [.v 1], none, none, []⟩,
 ⟨.mov, [.v 3], none, none, []⟩,
 ⟨.slice 1 true false false, [.p 1, .p 0], none, none, []⟩,
 ⟨.mov, [.p 3], some 6, none, []⟩,
 ⟨.mov, [.p 1], some 7, none, []⟩] true)
(.seq (.region [⟨.mov, [.v 4], none, none, []⟩,
 ⟨.mov, [.v 6], none, none, []⟩,
 ⟨.call false 95, [.p 1, .p 0], none, none, []⟩,
 ⟨.mov, [.v 5], none, none, []⟩,
 ⟨.mov, [.v 7], none, none, []⟩,
 ⟨.call false 95, [.p 1, .p 0], none, none, []⟩,
 ⟨.mov, [.p 3], some 8, none, []⟩,
 ⟨.mov, [.p 1], some 9, none, []⟩] false)
(.seq (.region [⟨.mov, [.v 4], none, none, []⟩,
 ⟨.mov, [.v 5], none, none, []⟩,
 ⟨.call false 87, [.p 1, .p 0], none, none, []⟩,
 ⟨.mov, [.v 6], none, none, []⟩,
 ⟨.mov, [.v 7], none, none, []⟩,
 ⟨.call false 87, [.p 1, .p 0], none, none, []⟩,
 ⟨.call false 95, [.p 3, .p 0], none, none, []⟩,
 ⟨.mov, [.v 8], none, none, []⟩,
 ⟨.call false 88, [.p 1, .p 0], none, none, []⟩,
 ⟨.mov, [.v 9], none, none, []⟩,
 ⟨.call false 88, [.p 1, .p 0], none, none, []⟩,
 ⟨.mov, [.p 0], some 10, none, []⟩] false)
(.seq (.region [⟨.mov, [.v 8], none, none, []⟩,
 ⟨.mov, [.v 10], none, none, []⟩,
 ⟨.mov, [.v 3], none, none, []⟩,
 ⟨.call false 116, [.p 1, .p 0], none, none, []⟩,
 ⟨.call false 87, [.p 3, .p 0], none, none, []⟩,
 ⟨.mov, [.v 9], none, none, []⟩,
 ⟨.mov, [.v 3], none, none, []⟩,
 ⟨.bin .mul, [.c (.int .i64 2), .p 0], none, none, []⟩,
 ⟨.call false 116, [.p 2, .p 0], none, none, []⟩,
 ⟨.call false 87, [.p 4, .p 0], none, none, []⟩,
 ⟨.mov, [.p 0], some 2, none, []⟩] false)
.ret)))))))))),
[.v 2]⟩
def l_limbs_small_0 : RCode := (.loop [true, true, false, false, true, true, true] (.seq (.seq (.region [⟨.mov, [.v 6], none, none, []⟩,
 ⟨.bin .geq, [.p 0, .c (.int .i64 0)], none, none, []⟩] false)
(.cond (.p 0) .skip (.exit 0)))
(.seq (.block 1 (.seq (.region [⟨.mov, [.v 5], none, none, []⟩,
 ⟨.bin .shl, [.p 0, .c (.int .u64 32)], none, none, []⟩,
 ⟨.mov, [.v 0], none, none, []⟩,
 ⟨.mov, [.v 6], none, none, []⟩,
 ⟨.iaddr 1, [.p 1, .p 0], none, none, []⟩,
 ⟨.load false 1, [.p 0], none, none, []⟩,
 ⟨.conv .u64, [.p 0], none, none, []⟩,
 ⟨.bin .or, [.p 5, .p 0], none, none, []⟩,
 ⟨.mov, [.p 0], some 5, none, []⟩] false)
(.seq (.region [⟨.mov, [.v 4], none, none, []⟩,
 ⟨.mov, [.v 6], none, none, []⟩,
 ⟨.mov, [.v 5], none, none, []⟩,
 ⟨.mov, [.v 1], none, none, []⟩,
 ⟨.conv .u64, [.p 0], none, none, []⟩,
 ⟨.bin .quo, [.p 2, .p 0], none, none, []⟩,
 ⟨.conv .u32, [.p 0], none, none, []⟩,
 ⟨.iaddr 1, [.p 6, .p 5], none, none, []⟩,
 ⟨.store 1, [.p 0, .p 1], none, none, []⟩] false)
(.region [⟨.mov, [.v 5], none, none, []⟩,
 ⟨.mov, [.v 1], none, none, []⟩,
 ⟨.conv .u64, [.p 0], none, none, []⟩,
 ⟨.bin .rem, [.p 2, .p 0], none, none, []⟩,
 ⟨.mov, [.p 0], some 5, none, []⟩] false))))
(.region [⟨.mov, [.v 6], none, none, []⟩,
 ⟨.bin .sub, [.p 0, .c (.int .i64 1)], none, none, []⟩,
 ⟨.mov, [.p 0], some 6, none, []⟩] false))))
def c_limbs_small : RFunc := ⟨2, [0, 1, 4, 5, 6, 7, 8],
(.seq (.region [⟨.mov, [.c (.slc true [])], some 2, none, []⟩,
 ⟨.mov, [.c (.int .u32 0)], some 3, none, []⟩] false)
(.seq (.region [⟨.mov, [.v 0], none, none, []⟩,
 ⟨.len false, [.p 0], none, none, []⟩,
 ⟨.mkslice 1 (.int .u32 0) 4, [.p 0, .p 0], none, none, []⟩,
 ⟨.mov, [.p 0], some 4, none, []⟩] false)
(.seq (.region [⟨.mov, [.c (.int .u64 0)], some 5, none, []⟩] false)
(.seq (.seq (.region [⟨.mov, [.v 0], none, none, []⟩,
 ⟨.len false, [.p 0], none, none, []⟩,
 ⟨.bin .sub, [.p 0, .c (.int .i64 1)], none, none, []⟩,
 ⟨.mov, [.p 0], some 6, none, []⟩] false)
(.block 0 l_limbs_small_0))
(.seq (.region [⟨.mov, [.v 4], none, none, []⟩,
 ⟨.call false 107, [.p 0], none, none, []⟩,
 ⟨.mov, [.v 5], none, none, []⟩,
 ⟨.conv .u32, [.p 0], none, none, []⟩,
 ⟨.mov, [.p 2], some 2, none, []⟩,
 ⟨.mov, [.p 1], some 3, none, []⟩] false)
.ret))))),
[.v 2, .v 3]⟩
def c_limbs_sum : RFunc := ⟨3, [0, 1, 2, 3, 4, 6, 7, 8, 9, 10],
(.seq (.region [⟨.box, [.v 0], some 3, none, []⟩,
 ⟨.box, [.v 1], some 4, none, []⟩,
 ⟨.alloc (.agg [.bool false, .slc true []]), [], some 5, none, []⟩] false)
(.seq (.region [⟨.load true 2, [.v 3], none, none, []⟩,
 ⟨.call false 84, [.p 0], none, none, []⟩,
 ⟨.load true 2, [.v 4], none, none, []⟩,
 ⟨.call false 84, [.p 0], none, none, []⟩,
 ⟨.mov, [.p 2], some 6, none, []⟩,
 ⟨.mov, [.p 1], some 7, none, []⟩] true)
(.seq (.region [⟨.load true 2, [.v 3], none, none, []⟩,
 ⟨.call false 86, [.p 0], none, none, []⟩,
 ⟨.load true 2, [.v 4], none, none, []⟩,
 ⟨.call false 86, [.p 0], none, none, []⟩,
 ⟨.mov, [.v 2], none, none, []⟩,
 ⟨.beq true, [.p 1, .p 0], none, none, []⟩,
 ⟨.mov, [.p 4], some 8, none, []⟩,
 ⟨.mov, [.p 1], some 9, none, []⟩] true)
(.seq (.block 0 (.seq (.region [⟨.mov, [.v 8], none, none, []⟩,
 ⟨.mov, [.v 9], none, none, []⟩,
 ⟨.beq false, [.p 1, .p 0], none, none, []⟩,
 ⟨.mov, [.p 0], none, none, []⟩] false)
(.cond (.p 0) (.seq (.region [⟨.mov, [.v 8], none, none, []⟩,
 ⟨.mov, [.v 6], none, none, []⟩,
 ⟨.mov, [.v 7], none, none, []⟩,
 ⟨.call false 87, [.p 1, .p 0], none, none, []⟩,
 ⟨.call false 89, [.p 3, .p 0], none, none, []⟩,
 ⟨.store 2, [.v 5, .p 0], none, none, []⟩] false)
.ret) (.seq (.region [⟨.mov, [.v 6], none, none, []⟩,
 ⟨.mov, [.v 7], none, none, []⟩,
 ⟨.call false 98, [.p 1, .p 0], none, none, []⟩,
 ⟨.bin .geq, [.p 0, .c (.int .i64 0)], none, none, []⟩,
 ⟨.mov, [.p 0], none, none, []⟩] false)
(.cond (.p 0) (.seq (.region [⟨.mov, [.v 8], none, none, []⟩,
 ⟨.mov, [.v 6], none, none, []⟩,
 ⟨.mov, [.v 7], none, none, []⟩,
 ⟨.call false 88, [.p 1, .p 0], none, none, []⟩,
 ⟨.call false 89, [.p 3, .p 0], none, none, []⟩,
 ⟨.store 2, [.v 5, .p 0], none, none, []⟩] false)
.ret) .skip)))))
(.seq (.region [⟨.mov, [.v 9], none, none, []⟩,
 ⟨.mov, [.v 7], none, none, []⟩,
 ⟨.mov, [.v 6], none, none, []⟩,
 ⟨.call false 88, [.p 1, .p 0], none, none, []⟩,
 ⟨.call false 89, [.p 3, .p 0], none, none, []⟩,
 ⟨.store 2, [.v 5, .p 0], none, none, []⟩] false)
.ret))))),
[.cell 5 true 2]⟩
def l_limbs_cmp_0 : RCode := (.loop [true, true, false, true] (.seq (.seq (.region [⟨.mov, [.v 3], none, none, []⟩,
 ⟨.bin .geq, [.p 0, .c (.int .i64 0)], none, none, []⟩] false)
(.cond (.p 0) .skip (.exit 0)))
(.seq (.block 1 (.seq (.region [⟨.mov, [.v 0], none, none, []⟩,
 ⟨.mov, [.v 3], none, none, []⟩,
 ⟨.iaddr 1, [.p 1, .p 0], none, none, []⟩,
 ⟨.load false 1, [.p 0], none, none, []⟩,
 ⟨.mov, [.v 1], none, none, []⟩,
 ⟨.mov, [.v 3], none, none, []⟩,
 ⟨.iaddr 1, [.p 1, .p 0], none, none, []⟩,
 ⟨.load false 1, [.p 0], none, none, []⟩,
 ⟨.bin .neq, [.p 4, .p 0], none, none, []⟩] true)
(.cond (.p 0) (.seq (.seq (.region [⟨.mov, [.v 0], none, none, []⟩,
 ⟨.mov, [.v 3], none, none, []⟩,
 ⟨.iaddr 1, [.p 1, .p 0], none, none, []⟩,
 ⟨.load false 1, [.p 0], none, none, []⟩,
 ⟨.mov, [.v 1], none, none, []⟩,
 ⟨.mov, [.v 3], none, none, []⟩,
 ⟨.iaddr 1, [.p 1, .p 0], none, none, []⟩,
 ⟨.load false 1, [.p 0], none, none, []⟩,
 ⟨.bin .lss, [.p 4, .p 0], none, none, []⟩] true)
(.cond (.p 0) (.seq (.region [⟨.mov, [.c (.int .i64 (-1))], some 2, none, []⟩] false)
.ret) .skip))
(.seq (.region [⟨.mov, [.c (.int .i64 1)], some 2, none, []⟩] false)
.ret)) .skip)))
(.region [⟨.mov, [.v 3], none, none, []⟩,
 ⟨.bin .sub, [.p 0, .c (.int .i64 1)], none, none, []⟩,
 ⟨.mov, [.p 0], some 3, none, []⟩] false))))
def c_limbs_cmp : RFunc := ⟨2, [0, 1, 4, 5],
(.seq (.region [⟨.mov, [.c (.int .i64 0)], some 2, none, []⟩] false)
(.seq (.seq (.region [⟨.mov, [.v 0], none, none, []⟩,
 ⟨.len false, [.p 0], none, none, []⟩,
 ⟨.mov, [.v 1], none, none, []⟩,
 ⟨.len false, [.p 0], none, none, []⟩,
 ⟨.bin .neq, [.p 2, .p 0], none, none, []⟩] false)
(.cond (.p 0) (.seq (.seq (.region [⟨.mov, [.v 0], none, none, []⟩,
 ⟨.len false, [.p 0], none, none, []⟩,
 ⟨.mov, [.v 1], none, none, []⟩,
 ⟨.len false, [.p 0], none, none, []⟩,
 ⟨.bin .lss, [.p 2, .p 0], none, none, []⟩] false)
(.cond (.p 0) (.seq (.region [⟨.mov, [.c (.int .i64 (-1))], some 2, none, []⟩] false)
.ret) .skip))
(.seq (.region [⟨.mov, [.c (.int .i64 1)], some 2, none, []⟩] false)
.ret)) .skip))
(.seq (.seq (.region [⟨.mov, [.v 0], none, none, []⟩,
 ⟨.len false, [.p 0], none, none, []⟩,
 ⟨.bin .sub, [.p 0, .c (.int .i64 1)], none, none, []⟩,
 ⟨.mov, [.p 0], some 3, none, []⟩] false)
(.block 0 l_limbs_cmp_0))
(.seq (.region [⟨.mov, [.c (.int .i64 0)], some 2, none, []⟩] false)
.ret)))),
[.v 2]⟩
def l_limbs_grow_0 : RCode := (.loop [true, true, false, false, true, false, true, true] (.seq (.region [⟨.bin .lss, [.v 7, .v 6], none, none, []⟩] false)
(.seq (.cond (.p 0) .skip (.exit 0))
(.seq (.block 1 (.seq (.region [⟨.mov, [.v 7], none, none, []⟩,
 ⟨.mov, [.p 0], some 5, none, []⟩] false)
(.seq (.region [⟨.mov, [.v 4], none, none, []⟩,
 ⟨.mov, [.v 0], none, none, []⟩,
 ⟨.mov, [.v 5], none, none, []⟩,
 ⟨.iaddr 1, [.p 1, .p 0], none, none, []⟩,
 ⟨.load false 1, [.p 0], none, none, []⟩,
 ⟨.conv .u64, [.p 0], none, none, []⟩,
 ⟨.mov, [.v 1], none, none, []⟩,
 ⟨.conv .u64, [.p 0], none, none, []⟩,
 ⟨.bin .mul, [.p 2, .p 0], none, none, []⟩,
 ⟨.bin .add, [.p 8, .p 0], none, none, []⟩,
 ⟨.mov, [.p 0], some 4, none, []⟩] false)
(.seq (.region [⟨.mov, [.v 0], none, none, []⟩,
 ⟨.mov, [.v 5], none, none, []⟩,
 ⟨.mov, [.v 4], none, none, []⟩,
 ⟨.conv .u32, [.p 0], none, none, []⟩,
 ⟨.iaddr 1, [.p 3, .p 2], none, none, []⟩,
 ⟨.store 1, [.p 0, .p 1], none, none, []⟩] false)
(.region [⟨.mov, [.v 4], none, none, []⟩,
 ⟨.bin .shr, [.p 0, .c (.int .u64 32)], none, none, []⟩,
 ⟨.mov, [.p 0], some 4, none, []⟩] false)))))
(.region [⟨.bin .add, [.v 7, .c (.int .i64 1)], none, none, []⟩,
 ⟨.mov, [.p 0], some 7, none, []⟩] false)))))
def c_limbs_grow : RFunc := ⟨3, [0, 1, 2, 6, 7, 8, 12, 13],
(.seq (.region [⟨.mov, [.c (.slc true [])], some 3, none, []⟩] false)
(.seq (.region [⟨.mov, [.v 2], none, none, []⟩,
 ⟨.conv .u64, [.p 0], none, none, []⟩,
 ⟨.mov, [.p 0], some 4, none, []⟩] false)
(.seq (.seq (.region [⟨.mov, [.v 0], none, none, []⟩,
 ⟨.len false, [.p 0], some 6, none, []⟩,
 ⟨.mov, [.c (.int .i64 0)], some 7, none, []⟩] false)
(.block 0 l_limbs_grow_0))
(.seq (.seq (.region [⟨.mov, [.v 4], none, none, []⟩,
 ⟨.bin .gtr, [.p 0, .c (.int .u64 0)], none, none, []⟩] false)
(.cond (.p 0) (.region [⟨.mov, [.v 0], none, none, []⟩,
 ⟨.mov, [.v 4], none, none, []⟩,
 ⟨.conv .u32, [.p 0], none, none, []⟩,
 ⟨.bslice 1 (.int .u32 0) 1 [0], [.p 0], none, none, []⟩,
 ⟨.app 4 1, [.p 3, .p 0], none, none, []⟩,
 ⟨.mov, [.p 0], some 0, none, []⟩] false) .skip))
(.seq (.region [⟨.mov, [.v 0], none, none, []⟩,
 ⟨.mov, [.p 0], some 3, none, []⟩] false)
.ret))))),
[.v 3]⟩
def l_limbs_trim_0 : RCode := (.loop [true, false, true] (.seq (.seq (.region [⟨.mov, [.v 2], none, none, []⟩,
 ⟨.bin .gtr, [.p 0, .c (.int .i64 0)], none, none, []⟩,
 ⟨.mov, [.p 0], none, none, []⟩,
 ⟨.mov, [.v 0], none, some (0, true), []⟩,
 ⟨.mov, [.v 2], none, some (1, true), []⟩,
 ⟨.bin .sub, [.p 0, .c (.int .i64 1)], none, some (2, true), []⟩,
 ⟨.iaddr 1, [.p 2, .p 0], none, some (3, true), []⟩,
 ⟨.load false 1, [.p 0], none, some (4, true), []⟩,
 ⟨.bin .eql, [.p 0, .c (.int .u32 0)], none, some (5, true), []⟩,
 ⟨.pick, [.p 6, .p 0, .c (.bool false)], none, none, []⟩] false)
(.cond (.p 0) .skip (.exit 0)))
(.block 1 (.region [⟨.mov, [.v 2], none, none, []⟩,
 ⟨.bin .sub, [.p 0, .c (.int .i64 1)], none, none, []⟩,
 ⟨.mov, [.p 0], some 2, none, []⟩] false))))
def c_limbs_trim : RFunc := ⟨1, [0, 2, 3],
(.seq (.region [⟨.mov, [.c (.slc true [])], some 1, none, []⟩] false)
(.seq (.region [⟨.mov, [.v 0], none, none, []⟩,
 ⟨.len false, [.p 0], none, none, []⟩,
 ⟨.mov, [.p 0], some 2, none, []⟩] false)
(.seq (.block 0 l_limbs_trim_0)
(.seq (.region [⟨.mov, [.v 0], none, none, []⟩,
 ⟨.mov, [.v 2], none, none, []⟩,
 ⟨.slice 1 false true false, [.p 1, .p 0], none, none, []⟩,
 ⟨.mov, [.p 0], some 1, none, []⟩] false)
.ret)))),
[.v 1]⟩
def l_limbs_left_0 : RCode := (.loop [false, true, false, true, false, false, true, true, true] (.seq (.region [⟨.bin .lss, [.v 8, .v 7], none, none, []⟩] false)
(.seq (.cond (.p 0) .skip (.exit 0))
(.seq (.block 1 (.seq (.region [⟨.mov, [.v 8], none, none, []⟩,
 ⟨.iaddr 1, [.v 6, .v 8], none, none, []⟩,
 ⟨.load false 1, [.p 0], none, none, []⟩,
 ⟨.mov, [.p 2], some 4, none, []⟩,
 ⟨.mov, [.p 1], some 5, none, []⟩] false)
(.seq (.region [⟨.mov, [.v 3], none, none, []⟩,
 ⟨.mov, [.v 4], none, none, []⟩,
 ⟨.iaddr 1, [.p 1, .p 0], none, none, []⟩,
 ⟨.load false 1, [.p 0], none, none, []⟩,
 ⟨.mov, [.v 5], none, none, []⟩,
 ⟨.mov, [.v 1], none, none, []⟩,
 ⟨.bin .shl, [.p 1, .p 0], none, none, []⟩,
 ⟨.bin .or, [.p 3, .p 0], none, none, []⟩,
 ⟨.iaddr 1, [.p 7, .p 6], none, none, []⟩,
 ⟨.store 1, [.p 0, .p 1], none, none, []⟩] true)
(.region [⟨.mov, [.v 3], none, none, []⟩,
 ⟨.mov, [.v 4], none, none, []⟩,
 ⟨.bin .add, [.p 0, .c (.int .i64 1)], none, none, []⟩,
 ⟨.mov, [.v 5], none, none, []⟩,
 ⟨.conv .u64, [.p 0], none, none, []⟩,
 ⟨.mov, [.v 1], none, none, []⟩,
 ⟨.bin .shl, [.p 1, .p 0], none, none, []⟩,
 ⟨.bin .shr, [.p 0, .c (.int .u64 32)], none, none, []⟩,
 ⟨.conv .u32, [.p 0], none, none, []⟩,
 ⟨.iaddr 1, [.p 8, .p 6], none, none, []⟩,
 ⟨.store 1, [.p 0, .p 1], none, none, []⟩] false))))
(.region [⟨.bin .add, [.v 8, .c (.int .i64 1)], none, none, []⟩,
 ⟨.mov, [.p 0], some 8, none, []⟩] false)))))
def c_limbs_left : RFunc := ⟨2, [0, 1, 4, 5, 6, 7, 12, 13, 14],
(.seq (.region [⟨.mov, [.c (.slc true [])], some 2, none, []⟩] false)
(.seq (.region [⟨.mov, [.v 0], none, none, []⟩,
 ⟨.len false, [.p 0], none, none, []⟩,
 ⟨.bin .add, [.p 0, .c (.int .i64 1)], none, none, []⟩,
 ⟨.mkslice 1 (.int .u32 0) 4, [.p 0, .p 0], none, none, []⟩,
 ⟨.mov, [.p 0], some 3, none, []⟩] false)
(.seq (.seq (.region [⟨.mov, [.v 0], some 6, none, []⟩,
 ⟨.len false, [.v 6], some 7, none, []⟩,
 ⟨.mov, [.c (.int .i64 0)], some 8, none, []⟩] false)
(.block 0 l_limbs_left_0))
(.seq (.region [⟨.mov, [.v 3], none, none, []⟩,
 ⟨.mov, [.p 0], some 2, none, []⟩] false)
.ret)))),
[.v 2]⟩
def l_limbs_guess_0 : RCode := (.loop [false, false, true, true, true, false, false, true, true] (.seq (.seq (.region [⟨.mov, [.v 7], none, none, []⟩,
 ⟨.bin .geq, [.p 0, .c (.int .u64 4294967296)], none, none, []⟩,
 ⟨.mov, [.p 0], none, none, []⟩,
 ⟨.mov, [.v 7], none, some (0, false), []⟩,
 ⟨.mov, [.v 4], none, some (1, false), []⟩,
 ⟨.conv .u64, [.p 0], none, some (2, false), []⟩,
 ⟨.bin .mul, [.p 2, .p 0], none, some (3, false), []⟩,
 ⟨.mov, [.v 8], none, some (4, false), []⟩,
 ⟨.bin .shl, [.p 0, .c (.int .u64 32)], none, some (5, false), []⟩,
 ⟨.mov, [.v 2], none, some (6, false), []⟩,
 ⟨.conv .u64, [.p 0], none, some (7, false), []⟩,
 ⟨.bin .or, [.p 2, .p 0], none, some (8, false), []⟩,
 ⟨.bin .gtr, [.p 5, .p 0], none, some (9, false), []⟩,
 ⟨.pick, [.p 10, .c (.bool true), .p 0], none, none, []⟩] false)
(.cond (.p 0) .skip (.exit 0)))
(.block 1 (.seq (.region [⟨.mov, [.v 7], none, none, []⟩,
 ⟨.bin .sub, [.p 0, .c (.int .u64 1)], none, none, []⟩,
 ⟨.mov, [.p 0], some 7, none, []⟩] false)
(.seq (.region [⟨.mov, [.v 8], none, none, []⟩,
 ⟨.mov, [.v 3], none, none, []⟩,
 ⟨.conv .u64, [.p 0], none, none, []⟩,
 ⟨.bin .add, [.p 2, .p 0], none, none, []⟩,
 ⟨.mov, [.p 0], some 8, none, []⟩] false)
(.seq (.region [⟨.mov, [.v 8], none, none, []⟩,
 ⟨.bin .geq, [.p 0, .c (.int .u64 4294967296)], none, none, []⟩] false)
(.cond (.p 0) (.exit 0) .skip)))))))
def c_limbs_guess : RFunc := ⟨5, [0, 1, 2, 3, 4, 10, 11, 12, 13],
(.seq (.region [⟨.mov, [.c (.int .u64 0)], some 5, none, []⟩] false)
(.seq (.region [⟨.mov, [.v 0], none, none, []⟩,
 ⟨.conv .u64, [.p 0], none, none, []⟩,
 ⟨.bin .shl, [.p 0, .c (.int .u64 32)], none, none, []⟩,
 ⟨.mov, [.v 1], none, none, []⟩,
 ⟨.conv .u64, [.p 0], none, none, []⟩,
 ⟨.bin .or, [.p 2, .p 0], none, none, []⟩,
 ⟨.mov, [.p 0], some 6, none, []⟩] false)
(.seq (.region [⟨.mov, [.v 6], none, none, []⟩,
 ⟨.mov, [.v 3], none, none, []⟩,
 ⟨.conv .u64, [.p 0], none, none, []⟩,
 ⟨.bin .quo, [.p 2, .p 0], none, none, []⟩,
 ⟨.mov, [.v 6], none, none, []⟩,
 ⟨.mov, [.v 3], none, none, []⟩,
 ⟨.conv .u64, [.p 0], none, none, []⟩,
 ⟨.bin .rem, [.p 2, .p 0], none, none, []⟩,
 ⟨.mov, [.p 4], some 7, none, []⟩,
 ⟨.mov, [.p 1], some 8, none, []⟩] true)
(.seq (.block 0 l_limbs_guess_0)
(.seq (.region [⟨.mov, [.v 7], none, none, []⟩,
 ⟨.mov, [.p 0], some 5, none, []⟩] false)
.ret))))),
[.v 5]⟩
def l_limbs_takes_0 : RCode := (.loop [true, true, true, false, true, true, false, false, true, true] (.seq (.region [⟨.bin .lss, [.v 9, .v 8], none, none, []⟩] false)
(.seq (.cond (.p 0) .skip (.exit 0))
(.seq (.block 1 (.seq (.region [⟨.mov, [.v 9], none, none, []⟩,
 ⟨.mov, [.p 0], some 6, none, []⟩] false)
(.seq (.seq (.region [⟨.mov, [.v 6], none, none, []⟩,
 ⟨.mov, [.v 1], none, none, []⟩,
 ⟨.len false, [.p 0], none, none, []⟩,
 ⟨.bin .lss, [.p 2, .p 0], none, none, []⟩] false)
(.cond (.p 0) (.region [⟨.mov, [.v 4], none, none, []⟩,
 ⟨.mov, [.v 2], none, none, []⟩,
 ⟨.mov, [.v 1], none, none, []⟩,
 ⟨.mov, [.v 6], none, none, []⟩,
 ⟨.iaddr 1, [.p 1, .p 0], none, none, []⟩,
 ⟨.load false 1, [.p 0], none, none, []⟩,
 ⟨.conv .u64, [.p 0], none, none, []⟩,
 ⟨.bin .mul, [.p 5, .p 0], none, none, []⟩,
 ⟨.bin .add, [.p 7, .p 0], none, none, []⟩,
 ⟨.mov, [.p 0], some 4, none, []⟩] false) .skip))
(.seq (.region [⟨.mov, [.v 0], none, none, []⟩,
 ⟨.mov, [.v 6], none, none, []⟩,
 ⟨.iaddr 1, [.p 1, .p 0], none, none, []⟩,
 ⟨.load false 1, [.p 0], none, none, []⟩,
 ⟨.conv .u64, [.p 0], none, none, []⟩,
 ⟨.mov, [.v 4], none, none, []⟩,
 ⟨.conv .u32, [.p 0], none, none, []⟩,
 ⟨.conv .u64, [.p 0], none, none, []⟩,
 ⟨.bin .sub, [.p 3, .p 0], none, none, []⟩,
 ⟨.mov, [.v 5], none, none, []⟩,
 ⟨.bin .sub, [.p 1, .p 0], none, none, []⟩,
 ⟨.mov, [.p 0], some 7, none, []⟩] false)
(.seq (.region [⟨.mov, [.v 0], none, none, []⟩,
 ⟨.mov, [.v 6], none, none, []⟩,
 ⟨.mov, [.v 7], none, none, []⟩,
 ⟨.conv .u32, [.p 0], none, none, []⟩,
 ⟨.iaddr 1, [.p 3, .p 2], none, none, []⟩,
 ⟨.store 1, [.p 0, .p 1], none, none, []⟩] false)
(.seq (.region [⟨.mov, [.v 7], none, none, []⟩,
 ⟨.bin .shr, [.p 0, .c (.int .u64 63)], none, none, []⟩,
 ⟨.mov, [.p 0], some 5, none, []⟩] false)
(.region [⟨.mov, [.v 4], none, none, []⟩,
 ⟨.bin .shr, [.p 0, .c (.int .u64 32)], none, none, []⟩,
 ⟨.mov, [.p 0], some 4, none, []⟩] false)))))))
(.region [⟨.bin .add, [.v 9, .c (.int .i64 1)], none, none, []⟩,
 ⟨.mov, [.p 0], some 9, none, []⟩] false)))))
def c_limbs_takes : RFunc := ⟨3, [0, 1, 2, 6, 7, 8, 9, 10, 12, 13],
(.seq (.region [⟨.mov, [.c (.bool false)], some 3, none, []⟩] false)
(.seq (.region [⟨.mov, [.c (.int .u64 0)], some 4, none, []⟩,
 ⟨.mov, [.c (.int .u64 0)], some 5, none, []⟩] false)
(.seq (.seq (.region [⟨.mov, [.v 0], none, none, []⟩,
 ⟨.len false, [.p 0], some 8, none, []⟩,
 ⟨.mov, [.c (.int .i64 0)], some 9, none, []⟩] false)
(.block 0 l_limbs_takes_0))
(.seq (.region [⟨.mov, [.v 5], none, none, []⟩,
 ⟨.bin .gtr, [.p 0, .c (.int .u64 0)], none, none, []⟩,
 ⟨.mov, [.p 0], some 3, none, []⟩] false)
.ret)))),
[.v 3]⟩
def l_limbs_gives_0 : RCode := (.loop [true, true, true, false, true, true] (.seq (.region [⟨.bin .lss, [.v 5, .v 4], none, none, []⟩] false)
(.seq (.cond (.p 0) .skip (.exit 0))
(.seq (.block 1 (.seq (.region [⟨.mov, [.v 5], none, none, []⟩,
 ⟨.mov, [.p 0], some 3, none, []⟩] false)
(.seq (.region [⟨.mov, [.v 2], none, none, []⟩,
 ⟨.mov, [.v 0], none, none, []⟩,
 ⟨.mov, [.v 3], none, none, []⟩,
 ⟨.iaddr 1, [.p 1, .p 0], none, none, []⟩,
 ⟨.load false 1, [.p 0], none, none, []⟩,
 ⟨.conv .u64, [.p 0], none, none, []⟩,
 ⟨.bin .add, [.p 5, .p 0], none, none, []⟩,
 ⟨.mov, [.p 0], some 2, none, []⟩] false)
(.seq (.seq (.region [⟨.mov, [.v 3], none, none, []⟩,
 ⟨.mov, [.v 1], none, none, []⟩,
 ⟨.len false, [.p 0], none, none, []⟩,
 ⟨.bin .lss, [.p 2, .p 0], none, none, []⟩] false)
(.cond (.p 0) (.region [⟨.mov, [.v 2], none, none, []⟩,
 ⟨.mov, [.v 1], none, none, []⟩,
 ⟨.mov, [.v 3], none, none, []⟩,
 ⟨.iaddr 1, [.p 1, .p 0], none, none, []⟩,
 ⟨.load false 1, [.p 0], none, none, []⟩,
 ⟨.conv .u64, [.p 0], none, none, []⟩,
 ⟨.bin .add, [.p 5, .p 0], none, none, []⟩,
 ⟨.mov, [.p 0], some 2, none, []⟩] false) .skip))
(.seq (.region [⟨.mov, [.v 0], none, none, []⟩,
 ⟨.mov, [.v 3], none, none, []⟩,
 ⟨.mov, [.v 2], none, none, []⟩,
 ⟨.conv .u32, [.p 0], none, none, []⟩,
 ⟨.iaddr 1, [.p 3, .p 2], none, none, []⟩,
 ⟨.store 1, [.p 0, .p 1], none, none, []⟩] false)
(.region [⟨.mov, [.v 2], none, none, []⟩,
 ⟨.bin .shr, [.p 0, .c (.int .u64 32)], none, none, []⟩,
 ⟨.mov, [.p 0], some 2, none, []⟩] false))))))
(.region [⟨.bin .add, [.v 5, .c (.int .i64 1)], none, none, []⟩,
 ⟨.mov, [.p 0], some 5, none, []⟩] false)))))
def c_limbs_gives : RFunc := ⟨2, [0, 1, 4, 5, 7, 8],
(.seq (.region [⟨.mov, [.c (.int .u64 0)], some 2, none, []⟩] false)
(.seq (.region [⟨.mov, [.v 0], none, none, []⟩,
 ⟨.len false, [.p 0], some 4, none, []⟩,
 ⟨.mov, [.c (.int .i64 0)], some 5, none, []⟩] false)
(.block 0 l_limbs_gives_0))),
[]⟩
def l_limbs_right_0 : RCode := (.loop [true, true, false, true, false, true, true] (.seq (.region [⟨.bin .lss, [.v 6, .v 5], none, none, []⟩] false)
(.seq (.cond (.p 0) .skip (.exit 0))
(.seq (.block 1 (.seq (.region [⟨.mov, [.v 6], none, none, []⟩,
 ⟨.mov, [.p 0], some 4, none, []⟩] false)
(.seq (.region [⟨.mov, [.v 3], none, none, []⟩,
 ⟨.mov, [.v 4], none, none, []⟩,
 ⟨.mov, [.v 0], none, none, []⟩,
 ⟨.mov, [.v 4], none, none, []⟩,
 ⟨.iaddr 1, [.p 1, .p 0], none, none, []⟩,
 ⟨.load false 1, [.p 0], none, none, []⟩,
 ⟨.mov, [.v 1], none, none, []⟩,
 ⟨.bin .shr, [.p 1, .p 0], none, none, []⟩,
 ⟨.iaddr 1, [.p 7, .p 6], none, none, []⟩,
 ⟨.store 1, [.p 0, .p 1], none, none, []⟩] false)
(.seq (.region [⟨.mov, [.v 4], none, none, []⟩,
 ⟨.bin .add, [.p 0, .c (.int .i64 1)], none, none, []⟩,
 ⟨.mov, [.v 0], none, none, []⟩,
 ⟨.len false, [.p 0], none, none, []⟩,
 ⟨.bin .lss, [.p 2, .p 0], none, none, []⟩] false)
(.cond (.p 0) (.region [⟨.mov, [.v 3], none, none, []⟩,
 ⟨.mov, [.v 4], none, none, []⟩,
 ⟨.iaddr 1, [.p 1, .p 0], none, none, []⟩,
 ⟨.load false 1, [.p 0], none, none, []⟩,
 ⟨.mov, [.v 0], none, none, []⟩,
 ⟨.mov, [.v 4], none, none, []⟩,
 ⟨.bin .add, [.p 0, .c (.int .i64 1)], none, none, []⟩,
 ⟨.iaddr 1, [.p 2, .p 0], none, none, []⟩,
 ⟨.load false 1, [.p 0], none, none, []⟩,
 ⟨.conv .u64, [.p 0], none, none, []⟩,
 ⟨.bin .shl, [.p 0, .c (.int .u64 32)], none, none, []⟩,
 ⟨.mov, [.v 1], none, none, []⟩,
 ⟨.bin .shr, [.p 1, .p 0], none, none, []⟩,
 ⟨.conv .u32, [.p 0], none, none, []⟩,
 ⟨.bin .or, [.p 10, .p 0], none, none, []⟩,
 ⟨.iaddr 1, [.p 14, .p 13], none, none, []⟩,
 ⟨.store 1, [.p 0, .p 1], none, none, []⟩] true) .skip)))))
(.region [⟨.bin .add, [.v 6, .c (.int .i64 1)], none, none, []⟩,
 ⟨.mov, [.p 0], some 6, none, []⟩] false)))))
def c_limbs_right : RFunc := ⟨2, [0, 1, 4, 5, 6, 11, 12],
(.seq (.region [⟨.mov, [.c (.slc true [])], some 2, none, []⟩] false)
(.seq (.region [⟨.mov, [.v 0], none, none, []⟩,
 ⟨.len false, [.p 0], none, none, []⟩,
 ⟨.mkslice 1 (.int .u32 0) 4, [.p 0, .p 0], none, none, []⟩,
 ⟨.mov, [.p 0], some 3, none, []⟩] false)
(.seq (.seq (.region [⟨.mov, [.v 0], none, none, []⟩,
 ⟨.len false, [.p 0], some 5, none, []⟩,
 ⟨.mov, [.c (.int .i64 0)], some 6, none, []⟩] false)
(.block 0 l_limbs_right_0))
(.seq (.region [⟨.mov, [.v 3], none, none, []⟩,
 ⟨.call false 107, [.p 0], none, none, []⟩,
 ⟨.mov, [.p 0], some 2, none, []⟩] false)
.ret)))),
[.v 2]⟩
def l_limbs_school_0 : RCode := (.loop [false, true, false, true, true, true, true, false, false, true, true, true, true, true, true] (.seq (.region [⟨.bin .lss, [.v 14, .v 13], none, none, []⟩] false)
(.seq (.cond (.p 0) .skip (.exit 2))
(.seq (.block 3 (.seq (.region [⟨.mov, [.v 14], none, none, []⟩,
 ⟨.iaddr 1, [.v 12, .v 14], none, none, []⟩,
 ⟨.load false 1, [.p 0], none, none, []⟩,
 ⟨.mov, [.p 2], some 7, none, []⟩,
 ⟨.mov, [.p 1], some 8, none, []⟩] false)
(.seq (.region [⟨.mov, [.v 6], none, none, []⟩,
 ⟨.mov, [.v 5], none, none, []⟩,
 ⟨.conv .u64, [.p 0], none, none, []⟩,
 ⟨.mov, [.v 8], none, none, []⟩,
 ⟨.conv .u64, [.p 0], none, none, []⟩,
 ⟨.bin .mul, [.p 2, .p 0], none, none, []⟩,
 ⟨.mov, [.v 3], none, none, []⟩,
 ⟨.mov, [.v 4], none, none, []⟩,
 ⟨.mov, [.v 7], none, none, []⟩,
 ⟨.bin .add, [.p 1, .p 0], none, none, []⟩,
 ⟨.iaddr 1, [.p 3, .p 0], none, none, []⟩,
 ⟨.load false 1, [.p 0], none, none, []⟩,
 ⟨.conv .u64, [.p 0], none, none, []⟩,
 ⟨.bin .add, [.p 7, .p 0], none, none, []⟩,
 ⟨.bin .add, [.p 13, .p 0], none, none, []⟩,
 ⟨.mov, [.p 0], some 6, none, []⟩] false)
(.seq (.region [⟨.mov, [.v 3], none, none, []⟩,
 ⟨.mov, [.v 4], none, none, []⟩,
 ⟨.mov, [.v 7], none, none, []⟩,
 ⟨.bin .add, [.p 1, .p 0], none, none, []⟩,
 ⟨.mov, [.v 6], none, none, []⟩,
 ⟨.conv .u32, [.p 0], none, none, []⟩,
 ⟨.iaddr 1, [.p 5, .p 2], none, none, []⟩,
 ⟨.store 1, [.p 0, .p 1], none, none, []⟩] false)
(.region [⟨.mov, [.v 6], none, none, []⟩,
 ⟨.bin .shr, [.p 0, .c (.int .u64 32)], none, none, []⟩,
 ⟨.mov, [.p 0], some 6, none, []⟩] false)))))
(.region [⟨.bin .add, [.v 14, .c (.int .i64 1)], none, none, []⟩,
 ⟨.mov, [.p 0], some 14, none, []⟩] false)))))
def l_limbs_school_1 : RCode := (.loop [false, true, false, true, false, false, false, false, false, true, true, true] (.seq (.region [⟨.bin .lss, [.v 11, .v 10], none, none, []⟩] false)
(.seq (.cond (.p 0) .skip (.exit 0))
(.seq (.block 1 (.seq (.region [⟨.mov, [.v 11], none, none, []⟩,
 ⟨.iaddr 1, [.v 9, .v 11], none, none, []⟩,
 ⟨.load false 1, [.p 0], none, none, []⟩,
 ⟨.mov, [.p 2], some 4, none, []⟩,
 ⟨.mov, [.p 1], some 5, none, []⟩] false)
(.seq (.region [⟨.mov, [.c (.int .u64 0)], some 6, none, []⟩] false)
(.seq (.seq (.region [⟨.mov, [.v 1], some 12, none, []⟩,
 ⟨.len false, [.v 12], some 13, none, []⟩,
 ⟨.mov, [.c (.int .i64 0)], some 14, none, []⟩] false)
(.block 2 l_limbs_school_0))
(.region [⟨.mov, [.v 3], none, none, []⟩,
 ⟨.mov, [.v 4], none, none, []⟩,
 ⟨.mov, [.v 1], none, none, []⟩,
 ⟨.len false, [.p 0], none, none, []⟩,
 ⟨.bin .add, [.p 2, .p 0], none, none, []⟩,
 ⟨.mov, [.v 6], none, none, []⟩,
 ⟨.conv .u32, [.p 0], none, none, []⟩,
 ⟨.iaddr 1, [.p 6, .p 2], none, none, []⟩,
 ⟨.store 1, [.p 0, .p 1], none, none, []⟩] false)))))
(.region [⟨.bin .add, [.v 11, .c (.int .i64 1)], none, none, []⟩,
 ⟨.mov, [.p 0], some 11, none, []⟩] false)))))
def c_limbs_school : RFunc := ⟨2, [0, 1, 4, 5, 6, 7, 8, 9, 10, 17, 18, 19, 24, 25, 26],
(.seq (.region [⟨.mov, [.c (.slc true [])], some 2, none, []⟩] false)
(.seq (.region [⟨.mov, [.v 0], none, none, []⟩,
 ⟨.len false, [.p 0], none, none, []⟩,
 ⟨.mov, [.v 1], none, none, []⟩,
 ⟨.len false, [.p 0], none, none, []⟩,
 ⟨.bin .add, [.p 2, .p 0], none, none, []⟩,
 ⟨.mkslice 1 (.int .u32 0) 4, [.p 0, .p 0], none, none, []⟩,
 ⟨.mov, [.p 0], some 3, none, []⟩] false)
(.seq (.seq (.region [⟨.mov, [.v 0], some 9, none, []⟩,
 ⟨.len false, [.v 9], some 10, none, []⟩,
 ⟨.mov, [.c (.int .i64 0)], some 11, none, []⟩] false)
(.block 0 l_limbs_school_1))
(.seq (.region [⟨.mov, [.v 3], none, none, []⟩,
 ⟨.call false 107, [.p 0], none, none, []⟩,
 ⟨.mov, [.p 0], some 2, none, []⟩] false)
.ret)))),
[.v 2]⟩
def c_limbs_up : RFunc := ⟨2, [0, 1, 4],
(.seq (.region [⟨.mov, [.c (.slc true [])], some 2, none, []⟩] false)
(.seq (.seq (.region [⟨.mov, [.v 0], none, none, []⟩,
 ⟨.len false, [.p 0], none, none, []⟩,
 ⟨.bin .eql, [.p 0, .c (.int .i64 0)], none, none, []⟩] false)
(.cond (.p 0) (.seq (.region [⟨.mov, [.c (.slc true [])], some 2, none, []⟩] false)
.ret) .skip))
(.seq (.region [⟨.mov, [.v 1], none, none, []⟩,
 ⟨.mkslice 1 (.int .u32 0) 4, [.p 0, .p 0], none, none, []⟩,
 ⟨.mov, [.v 0], none, none, []⟩,
 ⟨.app 4 1, [.p 1, .p 0], none, none, []⟩,
 ⟨.mov, [.p 0], some 2, none, []⟩] false)
.ret))),
[.v 2]⟩
def c_bits_Len32 : RFunc := ⟨1, [0, 2],
(.seq (.region [⟨.mov, [.c (.int .i64 0)], some 1, none, []⟩] false)
(.seq (.seq (.region [⟨.mov, [.v 0], none, none, []⟩,
 ⟨.bin .geq, [.p 0, .c (.int .u32 65536)], none, none, []⟩] false)
(.cond (.p 0) (.seq (.region [⟨.mov, [.v 0], none, none, []⟩,
 ⟨.bin .shr, [.p 0, .c (.int .u64 16)], none, none, []⟩,
 ⟨.mov, [.p 0], some 0, none, []⟩] false)
(.region [⟨.mov, [.c (.int .i64 16)], some 1, none, []⟩] false)) .skip))
(.seq (.seq (.region [⟨.mov, [.v 0], none, none, []⟩,
 ⟨.bin .geq, [.p 0, .c (.int .u32 256)], none, none, []⟩] false)
(.cond (.p 0) (.seq (.region [⟨.mov, [.v 0], none, none, []⟩,
 ⟨.bin .shr, [.p 0, .c (.int .u64 8)], none, none, []⟩,
 ⟨.mov, [.p 0], some 0, none, []⟩] false)
(.region [⟨.mov, [.v 1], none, none, []⟩,
 ⟨.bin .add, [.p 0, .c (.int .i64 8)], none, none, []⟩,
 ⟨.mov, [.p 0], some 1, none, []⟩] false)) .skip))
(.seq (.region [⟨.mov, [.v 1], none, none, []⟩,
 ⟨.mov, [.v 0], none, none, []⟩,
 ⟨.conv .u8, [.p 0], none, none, []⟩,
 ⟨.idx, [.c (.str ⟨#[0, 1, 2, 2, 3, 3, 3, 3, 4, 4, 4, 4, 4, 4, 4, 4, 5, 5, 5, 5, 5, 5, 5, 5, 5, 5, 5, 5, 5, 5, 5, 5, 6, 6, 6, 6, 6, 6, 6, 6, 6, 6, 6, 6, 6, 6, 6, 6, 6, 6, 6, 6, 6, 6, 6, 6, 6, 6, 6, 6, 6, 6, 6, 6, 7, 7, 7, 7, 7, 7, 7, 7, 7, 7, 7, 7, 7, 7, 7, 7, 7, 7, 7, 7, 7, 7, 7, 7, 7, 7, 7, 7, 7, 7, 7, 7, 7, 7, 7, 7, 7, 7, 7, 7, 7, 7, 7, 7, 7, 7, 7, 7, 7, 7, 7, 7, 7, 7, 7, 7, 7, 7, 7, 7, 7, 7, 7, 7, 8, 8, 8, 8, 8, 8, 8, 8, 8, 8, 8, 8, 8, 8, 8, 8, 8, 8, 8, 8, 8, 8, 8, 8, 8, 8, 8, 8, 8, 8, 8, 8, 8, 8, 8, 8, 8, 8, 8, 8, 8, 8, 8, 8, 8, 8, 8, 8, 8, 8, 8, 8, 8, 8, 8, 8, 8, 8, 8, 8, 8, 8, 8, 8, 8, 8, 8, 8, 8, 8, 8, 8, 8, 8, 8, 8, 8, 8, 8, 8, 8, 8, 8, 8, 8, 8, 8, 8, 8, 8, 8, 8, 8, 8, 8, 8, 8, 8, 8, 8, 8, 8, 8, 8, 8, 8, 8, 8, 8, 8, 8, 8, 8, 8, 8, 8, 8, 8, 8, 8, 8, 8, 8, 8, 8, 8, 8, 8]⟩), .p 0], none, none, []⟩,
 ⟨.conv .i64, [.p 0], none, none, []⟩,
 ⟨.bin .add, [.p 4, .p 0], none, none, []⟩,
 ⟨.mov, [.p 0], some 1, none, []⟩] false)
.ret)))),
[.v 1]⟩
def c_bits_Len : RFunc := ⟨1, [0, 2],
(.seq (.region [⟨.mov, [.c (.int .i64 0)], some 1, none, []⟩] false)
(.seq (.cond (.c (.bool false)) (.seq (.region [⟨.mov, [.v 0], none, none, []⟩,
 ⟨.conv .u32, [.p 0], none, none, []⟩,
 ⟨.call false 99, [.p 0], none, none, []⟩,
 ⟨.mov, [.p 0], some 1, none, []⟩] false)
.ret) .skip)
(.seq (.region [⟨.mov, [.v 0], none, none, []⟩,
 ⟨.call false 117, [.p 0], none, none, []⟩,
 ⟨.mov, [.p 0], some 1, none, []⟩] false)
.ret))),
[.v 1]⟩
def c_bits_LeadingZeros32 : RFunc := ⟨1, [0, 2],
(.seq (.region [⟨.mov, [.c (.int .i64 0)], some 1, none, []⟩] false)
(.seq (.region [⟨.mov, [.v 0], none, none, []⟩,
 ⟨.call false 99, [.p 0], none, none, []⟩,
 ⟨.bin .sub, [.c (.int .i64 32), .p 0], none, none, []⟩,
 ⟨.mov, [.p 0], some 1, none, []⟩] false)
.ret)),
[.v 1]⟩
def c_bits_Len64 : RFunc := ⟨1, [0, 2],
(.seq (.region [⟨.mov, [.c (.int .i64 0)], some 1, none, []⟩] false)
(.seq (.seq (.region [⟨.mov, [.v 0], none, none, []⟩,
 ⟨.bin .geq, [.p 0, .c (.int .u64 4294967296)], none, none, []⟩] false)
(.cond (.p 0) (.seq (.region [⟨.mov, [.v 0], none, none, []⟩,
 ⟨.bin .shr, [.p 0, .c (.int .u64 32)], none, none, []⟩,
 ⟨.mov, [.p 0], some 0, none, []⟩] false)
(.region [⟨.mov, [.c (.int .i64 32)], some 1, none, []⟩] false)) .skip))
(.seq (.seq (.region [⟨.mov, [.v 0], none, none, []⟩,
 ⟨.bin .geq, [.p 0, .c (.int .u64 65536)], none, none, []⟩] false)
(.cond (.p 0) (.seq (.region [⟨.mov, [.v 0], none, none, []⟩,
 ⟨.bin .shr, [.p 0, .c (.int .u64 16)], none, none, []⟩,
 ⟨.mov, [.p 0], some 0, none, []⟩] false)
(.region [⟨.mov, [.v 1], none, none, []⟩,
 ⟨.bin .add, [.p 0, .c (.int .i64 16)], none, none, []⟩,
 ⟨.mov, [.p 0], some 1, none, []⟩] false)) .skip))
(.seq (.seq (.region [⟨.mov, [.v 0], none, none, []⟩,
 ⟨.bin .geq, [.p 0, .c (.int .u64 256)], none, none, []⟩] false)
(.cond (.p 0) (.seq (.region [⟨.mov, [.v 0], none, none, []⟩,
 ⟨.bin .shr, [.p 0, .c (.int .u64 8)], none, none, []⟩,
 ⟨.mov, [.p 0], some 0, none, []⟩] false)
(.region [⟨.mov, [.v 1], none, none, []⟩,
 ⟨.bin .add, [.p 0, .c (.int .i64 8)], none, none, []⟩,
 ⟨.mov, [.p 0], some 1, none, []⟩] false)) .skip))
(.seq (.region [⟨.mov, [.v 1], none, none, []⟩,
 ⟨.mov, [.v 0], none, none, []⟩,
 ⟨.conv .u8, [.p 0], none, none, []⟩,
 ⟨.idx, [.c (.str ⟨#[0, 1, 2, 2, 3, 3, 3, 3, 4, 4, 4, 4, 4, 4, 4, 4, 5, 5, 5, 5, 5, 5, 5, 5, 5, 5, 5, 5, 5, 5, 5, 5, 6, 6, 6, 6, 6, 6, 6, 6, 6, 6, 6, 6, 6, 6, 6, 6, 6, 6, 6, 6, 6, 6, 6, 6, 6, 6, 6, 6, 6, 6, 6, 6, 7, 7, 7, 7, 7, 7, 7, 7, 7, 7, 7, 7, 7, 7, 7, 7, 7, 7, 7, 7, 7, 7, 7, 7, 7, 7, 7, 7, 7, 7, 7, 7, 7, 7, 7, 7, 7, 7, 7, 7, 7, 7, 7, 7, 7, 7, 7, 7, 7, 7, 7, 7, 7, 7, 7, 7, 7, 7, 7, 7, 7, 7, 7, 7, 8, 8, 8, 8, 8, 8, 8, 8, 8, 8, 8, 8, 8, 8, 8, 8, 8, 8, 8, 8, 8, 8, 8, 8, 8, 8, 8, 8, 8, 8, 8, 8, 8, 8, 8, 8, 8, 8, 8, 8, 8, 8, 8, 8, 8, 8, 8, 8, 8, 8, 8, 8, 8, 8, 8, 8, 8, 8, 8, 8, 8, 8, 8, 8, 8, 8, 8, 8, 8, 8, 8, 8, 8, 8, 8, 8, 8, 8, 8, 8, 8, 8, 8, 8, 8, 8, 8, 8, 8, 8, 8, 8, 8, 8, 8, 8, 8, 8, 8, 8, 8, 8, 8, 8, 8, 8, 8, 8, 8, 8, 8, 8, 8, 8, 8, 8, 8, 8, 8, 8, 8, 8, 8, 8, 8, 8, 8, 8]⟩), .p 0], none, none, []⟩,
 ⟨.conv .i64, [.p 0], none, none, []⟩,
 ⟨.bin .add, [.p 4, .p 0], none, none, []⟩,
 ⟨.mov, [.p 0], some 1, none, []⟩] false)
.ret))))),
[.v 1]⟩
class CodeLimbs (F : Nat → Option RFunc) : Prop where
  limbs_Quo : F 24 = some c_limbs_Quo
  limbs_Of : F 32 = some c_limbs_Of
  limbs_Small : F 33 = some c_limbs_Small
  limbs_Gcd : F 36 = some c_limbs_Gcd
  limbs_Mul : F 38 = some c_limbs_Mul
  limbs_Mod : F 40 = some c_limbs_Mod
  limbs_Add : F 43 = some c_limbs_Add
  limbs_Sub : F 46 = some c_limbs_Sub
  limbs_Neg : F 49 = some c_limbs_Neg
  limbs_Cmp : F 51 = some c_limbs_Cmp
  limbs_Sign : F 52 = some c_limbs_Sign
  limbs_Bits : F 53 = some c_limbs_Bits
  limbs_Text : F 56 = some c_limbs_Text
  limbs_Read : F 57 = some c_limbs_Read
  limbs_Power : F 61 = some c_limbs_Power
  limbs_mag : F 84 = some c_limbs_mag
  limbs_divide : F 85 = some c_limbs_divide
  limbs_neg : F 86 = some c_limbs_neg
  limbs_plus : F 87 = some c_limbs_plus
  limbs_minus : F 88 = some c_limbs_minus
  limbs_made : F 89 = some c_limbs_made
  limbs_times : F 95 = some c_limbs_times
  limbs_small : F 96 = some c_limbs_small
  limbs_sum : F 97 = some c_limbs_sum
  limbs_cmp : F 98 = some c_limbs_cmp
  limbs_grow : F 100 = some c_limbs_grow
  limbs_trim : F 107 = some c_limbs_trim
  limbs_left : F 109 = some c_limbs_left
  limbs_guess : F 110 = some c_limbs_guess
  limbs_takes : F 111 = some c_limbs_takes
  limbs_gives : F 112 = some c_limbs_gives
  limbs_right : F 113 = some c_limbs_right
  limbs_school : F 115 = some c_limbs_school
  limbs_up : F 116 = some c_limbs_up
  bits_Len32 : F 99 = some c_bits_Len32
  bits_Len : F 102 = some c_bits_Len
  bits_LeadingZeros32 : F 108 = some c_bits_LeadingZeros32
  bits_Len64 : F 117 = some c_bits_Len64
def tabCodeLimbs : List (Nat × RFunc) := [(24, c_limbs_Quo), (32, c_limbs_Of), (33, c_limbs_Small), (36, c_limbs_Gcd), (38, c_limbs_Mul), (40, c_limbs_Mod), (43, c_limbs_Add), (46, c_limbs_Sub), (49, c_limbs_Neg), (51, c_limbs_Cmp), (52, c_limbs_Sign), (53, c_limbs_Bits), (56, c_limbs_Text), (57, c_limbs_Read), (61, c_limbs_Power), (84, c_limbs_mag), (85, c_limbs_divide), (86, c_limbs_neg), (87, c_limbs_plus), (88, c_limbs_minus), (89, c_limbs_made), (95, c_limbs_times), (96, c_limbs_small), (97, c_limbs_sum), (98, c_limbs_cmp), (100, c_limbs_grow), (107, c_limbs_trim), (109, c_limbs_left), (110, c_limbs_guess), (111, c_limbs_takes), (112, c_limbs_gives), (113, c_limbs_right), (115, c_limbs_school), (116, c_limbs_up), (99, c_bits_Len32), (102, c_bits_Len), (108, c_bits_LeadingZeros32), (117, c_bits_Len64)]
end Go.Ash
