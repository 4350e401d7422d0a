/- The abstract interpreter of this work and its uses, part 5: AshCodeLimbs, AshLimbs1, AshLimbs2. -/
import Derived.Test.YtaojijahpdnjhaaAshP04
set_option linter.all false
/- The code of functions of the given program, printed by a program of this work out of the dump (codes.py): data alone. -/
namespace Go.Ash
set_option maxRecDepth 10000
def c_limbs_Quo : RFunc := ⟨2, [0, 1, 2, 3, 4, 5, 6, 7, 8, 9],
(.seq (.region [⟨.box, [.v 0], some 2, none, []⟩,
 ⟨.box, [.v 1], some 3, none, []⟩,
 ⟨.alloc (.agg [.bool false, .slc true []]), [], some 4, none, []⟩,
 ⟨.alloc (.agg [.bool false, .slc true []]), [], some 5, none, []⟩,
 ⟨.mov, [.c (.int .i64 0)], some 6, none, []⟩] false)
(.seq (.region [⟨.load true 2, [.v 3], none, none, []⟩,
 ⟨.call false 84, [.p 0], none, none, []⟩,
 ⟨.mov, [.p 0], some 7, none, []⟩] false)
(.seq (.seq (.region [⟨.mov, [.v 7], none, none, []⟩,
 ⟨.len false, [.p 0], none, none, []⟩,
 ⟨.bin .eql, [.p 0, .c (.int .i64 0)], none, none, []⟩] false)
(.cond (.p 0) (.seq (.region [⟨.build [.bool false, .slc true []] [], [], none, none, []⟩,
 ⟨.build [.bool false, .slc true []] [], [], none, none, []⟩,
 ⟨.store 2, [.v 4, .p 1], none, none, []⟩,
 ⟨.store 2, [.v 5, .p 1], none, none, []⟩,
 ⟨.mov, [.c (.int .i64 2)], some 6, none, []⟩] false)
.ret) .skip))
(.seq (.region [⟨.load true 2, [.v 2], none, none, []⟩,
 ⟨.call false 84, [.p 0], none, none, []⟩,
 ⟨.mov, [.v 7], none, none, []⟩,
 ⟨.call false 85, [.p 1, .p 0], none, none, []⟩,
 ⟨.mov, [.p 0], none, none, []⟩,
 ⟨.extract 0, [.p 0], none, none, []⟩,
 ⟨.extract 1, [.p 1], none, none, []⟩,
 ⟨.mov, [.p 1], some 8, none, []⟩,
 ⟨.mov, [.p 1], some 9, none, []⟩] false)
(.seq (.seq (.region [⟨.load true 2, [.v 2], none, none, []⟩,
 ⟨.call false 86, [.p 0], none, none, []⟩,
 ⟨.mov, [.p 0], none, none, []⟩,
 ⟨.mov, [.v 9], none, some (0, true), []⟩,
 ⟨.len false, [.p 0], none, some (1, true), []⟩,
 ⟨.bin .gtr, [.p 0, .c (.int .i64 0)], none, some (2, true), []⟩,
 ⟨.pick, [.p 3, .p 0, .c (.bool false)], none, none, []⟩] false)
(.cond (.p 0) (.region [⟨.mov, [.v 8], none, none, []⟩,
 ⟨.bslice 1 (.int .u32 0) 1 [0], [.c (.int .u32 1)], none, none, []⟩,
 ⟨.call false 87, [.p 1, .p 0], none, none, []⟩,
 ⟨.mov, [.v 7], none, none, []⟩,
 ⟨.mov, [.v 9], none, none, []⟩,
 ⟨.call false 88, [.p 1, .p 0], none, none, []⟩,
 ⟨.mov, [.p 3], some 8, none, []⟩,
 ⟨.mov, [.p 1], some 9, none, []⟩] false) .skip))
(.seq (.region [⟨.load true 2, [.v 2], none, none, []⟩,
 ⟨.call false 86, [.p 0], none, none, []⟩,
 ⟨.load true 2, [.v 3], none, none, []⟩,
 ⟨.call false 86, [.p 0], none, none, []⟩,
 ⟨.beq true, [.p 2, .p 0], none, none, []⟩,
 ⟨.mov, [.v 8], none, none, []⟩,
 ⟨.call false 89, [.p 1, .p 0], none, none, []⟩,
 ⟨.mov, [.v 9], none, none, []⟩,
 ⟨.call false 89, [.c (.bool false), .p 0], none, none, []⟩,
 ⟨.store 2, [.v 4, .p 2], none, none, []⟩,
 ⟨.store 2, [.v 5, .p 1], none, none, []⟩,
 ⟨.mov, [.c (.int .i64 0)], some 6, none, []⟩] true)
.ret)))))),
[.cell 4 true 2, .cell 5 true 2, .v 6]⟩
def c_limbs_Of : RFunc := ⟨1, [0, 2, 3],
(.seq (.region [⟨.alloc (.agg [.bool false, .slc true []]), [], some 1, none, []⟩] false)
(.seq (.region [⟨.mov, [.v 0], none, none, []⟩,
 ⟨.conv .u64, [.p 0], none, none, []⟩,
 ⟨.mov, [.p 0], some 2, none, []⟩] false)
(.seq (.seq (.region [⟨.mov, [.v 0], none, none, []⟩,
 ⟨.bin .lss, [.p 0, .c (.int .i64 0)], none, none, []⟩] false)
(.cond (.p 0) (.region [⟨.mov, [.v 2], none, none, []⟩,
 ⟨.un .neg, [.p 0], none, none, []⟩,
 ⟨.mov, [.p 0], some 2, none, []⟩] false) .skip))
(.seq (.region [⟨.mov, [.v 0], none, none, []⟩,
 ⟨.bin .lss, [.p 0, .c (.int .i64 0)], none, none, []⟩,
 ⟨.mov, [.v 2], none, none, []⟩,
 ⟨.conv .u32, [.p 0], none, none, []⟩,
 ⟨.mov, [.v 2], none, none, []⟩,
 ⟨.bin .shr, [.p 0, .c (.int .u64 32)], none, none, []⟩,
 ⟨.conv .u32, [.p 0], none, none, []⟩,
 ⟨.bslice 1 (.int .u32 0) 2 [0, 1], [.p 3, .p 0], none, none, []⟩,
 ⟨.call false 89, [.p 6, .p 0], none, none, []⟩,
 ⟨.store 2, [.v 1, .p 0], none, none, []⟩] false)
.ret)))),
[.cell 1 true 2]⟩
def l_limbs_Small_0 : RCode := (.loop [false, true, false, false, false, true, false, false, true, true, true] (.seq (.region [⟨.bin .lss, [.v 10, .v 9], none, none, []⟩] false)
(.seq (.cond (.p 0) .skip (.exit 0))
(.seq (.block 1 (.seq (.region [⟨.mov, [.v 10], none, none, []⟩,
 ⟨.iaddr 1, [.v 8, .v 10], none, none, []⟩,
 ⟨.load false 1, [.p 0], none, none, []⟩,
 ⟨.mov, [.p 2], some 6, none, []⟩,
 ⟨.mov, [.p 1], some 7, none, []⟩] false)
(.region [⟨.mov, [.v 5], none, none, []⟩,
 ⟨.mov, [.v 7], none, none, []⟩,
 ⟨.conv .u64, [.p 0], none, none, []⟩,
 ⟨.mov, [.v 6], none, none, []⟩,
 ⟨.bin .mul, [.c (.int .i64 32), .p 0], none, none, []⟩,
 ⟨.bin .shl, [.p 2, .p 0], none, none, []⟩,
 ⟨.bin .or, [.p 5, .p 0], none, none, []⟩,
 ⟨.mov, [.p 0], some 5, none, []⟩] false)))
(.region [⟨.bin .add, [.v 10, .c (.int .i64 1)], none, none, []⟩,
 ⟨.mov, [.p 0], some 10, none, []⟩] false)))))
def c_limbs_Small : RFunc := ⟨1, [0, 1, 2, 3, 4, 5, 6, 7, 13, 14, 15],
(.seq (.region [⟨.box, [.v 0], some 1, none, []⟩,
 ⟨.mov, [.c (.int .i64 0)], some 2, none, []⟩,
 ⟨.mov, [.c (.bool false)], some 3, none, []⟩] false)
(.seq (.region [⟨.load true 2, [.v 1], none, none, []⟩,
 ⟨.call false 84, [.p 0], none, none, []⟩,
 ⟨.mov, [.p 0], some 4, none, []⟩] false)
(.seq (.seq (.region [⟨.mov, [.v 4], none, none, []⟩,
 ⟨.len false, [.p 0], none, none, []⟩,
 ⟨.bin .gtr, [.p 0, .c (.int .i64 2)], none, none, []⟩] false)
(.cond (.p 0) (.seq (.region [⟨.mov, [.c (.int .i64 0)], some 2, none, []⟩,
 ⟨.mov, [.c (.bool false)], some 3, none, []⟩] false)
.ret) .skip))
(.seq (.region [⟨.mov, [.c (.int .u64 0)], some 5, none, []⟩] false)
(.seq (.seq (.region [⟨.mov, [.v 4], some 8, none, []⟩,
 ⟨.len false, [.v 8], some 9, none, []⟩,
 ⟨.mov, [.c (.int .i64 0)], some 10, none, []⟩] false)
(.block 0 l_limbs_Small_0))
(.seq (.block 2 (.seq (.region [⟨.load true 2, [.v 1], none, none, []⟩,
 ⟨.call false 86, [.p 0], none, none, []⟩,
 ⟨.mov, [.p 0], none, none, []⟩,
 ⟨.mov, [.v 5], none, some (0, true), []⟩,
 ⟨.bin .leq, [.p 0, .c (.int .u64 9223372036854775808)], none, some (1, true), []⟩,
 ⟨.pick, [.p 2, .p 0, .c (.bool false)], none, none, []⟩,
 ⟨.mov, [.p 0], none, none, []⟩] false)
(.cond (.p 0) (.seq (.region [⟨.mov, [.v 5], none, none, []⟩,
 ⟨.un .neg, [.p 0], none, none, []⟩,
 ⟨.conv .i64, [.p 0], none, none, []⟩,
 ⟨.mov, [.p 0], some 2, none, []⟩,
 ⟨.mov, [.c (.bool true)], some 3, none, []⟩] false)
.ret) (.seq (.region [⟨.load true 2, [.v 1], none, none, []⟩,
 ⟨.call false 86, [.p 0], none, none, []⟩,
 ⟨.un .not, [.p 0], none, none, []⟩,
 ⟨.mov, [.p 0], none, none, []⟩,
 ⟨.mov, [.v 5], none, some (0, true), []⟩,
 ⟨.bin .lss, [.p 0, .c (.int .u64 9223372036854775808)], none, some (1, true), []⟩,
 ⟨.pick, [.p 2, .p 0, .c (.bool false)], none, none, []⟩,
 ⟨.mov, [.p 0], none, none, []⟩] false)
(.cond (.p 0) (.seq (.region [⟨.mov, [.v 5], none, none, []⟩,
 ⟨.conv .i64, [.p 0], none, none, []⟩,
 ⟨.mov, [.p 0], some 2, none, []⟩,
 ⟨.mov, [.c (.bool true)], some 3, none, []⟩] false)
.ret) .skip)))))
(.seq (.region [⟨.mov, [.c (.int .i64 0)], some 2, none, []⟩,
 ⟨.mov, [.c (.bool false)], some 3, none, []⟩] false)
.ret))))))),
[.v 2, .v 3]⟩
def l_limbs_Gcd_0 : RCode := (.loop [false, false, false, false, true, true, true] (.seq (.seq (.region [⟨.mov, [.v 6], none, none, []⟩,
 ⟨.len false, [.p 0], none, none, []⟩,
 ⟨.bin .gtr, [.p 0, .c (.int .i64 0)], none, none, []⟩] false)
(.cond (.p 0) .skip (.exit 0)))
(.block 1 (.seq (.region [⟨.mov, [.v 5], none, none, []⟩,
 ⟨.mov, [.v 6], none, none, []⟩,
 ⟨.call false 85, [.p 1, .p 0], none, none, []⟩,
 ⟨.mov, [.p 0], none, none, []⟩,
 ⟨.extract 0, [.p 0], none, none, []⟩,
 ⟨.extract 1, [.p 1], none, none, []⟩,
 ⟨.mov, [.p 1], none, none, []⟩,
 ⟨.mov, [.p 1], some 7, none, []⟩] false)
(.region [⟨.mov, [.v 6], none, none, []⟩,
 ⟨.mov, [.v 7], none, none, []⟩,
 ⟨.mov, [.p 1], some 5, none, []⟩,
 ⟨.mov, [.p 1], some 6, none, []⟩] false)))))
def c_limbs_Gcd : RFunc := ⟨2, [0, 1, 2, 3, 4, 5, 6, 8],
(.seq (.region [⟨.box, [.v 0], some 2, none, []⟩,
 ⟨.box, [.v 1], some 3, none, []⟩,
 ⟨.alloc (.agg [.bool false, .slc true []]), [], some 4, none, []⟩] false)
(.seq (.region [⟨.load true 2, [.v 2], none, none, []⟩,
 ⟨.call false 84, [.p 0], none, none, []⟩,
 ⟨.load true 2, [.v 3], none, none, []⟩,
 ⟨.call false 84, [.p 0], none, none, []⟩,
 ⟨.mov, [.p 2], some 5, none, []⟩,
 ⟨.mov, [.p 1], some 6, none, []⟩] true)
(.seq (.block 0 l_limbs_Gcd_0)
(.seq (.region [⟨.mov, [.v 5], none, none, []⟩,
 ⟨.call false 89, [.c (.bool false), .p 0], none, none, []⟩,
 ⟨.store 2, [.v 4, .p 0], none, none, []⟩] false)
.ret)))),
[.cell 4 true 2]⟩
def c_limbs_Mul : RFunc := ⟨2, [0, 1, 2, 3, 4],
(.seq (.region [⟨.box, [.v 0], some 2, none, []⟩,
 ⟨.box, [.v 1], some 3, none, []⟩,
 ⟨.alloc (.agg [.bool false, .slc true []]), [], some 4, none, []⟩] false)
(.seq (.region [⟨.load true 2, [.v 2], none, none, []⟩,
 ⟨.call false 86, [.p 0], none, none, []⟩,
 ⟨.load true 2, [.v 3], none, none, []⟩,
 ⟨.call false 86, [.p 0], none, none, []⟩,
 ⟨.beq true, [.p 2, .p 0], none, none, []⟩,
 ⟨.load true 2, [.v 2], none, none, []⟩,
 ⟨.call false 84, [.p 0], none, none, []⟩,
 ⟨.load true 2, [.v 3], none, none, []⟩,
 ⟨.call false 84, [.p 0], none, none, []⟩,
 ⟨.call false 95, [.p 2, .p 0], none, none, []⟩,
 ⟨.call true 89, [.p 5, .p 0], none, none, []⟩,
 ⟨.store 2, [.v 4, .p 0], none, none, []⟩] true)
.ret)),
[.cell 4 true 2]⟩
def c_limbs_Mod : RFunc := ⟨2, [0, 1, 2, 4, 5, 7],
(.seq (.region [⟨.box, [.v 0], some 2, none, []⟩,
 ⟨.mov, [.c (.int .i64 0)], some 3, none, []⟩,
 ⟨.mov, [.c (.int .i64 0)], some 4, none, []⟩] false)
(.seq (.seq (.region [⟨.mov, [.v 1], none, none, []⟩,
 ⟨.bin .lss, [.p 0, .c (.int .i64 1)], none, none, []⟩,
 ⟨.mov, [.p 0], none, none, []⟩,
 ⟨.mov, [.v 1], none, some (0, false), []⟩,
 ⟨.bin .gtr, [.p 0, .c (.int .i64 2147483647)], none, some (1, false), []⟩,
 ⟨.pick, [.p 2, .c (.bool true), .p 0], none, none, []⟩] false)
(.cond (.p 0) (.seq (.region [⟨.mov, [.c (.int .i64 0)], some 3, none, []⟩,
 ⟨.mov, [.c (.int .i64 1)], some 4, none, []⟩] false)
.ret) .skip))
(.seq (.region [⟨.load true 2, [.v 2], none, none, []⟩,
 ⟨.call false 84, [.p 0], none, none, []⟩,
 ⟨.mov, [.v 1], none, none, []⟩,
 ⟨.conv .u32, [.p 0], none, none, []⟩,
 ⟨.call false 96, [.p 2, .p 0], none, none, []⟩,
 ⟨.mov, [.p 0], none, none, []⟩,
 ⟨.extract 0, [.p 0], none, none, []⟩,
 ⟨.extract 1, [.p 1], none, none, []⟩,
 ⟨.mov, [.p 1], none, none, []⟩,
 ⟨.mov, [.p 1], some 5, none, []⟩] false)
(.seq (.seq (.region [⟨.load true 2, [.v 2], none, none, []⟩,
 ⟨.call false 86, [.p 0], none, none, []⟩,
 ⟨.mov, [.p 0], none, none, []⟩,
 ⟨.mov, [.v 5], none, some (0, true), []⟩,
 ⟨.bin .gtr, [.p 0, .c (.int .u32 0)], none, some (1, true), []⟩,
 ⟨.pick, [.p 2, .p 0, .c (.bool false)], none, none, []⟩] false)
(.cond (.p 0) (.seq (.region [⟨.mov, [.v 1], none, none, []⟩,
 ⟨.mov, [.v 5], none, none, []⟩,
 ⟨.conv .i64, [.p 0], none, none, []⟩,
 ⟨.bin .sub, [.p 2, .p 0], none, none, []⟩,
 ⟨.mov, [.p 0], some 3, none, []⟩,
 ⟨.mov, [.c (.int .i64 0)], some 4, none, []⟩] false)
.ret) .skip))
(.seq (.region [⟨.mov, [.v 5], none, none, []⟩,
 ⟨.conv .i64, [.p 0], none, none, []⟩,
 ⟨.mov, [.p 0], some 3, none, []⟩,
 ⟨.mov, [.c (.int .i64 0)], some 4, none, []⟩] false)
.ret))))),
[.v 3, .v 4]⟩
def c_limbs_Add : RFunc := ⟨2, [0, 1, 2, 3, 4],
(.seq (.region [⟨.box, [.v 0], some 2, none, []⟩,
 ⟨.box, [.v 1], some 3, none, []⟩,
 ⟨.alloc (.agg [.bool false, .slc true []]), [], some 4, none, []⟩] false)
(.seq (.region [⟨.load true 2, [.v 2], none, none, []⟩,
 ⟨.load true 2, [.v 3], none, none, []⟩,
 ⟨.call false 97, [.p 1, .p 0, .c (.bool false)], none, none, []⟩,
 ⟨.store 2, [.v 4, .p 0], none, none, []⟩] false)
.ret)),
[.cell 4 true 2]⟩
def c_limbs_Sub : RFunc := ⟨2, [0, 1, 2, 3, 4],
(.seq (.region [⟨.box, [.v 0], some 2, none, []⟩,
 ⟨.box, [.v 1], some 3, none, []⟩,
 ⟨.alloc (.agg [.bool false, .slc true []]), [], some 4, none, []⟩] false)
(.seq (.region [⟨.load true 2, [.v 2], none, none, []⟩,
 ⟨.load true 2, [.v 3], none, none, []⟩,
 ⟨.call false 97, [.p 1, .p 0, .c (.bool true)], none, none, []⟩,
 ⟨.store 2, [.v 4, .p 0], none, none, []⟩] false)
.ret)),
[.cell 4 true 2]⟩
def c_limbs_Neg : RFunc := ⟨1, [0, 1, 2],
(.seq (.region [⟨.box, [.v 0], some 1, none, []⟩,
 ⟨.alloc (.agg [.bool false, .slc true []]), [], some 2, none, []⟩] false)
(.seq (.region [⟨.load true 2, [.v 1], none, none, []⟩,
 ⟨.call false 86, [.p 0], none, none, []⟩,
 ⟨.un .not, [.p 0], none, none, []⟩,
 ⟨.load true 2, [.v 1], none, none, []⟩,
 ⟨.call false 84, [.p 0], none, none, []⟩,
 ⟨.call false 89, [.p 2, .p 0], none, none, []⟩,
 ⟨.store 2, [.v 2, .p 0], none, none, []⟩] true)
.ret)),
[.cell 2 true 2]⟩
def c_limbs_Cmp : RFunc := ⟨2, [0, 1, 2, 3, 4, 5, 6],
(.seq (.region [⟨.box, [.v 0], some 2, none, []⟩,
 ⟨.box, [.v 1], some 3, none, []⟩,
 ⟨.mov, [.c (.int .i64 0)], some 4, none, []⟩] false)
(.seq (.region [⟨.load true 2, [.v 2], none, none, []⟩,
 ⟨.call false 52, [.p 0], none, none, []⟩,
 ⟨.load true 2, [.v 3], none, none, []⟩,
 ⟨.call false 52, [.p 0], none, none, []⟩,
 ⟨.mov, [.p 2], some 5, none, []⟩,
 ⟨.mov, [.p 1], some 6, none, []⟩] true)
(.seq (.block 0 (.seq (.region [⟨.mov, [.v 5], none, none, []⟩,
 ⟨.mov, [.v 6], none, none, []⟩,
 ⟨.bin .lss, [.p 1, .p 0], none, none, []⟩,
 ⟨.mov, [.p 0], none, none, []⟩] false)
(.cond (.p 0) (.seq (.region [⟨.mov, [.c (.int .i64 (-1))], some 4, none, []⟩] false)
.ret) (.seq (.region [⟨.mov, [.v 5], none, none, []⟩,
 ⟨.mov, [.v 6], none, none, []⟩,
 ⟨.bin .gtr, [.p 1, .p 0], none, none, []⟩,
 ⟨.mov, [.p 0], none, none, []⟩] false)
(.cond (.p 0) (.seq (.region [⟨.mov, [.c (.int .i64 1)], some 4, none, []⟩] false)
.ret) .skip)))))
(.seq (.region [⟨.mov, [.v 5], none, none, []⟩,
 ⟨.load true 2, [.v 2], none, none, []⟩,
 ⟨.call false 84, [.p 0], none, none, []⟩,
 ⟨.load true 2, [.v 3], none, none, []⟩,
 ⟨.call false 84, [.p 0], none, none, []⟩,
 ⟨.call false 98, [.p 2, .p 0], none, none, []⟩,
 ⟨.bin .mul, [.p 5, .p 0], none, none, []⟩,
 ⟨.mov, [.p 0], some 4, none, []⟩] true)
.ret)))),
[.v 4]⟩
def c_limbs_Sign : RFunc := ⟨1, [0, 1, 2],
(.seq (.region [⟨.box, [.v 0], some 1, none, []⟩,
 ⟨.mov, [.c (.int .i64 0)], some 2, none, []⟩] false)
(.seq (.block 0 (.seq (.region [⟨.load true 2, [.v 1], none, none, []⟩,
 ⟨.call false 84, [.p 0], none, none, []⟩,
 ⟨.len false, [.p 0], none, none, []⟩,
 ⟨.bin .eql, [.p 0, .c (.int .i64 0)], none, none, []⟩,
 ⟨.mov, [.p 0], none, none, []⟩] false)
(.cond (.p 0) (.seq (.region [⟨.mov, [.c (.int .i64 0)], some 2, none, []⟩] false)
.ret) (.seq (.region [⟨.faddr 0, [.v 1], none, none, []⟩,
 ⟨.load false 1, [.p 0], none, none, []⟩,
 ⟨.mov, [.p 0], none, none, []⟩] false)
(.cond (.p 0) (.seq (.region [⟨.mov, [.c (.int .i64 (-1))], some 2, none, []⟩] false)
.ret) .skip)))))
(.seq (.region [⟨.mov, [.c (.int .i64 1)], some 2, none, []⟩] false)
.ret))),
[.v 2]⟩
def c_limbs_Bits : RFunc := ⟨1, [0, 1, 2, 3],
(.seq (.region [⟨.box, [.v 0], some 1, none, []⟩,
 ⟨.mov, [.c (.int .i64 0)], some 2, none, []⟩] false)
(.seq (.region [⟨.load true 2, [.v 1], none, none, []⟩,
 ⟨.call false 84, [.p 0], none, none, []⟩,
 ⟨.mov, [.p 0], some 3, none, []⟩] false)
(.seq (.seq (.region [⟨.mov, [.v 3], none, none, []⟩,
 ⟨.len false, [.p 0], none, none, []⟩,
 ⟨.bin .eql, [.p 0, .c (.int .i64 0)], none, none, []⟩] false)
(.cond (.p 0) (.seq (.region [⟨.mov, [.c (.int .i64 0)], some 2, none, []⟩] false)
.ret) .skip))
(.seq (.region [⟨.mov, [.v 3], none, none, []⟩,
 ⟨.len false, [.p 0], none, none, []⟩,
 ⟨.bin .sub, [.p 0, .c (.int .i64 1)], none, none, []⟩,
 ⟨.bin .mul, [.c (.int .i64 32), .p 0], none, none, []⟩,
 ⟨.mov, [.v 3], none, none, []⟩,
 ⟨.mov, [.v 3], none, none, []⟩,
 ⟨.len false, [.p 0], none, none, []⟩,
 ⟨.bin .sub, [.p 0, .c (.int .i64 1)], none, none, []⟩,
 ⟨.iaddr 1, [.p 3, .p 0], none, none, []⟩,
 ⟨.load false 1, [.p 0], none, none, []⟩,
 ⟨.call false 99, [.p 0], none, none, []⟩,
 ⟨.bin .add, [.p 7, .p 0], none, none, []⟩,
 ⟨.mov, [.p 0], some 2, none, []⟩] false)
.ret)))),
[.v 2]⟩
def l_limbs_Text_0 : RCode := (.loop [false, true, false, true, true, true, true] (.seq (.seq (.region [⟨.mov, [.v 6], none, none, []⟩,
 ⟨.bin .lss, [.p 0, .c (.int .i64 9)], none, none, []⟩,
 ⟨.mov, [.p 0], none, none, []⟩,
 ⟨.mov, [.v 5], none, some (0, true), []⟩,
 ⟨.bin .gtr, [.p 0, .c (.int .u32 0)], none, some (1, true), []⟩,
 ⟨.mov, [.p 0], none, some (2, true), []⟩,
 ⟨.mov, [.v 3], none, some (0, false), []⟩,
 ⟨.len false, [.p 0], none, some (1, false), []⟩,
 ⟨.bin .gtr, [.p 0, .c (.int .i64 0)], none, some (2, false), []⟩,
 ⟨.pick, [.p 3, .c (.bool true), .p 0], none, some (6, true), []⟩,
 ⟨.pick, [.p 7, .p 0, .c (.bool false)], none, none, []⟩] false)
(.cond (.p 0) .skip (.exit 2)))
(.seq (.block 3 (.seq (.region [⟨.mov, [.v 4], none, none, []⟩,
 ⟨.mov, [.v 5], none, none, []⟩,
 ⟨.bin .rem, [.p 0, .c (.int .u32 10)], none, none, []⟩,
 ⟨.bin .add, [.c (.int .u32 48), .p 0], none, none, []⟩,
 ⟨.conv .u8, [.p 0], none, none, []⟩,
 ⟨.bslice 1 (.int .u8 0) 1 [0], [.p 0], none, none, []⟩,
 ⟨.app 1 1, [.p 5, .p 0], none, none, []⟩,
 ⟨.mov, [.p 0], some 4, none, []⟩] false)
(.region [⟨.mov, [.v 5], none, none, []⟩,
 ⟨.bin .quo, [.p 0, .c (.int .u32 10)], none, none, []⟩,
 ⟨.mov, [.p 0], some 5, none, []⟩] false)))
(.region [⟨.mov, [.v 6], none, none, []⟩,
 ⟨.bin .add, [.p 0, .c (.int .i64 1)], none, none, []⟩,
 ⟨.mov, [.p 0], some 6, none, []⟩] false))))
def l_limbs_Text_1 : RCode := (.loop [false, true, false, true, true] (.seq (.seq (.region [⟨.mov, [.v 3], none, none, []⟩,
 ⟨.len false, [.p 0], none, none, []⟩,
 ⟨.bin .gtr, [.p 0, .c (.int .i64 0)], none, none, []⟩] false)
(.cond (.p 0) .skip (.exit 0)))
(.block 1 (.seq (.region [⟨.mov, [.c (.int .u32 0)], some 5, none, []⟩] false)
(.seq (.region [⟨.mov, [.v 3], none, none, []⟩,
 ⟨.call false 96, [.p 0, .c (.int .u32 1000000000)], none, none, []⟩,
 ⟨.mov, [.p 0], none, none, []⟩,
 ⟨.extract 0, [.p 0], none, none, []⟩,
 ⟨.extract 1, [.p 1], none, none, []⟩,
 ⟨.mov, [.p 1], some 3, none, []⟩,
 ⟨.mov, [.p 1], some 5, none, []⟩] false)
(.seq (.region [⟨.mov, [.c (.int .i64 0)], some 6, none, []⟩] false)
(.block 2 l_limbs_Text_0)))))))
def l_limbs_Text_2 : RCode := (.loop [false, false, false, false, true, false, false, true, true] (.seq (.seq (.region [⟨.mov, [.v 7], none, none, []⟩,
 ⟨.mov, [.v 8], none, none, []⟩,
 ⟨.bin .lss, [.p 1, .p 0], none, none, []⟩] false)
(.cond (.p 0) .skip (.exit 4)))
(.seq (.block 5 (.region [⟨.mov, [.v 4], none, none, []⟩,
 ⟨.mov, [.v 7], none, none, []⟩,
 ⟨.mov, [.v 4], none, none, []⟩,
 ⟨.mov, [.v 8], none, none, []⟩,
 ⟨.mov, [.v 4], none, none, []⟩,
 ⟨.mov, [.v 8], none, none, []⟩,
 ⟨.iaddr 1, [.p 1, .p 0], none, none, []⟩,
 ⟨.load false 1, [.p 0], none, none, []⟩,
 ⟨.mov, [.v 4], none, none, []⟩,
 ⟨.mov, [.v 7], none, none, []⟩,
 ⟨.iaddr 1, [.p 1, .p 0], none, none, []⟩,
 ⟨.load false 1, [.p 0], none, none, []⟩,
 ⟨.iaddr 1, [.p 11, .p 10], none, none, []⟩,
 ⟨.store 1, [.p 0, .p 5], none, none, []⟩,
 ⟨.iaddr 1, [.p 11, .p 10], none, none, []⟩,
 ⟨.store 1, [.p 0, .p 3], none, none, []⟩] true))
(.region [⟨.mov, [.v 7], none, none, []⟩,
 ⟨.bin .add, [.p 0, .c (.int .i64 1)], none, none, []⟩,
 ⟨.mov, [.v 8], none, none, []⟩,
 ⟨.bin .sub, [.p 0, .c (.int .i64 1)], none, none, []⟩,
 ⟨.mov, [.p 2], some 7, none, []⟩,
 ⟨.mov, [.p 1], some 8, none, []⟩] false))))
def c_limbs_Text : RFunc := ⟨1, [0, 1, 2, 3, 4, 5, 6, 7, 8],
(.seq (.region [⟨.box, [.v 0], some 1, none, []⟩,
 ⟨.mov, [.c (.str ByteArray.empty)], some 2, none, []⟩] false)
(.seq (.region [⟨.load true 2, [.v 1], none, none, []⟩,
 ⟨.call false 84, [.p 0], none, none, []⟩,
 ⟨.mov, [.p 0], some 3, none, []⟩] false)
(.seq (.seq (.region [⟨.mov, [.v 3], none, none, []⟩,
 ⟨.len false, [.p 0], none, none, []⟩,
 ⟨.bin .eql, [.p 0, .c (.int .i64 0)], none, none, []⟩] false)
(.cond (.p 0) (.seq (.region [⟨.mov, [.c (.str ⟨#[48]⟩)], some 2, none, []⟩] false)
.ret) .skip))
(.seq (.region [⟨.mov, [.c (.slc true [])], some 4, none, []⟩] false)
(.seq (.block 0 l_limbs_Text_1)
(.seq (.seq (.region [⟨.load true 2, [.v 1], none, none, []⟩,
 ⟨.call false 86, [.p 0], none, none, []⟩] false)
(.cond (.p 0) (.region [⟨.mov, [.v 4], none, none, []⟩,
 ⟨.bslice 1 (.int .u8 0) 1 [0], [.c (.int .u8 45)], none, none, []⟩,
 ⟨.app 1 1, [.p 1, .p 0], none, none, []⟩,
 ⟨.mov, [.p 0], some 4, none, []⟩] false) .skip))
(.seq (.seq (.region [⟨.mov, [.v 4], none, none, []⟩,
 ⟨.len false, [.p 0], none, none, []⟩,
 ⟨.bin .sub, [.p 0, .c (.int .i64 1)], none, none, []⟩,
 ⟨.mov, [.c (.int .i64 0)], some 7, none, []⟩,
 ⟨.mov, [.p 1], some 8, none, []⟩] false)
(.block 4 l_limbs_Text_2))
(.seq (.region [⟨.mov, [.v 4], none, none, []⟩,
 ⟨.bytesToStr, [.p 0], none, none, []⟩,
 ⟨.mov, [.p 0], some 2, none, []⟩] false)
.ret)))))))),
[.v 2]⟩
def l_limbs_Read_0 : RCode := (.loop [true, true, false, true, true, true, true, false, true, true] (.seq (.region [⟨.bin .lss, [.v 9, .v 8], none, none, []⟩] false)
(.seq (.cond (.p 0) .skip (.exit 0))
(.seq (.block 1 (.seq (.region [⟨.mov, [.v 9], none, none, []⟩,
 ⟨.mov, [.p 0], some 7, none, []⟩] false)
(.seq (.seq (.region [⟨.mov, [.v 0], none, none, []⟩,
 ⟨.mov, [.v 7], none, none, []⟩,
 ⟨.idx, [.p 1, .p 0], none, none, []⟩,
 ⟨.bin .lss, [.p 0, .c (.int .u8 48)], none, none, []⟩,
 ⟨.mov, [.p 0], none, none, []⟩,
 ⟨.mov, [.v 0], none, some (0, false), []⟩,
 ⟨.mov, [.v 7], none, some (1, false), []⟩,
 ⟨.idx, [.p 1, .p 0], none, some (2, false), []⟩,
 ⟨.bin .gtr, [.p 0, .c (.int .u8 57)], none, some (3, false), []⟩,
 ⟨.pick, [.p 4, .c (.bool true), .p 0], none, none, []⟩] false)
(.cond (.p 0) (.seq (.region [⟨.build [.bool false, .slc true []] [], [], none, none, []⟩,
 ⟨.store 2, [.v 1, .p 0], none, none, []⟩,
 ⟨.mov, [.c (.int .i64 8)], some 2, none, []⟩] false)
.ret) .skip))
(.seq (.region [⟨.mov, [.v 5], none, none, []⟩,
 ⟨.bin .mul, [.p 0, .c (.int .u32 10)], none, none, []⟩,
 ⟨.mov, [.v 0], none, none, []⟩,
 ⟨.mov, [.v 7], none, none, []⟩,
 ⟨.idx, [.p 1, .p 0], none, none, []⟩,
 ⟨.bin .sub, [.p 0, .c (.int .u8 48)], none, none, []⟩,
 ⟨.conv .u32, [.p 0], none, none, []⟩,
 ⟨.bin .add, [.p 5, .p 0], none, none, []⟩,
 ⟨.mov, [.v 6], none, none, []⟩,
 ⟨.bin .mul, [.p 0, .c (.int .u32 10)], none, none, []⟩,
 ⟨.mov, [.p 2], some 5, none, []⟩,
 ⟨.mov, [.p 1], some 6, none, []⟩] false)
(.seq (.region [⟨.mov, [.v 6], none, none, []⟩,
 ⟨.bin .eql, [.p 0, .c (.int .u32 1000000000)], none, none, []⟩,
 ⟨.mov, [.p 0], none, none, []⟩,
 ⟨.mov, [.v 7], none, some (0, false), []⟩,
 ⟨.mov, [.v 0], none, some (1, false), []⟩,
 ⟨.len true, [.p 0], none, some (2, false), []⟩,
 ⟨.bin .sub, [.p 0, .c (.int .i64 1)], none, some (3, false), []⟩,
 ⟨.bin .eql, [.p 3, .p 0], none, some (4, false), []⟩,
 ⟨.pick, [.p 5, .c (.bool true), .p 0], none, none, []⟩] false)
(.cond (.p 0) (.seq (.region [⟨.mov, [.v 4], none, none, []⟩,
 ⟨.mov, [.v 6], none, none, []⟩,
 ⟨.mov, [.v 5], none, none, []⟩,
 ⟨.call true 100, [.p 2, .p 1, .p 0], none, none, []⟩,
 ⟨.mov, [.p 0], some 4, none, []⟩] false)
(.region [⟨.mov, [.c (.int .u32 0)], some 5, none, []⟩,
 ⟨.mov, [.c (.int .u32 1)], some 6, none, []⟩] false)) .skip))))))
(.region [⟨.bin .add, [.v 9, .c (.int .i64 1)], none, none, []⟩,
 ⟨.mov, [.p 0], some 9, none, []⟩] false)))))
def c_limbs_Read : RFunc := ⟨1, [0, 2, 3, 4, 5, 6, 7, 8, 41, 42],
(.seq (.region [⟨.alloc (.agg [.bool false, .slc true []]), [], some 1, none, []⟩,
 ⟨.mov, [.c (.int .i64 0)], some 2, none, []⟩] false)
(.seq (.seq (.region [⟨.mov, [.v 0], none, none, []⟩,
 ⟨.len true, [.p 0], none, none, []⟩,
 ⟨.bin .gtr, [.p 0, .c (.int .i64 65536)], none, none, []⟩] false)
(.cond (.p 0) (.seq (.region [⟨.build [.bool false, .slc true []] [], [], none, none, []⟩,
 ⟨.store 2, [.v 1, .p 0], none, none, []⟩,
 ⟨.mov, [.c (.int .i64 8)], some 2, none, []⟩] false)
.ret) .skip))
(.seq (.region [⟨.mov, [.v 0], none, none, []⟩,
 ⟨.len true, [.p 0], none, none, []⟩,
 ⟨.bin .gtr, [.p 0, .c (.int .i64 0)], none, none, []⟩,
 ⟨.mov, [.p 0], none, none, []⟩,
 ⟨.mov, [.v 0], none, some (0, true), []⟩,
 ⟨.idx, [.p 0, .c (.int .i64 0)], none, some (1, true), []⟩,
 ⟨.bin .eql, [.p 0, .c (.int .u8 45)], none, some (2, true), []⟩,
 ⟨.pick, [.p 3, .p 0, .c (.bool false)], none, none, []⟩,
 ⟨.mov, [.p 0], some 3, none, []⟩] false)
(.seq (.seq (.region [⟨.mov, [.v 3], none, none, []⟩] false)
(.cond (.p 0) (.region [⟨.mov, [.v 0], none, none, []⟩,
 ⟨.slices true false, [.p 0, .c (.int .i64 1)], none, none, []⟩,
 ⟨.mov, [.p 0], some 0, none, []⟩] false) .skip))
(.seq (.seq (.region [⟨.mov, [.v 0], none, none, []⟩,
 ⟨.bin .eql, [.p 0, .c (.str ByteArray.empty)], none, none, []⟩,
 ⟨.mov, [.p 0], none, none, []⟩,
 ⟨.mov, [.v 0], none, some (0, false), []⟩,
 ⟨.idx, [.p 0, .c (.int .i64 0)], none, some (1, false), []⟩,
 ⟨.bin .eql, [.p 0, .c (.int .u8 48)], none, some (2, false), []⟩,
 ⟨.mov, [.p 0], none, some (3, false), []⟩,
 ⟨.mov, [.v 3], none, some (0, true), []⟩,
 ⟨.mov, [.p 0], none, some (1, true), []⟩,
 ⟨.mov, [.v 0], none, some (0, false), []⟩,
 ⟨.len true, [.p 0], none, some (1, false), []⟩,
 ⟨.bin .gtr, [.p 0, .c (.int .i64 1)], none, some (2, false), []⟩,
 ⟨.pick, [.p 3, .c (.bool true), .p 0], none, some (5, true), []⟩,
 ⟨.pick, [.p 6, .p 0, .c (.bool false)], none, some (10, false), []⟩,
 ⟨.pick, [.p 11, .c (.bool true), .p 0], none, none, []⟩] false)
(.cond (.p 0) (.seq (.region [⟨.build [.bool false, .slc true []] [], [], none, none, []⟩,
 ⟨.store 2, [.v 1, .p 0], none, none, []⟩,
 ⟨.mov, [.c (.int .i64 8)], some 2, none, []⟩] false)
.ret) .skip))
(.seq (.region [⟨.mov, [.c (.slc true [])], some 4, none, []⟩] false)
(.seq (.region [⟨.mov, [.c (.int .u32 0)], some 5, none, []⟩,
 ⟨.mov, [.c (.int .u32 1)], some 6, none, []⟩] false)
(.seq (.seq (.region [⟨.mov, [.v 0], none, none, []⟩,
 ⟨.len true, [.p 0], some 8, none, []⟩,
 ⟨.mov, [.c (.int .i64 0)], some 9, none, []⟩] false)
(.block 0 l_limbs_Read_0))
(.seq (.region [⟨.mov, [.v 3], none, none, []⟩,
 ⟨.mov, [.v 4], none, none, []⟩,
 ⟨.call false 89, [.p 1, .p 0], none, none, []⟩,
 ⟨.store 2, [.v 1, .p 0], none, none, []⟩,
 ⟨.mov, [.c (.int .i64 0)], some 2, none, []⟩] false)
.ret))))))))),
[.cell 1 true 2, .v 2]⟩
def l_limbs_Power_0 : RCode := (.loop [false, true, true, true, false, false, true, true, true] (.seq (.seq (.region [⟨.mov, [.v 8], none, none, []⟩,
 ⟨.bin .geq, [.p 0, .c (.int .i64 0)], none, none, []⟩] false)
(.cond (.p 0) .skip (.exit 1)))
(.seq (.block 2 (.seq (.region [⟨.mov, [.v 6], none, none, []⟩,
 ⟨.mov, [.v 6], none, none, []⟩,
 ⟨.call false 95, [.p 1, .p 0], none, none, []⟩,
 ⟨.mov, [.p 0], some 6, none, []⟩] false)
(.seq (.region [⟨.mov, [.v 1], none, none, []⟩,
 ⟨.mov, [.v 8], none, none, []⟩,
 ⟨.bin .shr, [.p 1, .p 0], none, none, []⟩,
 ⟨.bin .and, [.p 0, .c (.int .i64 1)], none, none, []⟩,
 ⟨.bin .eql, [.p 0, .c (.int .i64 1)], none, none, []⟩] false)
(.cond (.p 0) (.region [⟨.mov, [.v 6], none, none, []⟩,
 ⟨.mov, [.v 7], none, none, []⟩,
 ⟨.call false 95, [.p 1, .p 0], none, none, []⟩,
 ⟨.mov, [.p 0], some 6, none, []⟩] false) .skip))))
(.region [⟨.mov, [.v 8], none, none, []⟩,
 ⟨.bin .sub, [.p 0, .c (.int .i64 1)], none, none, []⟩,
 ⟨.mov, [.p 0], some 8, none, []⟩] false))))
def c_limbs_Power : RFunc := ⟨2, [0, 1, 2, 4, 5, 6, 7, 8, 9, 15],
(.seq (.region [⟨.box, [.v 0], some 2, none, []⟩,
 ⟨.alloc (.agg [.bool false, .slc true []]), [], some 3, none, []⟩,
 ⟨.mov, [.c (.int .i64 0)], some 4, none, []⟩] false)
(.seq (.seq (.region [⟨.mov, [.v 1], none, none, []⟩,
 ⟨.bin .lss, [.p 0, .c (.int .i64 0)], none, none, []⟩] false)
(.cond (.p 0) (.seq (.region [⟨.build [.bool false, .slc true []] [], [], none, none, []⟩,
 ⟨.store 2, [.v 3, .p 0], none, none, []⟩,
 ⟨.mov, [.c (.int .i64 1)], some 4, none, []⟩] false)
.ret) .skip))
(.seq (.region [⟨.load true 2, [.v 2], none, none, []⟩,
 ⟨.call false 53, [.p 0], none, none, []⟩,
 ⟨.mov, [.p 0], some 5, none, []⟩] false)
(.seq (.block 0 (.seq (.seq (.region [⟨.mov, [.v 5], none, none, []⟩,
 ⟨.bin .eql, [.p 0, .c (.int .i64 1)], none, none, []⟩,
 ⟨.mov, [.p 0], none, none, []⟩,
 ⟨.load true 2, [.v 2], none, some (0, true), []⟩,
 ⟨.call false 86, [.p 0], none, some (1, true), []⟩,
 ⟨.pick, [.p 2, .p 0, .c (.bool false)], none, none, []⟩,
 ⟨.mov, [.p 0], none, none, []⟩,
 ⟨.mov, [.v 1], none, some (0, true), []⟩,
 ⟨.bin .rem, [.p 0, .c (.int .i64 2)], none, some (1, true), []⟩,
 ⟨.bin .eql, [.p 0, .c (.int .i64 0)], none, some (2, true), []⟩,
 ⟨.pick, [.p 3, .p 0, .c (.bool false)], none, none, []⟩,
 ⟨.mov, [.p 0], some 9, none, []⟩] false)
(.cond (.v 9) .skip (.region [⟨.mov, [.v 1], none, none, []⟩,
 ⟨.bin .eql, [.p 0, .c (.int .i64 0)], none, none, []⟩,
 ⟨.mov, [.p 0], some 9, none, []⟩] false)))
(.cond (.v 9) (.seq (.region [⟨.call false 32, [.c (.int .i64 1)], none, none, []⟩,
 ⟨.store 2, [.v 3, .p 0], none, none, []⟩,
 ⟨.mov, [.c (.int .i64 0)], some 4, none, []⟩] false)
.ret) (.seq (.region [⟨.mov, [.v 5], none, none, []⟩,
 ⟨.bin .leq, [.p 0, .c (.int .i64 1)], none, none, []⟩,
 ⟨.mov, [.p 0], none, none, []⟩] false)
(.cond (.p 0) (.seq (.region [⟨.load true 2, [.v 2], none, none, []⟩,
 ⟨.call false 86, [.p 0], none, none, []⟩,
 ⟨.load true 2, [.v 2], none, none, []⟩,
 ⟨.call false 84, [.p 0], none, none, []⟩,
 ⟨.call false 89, [.p 2, .p 0], none, none, []⟩,
 ⟨.store 2, [.v 3, .p 0], none, none, []⟩,
 ⟨.mov, [.c (.int .i64 0)], some 4, none, []⟩] true)
.ret) (.seq (.region [⟨.mov, [.v 1], none, none, []⟩,
 ⟨.mov, [.v 5], none, none, []⟩,
 ⟨.bin .quo, [.c (.int .i64 1048576), .p 0], none, none, []⟩,
 ⟨.bin .gtr, [.p 2, .p 0], none, none, []⟩,
 ⟨.mov, [.p 0], none, none, []⟩] false)
(.cond (.p 0) (.seq (.region [⟨.build [.bool false, .slc true []] [], [], none, none, []⟩,
 ⟨.store 2, [.v 3, .p 0], none, none, []⟩,
 ⟨.mov, [.c (.int .i64 4)], some 4, none, []⟩] false)
.ret) .skip)))))))
(.seq (.region [⟨.bslice 1 (.int .u32 0) 1 [0], [.c (.int .u32 1)], none, none, []⟩,
 ⟨.load true 2, [.v 2], none, none, []⟩,
 ⟨.call false 84, [.p 0], none, none, []⟩,
 ⟨.mov, [.p 2], some 6, none, []⟩,
 ⟨.mov, [.p 1], some 7, none, []⟩] false)
(.seq (.seq (.region [⟨.mov, [.v 1], none, none, []⟩,
 ⟨.conv .u64, [.p 0], none, none, []⟩,
 ⟨.call false 102, [.p 0], none, none, []⟩,
 ⟨.bin .sub, [.p 0, .c (.int .i64 1)], none, none, []⟩,
 ⟨.mov, [.p 0], some 8, none, []⟩] false)
(.block 1 l_limbs_Power_0))
(.seq (.region [⟨.load true 2, [.v 2], none, none, []⟩,
 ⟨.call false 86, [.p 0], none, none, []⟩,
 ⟨.mov, [.p 0], none, none, []⟩,
 ⟨.mov, [.v 1], none, some (0, true), []⟩,
 ⟨.bin .rem, [.p 0, .c (.int .i64 2)], none, some (1, true), []⟩,
 ⟨.bin .eql, [.p 0, .c (.int .i64 1)], none, some (2, true), []⟩,
 ⟨.pick, [.p 3, .p 0, .c (.bool false)], none, none, []⟩,
 ⟨.mov, [.v 6], none, none, []⟩,
 ⟨.call false 89, [.p 1, .p 0], none, none, []⟩,
 ⟨.store 2, [.v 3, .p 0], none, none, []⟩,
 ⟨.mov, [.c (.int .i64 0)], some 4, none, []⟩] false)
.ret))))))),
[.cell 3 true 2, .v 4]⟩
def c_limbs_mag : RFunc := ⟨1, [0, 1, 2],
(.seq (.region [⟨.box, [.v 0], some 1, none, []⟩,
 ⟨.mov, [.c (.slc true [])], some 2, none, []⟩] false)
(.seq (.region [⟨.faddr 1, [.v 1], none, none, []⟩,
 ⟨.load false 1, [.p 0], none, none, []⟩,
 ⟨.call false 107, [.p 0], none, none, []⟩,
 ⟨.mov, [.p 0], some 2, none, []⟩] false)
.ret)),
[.v 2]⟩
def l_limbs_divide_0 : RCode := (.loop [false, false, false, false, false, false, true, true, true, true, true, true] (.seq (.seq (.region [⟨.mov, [.v 11], none, none, []⟩,
 ⟨.bin .geq, [.p 0, .c (.int .i64 0)], none, none, []⟩] false)
(.cond (.p 0) .skip (.exit 0)))
(.seq (.block 1 (.seq (.region [⟨.mov, [.v 8], none, none, []⟩,
 ⟨.mov, [.v 11], none, none, []⟩,
 ⟨.mov, [.v 7], none, none, []⟩,
 ⟨.bin .add, [.p 1, .p 0], none, none, []⟩,
 ⟨.iaddr 1, [.p 3, .p 0], none, none, []⟩,
 ⟨.load false 1, [.p 0], none, none, []⟩,
 ⟨.mov, [.v 8], none, none, []⟩,
 ⟨.mov, [.v 11], none, none, []⟩,
 ⟨.mov, [.v 7], none, none, []⟩,
 ⟨.bin .add, [.p 1, .p 0], none, none, []⟩,
 ⟨.bin .sub, [.p 0, .c (.int .i64 1)], none, none, []⟩,
 ⟨.iaddr 1, [.p 4, .p 0], none, none, []⟩,
 ⟨.load false 1, [.p 0], none, none, []⟩,
 ⟨.mov, [.v 8], none, none, []⟩,
 ⟨.mov, [.v 11], none, none, []⟩,
 ⟨.mov, [.v 7], none, none, []⟩,
 ⟨.bin .add, [.p 1, .p 0], none, none, []⟩,
 ⟨.bin .sub, [.p 0, .c (.int .i64 2)], none, none, []⟩,
 ⟨.iaddr 1, [.p 4, .p 0], none, none, []⟩,
 ⟨.load false 1, [.p 0], none, none, []⟩,
 ⟨.mov, [.v 9], none, none, []⟩,
 ⟨.mov, [.v 7], none, none, []⟩,
 ⟨.bin .sub, [.p 0, .c (.int .i64 1)], none, none, []⟩,
 ⟨.iaddr 1, [.p 2, .p 0], none, none, []⟩,
 ⟨.load false 1, [.p 0], none, none, []⟩,
 ⟨.mov, [.v 9], none, none, []⟩,
 ⟨.mov, [.v 7], none, none, []⟩,
 ⟨.bin .sub, [.p 0, .c (.int .i64 2)], none, none, []⟩,
 ⟨.iaddr 1, [.p 2, .p 0], none, none, []⟩,
 ⟨.load false 1, [.p 0], none, none, []⟩,
 ⟨.call false 110, [.p 24, .p 17, .p 10, .p 5, .p 0], none, none, []⟩,
 ⟨.mov, [.p 0], some 12, none, []⟩] true)
(.seq (.region [⟨.mov, [.v 8], none, none, []⟩,
 ⟨.mov, [.v 11], none, none, []⟩,
 ⟨.mov, [.v 11], none, none, []⟩,
 ⟨.mov, [.v 7], none, none, []⟩,
 ⟨.bin .add, [.p 1, .p 0], none, none, []⟩,
 ⟨.bin .add, [.p 0, .c (.int .i64 1)], none, none, []⟩,
 ⟨.slice 1 true true false, [.p 5, .p 4, .p 0], none, none, []⟩,
 ⟨.mov, [.p 0], some 13, none, []⟩] false)
(.seq (.seq (.region [⟨.mov, [.v 13], none, none, []⟩,
 ⟨.mov, [.v 9], none, none, []⟩,
 ⟨.mov, [.v 12], none, none, []⟩,
 ⟨.call true 111, [.p 2, .p 1, .p 0], none, none, []⟩] false)
(.cond (.p 0) (.seq (.region [⟨.mov, [.v 12], none, none, []⟩,
 ⟨.bin .sub, [.p 0, .c (.int .u64 1)], none, none, []⟩,
 ⟨.mov, [.p 0], some 12, none, []⟩] false)
(.region [⟨.mov, [.v 13], none, none, []⟩,
 ⟨.mov, [.v 9], none, none, []⟩,
 ⟨.call true 112, [.p 1, .p 0], none, none, []⟩] false)) .skip))
(.region [⟨.mov, [.v 10], none, none, []⟩,
 ⟨.mov, [.v 11], none, none, []⟩,
 ⟨.mov, [.v 12], none, none, []⟩,
 ⟨.conv .u32, [.p 0], none, none, []⟩,
 ⟨.iaddr 1, [.p 3, .p 2], none, none, []⟩,
 ⟨.store 1, [.p 0, .p 1], none, none, []⟩] false)))))
(.region [⟨.mov, [.v 11], none, none, []⟩,
 ⟨.bin .sub, [.p 0, .c (.int .i64 1)], none, none, []⟩,
 ⟨.mov, [.p 0], some 11, none, []⟩] false))))
def c_limbs_divide : RFunc := ⟨2, [0, 1, 4, 5, 6, 7, 8, 9, 10, 11, 12, 13, 14, 15],
(.seq (.region [⟨.mov, [.c (.slc true [])], some 2, none, []⟩,
 ⟨.mov, [.c (.slc true [])], some 3, none, []⟩] false)
(.seq (.seq (.region [⟨.mov, [.v 0], none, none, []⟩,
 ⟨.mov, [.v 1], none, none, []⟩,
 ⟨.call false 98, [.p 1, .p 0], none, none, []⟩,
 ⟨.bin .lss, [.p 0, .c (.int .i64 0)], none, none, []⟩] false)
(.cond (.p 0) (.seq (.region [⟨.mov, [.v 0], none, none, []⟩,
 ⟨.mov, [.c (.slc true [])], some 2, none, []⟩,
 ⟨.mov, [.p 1], some 3, none, []⟩] false)
.ret) .skip))
(.seq (.seq (.region [⟨.mov, [.v 1], none, none, []⟩,
 ⟨.len false, [.p 0], none, none, []⟩,
 ⟨.bin .eql, [.p 0, .c (.int .i64 1)], none, none, []⟩] false)
(.cond (.p 0) (.seq (.region [⟨.mov, [.v 0], none, none, []⟩,
 ⟨.mov, [.v 1], none, none, []⟩,
 ⟨.iaddr 1, [.p 0, .c (.int .i64 0)], none, none, []⟩,
 ⟨.load false 1, [.p 0], none, none, []⟩,
 ⟨.call false 96, [.p 3, .p 0], none, none, []⟩,
 ⟨.mov, [.p 0], none, none, []⟩,
 ⟨.extract 0, [.p 0], none, none, []⟩,
 ⟨.extract 1, [.p 1], none, none, []⟩,
 ⟨.mov, [.p 1], some 4, none, []⟩,
 ⟨.mov, [.p 1], some 5, none, []⟩] false)
(.seq (.region [⟨.mov, [.v 4], none, none, []⟩,
 ⟨.mov, [.v 5], none, none, []⟩,
 ⟨.bslice 1 (.int .u32 0) 1 [0], [.p 0], none, none, []⟩,
 ⟨.call true 107, [.p 0], none, none, []⟩,
 ⟨.mov, [.p 3], some 2, none, []⟩,
 ⟨.mov, [.p 1], some 3, none, []⟩] false)
.ret)) .skip))
(.seq (.region [⟨.mov, [.v 1], none, none, []⟩,
 ⟨.mov, [.v 1], none, none, []⟩,
 ⟨.len false, [.p 0], none, none, []⟩,
 ⟨.bin .sub, [.p 0, .c (.int .i64 1)], none, none, []⟩,
 ⟨.iaddr 1, [.p 3, .p 0], none, none, []⟩,
 ⟨.load false 1, [.p 0], none, none, []⟩,
 ⟨.call false 108, [.p 0], none, none, []⟩,
 ⟨.mov, [.p 0], some 6, none, []⟩] false)
(.seq (.region [⟨.mov, [.v 1], none, none, []⟩,
 ⟨.len false, [.p 0], none, none, []⟩,
 ⟨.mov, [.p 0], some 7, none, []⟩] false)
(.seq (.region [⟨.mov, [.v 0], none, none, []⟩,
 ⟨.mov, [.v 6], none, none, []⟩,
 ⟨.call true 109, [.p 1, .p 0], none, none, []⟩,
 ⟨.mov, [.v 1], none, none, []⟩,
 ⟨.mov, [.v 6], none, none, []⟩,
 ⟨.call true 109, [.p 1, .p 0], none, none, []⟩,
 ⟨.call true 107, [.p 0], none, none, []⟩,
 ⟨.mov, [.p 4], some 8, none, []⟩,
 ⟨.mov, [.p 1], some 9, none, []⟩] false)
(.seq (.region [⟨.mov, [.v 8], none, none, []⟩,
 ⟨.len false, [.p 0], none, none, []⟩,
 ⟨.mov, [.v 7], none, none, []⟩,
 ⟨.bin .sub, [.p 1, .p 0], none, none, []⟩,
 ⟨.mkslice 1 (.int .u32 0) 4, [.p 0, .p 0], none, none, []⟩,
 ⟨.mov, [.p 0], some 10, none, []⟩] false)
(.seq (.seq (.region [⟨.mov, [.v 8], none, none, []⟩,
 ⟨.len false, [.p 0], none, none, []⟩,
 ⟨.mov, [.v 7], none, none, []⟩,
 ⟨.bin .sub, [.p 1, .p 0], none, none, []⟩,
 ⟨.bin .sub, [.p 0, .c (.int .i64 1)], none, none, []⟩,
 ⟨.mov, [.p 0], some 11, none, []⟩] false)
(.block 0 l_limbs_divide_0))
(.seq (.region [⟨.mov, [.v 10], none, none, []⟩,
 ⟨.call true 107, [.p 0], none, none, []⟩,
 ⟨.mov, [.v 8], none, none, []⟩,
 ⟨.call true 107, [.p 0], none, none, []⟩,
 ⟨.mov, [.v 6], none, none, []⟩,
 ⟨.call false 113, [.p 1, .p 0], none, none, []⟩,
 ⟨.mov, [.p 4], some 2, none, []⟩,
 ⟨.mov, [.p 1], some 3, none, []⟩] false)
.ret))))))))),
[.v 2, .v 3]⟩
def c_limbs_neg : RFunc := ⟨1, [0, 1, 2],
(.seq (.region [⟨.box, [.v 0], some 1, none, []⟩,
 ⟨.mov, [.c (.bool false)], some 2, none, []⟩] false)
(.seq (.region [⟨.faddr 0, [.v 1], none, none, []⟩,
 ⟨.load false 1, [.p 0], none, none, []⟩,
 ⟨.mov, [.p 0], none, none, []⟩,
 ⟨.load true 2, [.v 1], none, some (0, true), []⟩,
 ⟨.call false 84, [.p 0], none, some (1, true), []⟩,
 ⟨.len false, [.p 0], none, some (2, true), []⟩,
 ⟨.bin .gtr, [.p 0, .c (.int .i64 0)], none, some (3, true), []⟩,
 ⟨.pick, [.p 4, .p 0, .c (.bool false)], none, none, []⟩,
 ⟨.mov, [.p 0], some 2, none, []⟩] false)
.ret)),
[.v 2]⟩
def l_limbs_plus_0 : RCode := (.loop [true, true, false, true, true, false, true, true] (.seq (.region [⟨.bin .lss, [.v 7, .v 6], none, none, []⟩] false)
(.seq (.cond (.p 0) .skip (.exit 0))
(.seq (.block 1 (.seq (.region [⟨.mov, [.v 7], none, none, []⟩,
 ⟨.mov, [.p 0], some 5, none, []⟩] false)
(.seq (.region [⟨.mov, [.v 4], none, none, []⟩,
 ⟨.mov, [.v 0], none, none, []⟩,
 ⟨.mov, [.v 5], none, none, []⟩,
 ⟨.iaddr 1, [.p 1, .p 0], none, none, []⟩,
 ⟨.load false 1, [.p 0], none, none, []⟩,
 ⟨.conv .u64, [.p 0], none, none, []⟩,
 ⟨.bin .add, [.p 5, .p 0], none, none, []⟩,
 ⟨.mov, [.p 0], some 4, none, []⟩] false)
(.seq (.seq (.region [⟨.mov, [.v 5], none, none, []⟩,
 ⟨.mov, [.v 1], none, none, []⟩,
 ⟨.len false, [.p 0], none, none, []⟩,
 ⟨.bin .lss, [.p 2, .p 0], none, none, []⟩] false)
(.cond (.p 0) (.region [⟨.mov, [.v 4], none, none, []⟩,
 ⟨.mov, [.v 1], none, none, []⟩,
 ⟨.mov, [.v 5], none, none, []⟩,
 ⟨.iaddr 1, [.p 1, .p 0], none, none, []⟩,
 ⟨.load false 1, [.p 0], none, none, []⟩,
 ⟨.conv .u64, [.p 0], none, none, []⟩,
 ⟨.bin .add, [.p 5, .p 0], none, none, []⟩,
 ⟨.mov, [.p 0], some 4, none, []⟩] false) .skip))
(.seq (.region [⟨.mov, [.v 3], none, none, []⟩,
 ⟨.mov, [.v 5], none, none, []⟩,
 ⟨.mov, [.v 4], none, none, []⟩,
 ⟨.conv .u32, [.p 0], none, none, []⟩,
 ⟨.iaddr 1, [.p 3, .p 2], none, none, []⟩,
 ⟨.store 1, [.p 0, .p 1], none, none, []⟩] false)
(.region [⟨.mov, [.v 4], none, none, []⟩,
 ⟨.bin .shr, [.p 0, .c (.int .u64 32)], none, none, []⟩,
 ⟨.mov, [.p 0], some 4, none, []⟩] false))))))
(.region [⟨.bin .add, [.v 7, .c (.int .i64 1)], none, none, []⟩,
 ⟨.mov, [.p 0], some 7, none, []⟩] false)))))
def c_limbs_plus : RFunc := ⟨2, [0, 1, 4, 5, 6, 7, 20, 21],
(.seq (.region [⟨.mov, [.c (.slc true [])], some 2, none, []⟩] false)
(.seq (.seq (.region [⟨.mov, [.v 0], none, none, []⟩,
 ⟨.len false, [.p 0], none, none, []⟩,
 ⟨.mov, [.v 1], none, none, []⟩,
 ⟨.len false, [.p 0], none, none, []⟩,
 ⟨.bin .lss, [.p 2, .p 0], none, none, []⟩] false)
(.cond (.p 0) (.region [⟨.mov, [.v 1], none, none, []⟩,
 ⟨.mov, [.v 0], none, none, []⟩,
 ⟨.mov, [.p 1], some 0, none, []⟩,
 ⟨.mov, [.p 1], some 1, none, []⟩] false) .skip))
(.seq (.region [⟨.mov, [.v 0], none, none, []⟩,
 ⟨.len false, [.p 0], none, none, []⟩,
 ⟨.bin .add, [.p 0, .c (.int .i64 1)], none, none, []⟩,
 ⟨.mkslice 1 (.int .u32 0) 4, [.p 0, .p 0], none, none, []⟩,
 ⟨.mov, [.p 0], some 3, none, []⟩] false)
(.seq (.region [⟨.mov, [.c (.int .u64 0)], some 4, none, []⟩] false)
(.seq (.seq (.region [⟨.mov, [.v 0], none, none, []⟩,
 ⟨.len false, [.p 0], some 6, none, []⟩,
 ⟨.mov, [.c (.int .i64 0)], some 7, none, []⟩] false)
(.block 0 l_limbs_plus_0))
(.seq (.region [⟨.mov, [.v 3], none, none, []⟩,
 ⟨.mov, [.v 0], none, none, []⟩,
 ⟨.len false, [.p 0], none, none, []⟩,
 ⟨.mov, [.v 4], none, none, []⟩,
 ⟨.conv .u32, [.p 0], none, none, []⟩,
 ⟨.iaddr 1, [.p 4, .p 2], none, none, []⟩,
 ⟨.store 1, [.p 0, .p 1], none, none, []⟩] false)
(.seq (.region [⟨.mov, [.v 3], none, none, []⟩,
 ⟨.call false 107, [.p 0], none, none, []⟩,
 ⟨.mov, [.p 0], some 2, none, []⟩] false)
.ret))))))),
[.v 2]⟩
def l_limbs_minus_0 : RCode := (.loop [true, true, false, true, true, false, false, true, true] (.seq (.region [⟨.bin .lss, [.v 8, .v 7], none, none, []⟩] false)
(.seq (.cond (.p 0) .skip (.exit 0))
(.seq (.block 1 (.seq (.region [⟨.mov, [.v 8], none, none, []⟩,
 ⟨.mov, [.p 0], some 5, none, []⟩] false)
(.seq (.region [⟨.mov, [.v 0], none, none, []⟩,
 ⟨.mov, [.v 5], none, none, []⟩,
 ⟨.iaddr 1, [.p 1, .p 0], none, none, []⟩,
 ⟨.load false 1, [.p 0], none, none, []⟩,
 ⟨.conv .u64, [.p 0], none, none, []⟩,
 ⟨.mov, [.v 4], none, none, []⟩,
 ⟨.bin .sub, [.p 1, .p 0], none, none, []⟩,
 ⟨.mov, [.p 0], some 6, none, []⟩] false)
(.seq (.seq (.region [⟨.mov, [.v 5], none, none, []⟩,
 ⟨.mov, [.v 1], none, none, []⟩,
 ⟨.len false, [.p 0], none, none, []⟩,
 ⟨.bin .lss, [.p 2, .p 0], none, none, []⟩] false)
(.cond (.p 0) (.region [⟨.mov, [.v 6], none, none, []⟩,
 ⟨.mov, [.v 1], none, none, []⟩,
 ⟨.mov, [.v 5], none, none, []⟩,
 ⟨.iaddr 1, [.p 1, .p 0], none, none, []⟩,
 ⟨.load false 1, [.p 0], none, none, []⟩,
 ⟨.conv .u64, [.p 0], none, none, []⟩,
 ⟨.bin .sub, [.p 5, .p 0], none, none, []⟩,
 ⟨.mov, [.p 0], some 6, none, []⟩] false) .skip))
(.seq (.region [⟨.mov, [.v 3], none, none, []⟩,
 ⟨.mov, [.v 5], none, none, []⟩,
 ⟨.mov, [.v 6], none, none, []⟩,
 ⟨.conv .u32, [.p 0], none, none, []⟩,
 ⟨.iaddr 1, [.p 3, .p 2], none, none, []⟩,
 ⟨.store 1, [.p 0, .p 1], none, none, []⟩] false)
(.region [⟨.mov, [.v 6], none, none, []⟩,
 ⟨.bin .shr, [.p 0, .c (.int .u64 63)], none, none, []⟩,
 ⟨.mov, [.p 0], some 4, none, []⟩] false))))))
(.region [⟨.bin .add, [.v 8, .c (.int .i64 1)], none, none, []⟩,
 ⟨.mov, [.p 0], some 8, none, []⟩] false)))))
def c_limbs_minus : RFunc := ⟨2, [0, 1, 4, 5, 6, 7, 8, 13, 14],
(.seq (.region [⟨.mov, [.c (.slc true [])], some 2, none, []⟩] false)
(.seq (.region [⟨.mov, [.v 0], none, none, []⟩,
 ⟨.len false, [.p 0], none, none, []⟩,
 ⟨.mkslice 1 (.int .u32 0) 4, [.p 0, .p 0], none, none, []⟩,
 ⟨.mov, [.p 0], some 3, none, []⟩] false)
(.seq (.region [⟨.mov, [.c (.int .u64 0)], some 4, none, []⟩] false)
(.seq (.seq (.region [⟨.mov, [.v 0], none, none, []⟩,
 ⟨.len false, [.p 0], some 7, none, []⟩,
 ⟨.mov, [.c (.int .i64 0)], some 8, none, []⟩] false)
(.block 0 l_limbs_minus_0))
(.seq (.region [⟨.mov, [.v 3], none, none, []⟩,
 ⟨.call false 107, [.p 0], none, none, []⟩,
 ⟨.mov, [.p 0], some 2, none, []⟩] false)
.ret))))),
[.v 2]⟩
def c_limbs_made : RFunc := ⟨2, [0, 1, 4],
(.seq (.region [⟨.alloc (.agg [.bool false, .slc true []]), [], some 2, none, []⟩] false)
(.seq (.region [⟨.mov, [.v 1], none, none, []⟩,
 ⟨.call false 107, [.p 0], none, none, []⟩,
 ⟨.mov, [.p 0], some 1, none, []⟩] false)
(.seq (.seq (.region [⟨.mov, [.v 1], none, none, []⟩,
 ⟨.len false, [.p 0], none, none, []⟩,
 ⟨.bin .eql, [.p 0, .c (.int .i64 0)], none, none, []⟩] false)
(.cond (.p 0) (.seq (.region [⟨.build [.bool false, .slc true []] [], [], none, none, []⟩,
 ⟨.store 2, [.v 2, .p 0], none, none, []⟩] false)
.ret) .skip))
(.seq (.region [⟨.mov, [.v 0], none, none, []⟩,
 ⟨.mov, [.v 1], none, none, []⟩,
 ⟨.app 4 1, [.c (.slc true []), .p 0], none, none, []⟩,
 ⟨.build [.bool false, .slc true []] [(0, 1), (1, 1)], [.p 2, .p 0], none, none, []⟩,
 ⟨.store 2, [.v 2, .p 0], none, none, []⟩] false)
.ret)))),
[.cell 2 true 2]⟩
def c_limbs_times : RFunc := ⟨2, [0, 1, 4, 5, 6, 7, 8, 9, 10, 11, 12],
(.seq (.region [⟨.mov, [.c (.slc true [])], some 2, none, []⟩] false)
(.seq (.seq (.region [⟨.mov, [.v 0], none, none, []⟩,
 ⟨.len false, [.p 0], none, none, []⟩,
 ⟨.mov, [.v 1], none, none, []⟩,
 ⟨.len false, [.p 0], none, none, []⟩,
 ⟨.bin .lss, [.p 2, .p 0], none, none, []⟩] false)
(.cond (.p 0) (.region [⟨.mov, [.v 1], none, none, []⟩,
 ⟨.mov, [.v 0], none, none, []⟩,
 ⟨.mov, [.p 1], some 0, none, []⟩,
 ⟨.mov, [.p 1], some 1, none, []⟩] false) .skip))
(.seq (.seq (.region [⟨.mov, [.v 1], none, none, []⟩,
 ⟨.len false, [.p 0], none, none, []⟩,
 ⟨.bin .lss, [.p 0, .c (.int .i64 40)], none, none, []⟩] false)
(.cond (.p 0) (.seq (.region [⟨.mov, [.v 0], none, none, []⟩,
 ⟨.mov, [.v 1], none, none, []⟩,
 ⟨.call false 115, [.p 1, .p 0], none, none, []⟩,
 ⟨.mov, [.p 0], some 2, none, []⟩] false)
.ret) .skip))
(.seq (.region [⟨.mov, [.v 0], none, none, []⟩,
 ⟨.len false, [.p 0], none, none, []⟩,
 ⟨.bin .add, [.p 0, .c (.int .i64 1)], none, none, []⟩,
 ⟨.bin .quo, [.p 0, .c (.int .i64 2)], none, none, []⟩,
 ⟨.mov, [.p 0], some 3, none, []⟩] false)
(.seq (.region [⟨.mov, [.v 0], none, none, []⟩,
 ⟨.mov, [.v 3], none, none, []⟩,
 ⟨.slice 1 false true false, [.p 1, .p 0], none, none, []⟩,
 ⟨.call false 107, [.p 0], none, none, []⟩,
 ⟨.mov, [.v 0], none, none, []⟩,
 ⟨.mov, [.v 3], none, none, []⟩,
 ⟨.slice 1 true false false, [.p 1, .p 0], none, none, []⟩,
 ⟨.mov, [.p 3], some 4, none, []⟩,
 ⟨.mov, [.p 1], some 5, none, []⟩] true)
(.seq (.seq (.region [⟨.mov, [.v 1], none, none, []⟩,
 ⟨.len false, [.p 0], none, none, []⟩,
 ⟨.mov, [.v 3], none, none, []⟩,
 ⟨.bin .leq, [.p 1, .p 0], none, none, []⟩] false)
(.cond (.p 0) (.seq (.region [⟨.mov, [.v 4], none, none, []⟩,
 ⟨.mov, [.v 1], none, none, []⟩,
 ⟨.call false 95, [.p 1, .p 0], none, none, []⟩,
 ⟨.mov, [.v 5], none, none, []⟩,
 ⟨.mov, [.v 1], none, none, []⟩,
 ⟨.call false 95, [.p 1, .p 0], none, none, []⟩,
 ⟨.mov, [.v 3], none, none, []⟩,
 ⟨.call false 116, [.p 1, .p 0], none, none, []⟩,
 ⟨.call false 87, [.p 5, .p 0], none, none, []⟩,
 ⟨.mov, [.p 0], some 2, none, []⟩] false)
.ret) .skip))
(.seq (.region [⟨.mov, [.v 1], none, none, []⟩,
 ⟨.mov, [.v 3], none, none, []⟩,
 ⟨.slice 1 false true false, [.p 1, .p 0], none, none, []⟩,
 ⟨.call false 107, [.p 0], none, none, []⟩,
 ⟨.mov, [.v 1], none, none, []⟩,
 ⟨.mov, [.v 3], none, none, []⟩,
 ⟨.slice 1 true false false, [.p 1, .p 0], none, none, []⟩,
 ⟨.mov, [.p 3], some 6, none, []⟩,
 ⟨.mov, [.p 1], some 7, none, []⟩] true)
(.seq (.region [⟨.mov, [.v 4], none, none, []⟩,
 ⟨.mov, [.v 6], none, none, []⟩,
 ⟨.call false 95, [.p 1, .p 0], none, none, []⟩,
 ⟨.mov, [.v 5], none, none, []⟩,
 ⟨.mov, [.v 7], none, none, []⟩,
 ⟨.call false 95, [.p 1, .p 0], none, none, []⟩,
 ⟨.mov, [.p 3], some 8, none, []⟩,
 ⟨.mov, [.p 1], some 9, none, []⟩] false)
(.seq (.region [⟨.mov, [.v 4], none, none, []⟩,
 ⟨.mov, [.v 5], none, none, []⟩,
 ⟨.call false 87, [.p 1, .p 0], none, none, []⟩,
 ⟨.mov, [.v 6], none, none, []⟩,
 ⟨.mov, [.v 7], none, none, []⟩,
 ⟨.call false 87, [.p 1, .p 0], none, none, []⟩,
 ⟨.call false 95, [.p 3, .p 0], none, none, []⟩,
 ⟨.mov, [.v 8], none, none, []⟩,
 ⟨.call false 88, [.p 1, .p 0], none, none, []⟩,
 ⟨.mov, [.v 9], none, none, []⟩,
 ⟨.call false 88, [.p 1, .p 0], none, none, []⟩,
 ⟨.mov, [.p 0], some 10, none, []⟩] false)
(.seq (.region [⟨.mov, [.v 8], none, none, []⟩,
 ⟨.mov, [.v 10], none, none, []⟩,
 ⟨.mov, [.v 3], none, none, []⟩,
 ⟨.call false 116, [.p 1, .p 0], none, none, []⟩,
 ⟨.call false 87, [.p 3, .p 0], none, none, []⟩,
 ⟨.mov, [.v 9], none, none, []⟩,
 ⟨.mov, [.v 3], none, none, []⟩,
 ⟨.bin .mul, [.c (.int .i64 2), .p 0], none, none, []⟩,
 ⟨.call false 116, [.p 2, .p 0], none, none, []⟩,
 ⟨.call false 87, [.p 4, .p 0], none, none, []⟩,
 ⟨.mov, [.p 0], some 2, none, []⟩] false)
.ret)))))))))),
[.v 2]⟩
def l_limbs_small_0 : RCode := (.loop [true, true, false, false, true, true, true] (.seq (.seq (.region [⟨.mov, [.v 6], none, none, []⟩,
 ⟨.bin .geq, [.p 0, .c (.int .i64 0)], none, none, []⟩] false)
(.cond (.p 0) .skip (.exit 0)))
(.seq (.block 1 (.seq (.region [⟨.mov, [.v 5], none, none, []⟩,
 ⟨.bin .shl, [.p 0, .c (.int .u64 32)], none, none, []⟩,
 ⟨.mov, [.v 0], none, none, []⟩,
 ⟨.mov, [.v 6], none, none, []⟩,
 ⟨.iaddr 1, [.p 1, .p 0], none, none, []⟩,
 ⟨.load false 1, [.p 0], none, none, []⟩,
 ⟨.conv .u64, [.p 0], none, none, []⟩,
 ⟨.bin .or, [.p 5, .p 0], none, none, []⟩,
 ⟨.mov, [.p 0], some 5, none, []⟩] false)
(.seq (.region [⟨.mov, [.v 4], none, none, []⟩,
 ⟨.mov, [.v 6], none, none, []⟩,
 ⟨.mov, [.v 5], none, none, []⟩,
 ⟨.mov, [.v 1], none, none, []⟩,
 ⟨.conv .u64, [.p 0], none, none, []⟩,
 ⟨.bin .quo, [.p 2, .p 0], none, none, []⟩,
 ⟨.conv .u32, [.p 0], none, none, []⟩,
 ⟨.iaddr 1, [.p 6, .p 5], none, none, []⟩,
 ⟨.store 1, [.p 0, .p 1], none, none, []⟩] false)
(.region [⟨.mov, [.v 5], none, none, []⟩,
 ⟨.mov, [.v 1], none, none, []⟩,
 ⟨.conv .u64, [.p 0], none, none, []⟩,
 ⟨.bin .rem, [.p 2, .p 0], none, none, []⟩,
 ⟨.mov, [.p 0], some 5, none, []⟩] false))))
(.region [⟨.mov, [.v 6], none, none, []⟩,
 ⟨.bin .sub, [.p 0, .c (.int .i64 1)], none, none, []⟩,
 ⟨.mov, [.p 0], some 6, none, []⟩] false))))
def c_limbs_small : RFunc := ⟨2, [0, 1, 4, 5, 6, 7, 8],
(.seq (.region [⟨.mov, [.c (.slc true [])], some 2, none, []⟩,
 ⟨.mov, [.c (.int .u32 0)], some 3, none, []⟩] false)
(.seq (.region [⟨.mov, [.v 0], none, none, []⟩,
 ⟨.len false, [.p 0], none, none, []⟩,
 ⟨.mkslice 1 (.int .u32 0) 4, [.p 0, .p 0], none, none, []⟩,
 ⟨.mov, [.p 0], some 4, none, []⟩] false)
(.seq (.region [⟨.mov, [.c (.int .u64 0)], some 5, none, []⟩] false)
(.seq (.seq (.region [⟨.mov, [.v 0], none, none, []⟩,
 ⟨.len false, [.p 0], none, none, []⟩,
 ⟨.bin .sub, [.p 0, .c (.int .i64 1)], none, none, []⟩,
 ⟨.mov, [.p 0], some 6, none, []⟩] false)
(.block 0 l_limbs_small_0))
(.seq (.region [⟨.mov, [.v 4], none, none, []⟩,
 ⟨.call false 107, [.p 0], none, none, []⟩,
 ⟨.mov, [.v 5], none, none, []⟩,
 ⟨.conv .u32, [.p 0], none, none, []⟩,
 ⟨.mov, [.p 2], some 2, none, []⟩,
 ⟨.mov, [.p 1], some 3, none, []⟩] false)
.ret))))),
[.v 2, .v 3]⟩
def c_limbs_sum : RFunc := ⟨3, [0, 1, 2, 3, 4, 6, 7, 8, 9, 10],
(.seq (.region [⟨.box, [.v 0], some 3, none, []⟩,
 ⟨.box, [.v 1], some 4, none, []⟩,
 ⟨.alloc (.agg [.bool false, .slc true []]), [], some 5, none, []⟩] false)
(.seq (.region [⟨.load true 2, [.v 3], none, none, []⟩,
 ⟨.call false 84, [.p 0], none, none, []⟩,
 ⟨.load true 2, [.v 4], none, none, []⟩,
 ⟨.call false 84, [.p 0], none, none, []⟩,
 ⟨.mov, [.p 2], some 6, none, []⟩,
 ⟨.mov, [.p 1], some 7, none, []⟩] true)
(.seq (.region [⟨.load true 2, [.v 3], none, none, []⟩,
 ⟨.call false 86, [.p 0], none, none, []⟩,
 ⟨.load true 2, [.v 4], none, none, []⟩,
 ⟨.call false 86, [.p 0], none, none, []⟩,
 ⟨.mov, [.v 2], none, none, []⟩,
 ⟨.beq true, [.p 1, .p 0], none, none, []⟩,
 ⟨.mov, [.p 4], some 8, none, []⟩,
 ⟨.mov, [.p 1], some 9, none, []⟩] true)
(.seq (.block 0 (.seq (.region [⟨.mov, [.v 8], none, none, []⟩,
 ⟨.mov, [.v 9], none, none, []⟩,
 ⟨.beq false, [.p 1, .p 0], none, none, []⟩,
 ⟨.mov, [.p 0], none, none, []⟩] false)
(.cond (.p 0) (.seq (.region [⟨.mov, [.v 8], none, none, []⟩,
 ⟨.mov, [.v 6], none, none, []⟩,
 ⟨.mov, [.v 7], none, none, []⟩,
 ⟨.call false 87, [.p 1, .p 0], none, none, []⟩,
 ⟨.call false 89, [.p 3, .p 0], none, none, []⟩,
 ⟨.store 2, [.v 5, .p 0], none, none, []⟩] false)
.ret) (.seq (.region [⟨.mov, [.v 6], none, none, []⟩,
 ⟨.mov, [.v 7], none, none, []⟩,
 ⟨.call false 98, [.p 1, .p 0], none, none, []⟩,
 ⟨.bin .geq, [.p 0, .c (.int .i64 0)], none, none, []⟩,
 ⟨.mov, [.p 0], none, none, []⟩] false)
(.cond (.p 0) (.seq (.region [⟨.mov, [.v 8], none, none, []⟩,
 ⟨.mov, [.v 6], none, none, []⟩,
 ⟨.mov, [.v 7], none, none, []⟩,
 ⟨.call false 88, [.p 1, .p 0], none, none, []⟩,
 ⟨.call false 89, [.p 3, .p 0], none, none, []⟩,
 ⟨.store 2, [.v 5, .p 0], none, none, []⟩] false)
.ret) .skip)))))
(.seq (.region [⟨.mov, [.v 9], none, none, []⟩,
 ⟨.mov, [.v 7], none, none, []⟩,
 ⟨.mov, [.v 6], none, none, []⟩,
 ⟨.call false 88, [.p 1, .p 0], none, none, []⟩,
 ⟨.call false 89, [.p 3, .p 0], none, none, []⟩,
 ⟨.store 2, [.v 5, .p 0], none, none, []⟩] false)
.ret))))),
[.cell 5 true 2]⟩
def l_limbs_cmp_0 : RCode := (.loop [true, true, false, true] (.seq (.seq (.region [⟨.mov, [.v 3], none, none, []⟩,
 ⟨.bin .geq, [.p 0, .c (.int .i64 0)], none, none, []⟩] false)
(.cond (.p 0) .skip (.exit 0)))
(.seq (.block 1 (.seq (.region [⟨.mov, [.v 0], none, none, []⟩,
 ⟨.mov, [.v 3], none, none, []⟩,
 ⟨.iaddr 1, [.p 1, .p 0], none, none, []⟩,
 ⟨.load false 1, [.p 0], none, none, []⟩,
 ⟨.mov, [.v 1], none, none, []⟩,
 ⟨.mov, [.v 3], none, none, []⟩,
 ⟨.iaddr 1, [.p 1, .p 0], none, none, []⟩,
 ⟨.load false 1, [.p 0], none, none, []⟩,
 ⟨.bin .neq, [.p 4, .p 0], none, none, []⟩] true)
(.cond (.p 0) (.seq (.seq (.region [⟨.mov, [.v 0], none, none, []⟩,
 ⟨.mov, [.v 3], none, none, []⟩,
 ⟨.iaddr 1, [.p 1, .p 0], none, none, []⟩,
 ⟨.load false 1, [.p 0], none, none, []⟩,
 ⟨.mov, [.v 1], none, none, []⟩,
 ⟨.mov, [.v 3], none, none, []⟩,
 ⟨.iaddr 1, [.p 1, .p 0], none, none, []⟩,
 ⟨.load false 1, [.p 0], none, none, []⟩,
 ⟨.bin .lss, [.p 4, .p 0], none, none, []⟩] true)
(.cond (.p 0) (.seq (.region [⟨.mov, [.c (.int .i64 (-1))], some 2, none, []⟩] false)
.ret) .skip))
(.seq (.region [⟨.mov, [.c (.int .i64 1)], some 2, none, []⟩] false)
.ret)) .skip)))
(.region [⟨.mov, [.v 3], none, none, []⟩,
 ⟨.bin .sub, [.p 0, .c (.int .i64 1)], none, none, []⟩,
 ⟨.mov, [.p 0], some 3, none, []⟩] false))))
def c_limbs_cmp : RFunc := ⟨2, [0, 1, 4, 5],
(.seq (.region [⟨.mov, [.c (.int .i64 0)], some 2, none, []⟩] false)
(.seq (.seq (.region [⟨.mov, [.v 0], none, none, []⟩,
 ⟨.len false, [.p 0], none, none, []⟩,
 ⟨.mov, [.v 1], none, none, []⟩,
 ⟨.len false, [.p 0], none, none, []⟩,
 ⟨.bin .neq, [.p 2, .p 0], none, none, []⟩] false)
(.cond (.p 0) (.seq (.seq (.region [⟨.mov, [.v 0], none, none, []⟩,
 ⟨.len false, [.p 0], none, none, []⟩,
 ⟨.mov, [.v 1], none, none, []⟩,
 ⟨.len false, [.p 0], none, none, []⟩,
 ⟨.bin .lss, [.p 2, .p 0], none, none, []⟩] false)
(.cond (.p 0) (.seq (.region [⟨.mov, [.c (.int .i64 (-1))], some 2, none, []⟩] false)
.ret) .skip))
(.seq (.region [⟨.mov, [.c (.int .i64 1)], some 2, none, []⟩] false)
.ret)) .skip))
(.seq (.seq (.region [⟨.mov, [.v 0], none, none, []⟩,
 ⟨.len false, [.p 0], none, none, []⟩,
 ⟨.bin .sub, [.p 0, .c (.int .i64 1)], none, none, []⟩,
 ⟨.mov, [.p 0], some 3, none, []⟩] false)
(.block 0 l_limbs_cmp_0))
(.seq (.region [⟨.mov, [.c (.int .i64 0)], some 2, none, []⟩] false)
.ret)))),
[.v 2]⟩
def l_limbs_grow_0 : RCode := (.loop [true, true, false, false, true, false, true, true] (.seq (.region [⟨.bin .lss, [.v 7, .v 6], none, none, []⟩] false)
(.seq (.cond (.p 0) .skip (.exit 0))
(.seq (.block 1 (.seq (.region [⟨.mov, [.v 7], none, none, []⟩,
 ⟨.mov, [.p 0], some 5, none, []⟩] false)
(.seq (.region [⟨.mov, [.v 4], none, none, []⟩,
 ⟨.mov, [.v 0], none, none, []⟩,
 ⟨.mov, [.v 5], none, none, []⟩,
 ⟨.iaddr 1, [.p 1, .p 0], none, none, []⟩,
 ⟨.load false 1, [.p 0], none, none, []⟩,
 ⟨.conv .u64, [.p 0], none, none, []⟩,
 ⟨.mov, [.v 1], none, none, []⟩,
 ⟨.conv .u64, [.p 0], none, none, []⟩,
 ⟨.bin .mul, [.p 2, .p 0], none, none, []⟩,
 ⟨.bin .add, [.p 8, .p 0], none, none, []⟩,
 ⟨.mov, [.p 0], some 4, none, []⟩] false)
(.seq (.region [⟨.mov, [.v 0], none, none, []⟩,
 ⟨.mov, [.v 5], none, none, []⟩,
 ⟨.mov, [.v 4], none, none, []⟩,
 ⟨.conv .u32, [.p 0], none, none, []⟩,
 ⟨.iaddr 1, [.p 3, .p 2], none, none, []⟩,
 ⟨.store 1, [.p 0, .p 1], none, none, []⟩] false)
(.region [⟨.mov, [.v 4], none, none, []⟩,
 ⟨.bin .shr, [.p 0, .c (.int .u64 32)], none, none, []⟩,
 ⟨.mov, [.p 0], some 4, none, []⟩] false)))))
(.region [⟨.bin .add, [.v 7, .c (.int .i64 1)], none, none, []⟩,
 ⟨.mov, [.p 0], some 7, none, []⟩] false)))))
def c_limbs_grow : RFunc := ⟨3, [0, 1, 2, 6, 7, 8, 12, 13],
(.seq (.region [⟨.mov, [.c (.slc true [])], some 3, none, []⟩] false)
(.seq (.region [⟨.mov, [.v 2], none, none, []⟩,
 ⟨.conv .u64, [.p 0], none, none, []⟩,
 ⟨.mov, [.p 0], some 4, none, []⟩] false)
(.seq (.seq (.region [⟨.mov, [.v 0], none, none, []⟩,
 ⟨.len false, [.p 0], some 6, none, []⟩,
 ⟨.mov, [.c (.int .i64 0)], some 7, none, []⟩] false)
(.block 0 l_limbs_grow_0))
(.seq (.seq (.region [⟨.mov, [.v 4], none, none, []⟩,
 ⟨.bin .gtr, [.p 0, .c (.int .u64 0)], none, none, []⟩] false)
(.cond (.p 0) (.region [⟨.mov, [.v 0], none, none, []⟩,
 ⟨.mov, [.v 4], none, none, []⟩,
 ⟨.conv .u32, [.p 0], none, none, []⟩,
 ⟨.bslice 1 (.int .u32 0) 1 [0], [.p 0], none, none, []⟩,
 ⟨.app 4 1, [.p 3, .p 0], none, none, []⟩,
 ⟨.mov, [.p 0], some 0, none, []⟩] false) .skip))
(.seq (.region [⟨.mov, [.v 0], none, none, []⟩,
 ⟨.mov, [.p 0], some 3, none, []⟩] false)
.ret))))),
[.v 3]⟩
def l_limbs_trim_0 : RCode := (.loop [true, false, true] (.seq (.seq (.region [⟨.mov, [.v 2], none, none, []⟩,
 ⟨.bin .gtr, [.p 0, .c (.int .i64 0)], none, none, []⟩,
 ⟨.mov, [.p 0], none, none, []⟩,
 ⟨.mov, [.v 0], none, some (0, true), []⟩,
 ⟨.mov, [.v 2], none, some (1, true), []⟩,
 ⟨.bin .sub, [.p 0, .c (.int .i64 1)], none, some (2, true), []⟩,
 ⟨.iaddr 1, [.p 2, .p 0], none, some (3, true), []⟩,
 ⟨.load false 1, [.p 0], none, some (4, true), []⟩,
 ⟨.bin .eql, [.p 0, .c (.int .u32 0)], none, some (5, true), []⟩,
 ⟨.pick, [.p 6, .p 0, .c (.bool false)], none, none, []⟩] false)
(.cond (.p 0) .skip (.exit 0)))
(.block 1 (.region [⟨.mov, [.v 2], none, none, []⟩,
 ⟨.bin .sub, [.p 0, .c (.int .i64 1)], none, none, []⟩,
 ⟨.mov, [.p 0], some 2, none, []⟩] false))))
def c_limbs_trim : RFunc := ⟨1, [0, 2, 3],
(.seq (.region [⟨.mov, [.c (.slc true [])], some 1, none, []⟩] false)
(.seq (.region [⟨.mov, [.v 0], none, none, []⟩,
 ⟨.len false, [.p 0], none, none, []⟩,
 ⟨.mov, [.p 0], some 2, none, []⟩] false)
(.seq (.block 0 l_limbs_trim_0)
(.seq (.region [⟨.mov, [.v 0], none, none, []⟩,
 ⟨.mov, [.v 2], none, none, []⟩,
 ⟨.slice 1 false true false, [.p 1, .p 0], none, none, []⟩,
 ⟨.mov, [.p 0], some 1, none, []⟩] false)
.ret)))),
[.v 1]⟩
def l_limbs_left_0 : RCode := (.loop [false, true, false, true, false, false, true, true, true] (.seq (.region [⟨.bin .lss, [.v 8, .v 7], none, none, []⟩] false)
(.seq (.cond (.p 0) .skip (.exit 0))
(.seq (.block 1 (.seq (.region [⟨.mov, [.v 8], none, none, []⟩,
 ⟨.iaddr 1, [.v 6, .v 8], none, none, []⟩,
 ⟨.load false 1, [.p 0], none, none, []⟩,
 ⟨.mov, [.p 2], some 4, none, []⟩,
 ⟨.mov, [.p 1], some 5, none, []⟩] false)
(.seq (.region [⟨.mov, [.v 3], none, none, []⟩,
 ⟨.mov, [.v 4], none, none, []⟩,
 ⟨.iaddr 1, [.p 1, .p 0], none, none, []⟩,
 ⟨.load false 1, [.p 0], none, none, []⟩,
 ⟨.mov, [.v 5], none, none, []⟩,
 ⟨.mov, [.v 1], none, none, []⟩,
 ⟨.bin .shl, [.p 1, .p 0], none, none, []⟩,
 ⟨.bin .or, [.p 3, .p 0], none, none, []⟩,
 ⟨.iaddr 1, [.p 7, .p 6], none, none, []⟩,
 ⟨.store 1, [.p 0, .p 1], none, none, []⟩] true)
(.region [⟨.mov, [.v 3], none, none, []⟩,
 ⟨.mov, [.v 4], none, none, []⟩,
 ⟨.bin .add, [.p 0, .c (.int .i64 1)], none, none, []⟩,
 ⟨.mov, [.v 5], none, none, []⟩,
 ⟨.conv .u64, [.p 0], none, none, []⟩,
 ⟨.mov, [.v 1], none, none, []⟩,
 ⟨.bin .shl, [.p 1, .p 0], none, none, []⟩,
 ⟨.bin .shr, [.p 0, .c (.int .u64 32)], none, none, []⟩,
 ⟨.conv .u32, [.p 0], none, none, []⟩,
 ⟨.iaddr 1, [.p 8, .p 6], none, none, []⟩,
 ⟨.store 1, [.p 0, .p 1], none, none, []⟩] false))))
(.region [⟨.bin .add, [.v 8, .c (.int .i64 1)], none, none, []⟩,
 ⟨.mov, [.p 0], some 8, none, []⟩] false)))))
def c_limbs_left : RFunc := ⟨2, [0, 1, 4, 5, 6, 7, 12, 13, 14],
(.seq (.region [⟨.mov, [.c (.slc true [])], some 2, none, []⟩] false)
(.seq (.region [⟨.mov, [.v 0], none, none, []⟩,
 ⟨.len false, [.p 0], none, none, []⟩,
 ⟨.bin .add, [.p 0, .c (.int .i64 1)], none, none, []⟩,
 ⟨.mkslice 1 (.int .u32 0) 4, [.p 0, .p 0], none, none, []⟩,
 ⟨.mov, [.p 0], some 3, none, []⟩] false)
(.seq (.seq (.region [⟨.mov, [.v 0], some 6, none, []⟩,
 ⟨.len false, [.v 6], some 7, none, []⟩,
 ⟨.mov, [.c (.int .i64 0)], some 8, none, []⟩] false)
(.block 0 l_limbs_left_0))
(.seq (.region [⟨.mov, [.v 3], none, none, []⟩,
 ⟨.mov, [.p 0], some 2, none, []⟩] false)
.ret)))),
[.v 2]⟩
def l_limbs_guess_0 : RCode := (.loop [false, false, true, true, true, false, false, true, true] (.seq (.seq (.region [⟨.mov, [.v 7], none, none, []⟩,
 ⟨.bin .geq, [.p 0, .c (.int .u64 4294967296)], none, none, []⟩,
 ⟨.mov, [.p 0], none, none, []⟩,
 ⟨.mov, [.v 7], none, some (0, false), []⟩,
 ⟨.mov, [.v 4], none, some (1, false), []⟩,
 ⟨.conv .u64, [.p 0], none, some (2, false), []⟩,
 ⟨.bin .mul, [.p 2, .p 0], none, some (3, false), []⟩,
 ⟨.mov, [.v 8], none, some (4, false), []⟩,
 ⟨.bin .shl, [.p 0, .c (.int .u64 32)], none, some (5, false), []⟩,
 ⟨.mov, [.v 2], none, some (6, false), []⟩,
 ⟨.conv .u64, [.p 0], none, some (7, false), []⟩,
 ⟨.bin .or, [.p 2, .p 0], none, some (8, false), []⟩,
 ⟨.bin .gtr, [.p 5, .p 0], none, some (9, false), []⟩,
 ⟨.pick, [.p 10, .c (.bool true), .p 0], none, none, []⟩] false)
(.cond (.p 0) .skip (.exit 0)))
(.block 1 (.seq (.region [⟨.mov, [.v 7], none, none, []⟩,
 ⟨.bin .sub, [.p 0, .c (.int .u64 1)], none, none, []⟩,
 ⟨.mov, [.p 0], some 7, none, []⟩] false)
(.seq (.region [⟨.mov, [.v 8], none, none, []⟩,
 ⟨.mov, [.v 3], none, none, []⟩,
 ⟨.conv .u64, [.p 0], none, none, []⟩,
 ⟨.bin .add, [.p 2, .p 0], none, none, []⟩,
 ⟨.mov, [.p 0], some 8, none, []⟩] false)
(.seq (.region [⟨.mov, [.v 8], none, none, []⟩,
 ⟨.bin .geq, [.p 0, .c (.int .u64 4294967296)], none, none, []⟩] false)
(.cond (.p 0) (.exit 0) .skip)))))))
def c_limbs_guess : RFunc := ⟨5, [0, 1, 2, 3, 4, 10, 11, 12, 13],
(.seq (.region [⟨.mov, [.c (.int .u64 0)], some 5, none, []⟩] false)
(.seq (.region [⟨.mov, [.v 0], none, none, []⟩,
 ⟨.conv .u64, [.p 0], none, none, []⟩,
 ⟨.bin .shl, [.p 0, .c (.int .u64 32)], none, none, []⟩,
 ⟨.mov, [.v 1], none, none, []⟩,
 ⟨.conv .u64, [.p 0], none, none, []⟩,
 ⟨.bin .or, [.p 2, .p 0], none, none, []⟩,
 ⟨.mov, [.p 0], some 6, none, []⟩] false)
(.seq (.region [⟨.mov, [.v 6], none, none, []⟩,
 ⟨.mov, [.v 3], none, none, []⟩,
 ⟨.conv .u64, [.p 0], none, none, []⟩,
 ⟨.bin .quo, [.p 2, .p 0], none, none, []⟩,
 ⟨.mov, [.v 6], none, none, []⟩,
 ⟨.mov, [.v 3], none, none, []⟩,
 ⟨.conv .u64, [.p 0], none, none, []⟩,
 ⟨.bin .rem, [.p 2, .p 0], none, none, []⟩,
 ⟨.mov, [.p 4], some 7, none, []⟩,
 ⟨.mov, [.p 1], some 8, none, []⟩] true)
(.seq (.block 0 l_limbs_guess_0)
(.seq (.region [⟨.mov, [.v 7], none, none, []⟩,
 ⟨.mov, [.p 0], some 5, none, []⟩] false)
.ret))))),
[.v 5]⟩
def l_limbs_takes_0 : RCode := (.loop [true, true, true, false, true, true, false, false, true, true] (.seq (.region [⟨.bin .lss, [.v 9, .v 8], none, none, []⟩] false)
(.seq (.cond (.p 0) .skip (.exit 0))
(.seq (.block 1 (.seq (.region [⟨.mov, [.v 9], none, none, []⟩,
 ⟨.mov, [.p 0], some 6, none, []⟩] false)
(.seq (.seq (.region [⟨.mov, [.v 6], none, none, []⟩,
 ⟨.mov, [.v 1], none, none, []⟩,
 ⟨.len false, [.p 0], none, none, []⟩,
 ⟨.bin .lss, [.p 2, .p 0], none, none, []⟩] false)
(.cond (.p 0) (.region [⟨.mov, [.v 4], none, none, []⟩,
 ⟨.mov, [.v 2], none, none, []⟩,
 ⟨.mov, [.v 1], none, none, []⟩,
 ⟨.mov, [.v 6], none, none, []⟩,
 ⟨.iaddr 1, [.p 1, .p 0], none, none, []⟩,
 ⟨.load false 1, [.p 0], none, none, []⟩,
 ⟨.conv .u64, [.p 0], none, none, []⟩,
 ⟨.bin .mul, [.p 5, .p 0], none, none, []⟩,
 ⟨.bin .add, [.p 7, .p 0], none, none, []⟩,
 ⟨.mov, [.p 0], some 4, none, []⟩] false) .skip))
(.seq (.region [⟨.mov, [.v 0], none, none, []⟩,
 ⟨.mov, [.v 6], none, none, []⟩,
 ⟨.iaddr 1, [.p 1, .p 0], none, none, []⟩,
 ⟨.load false 1, [.p 0], none, none, []⟩,
 ⟨.conv .u64, [.p 0], none, none, []⟩,
 ⟨.mov, [.v 4], none, none, []⟩,
 ⟨.conv .u32, [.p 0], none, none, []⟩,
 ⟨.conv .u64, [.p 0], none, none, []⟩,
 ⟨.bin .sub, [.p 3, .p 0], none, none, []⟩,
 ⟨.mov, [.v 5], none, none, []⟩,
 ⟨.bin .sub, [.p 1, .p 0], none, none, []⟩,
 ⟨.mov, [.p 0], some 7, none, []⟩] false)
(.seq (.region [⟨.mov, [.v 0], none, none, []⟩,
 ⟨.mov, [.v 6], none, none, []⟩,
 ⟨.mov, [.v 7], none, none, []⟩,
 ⟨.conv .u32, [.p 0], none, none, []⟩,
 ⟨.iaddr 1, [.p 3, .p 2], none, none, []⟩,
 ⟨.store 1, [.p 0, .p 1], none, none, []⟩] false)
(.seq (.region [⟨.mov, [.v 7], none, none, []⟩,
 ⟨.bin .shr, [.p 0, .c (.int .u64 63)], none, none, []⟩,
 ⟨.mov, [.p 0], some 5, none, []⟩] false)
(.region [⟨.mov, [.v 4], none, none, []⟩,
 ⟨.bin .shr, [.p 0, .c (.int .u64 32)], none, none, []⟩,
 ⟨.mov, [.p 0], some 4, none, []⟩] false)))))))
(.region [⟨.bin .add, [.v 9, .c (.int .i64 1)], none, none, []⟩,
 ⟨.mov, [.p 0], some 9, none, []⟩] false)))))
def c_limbs_takes : RFunc := ⟨3, [0, 1, 2, 6, 7, 8, 9, 10, 12, 13],
(.seq (.region [⟨.mov, [.c (.bool false)], some 3, none, []⟩] false)
(.seq (.region [⟨.mov, [.c (.int .u64 0)], some 4, none, []⟩,
 ⟨.mov, [.c (.int .u64 0)], some 5, none, []⟩] false)
(.seq (.seq (.region [⟨.mov, [.v 0], none, none, []⟩,
 ⟨.len false, [.p 0], some 8, none, []⟩,
 ⟨.mov, [.c (.int .i64 0)], some 9, none, []⟩] false)
(.block 0 l_limbs_takes_0))
(.seq (.region [⟨.mov, [.v 5], none, none, []⟩,
 ⟨.bin .gtr, [.p 0, .c (.int .u64 0)], none, none, []⟩,
 ⟨.mov, [.p 0], some 3, none, []⟩] false)
.ret)))),
[.v 3]⟩
def l_limbs_gives_0 : RCode := (.loop [true, true, true, false, true, true] (.seq (.region [⟨.bin .lss, [.v 5, .v 4], none, none, []⟩] false)
(.seq (.cond (.p 0) .skip (.exit 0))
(.seq (.block 1 (.seq (.region [⟨.mov, [.v 5], none, none, []⟩,
 ⟨.mov, [.p 0], some 3, none, []⟩] false)
(.seq (.region [⟨.mov, [.v 2], none, none, []⟩,
 ⟨.mov, [.v 0], none, none, []⟩,
 ⟨.mov, [.v 3], none, none, []⟩,
 ⟨.iaddr 1, [.p 1, .p 0], none, none, []⟩,
 ⟨.load false 1, [.p 0], none, none, []⟩,
 ⟨.conv .u64, [.p 0], none, none, []⟩,
 ⟨.bin .add, [.p 5, .p 0], none, none, []⟩,
 ⟨.mov, [.p 0], some 2, none, []⟩] false)
(.seq (.seq (.region [⟨.mov, [.v 3], none, none, []⟩,
 ⟨.mov, [.v 1], none, none, []⟩,
 ⟨.len false, [.p 0], none, none, []⟩,
 ⟨.bin .lss, [.p 2, .p 0], none, none, []⟩] false)
(.cond (.p 0) (.region [⟨.mov, [.v 2], none, none, []⟩,
 ⟨.mov, [.v 1], none, none, []⟩,
 ⟨.mov, [.v 3], none, none, []⟩,
 ⟨.iaddr 1, [.p 1, .p 0], none, none, []⟩,
 ⟨.load false 1, [.p 0], none, none, []⟩,
 ⟨.conv .u64, [.p 0], none, none, []⟩,
 ⟨.bin .add, [.p 5, .p 0], none, none, []⟩,
 ⟨.mov, [.p 0], some 2, none, []⟩] false) .skip))
(.seq (.region [⟨.mov, [.v 0], none, none, []⟩,
 ⟨.mov, [.v 3], none, none, []⟩,
 ⟨.mov, [.v 2], none, none, []⟩,
 ⟨.conv .u32, [.p 0], none, none, []⟩,
 ⟨.iaddr 1, [.p 3, .p 2], none, none, []⟩,
 ⟨.store 1, [.p 0, .p 1], none, none, []⟩] false)
(.region [⟨.mov, [.v 2], none, none, []⟩,
 ⟨.bin .shr, [.p 0, .c (.int .u64 32)], none, none, []⟩,
 ⟨.mov, [.p 0], some 2, none, []⟩] false))))))
(.region [⟨.bin .add, [.v 5, .c (.int .i64 1)], none, none, []⟩,
 ⟨.mov, [.p 0], some 5, none, []⟩] false)))))
def c_limbs_gives : RFunc := ⟨2, [0, 1, 4, 5, 7, 8],
(.seq (.region [⟨.mov, [.c (.int .u64 0)], some 2, none, []⟩] false)
(.seq (.region [⟨.mov, [.v 0], none, none, []⟩,
 ⟨.len false, [.p 0], some 4, none, []⟩,
 ⟨.mov, [.c (.int .i64 0)], some 5, none, []⟩] false)
(.block 0 l_limbs_gives_0))),
[]⟩
def l_limbs_right_0 : RCode := (.loop [true, true, false, true, false, true, true] (.seq (.region [⟨.bin .lss, [.v 6, .v 5], none, none, []⟩] false)
(.seq (.cond (.p 0) .skip (.exit 0))
(.seq (.block 1 (.seq (.region [⟨.mov, [.v 6], none, none, []⟩,
 ⟨.mov, [.p 0], some 4, none, []⟩] false)
(.seq (.region [⟨.mov, [.v 3], none, none, []⟩,
 ⟨.mov, [.v 4], none, none, []⟩,
 ⟨.mov, [.v 0], none, none, []⟩,
 ⟨.mov, [.v 4], none, none, []⟩,
 ⟨.iaddr 1, [.p 1, .p 0], none, none, []⟩,
 ⟨.load false 1, [.p 0], none, none, []⟩,
 ⟨.mov, [.v 1], none, none, []⟩,
 ⟨.bin .shr, [.p 1, .p 0], none, none, []⟩,
 ⟨.iaddr 1, [.p 7, .p 6], none, none, []⟩,
 ⟨.store 1, [.p 0, .p 1], none, none, []⟩] false)
(.seq (.region [⟨.mov, [.v 4], none, none, []⟩,
 ⟨.bin .add, [.p 0, .c (.int .i64 1)], none, none, []⟩,
 ⟨.mov, [.v 0], none, none, []⟩,
 ⟨.len false, [.p 0], none, none, []⟩,
 ⟨.bin .lss, [.p 2, .p 0], none, none, []⟩] false)
(.cond (.p 0) (.region [⟨.mov, [.v 3], none, none, []⟩,
 ⟨.mov, [.v 4], none, none, []⟩,
 ⟨.iaddr 1, [.p 1, .p 0], none, none, []⟩,
 ⟨.load false 1, [.p 0], none, none, []⟩,
 ⟨.mov, [.v 0], none, none, []⟩,
 ⟨.mov, [.v 4], none, none, []⟩,
 ⟨.bin .add, [.p 0, .c (.int .i64 1)], none, none, []⟩,
 ⟨.iaddr 1, [.p 2, .p 0], none, none, []⟩,
 ⟨.load false 1, [.p 0], none, none, []⟩,
 ⟨.conv .u64, [.p 0], none, none, []⟩,
 ⟨.bin .shl, [.p 0, .c (.int .u64 32)], none, none, []⟩,
 ⟨.mov, [.v 1], none, none, []⟩,
 ⟨.bin .shr, [.p 1, .p 0], none, none, []⟩,
 ⟨.conv .u32, [.p 0], none, none, []⟩,
 ⟨.bin .or, [.p 10, .p 0], none, none, []⟩,
 ⟨.iaddr 1, [.p 14, .p 13], none, none, []⟩,
 ⟨.store 1, [.p 0, .p 1], none, none, []⟩] true) .skip)))))
(.region [⟨.bin .add, [.v 6, .c (.int .i64 1)], none, none, []⟩,
 ⟨.mov, [.p 0], some 6, none, []⟩] false)))))
def c_limbs_right : RFunc := ⟨2, [0, 1, 4, 5, 6, 11, 12],
(.seq (.region [⟨.mov, [.c (.slc true [])], some 2, none, []⟩] false)
(.seq (.region [⟨.mov, [.v 0], none, none, []⟩,
 ⟨.len false, [.p 0], none, none, []⟩,
 ⟨.mkslice 1 (.int .u32 0) 4, [.p 0, .p 0], none, none, []⟩,
 ⟨.mov, [.p 0], some 3, none, []⟩] false)
(.seq (.seq (.region [⟨.mov, [.v 0], none, none, []⟩,
 ⟨.len false, [.p 0], some 5, none, []⟩,
 ⟨.mov, [.c (.int .i64 0)], some 6, none, []⟩] false)
(.block 0 l_limbs_right_0))
(.seq (.region [⟨.mov, [.v 3], none, none, []⟩,
 ⟨.call false 107, [.p 0], none, none, []⟩,
 ⟨.mov, [.p 0], some 2, none, []⟩] false)
.ret)))),
[.v 2]⟩
def l_limbs_school_0 : RCode := (.loop [false, true, false, true, true, true, true, false, false, true, true, true, true, true, true] (.seq (.region [⟨.bin .lss, [.v 14, .v 13], none, none, []⟩] false)
(.seq (.cond (.p 0) .skip (.exit 2))
(.seq (.block 3 (.seq (.region [⟨.mov, [.v 14], none, none, []⟩,
 ⟨.iaddr 1, [.v 12, .v 14], none, none, []⟩,
 ⟨.load false 1, [.p 0], none, none, []⟩,
 ⟨.mov, [.p 2], some 7, none, []⟩,
 ⟨.mov, [.p 1], some 8, none, []⟩] false)
(.seq (.region [⟨.mov, [.v 6], none, none, []⟩,
 ⟨.mov, [.v 5], none, none, []⟩,
 ⟨.conv .u64, [.p 0], none, none, []⟩,
 ⟨.mov, [.v 8], none, none, []⟩,
 ⟨.conv .u64, [.p 0], none, none, []⟩,
 ⟨.bin .mul, [.p 2, .p 0], none, none, []⟩,
 ⟨.mov, [.v 3], none, none, []⟩,
 ⟨.mov, [.v 4], none, none, []⟩,
 ⟨.mov, [.v 7], none, none, []⟩,
 ⟨.bin .add, [.p 1, .p 0], none, none, []⟩,
 ⟨.iaddr 1, [.p 3, .p 0], none, none, []⟩,
 ⟨.load false 1, [.p 0], none, none, []⟩,
 ⟨.conv .u64, [.p 0], none, none, []⟩,
 ⟨.bin .add, [.p 7, .p 0], none, none, []⟩,
 ⟨.bin .add, [.p 13, .p 0], none, none, []⟩,
 ⟨.mov, [.p 0], some 6, none, []⟩] false)
(.seq (.region [⟨.mov, [.v 3], none, none, []⟩,
 ⟨.mov, [.v 4], none, none, []⟩,
 ⟨.mov, [.v 7], none, none, []⟩,
 ⟨.bin .add, [.p 1, .p 0], none, none, []⟩,
 ⟨.mov, [.v 6], none, none, []⟩,
 ⟨.conv .u32, [.p 0], none, none, []⟩,
 ⟨.iaddr 1, [.p 5, .p 2], none, none, []⟩,
 ⟨.store 1, [.p 0, .p 1], none, none, []⟩] false)
(.region [⟨.mov, [.v 6], none, none, []⟩,
 ⟨.bin .shr, [.p 0, .c (.int .u64 32)], none, none, []⟩,
 ⟨.mov, [.p 0], some 6, none, []⟩] false)))))
(.region [⟨.bin .add, [.v 14, .c (.int .i64 1)], none, none, []⟩,
 ⟨.mov, [.p 0], some 14, none, []⟩] false)))))
def l_limbs_school_1 : RCode := (.loop [false, true, false, true, false, false, false, false, false, true, true, true] (.seq (.region [⟨.bin .lss, [.v 11, .v 10], none, none, []⟩] false)
(.seq (.cond (.p 0) .skip (.exit 0))
(.seq (.block 1 (.seq (.region [⟨.mov, [.v 11], none, none, []⟩,
 ⟨.iaddr 1, [.v 9, .v 11], none, none, []⟩,
 ⟨.load false 1, [.p 0], none, none, []⟩,
 ⟨.mov, [.p 2], some 4, none, []⟩,
 ⟨.mov, [.p 1], some 5, none, []⟩] false)
(.seq (.region [⟨.mov, [.c (.int .u64 0)], some 6, none, []⟩] false)
(.seq (.seq (.region [⟨.mov, [.v 1], some 12, none, []⟩,
 ⟨.len false, [.v 12], some 13, none, []⟩,
 ⟨.mov, [.c (.int .i64 0)], some 14, none, []⟩] false)
(.block 2 l_limbs_school_0))
(.region [⟨.mov, [.v 3], none, none, []⟩,
 ⟨.mov, [.v 4], none, none, []⟩,
 ⟨.mov, [.v 1], none, none, []⟩,
 ⟨.len false, [.p 0], none, none, []⟩,
 ⟨.bin .add, [.p 2, .p 0], none, none, []⟩,
 ⟨.mov, [.v 6], none, none, []⟩,
 ⟨.conv .u32, [.p 0], none, none, []⟩,
 ⟨.iaddr 1, [.p 6, .p 2], none, none, []⟩,
 ⟨.store 1, [.p 0, .p 1], none, none, []⟩] false)))))
(.region [⟨.bin .add, [.v 11, .c (.int .i64 1)], none, none, []⟩,
 ⟨.mov, [.p 0], some 11, none, []⟩] false)))))
def c_limbs_school : RFunc := ⟨2, [0, 1, 4, 5, 6, 7, 8, 9, 10, 17, 18, 19, 24, 25, 26],
(.seq (.region [⟨.mov, [.c (.slc true [])], some 2, none, []⟩] false)
(.seq (.region [⟨.mov, [.v 0], none, none, []⟩,
 ⟨.len false, [.p 0], none, none, []⟩,
 ⟨.mov, [.v 1], none, none, []⟩,
 ⟨.len false, [.p 0], none, none, []⟩,
 ⟨.bin .add, [.p 2, .p 0], none, none, []⟩,
 ⟨.mkslice 1 (.int .u32 0) 4, [.p 0, .p 0], none, none, []⟩,
 ⟨.mov, [.p 0], some 3, none, []⟩] false)
(.seq (.seq (.region [⟨.mov, [.v 0], some 9, none, []⟩,
 ⟨.len false, [.v 9], some 10, none, []⟩,
 ⟨.mov, [.c (.int .i64 0)], some 11, none, []⟩] false)
(.block 0 l_limbs_school_1))
(.seq (.region [⟨.mov, [.v 3], none, none, []⟩,
 ⟨.call false 107, [.p 0], none, none, []⟩,
 ⟨.mov, [.p 0], some 2, none, []⟩] false)
.ret)))),
[.v 2]⟩
def c_limbs_up : RFunc := ⟨2, [0, 1, 4],
(.seq (.region [⟨.mov, [.c (.slc true [])], some 2, none, []⟩] false)
(.seq (.seq (.region [⟨.mov, [.v 0], none, none, []⟩,
 ⟨.len false, [.p 0], none, none, []⟩,
 ⟨.bin .eql, [.p 0, .c (.int .i64 0)], none, none, []⟩] false)
(.cond (.p 0) (.seq (.region [⟨.mov, [.c (.slc true [])], some 2, none, []⟩] false)
.ret) .skip))
(.seq (.region [⟨.mov, [.v 1], none, none, []⟩,
 ⟨.mkslice 1 (.int .u32 0) 4, [.p 0, .p 0], none, none, []⟩,
 ⟨.mov, [.v 0], none, none, []⟩,
 ⟨.app 4 1, [.p 1, .p 0], none, none, []⟩,
 ⟨.mov, [.p 0], some 2, none, []⟩] false)
.ret))),
[.v 2]⟩
def c_bits_Len32 : RFunc := ⟨1, [0, 2],
(.seq (.region [⟨.mov, [.c (.int .i64 0)], some 1, none, []⟩] false)
(.seq (.seq (.region [⟨.mov, [.v 0], none, none, []⟩,
 ⟨.bin .geq, [.p 0, .c (.int .u32 65536)], none, none, []⟩] false)
(.cond (.p 0) (.seq (.region [⟨.mov, [.v 0], none, none, []⟩,
 ⟨.bin .shr, [.p 0, .c (.int .u64 16)], none, none, []⟩,
 ⟨.mov, [.p 0], some 0, none, []⟩] false)
(.region [⟨.mov, [.c (.int .i64 16)], some 1, none, []⟩] false)) .skip))
(.seq (.seq (.region [⟨.mov, [.v 0], none, none, []⟩,
 ⟨.bin .geq, [.p 0, .c (.int .u32 256)], none, none, []⟩] false)
(.cond (.p 0) (.seq (.region [⟨.mov, [.v 0], none, none, []⟩,
 ⟨.bin .shr, [.p 0, .c (.int .u64 8)], none, none, []⟩,
 ⟨.mov, [.p 0], some 0, none, []⟩] false)
(.region [⟨.mov, [.v 1], none, none, []⟩,
 ⟨.bin .add, [.p 0, .c (.int .i64 8)], none, none, []⟩,
 ⟨.mov, [.p 0], some 1, none, []⟩] false)) .skip))
(.seq (.region [⟨.mov, [.v 1], none, none, []⟩,
 ⟨.mov, [.v 0], none, none, []⟩,
 ⟨.conv .u8, [.p 0], none, none, []⟩,
 ⟨.idx, [.c (.str ⟨#[0, 1, 2, 2, 3, 3, 3, 3, 4, 4, 4, 4, 4, 4, 4, 4, 5, 5, 5, 5, 5, 5, 5, 5, 5, 5, 5, 5, 5, 5, 5, 5, 6, 6, 6, 6, 6, 6, 6, 6, 6, 6, 6, 6, 6, 6, 6, 6, 6, 6, 6, 6, 6, 6, 6, 6, 6, 6, 6, 6, 6, 6, 6, 6, 7, 7, 7, 7, 7, 7, 7, 7, 7, 7, 7, 7, 7, 7, 7, 7, 7, 7, 7, 7, 7, 7, 7, 7, 7, 7, 7, 7, 7, 7, 7, 7, 7, 7, 7, 7, 7, 7, 7, 7, 7, 7, 7, 7, 7, 7, 7, 7, 7, 7, 7, 7, 7, 7, 7, 7, 7, 7, 7, 7, 7, 7, 7, 7, 8, 8, 8, 8, 8, 8, 8, 8, 8, 8, 8, 8, 8, 8, 8, 8, 8, 8, 8, 8, 8, 8, 8, 8, 8, 8, 8, 8, 8, 8, 8, 8, 8, 8, 8, 8, 8, 8, 8, 8, 8, 8, 8, 8, 8, 8, 8, 8, 8, 8, 8, 8, 8, 8, 8, 8, 8, 8, 8, 8, 8, 8, 8, 8, 8, 8, 8, 8, 8, 8, 8, 8, 8, 8, 8, 8, 8, 8, 8, 8, 8, 8, 8, 8, 8, 8, 8, 8, 8, 8, 8, 8, 8, 8, 8, 8, 8, 8, 8, 8, 8, 8, 8, 8, 8, 8, 8, 8, 8, 8, 8, 8, 8, 8, 8, 8, 8, 8, 8, 8, 8, 8, 8, 8, 8, 8, 8, 8]⟩), .p 0], none, none, []⟩,
 ⟨.conv .i64, [.p 0], none, none, []⟩,
 ⟨.bin .add, [.p 4, .p 0], none, none, []⟩,
 ⟨.mov, [.p 0], some 1, none, []⟩] false)
.ret)))),
[.v 1]⟩
def c_bits_Len : RFunc := ⟨1, [0, 2],
(.seq (.region [⟨.mov, [.c (.int .i64 0)], some 1, none, []⟩] false)
(.seq (.cond (.c (.bool false)) (.seq (.region [⟨.mov, [.v 0], none, none, []⟩,
 ⟨.conv .u32, [.p 0], none, none, []⟩,
 ⟨.call false 99, [.p 0], none, none, []⟩,
 ⟨.mov, [.p 0], some 1, none, []⟩] false)
.ret) .skip)
(.seq (.region [⟨.mov, [.v 0], none, none, []⟩,
 ⟨.call false 117, [.p 0], none, none, []⟩,
 ⟨.mov, [.p 0], some 1, none, []⟩] false)
.ret))),
[.v 1]⟩
def c_bits_LeadingZeros32 : RFunc := ⟨1, [0, 2],
(.seq (.region [⟨.mov, [.c (.int .i64 0)], some 1, none, []⟩] false)
(.seq (.region [⟨.mov, [.v 0], none, none, []⟩,
 ⟨.call false 99, [.p 0], none, none, []⟩,
 ⟨.bin .sub, [.c (.int .i64 32), .p 0], none, none, []⟩,
 ⟨.mov, [.p 0], some 1, none, []⟩] false)
.ret)),
[.v 1]⟩
def c_bits_Len64 : RFunc := ⟨1, [0, 2],
(.seq (.region [⟨.mov, [.c (.int .i64 0)], some 1, none, []⟩] false)
(.seq (.seq (.region [⟨.mov, [.v 0], none, none, []⟩,
 ⟨.bin .geq, [.p 0, .c (.int .u64 4294967296)], none, none, []⟩] false)
(.cond (.p 0) (.seq (.region [⟨.mov, [.v 0], none, none, []⟩,
 ⟨.bin .shr, [.p 0, .c (.int .u64 32)], none, none, []⟩,
 ⟨.mov, [.p 0], some 0, none, []⟩] false)
(.region [⟨.mov, [.c (.int .i64 32)], some 1, none, []⟩] false)) .skip))
(.seq (.seq (.region [⟨.mov, [.v 0], none, none, []⟩,
 ⟨.bin .geq, [.p 0, .c (.int .u64 65536)], none, none, []⟩] false)
(.cond (.p 0) (.seq (.region [⟨.mov, [.v 0], none, none, []⟩,
 ⟨.bin .shr, [.p 0, .c (.int .u64 16)], none, none, []⟩,
 ⟨.mov, [.p 0], some 0, none, []⟩] false)
(.region [⟨.mov, [.v 1], none, none, []⟩,
 ⟨.bin .add, [.p 0, .c (.int .i64 16)], none, none, []⟩,
 ⟨.mov, [.p 0], some 1, none, []⟩] false)) .skip))
(.seq (.seq (.region [⟨.mov, [.v 0], none, none, []⟩,
 ⟨.bin .geq, [.p 0, .c (.int .u64 256)], none, none, []⟩] false)
(.cond (.p 0) (.seq (.region [⟨.mov, [.v 0], none, none, []⟩,
 ⟨.bin .shr, [.p 0, .c (.int .u64 8)], none, none, []⟩,
 ⟨.mov, [.p 0], some 0, none, []⟩] false)
(.region [⟨.mov, [.v 1], none, none, []⟩,
 ⟨.bin .add, [.p 0, .c (.int .i64 8)], none, none, []⟩,
 ⟨.mov, [.p 0], some 1, none, []⟩] false)) .skip))
(.seq (.region [⟨.mov, [.v 1], none, none, []⟩,
 ⟨.mov, [.v 0], none, none, []⟩,
 ⟨.conv .u8, [.p 0], none, none, []⟩,
 ⟨.idx, [.c (.str ⟨#[0, 1, 2, 2, 3, 3, 3, 3, 4, 4, 4, 4, 4, 4, 4, 4, 5, 5, 5, 5, 5, 5, 5, 5, 5, 5, 5, 5, 5, 5, 5, 5, 6, 6, 6, 6, 6, 6, 6, 6, 6, 6, 6, 6, 6, 6, 6, 6, 6, 6, 6, 6, 6, 6, 6, 6, 6, 6, 6, 6, 6, 6, 6, 6, 7, 7, 7, 7, 7, 7, 7, 7, 7, 7, 7, 7, 7, 7, 7, 7, 7, 7, 7, 7, 7, 7, 7, 7, 7, 7, 7, 7, 7, 7, 7, 7, 7, 7, 7, 7, 7, 7, 7, 7, 7, 7, 7, 7, 7, 7, 7, 7, 7, 7, 7, 7, 7, 7, 7, 7, 7, 7, 7, 7, 7, 7, 7, 7, 8, 8, 8, 8, 8, 8, 8, 8, 8, 8, 8, 8, 8, 8, 8, 8, 8, 8, 8, 8, 8, 8, 8, 8, 8, 8, 8, 8, 8, 8, 8, 8, 8, 8, 8, 8, 8, 8, 8, 8, 8, 8, 8, 8, 8, 8, 8, 8, 8, 8, 8, 8, 8, 8, 8, 8, 8, 8, 8, 8, 8, 8, 8, 8, 8, 8, 8, 8, 8, 8, 8, 8, 8, 8, 8, 8, 8, 8, 8, 8, 8, 8, 8, 8, 8, 8, 8, 8, 8, 8, 8, 8, 8, 8, 8, 8, 8, 8, 8, 8, 8, 8, 8, 8, 8, 8, 8, 8, 8, 8, 8, 8, 8, 8, 8, 8, 8, 8, 8, 8, 8, 8, 8, 8, 8, 8, 8, 8]⟩), .p 0], none, none, []⟩,
 ⟨.conv .i64, [.p 0], none, none, []⟩,
 ⟨.bin .add, [.p 4, .p 0], none, none, []⟩,
 ⟨.mov, [.p 0], some 1, none, []⟩] false)
.ret))))),
[.v 1]⟩
class CodeLimbs (F : Nat → Option RFunc) : Prop where
  limbs_Quo : F 24 = some c_limbs_Quo
  limbs_Of : F 32 = some c_limbs_Of
  limbs_Small : F 33 = some c_limbs_Small
  limbs_Gcd : F 36 = some c_limbs_Gcd
  limbs_Mul : F 38 = some c_limbs_Mul
  limbs_Mod : F 40 = some c_limbs_Mod
  limbs_Add : F 43 = some c_limbs_Add
  limbs_Sub : F 46 = some c_limbs_Sub
  limbs_Neg : F 49 = some c_limbs_Neg
  limbs_Cmp : F 51 = some c_limbs_Cmp
  limbs_Sign : F 52 = some c_limbs_Sign
  limbs_Bits : F 53 = some c_limbs_Bits
  limbs_Text : F 56 = some c_limbs_Text
  limbs_Read : F 57 = some c_limbs_Read
  limbs_Power : F 61 = some c_limbs_Power
  limbs_mag : F 84 = some c_limbs_mag
  limbs_divide : F 85 = some c_limbs_divide
  limbs_neg : F 86 = some c_limbs_neg
  limbs_plus : F 87 = some c_limbs_plus
  limbs_minus : F 88 = some c_limbs_minus
  limbs_made : F 89 = some c_limbs_made
  limbs_times : F 95 = some c_limbs_times
  limbs_small : F 96 = some c_limbs_small
  limbs_sum : F 97 = some c_limbs_sum
  limbs_cmp : F 98 = some c_limbs_cmp
  limbs_grow : F 100 = some c_limbs_grow
  limbs_trim : F 107 = some c_limbs_trim
  limbs_left : F 109 = some c_limbs_left
  limbs_guess : F 110 = some c_limbs_guess
  limbs_takes : F 111 = some c_limbs_takes
  limbs_gives : F 112 = some c_limbs_gives
  limbs_right : F 113 = some c_limbs_right
  limbs_school : F 115 = some c_limbs_school
  limbs_up : F 116 = some c_limbs_up
  bits_Len32 : F 99 = some c_bits_Len32
  bits_Len : F 102 = some c_bits_Len
  bits_LeadingZeros32 : F 108 = some c_bits_LeadingZeros32
  bits_Len64 : F 117 = some c_bits_Len64
def tabCodeLimbs : List (Nat × RFunc) := [(24, c_limbs_Quo), (32, c_limbs_Of), (33, c_limbs_Small), (36, c_limbs_Gcd), (38, c_limbs_Mul), (40, c_limbs_Mod), (43, c_limbs_Add), (46, c_limbs_Sub), (49, c_limbs_Neg), (51, c_limbs_Cmp), (52, c_limbs_Sign), (53, c_limbs_Bits), (56, c_limbs_Text), (57, c_limbs_Read), (61, c_limbs_Power), (84, c_limbs_mag), (85, c_limbs_divide), (86, c_limbs_neg), (87, c_limbs_plus), (88, c_limbs_minus), (89, c_limbs_made), (95, c_limbs_times), (96, c_limbs_small), (97, c_limbs_sum), (98, c_limbs_cmp), (100, c_limbs_grow), (107, c_limbs_trim), (109, c_limbs_left), (110, c_limbs_guess), (111, c_limbs_takes), (112, c_limbs_gives), (113, c_limbs_right), (115, c_limbs_school), (116, c_limbs_up), (99, c_bits_Len32), (102, c_bits_Len), (108, c_bits_LeadingZeros32), (117, c_bits_Len64)]
end Go.Ash
/- Package limbs: trim, mag, made, neg, Sign. -/
namespace Go.Ash
variable {F : Nat → Option RFunc} [h : CodeLimbs F]

theorem trim_loop (nl : Bool) (l : List Nat) (hl : Lim l) (hlen : l.length < 2^40) : ∀ n : Nat, n ≤ l.length → ∀ b env,
    exec F l_limbs_trim_0 ⟨[.slc nl (u32s l), b, .int .i64 n], env, [], 0⟩ = some (.exit 0, ⟨[.slc nl (u32s l), .und, .int .i64 (D (ev (l.take n))).length], [], [], 0⟩) := by
  intro n
  induction n with
  | zero =>
    intro _ b env
    unfold l_limbs_trim_0
    rw [exec_loop, tidy_dry rfl (by simp)]
    simp [ev, D_zero]
  | succ n ih =>
    intro hn b env
    have h2 : ((0 : Int) < (n : Int) + 1) := by omega
    unfold l_limbs_trim_0
    rw [exec_loop, tidy_dry rfl (by simp)]
    by_cases h0 : l[n] = 0
    · have ht : ev (l.take (n + 1)) = ev (l.take n) := by rw [ev_take_succ hn, h0]; simp
      rw [ht, ← ih (by omega) .und [.int .i64 n, .int .i64 n, .int .i64 (n+1)]]
      simp (disch := omega) [wrap_i64, h2, h0, show n < l.length from hn, l_limbs_trim_0]
    · have ht : D (ev (l.take (n + 1))) = l.take (n + 1) := by
        refine D_ev (lim_take hl _) (fun hne => ?_)
        rw [List.getLast_eq_getElem]
        simp only [List.length_take, Nat.min_eq_left hn, Nat.add_sub_cancel, List.getElem_take]
        exact h0
      rw [ht]
      simp (disch := omega) [wrap_i64, h2, h0, show n < l.length from hn]

theorem take_D (l : List Nat) (hl : Lim l) : l.take (D (ev l)).length = D (ev l) := by
  have main : ∀ n, ∀ l : List Nat, l.length = n → Lim l → l.take (D (ev l)).length = D (ev l) := by
    intro n
    induction n with
    | zero => intro l h _; rw [List.length_eq_zero_iff.1 h]; simp [ev, D_zero]
    | succ n ih =>
      intro l h hl
      rcases List.eq_nil_or_concat l with rfl | ⟨l', x, hlx⟩
      · simp at h
      · rw [List.concat_eq_append] at hlx
        subst hlx
        have hl' : Lim l' := fun y hy => hl y (by simp [hy])
        by_cases hx : x = 0
        · have : ev (l' ++ [x]) = ev l' := by rw [ev_snoc, hx]; simp
          rw [this]
          have hle : (D (ev l')).length ≤ l'.length := D_len_le (ev_lt hl')
          rw [List.take_append_of_le_length hle, ih l' (by simpa using h) hl']
        · rw [D_ev hl (by intro _; simpa using hx)]
          exact List.take_length
  exact main _ l rfl hl

/-- A magnitude: the limbs of a number. -/
def Mag (v : AVal) (a : Nat) : Prop := ∃ n, v = .slc n (u32s (D a)) ∧ (n = true → a = 0)

theorem pc_trim (nl : Bool) (l : List Nat) (hl : Lim l) (hlen : l.length < 2^40) : pureCall (run F) 107 [.slc nl (u32s l)] = some (.slc nl (u32s (D (ev l)))) := by
  have hle : (D (ev l)).length ≤ l.length := D_len_le (ev_lt hl)
  refine pure_ret h.limbs_trim rfl ?_
  simp [c_limbs_trim, trim_loop nl l hl hlen, bounds, u32s_take, take_D l hl, hle]

/-- An integer as it is handed in: a sign, and limbs in any form. -/
def intA' (neg nl : Bool) (l : List Nat) : AVal := .agg [.bool neg, .slc nl (u32s l)]

theorem pc_mag (neg nl : Bool) (l : List Nat) (hl : Lim l) (hlen : l.length < 2^40) : pureCall (run F) 84 [.agg [.bool neg, .slc nl (u32s l)]] = some (.slc nl (u32s (D (ev l)))) := by
  refine pure_ret h.limbs_mag rfl ?_
  simp [c_limbs_mag, any_pure, pc_trim nl l hl hlen]

theorem pc_neg (neg nl : Bool) (l : List Nat) (hl : Lim l) (hlen : l.length < 2^40) : pureCall (run F) 86 [.agg [.bool neg, .slc nl (u32s l)]] = some (.bool (neg && decide (ev l ≠ 0))) := by
  refine pure_ret h.limbs_neg rfl ?_
  cases neg
  · simp [c_limbs_neg]
  · simp [c_limbs_neg, any_pure, pc_mag true nl l hl hlen, List.length_pos_iff]

theorem pc_sign (neg nl : Bool) (l : List Nat) (hl : Lim l) (hlen : l.length < 2^40) : pureCall (run F) 52 [.agg [.bool neg, .slc nl (u32s l)]] = some (.int .i64 (if ev l = 0 then 0 else if neg then -1 else 1)) := by
  refine pure_ret h.limbs_Sign rfl ?_
  by_cases h0 : ev l = 0
  · simp [c_limbs_Sign, any_pure, pc_mag neg nl l hl hlen, h0]
  · cases neg
    · simp [c_limbs_Sign, any_pure, pc_mag false nl l hl hlen, h0]
    · simp [c_limbs_Sign, any_pure, pc_mag true nl l hl hlen, h0]
end Go.Ash
/- Package limbs: plus. -/
namespace Go.Ash
variable {F : Nat → Option RFunc} [h : CodeLimbs F]

theorem set_plus {out : List Nat} {i v : Nat} (hi : i < out.length) : ev ((out.set i v).take (i + 1)) = ev (out.take i) + B32 ^ i * v := by
  rw [ev_take_succ (by simpa using hi), List.take_set, List.set_eq_of_length_le (by simp; omega)]
  simp

theorem drop_ev {l : List Nat} {i : Nat} (hi : i < l.length) : ev (l.drop i) = l[i] + B32 * ev (l.drop (i + 1)) := by
  rw [List.drop_eq_getElem_cons hi]; rfl

theorem carry_step {A p v S T : Nat} (e : T = v + B32 * S) : A + p * v + p * B32 * S = A + p * T := by
  subst e; rw [Nat.mul_add, Nat.mul_assoc, Nat.add_assoc]

theorem plus_loop (nx ny : Bool) (x y : List Nat) (hx : Lim x) (hy : Lim y) (hxy : y.length ≤ x.length) (hlen : x.length < 2^40) : ∀ (k i : Nat) (out : List Nat) (c : Int) (b2 b5 : AVal) (env : List AVal),
    i + k = x.length → out.length = x.length + 1 → Lim out → 0 ≤ c → c ≤ 1 → ∃ (out' : List Nat) (c' : Int),
    exec F l_limbs_plus_0 ⟨[.slc nx (u32s x), .slc ny (u32s y), b2, .mslc 0 0 (x.length + 1), .int .u64 c, b5, .int .i64 x.length, .int .i64 i], env, [some ⟨false, 1, u32s out⟩], 0⟩ =
      some (.exit 0, ⟨[.slc nx (u32s x), .slc ny (u32s y), .und, .mslc 0 0 (x.length + 1), .int .u64 c', .und, .int .i64 x.length, .int .i64 x.length], [], [some ⟨false, 1, u32s out'⟩], 0⟩) ∧
      out'.length = x.length + 1 ∧ Lim out' ∧ 0 ≤ c' ∧ c' ≤ 1 ∧
      ev (out'.take x.length) + B32 ^ x.length * c'.toNat = ev (out.take i) + B32 ^ i * (c.toNat + ev (x.drop i) + ev (y.drop i)) := by
  intro k
  induction k with
  | zero =>
    intro i out c b2 b5 env hi hout hlim h0 h1
    have hi' : i = x.length := by omega
    subst hi'
    refine ⟨out, c, ?_, hout, hlim, h0, h1, ?_⟩
    · unfold l_limbs_plus_0
      rw [exec_loop, tidy_one (by simp) (by simp)]
      simp
    · rw [List.drop_of_length_le (Nat.le_refl _), List.drop_of_length_le hxy]
      simp [ev]
  | succ k ih =>
    intro i out c b2 b5 env hi hout hlim h0 h1
    have hix : i < x.length := by omega
    have hxi := hx.get hix
    have hio : i < out.length := by omega
    have hil : (i : Int) < x.length + 1 := by omega
    by_cases hiy : i < y.length
    · have hyi := hy.get hiy
      obtain ⟨out', c', he, h2, h3, h4, h5, h6⟩ := ih (i + 1) (out.set i ((c + x[i] + y[i]) % 4294967296).toNat) ((c + x[i] + y[i]) / 4294967296) .und (.int .i64 i) []
        (by omega) (by simpa using hout) (lim_set hlim (by omega)) (by omega) (by omega)
      refine ⟨out', c', ?_, h2, h3, h4, h5, ?_⟩
      · conv => lhs; unfold l_limbs_plus_0
        rw [exec_loop, tidy_one (by simp) (by simp)]
        simp (disch := omega) [hix, hiy, hil, wrap_u64, wrap_u32', wrap_i64, get?_u32s, set_u32s, putElem, putOne]
        exact exec_loop_env.trans he
      · have e : c.toNat + (x[i] + B32 * ev (x.drop (i + 1))) + (y[i] + B32 * ev (y.drop (i + 1))) =
            ((c + x[i] + y[i]) % 4294967296).toNat + B32 * (((c + x[i] + y[i]) / 4294967296).toNat + ev (x.drop (i + 1)) + ev (y.drop (i + 1))) := by
          show c.toNat + (x[i] + 4294967296 * ev (x.drop (i + 1))) + (y[i] + 4294967296 * ev (y.drop (i + 1))) =
            ((c + x[i] + y[i]) % 4294967296).toNat + 4294967296 * (((c + x[i] + y[i]) / 4294967296).toNat + ev (x.drop (i + 1)) + ev (y.drop (i + 1)))
          omega
        rw [h6, set_plus hio, drop_ev hix, drop_ev hiy, Nat.pow_succ]
        exact carry_step e
    · obtain ⟨out', c', he, h2, h3, h4, h5, h6⟩ := ih (i + 1) (out.set i ((c + x[i]) % 4294967296).toNat) ((c + x[i]) / 4294967296) .und (.int .i64 i) []
        (by omega) (by simpa using hout) (lim_set hlim (by omega)) (by omega) (by omega)
      refine ⟨out', c', ?_, h2, h3, h4, h5, ?_⟩
      · conv => lhs; unfold l_limbs_plus_0
        rw [exec_loop, tidy_one (by simp) (by simp)]
        simp (disch := omega) [hix, hiy, hil, wrap_u64, wrap_u32', wrap_i64, get?_u32s, set_u32s, putElem, putOne]
        exact exec_loop_env.trans he
      · have e : c.toNat + (x[i] + B32 * ev (x.drop (i + 1))) + 0 = ((c + x[i]) % 4294967296).toNat + B32 * (((c + x[i]) / 4294967296).toNat + ev (x.drop (i + 1)) + 0) := by
          show c.toNat + (x[i] + 4294967296 * ev (x.drop (i + 1))) + 0 = ((c + x[i]) % 4294967296).toNat + 4294967296 * (((c + x[i]) / 4294967296).toNat + ev (x.drop (i + 1)) + 0)
          omega
        have hy1 : y.drop i = [] := List.drop_of_length_le (by omega)
        have hy2 : y.drop (i + 1) = [] := List.drop_of_length_le (by omega)
        rw [h6, set_plus hio, drop_ev hix, hy1, hy2]
        simp only [ev]
        rw [Nat.pow_succ]
        exact carry_step e

theorem pc_plus (nx ny : Bool) (x y : List Nat) (hx : Lim x) (hy : Lim y) (hlx : x.length < 2^39) (hly : y.length < 2^39) :
    pureCall (run F) 87 [.slc nx (u32s x), .slc ny (u32s y)] = some (.slc false (u32s (D (ev x + ev y)))) := by
  have main : ∀ (nx ny : Bool) (x y : List Nat), Lim x → Lim y → y.length ≤ x.length → x.length < 2^39 → ∀ (X Y : AVal), (X = .slc nx (u32s x) ∧ Y = .slc ny (u32s y)) ∨ (x.length ≠ y.length ∧ Y = .slc nx (u32s x) ∧ X = .slc ny (u32s y)) →
      pureCall (run F) 87 [X, Y] = some (.slc false (u32s (D (ev x + ev y)))) := by
    intro nx ny x y hx hy hxy hlx X Y hXY
    obtain ⟨out, c, he, h2, h3, h4, h5, h6⟩ := plus_loop (F := F) nx ny x y hx hy hxy (by omega) x.length 0 (List.replicate (x.length + 1) 0) 0 (.slc true []) .und []
      (by omega) (by simp) (lim_replicate _) (by omega) (by omega)
    have hev : ev (out.set x.length c.toNat) = ev x + ev y := by
      have : out.set x.length c.toNat = (out.set x.length c.toNat).take (x.length + 1) := by rw [List.take_of_length_le (by simp; omega)]
      rw [this, set_plus (by omega), h6]
      simp [ev]
    have hlim : Lim (out.set x.length c.toNat) := lim_set h3 (by omega)
    have ht := pc_trim (F := F) false (out.set x.length c.toNat) hlim (by simp; omega)
    rw [hev] at ht
    refine pure_ret h.limbs_plus rfl ?_
    have m1 : (0 : Int) ≤ x.length + 1 := by omega
    have m2 : ((x.length : Int) + 1) * 4 ≤ 70368744177664 := by omega
    have m3 : (x.length : Int) + 1 ≤ 70368744177664 := by omega
    have hc : c % 4294967296 = c := by omega
    have m4 : (x.length : Int) < x.length + 1 := by omega
    have m7 : (out.set x.length c.toNat).length = x.length + 1 := by simpa using h2
    have m6 : (out.set x.length c.toNat).take (x.length + 1) = out.set x.length c.toNat := List.take_of_length_le (by simp; omega)
    have hl' : exec F l_limbs_plus_0 ⟨[.slc nx (u32s x), .slc ny (u32s y), .slc true [], .mslc 0 0 (x.length + 1), .int .u64 0, .und, .int .i64 x.length, .int .i64 0],
        [.int .i64 0, .int .i64 x.length, .slc nx (u32s x)], [some ⟨false, 1, u32s (List.replicate (x.length + 1) 0)⟩], 0⟩ = _ := (exec_loop_env (F := F)).trans he
    rcases hXY with ⟨rfl, rfl⟩ | ⟨hne, rfl, rfl⟩
    · have hlt : ¬ x.length < y.length := by omega
      simp (disch := omega) [c_limbs_plus, hlt, wrap_i64, u32s_replicate, maxB, m1, m2, m3, m4, hl', wrap_u32', hc, get?_u32s, putElem, putOne, set_u32s, any_pure, hand_u32, m6, ht]
    · have hlt : y.length < x.length := by omega
      simp (disch := omega) [c_limbs_plus, hlt, wrap_i64, u32s_replicate, maxB, m1, m2, m3, m4, hl', wrap_u32', hc, get?_u32s, putElem, putOne, set_u32s, any_pure, hand_u32, m6, ht]
  rcases Nat.lt_or_ge x.length y.length with hlt | hge
  · rw [Nat.add_comm]
    exact main ny nx y x hy hx (by omega) hly _ _ (.inr ⟨by omega, rfl, rfl⟩)
  · exact main nx ny x y hx hy hge hlx _ _ (.inl ⟨rfl, rfl⟩)
end Go.Ash
