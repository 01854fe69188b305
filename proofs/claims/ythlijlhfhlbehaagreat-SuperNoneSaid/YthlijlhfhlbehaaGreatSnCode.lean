/- The abstract code of the functions: printed by a program. -/
import Derived.Test.YthlijlhfhlbehaaGreatZyExt
namespace Go.Zy.S
/-- ciboriumlaw19.SuperNone -/
def e9 : EFunc := ⟨[0, 1, 2, 4, 5, 6, 8, 9, 10, 12, 15, 18, 21, 22, 24, 25],
 [some 0, some 1, none, none, none, none, none, none, none, none, none, none, none, none, none, none],
 (.seq (.region [⟨(.var 2), .box 5 (.var 0), none, 0⟩, ⟨(.var 3), .mv (.cst (.bool false)), none, 0⟩])
 (.seq (.region [⟨.loc, .build [.int .i64 0, .int .i64 0, .int .i64 0] [(0, 1, (.cst (.int .i64 2))), (1, 1, (.cst (.int .i64 2))), (2, 1, (.cst (.int .i64 4)))], none, 0⟩, ⟨.loc, .call (.cst (.func (.func 39) [] [])) [(.loc 0)], none, 0⟩, ⟨.loc, .mv (.loc 0), none, 0⟩, ⟨.loc, .ext 0 (.loc 0), none, 0⟩, ⟨.loc, .ext 1 (.loc 1), none, 0⟩, ⟨(.var 4), .mv (.loc 1), none, 0⟩, ⟨(.var 5), .mv (.loc 0), none, 0⟩])
 (.seq (.region [⟨.loc, .build [.int .i64 0, .int .i64 0, .int .i64 0] [(0, 1, (.cst (.int .i64 2))), (1, 1, (.cst (.int .i64 1))), (2, 1, (.cst (.int .i64 4)))], none, 0⟩, ⟨.loc, .call (.cst (.func (.func 39) [] [])) [(.loc 0)], none, 0⟩, ⟨.loc, .mv (.loc 0), none, 0⟩, ⟨.loc, .ext 0 (.loc 0), none, 0⟩, ⟨.loc, .ext 1 (.loc 1), none, 0⟩, ⟨.loc, .mv (.loc 1), none, 0⟩, ⟨(.var 6), .mv (.loc 1), none, 0⟩])
 (.seq (.region [⟨.loc, .mv (.var 5), none, 0⟩, ⟨.loc, .mv (.var 1), none, 0⟩, ⟨.loc, .ldn 5 (.var 2), none, 0⟩, ⟨.loc, .call (.cst (.func (.func 50) [] [])) [(.cst (.nilptr)), (.loc 2), (.loc 1), (.loc 0)], none, 0⟩, ⟨(.var 7), .mv (.loc 0), none, 0⟩])
 (.seq (.region [⟨.loc, .mv (.var 4), none, 0⟩, ⟨.loc, .mv (.var 1), none, 0⟩, ⟨.loc, .ldn 5 (.var 2), none, 0⟩, ⟨.loc, .call (.cst (.func (.func 50) [] [])) [(.loc 2), (.cst (.nilptr)), (.loc 1), (.loc 0)], none, 0⟩, ⟨(.var 8), .mv (.loc 0), none, 0⟩])
 (.seq (.region [⟨.loc, .mv (.var 5), none, 0⟩, ⟨.loc, .mv (.var 1), none, 0⟩, ⟨.loc, .call (.cst (.func (.func 51) [] [])) [(.cst (.nilptr)), (.loc 1), (.loc 0)], none, 0⟩, ⟨.loc, .mv (.loc 0), none, 0⟩, ⟨.loc, .ext 0 (.loc 0), none, 0⟩, ⟨.loc, .ext 1 (.loc 1), none, 0⟩, ⟨.loc, .alloc [.int .u64 0, .int .i64 0, .int .u64 0, .int .i64 0, .int .i64 0], none, 0⟩, ⟨.drop, .st 5 (.loc 0) (.loc 2), none, 0⟩, ⟨(.var 9), .mv (.loc 1), none, 0⟩])
 (.seq (.region [⟨.loc, .mv (.var 4), none, 0⟩, ⟨.loc, .call (.cst (.func (.func 52) [] [])) [(.loc 0), (.cst (.nilptr))], none, 0⟩, ⟨.loc, .mv (.loc 0), none, 0⟩, ⟨.loc, .ext 0 (.loc 0), none, 0⟩, ⟨.loc, .ext 1 (.loc 1), none, 0⟩, ⟨.loc, .ext 2 (.loc 2), none, 0⟩, ⟨.loc, .alloc [.int .u64 0, .int .i64 0, .int .u64 0, .int .i64 0, .int .i64 0], none, 0⟩, ⟨.drop, .st 5 (.loc 0) (.loc 3), none, 0⟩, ⟨.loc, .mv (.loc 2), none, 0⟩, ⟨(.var 10), .mv (.loc 2), none, 0⟩])
 (.seq (.region [⟨.loc, .mv (.var 4), none, 0⟩, ⟨.loc, .mv (.var 5), none, 0⟩, ⟨.loc, .call (.cst (.func (.func 52) [] [])) [(.loc 1), (.loc 0)], none, 0⟩, ⟨.loc, .mv (.loc 0), none, 0⟩, ⟨.loc, .ext 0 (.loc 0), none, 0⟩, ⟨.loc, .ext 1 (.loc 1), none, 0⟩, ⟨.loc, .ext 2 (.loc 2), none, 0⟩, ⟨.loc, .alloc [.int .u64 0, .int .i64 0, .int .u64 0, .int .i64 0, .int .i64 0], none, 0⟩, ⟨.drop, .st 5 (.loc 0) (.loc 3), none, 0⟩, ⟨.loc, .mv (.loc 2), none, 0⟩, ⟨(.var 11), .mv (.loc 2), none, 0⟩])
 (.seq (.region [⟨.loc, .mv (.var 4), none, 0⟩, ⟨.loc, .mv (.var 6), none, 0⟩, ⟨.loc, .call (.cst (.func (.func 52) [] [])) [(.loc 1), (.loc 0)], none, 0⟩, ⟨.loc, .mv (.loc 0), none, 0⟩, ⟨.loc, .ext 0 (.loc 0), none, 0⟩, ⟨.loc, .ext 1 (.loc 1), none, 0⟩, ⟨.loc, .ext 2 (.loc 2), none, 0⟩, ⟨.loc, .alloc [.int .u64 0, .int .i64 0, .int .u64 0, .int .i64 0, .int .i64 0], none, 0⟩, ⟨.drop, .st 5 (.loc 0) (.loc 3), none, 0⟩, ⟨.loc, .mv (.loc 2), none, 0⟩, ⟨(.var 12), .mv (.loc 2), none, 0⟩])
 (.seq (.region [⟨.loc, .mv (.var 4), none, 0⟩, ⟨.loc, .mv (.var 5), none, 0⟩, ⟨.loc, .ldn 5 (.var 2), none, 0⟩, ⟨.loc, .call (.cst (.func (.func 50) [] [])) [(.loc 2), (.loc 1), (.cst (.int .i64 2)), (.loc 0)], none, 0⟩, ⟨(.var 13), .mv (.loc 0), none, 0⟩])
 (.seq (.region [⟨.loc, .mv (.var 4), none, 0⟩, ⟨.loc, .mv (.var 5), none, 0⟩, ⟨.loc, .call (.cst (.func (.func 51) [] [])) [(.loc 1), (.loc 0), (.cst (.int .i64 (-1)))], none, 0⟩, ⟨.loc, .mv (.loc 0), none, 0⟩, ⟨.loc, .ext 0 (.loc 0), none, 0⟩, ⟨.loc, .ext 1 (.loc 1), none, 0⟩, ⟨.loc, .alloc [.int .u64 0, .int .i64 0, .int .u64 0, .int .i64 0, .int .i64 0], none, 0⟩, ⟨.drop, .st 5 (.loc 0) (.loc 2), none, 0⟩, ⟨(.var 14), .mv (.loc 1), none, 0⟩])
 (.seq (.region [⟨.loc, .mv (.var 4), none, 0⟩, ⟨.loc, .mv (.var 6), none, 0⟩, ⟨.loc, .build [.int .u64 0, .int .i64 0, .int .u64 0, .int .i64 0, .int .i64 0] [], none, 0⟩, ⟨.loc, .call (.cst (.func (.func 50) [] [])) [(.loc 2), (.loc 1), (.cst (.int .i64 0)), (.loc 0)], none, 0⟩, ⟨(.var 15), .mv (.loc 0), none, 0⟩])
 (.seq (.region [⟨.loc, .mv (.var 7), none, 0⟩, ⟨.loc, .bin .eql (.loc 0) (.cst (.int .i64 1)), none, 0⟩, ⟨.loc, .mv (.loc 0), none, 0⟩, ⟨.loc, .mv (.var 8), (some ((.loc 0), true)), 0⟩, ⟨.loc, .bin .eql (.loc 0) (.cst (.int .i64 1)), (some ((.loc 1), true)), 0⟩, ⟨.loc, .pick (.loc 2) (.loc 0) (.cst (.bool false)), none, 0⟩, ⟨.loc, .mv (.loc 0), none, 0⟩, ⟨.loc, .mv (.var 9), (some ((.loc 0), true)), 0⟩, ⟨.loc, .bin .eql (.loc 0) (.cst (.int .i64 1)), (some ((.loc 1), true)), 0⟩, ⟨.loc, .pick (.loc 2) (.loc 0) (.cst (.bool false)), none, 0⟩, ⟨.loc, .mv (.loc 0), none, 0⟩, ⟨.loc, .mv (.var 10), (some ((.loc 0), true)), 0⟩, ⟨.loc, .bin .eql (.loc 0) (.cst (.int .i64 1)), (some ((.loc 1), true)), 0⟩, ⟨.loc, .pick (.loc 2) (.loc 0) (.cst (.bool false)), none, 0⟩, ⟨.loc, .mv (.loc 0), none, 0⟩, ⟨.loc, .mv (.var 11), (some ((.loc 0), true)), 0⟩, ⟨.loc, .bin .eql (.loc 0) (.cst (.int .i64 190)), (some ((.loc 1), true)), 0⟩, ⟨.loc, .pick (.loc 2) (.loc 0) (.cst (.bool false)), none, 0⟩, ⟨.loc, .mv (.loc 0), none, 0⟩, ⟨.loc, .mv (.var 12), (some ((.loc 0), true)), 0⟩, ⟨.loc, .bin .eql (.loc 0) (.cst (.int .i64 2)), (some ((.loc 1), true)), 0⟩, ⟨.loc, .pick (.loc 2) (.loc 0) (.cst (.bool false)), none, 0⟩, ⟨.loc, .mv (.loc 0), none, 0⟩, ⟨.loc, .mv (.var 13), (some ((.loc 0), true)), 0⟩, ⟨.loc, .bin .eql (.loc 0) (.cst (.int .i64 2)), (some ((.loc 1), true)), 0⟩, ⟨.loc, .pick (.loc 2) (.loc 0) (.cst (.bool false)), none, 0⟩, ⟨.loc, .mv (.loc 0), none, 0⟩, ⟨.loc, .mv (.var 14), (some ((.loc 0), true)), 0⟩, ⟨.loc, .bin .eql (.loc 0) (.cst (.int .i64 2)), (some ((.loc 1), true)), 0⟩, ⟨.loc, .pick (.loc 2) (.loc 0) (.cst (.bool false)), none, 0⟩, ⟨.loc, .mv (.loc 0), none, 0⟩, ⟨.loc, .mv (.var 15), (some ((.loc 0), true)), 0⟩, ⟨.loc, .bin .eql (.loc 0) (.cst (.int .i64 2)), (some ((.loc 1), true)), 0⟩, ⟨.loc, .pick (.loc 2) (.loc 0) (.cst (.bool false)), none, 0⟩, ⟨.loc, .mv (.loc 0), none, 0⟩, ⟨.loc, .call (.cst (.func (.func 53) [] [])) [(.cst (.nilptr))], (some ((.loc 0), true)), 0⟩, ⟨.loc, .bin .eql (.loc 0) (.cst (.int .u64 0)), (some ((.loc 1), true)), 0⟩, ⟨.loc, .pick (.loc 2) (.loc 0) (.cst (.bool false)), none, 0⟩, ⟨.loc, .mv (.loc 0), none, 0⟩, ⟨.loc, .mv (.var 4), (some ((.loc 0), true)), 0⟩, ⟨.loc, .call (.cst (.func (.func 53) [] [])) [(.loc 0)], (some ((.loc 1), true)), 0⟩, ⟨.loc, .bin .eql (.loc 0) (.cst (.int .u64 0)), (some ((.loc 2), true)), 0⟩, ⟨.loc, .pick (.loc 3) (.loc 0) (.cst (.bool false)), none, 0⟩, ⟨.loc, .mv (.loc 0), none, 0⟩, ⟨.loc, .call (.cst (.func (.func 54) [] [])) [(.cst (.int .i64 2)), (.cst (.int .u64 1))], (some ((.loc 0), true)), 0⟩, ⟨.loc, .build [.int .u8 0, .int .i64 0, .int .u64 0] [], (some ((.loc 1), true)), 0⟩, ⟨.loc, .eqagg false [1, 1, 1] (.loc 1) (.loc 0), (some ((.loc 2), true)), 0⟩, ⟨.loc, .pick (.loc 3) (.loc 0) (.cst (.bool false)), none, 0⟩, ⟨.loc, .mv (.loc 0), none, 0⟩, ⟨.loc, .call (.cst (.func (.func 55) [] [])) [], (some ((.loc 0), true)), 0⟩, ⟨.loc, .pick (.loc 1) (.loc 0) (.cst (.bool false)), none, 0⟩, ⟨(.var 3), .mv (.loc 0), none, 0⟩])
 .ret))))))))))))),
 [.var 3]⟩
/-- array.New -/
def e13 : EFunc := ⟨[0, 1, 4, 5, 6, 12, 15, 16, 17, 21],
 [some 0, some 1, none, none, none, none, none, none, none, none],
 (.seq (.region [⟨(.var 2), .mv (.cst (.nilptr)), none, 0⟩])
 (.seq (.seq (.region [⟨.loc, .mv (.var 0), none, 0⟩, ⟨.loc, .bin .lss (.loc 0) (.cst (.int .i64 1)), none, 0⟩, ⟨.loc, .mv (.loc 0), none, 0⟩, ⟨.loc, .mv (.var 0), (some ((.loc 0), false)), 0⟩, ⟨.loc, .bin .gtr (.loc 0) (.cst (.int .i64 255)), (some ((.loc 1), false)), 0⟩, ⟨(.var 5), .pick (.loc 2) (.cst (.bool true)) (.loc 0), none, 0⟩])
 (.cond (.var 5) (.seq (.region [⟨(.var 2), .mv (.cst (.nilptr)), none, 0⟩])
 .ret) .skip))
 (.seq (.region [⟨.loc, .build [.nilslice] [], none, 0⟩, ⟨.loc, .box 1 (.loc 0), none, 0⟩, ⟨(.var 3), .mv (.loc 0), none, 0⟩])
 (.seq (.seq (.region [⟨(.var 6), .mv (.var 0), none, 0⟩, ⟨(.var 7), .mv (.cst (.int .i64 0)), none, 0⟩])
 (.block 0 (.loop (.seq (.region [⟨(.var 8), .bin .lss (.var 7) (.var 6), none, 0⟩])
 (.seq (.cond (.var 8) .skip (.exit 0))
 (.seq (.block 1 (.seq (.region [⟨.loc, .mv (.var 1), none, 0⟩, ⟨.loc, .call (.cst (.func (.func 58) [] [])) [(.loc 0)], none, 0⟩, ⟨(.var 4), .mv (.loc 0), none, 0⟩])
 (.seq (.seq (.region [⟨.loc, .mv (.var 4), none, 0⟩, ⟨(.var 9), .isnil 0 false (.loc 0), none, 0⟩])
 (.cond (.var 9) (.seq (.region [⟨(.var 2), .mv (.cst (.nilptr)), none, 0⟩])
 .ret) .skip))
 (.region [⟨.loc, .mv (.var 3), none, 0⟩, ⟨.loc, .mv (.var 3), none, 0⟩, ⟨.loc, .nilchk (.loc 0), none, 0⟩, ⟨.loc, .fld 0 (.loc 0), none, 0⟩, ⟨.loc, .ld (.loc 0), none, 0⟩, ⟨.loc, .mv (.var 4), none, 0⟩, ⟨.loc, .buildS 1 1 [.nilptr] [(0, 1, (.loc 0))], none, 0⟩, ⟨.loc, .append 1 8 (.loc 2) (.loc 0), none, 0⟩, ⟨.loc, .nilchk (.loc 7), none, 0⟩, ⟨.loc, .fld 0 (.loc 0), none, 0⟩, ⟨.drop, .st 1 (.loc 0) (.loc 2), none, 0⟩]))))
 (.region [⟨.loc, .bin .add (.var 7) (.cst (.int .i64 1)), none, 0⟩, ⟨(.var 7), .mv (.loc 0), none, 0⟩])))))))
 (.seq (.region [⟨.loc, .mv (.var 3), none, 0⟩, ⟨(.var 2), .mv (.loc 0), none, 0⟩])
 .ret))))),
 [.var 2]⟩
/-- ciboriumlaw13.Geometry).Made -/
def e39 : EFunc := ⟨[0, 1, 2, 3],
 [some 0, none, none, none],
 (.seq (.region [⟨(.var 1), .box 3 (.var 0), none, 0⟩, ⟨(.var 2), .mv (.cst (.nilptr)), none, 0⟩, ⟨(.var 3), .mv (.cst (.nilptr)), none, 0⟩])
 (.seq (.dregion [⟨.loc, .fld 0 (.var 1), none, 0⟩, ⟨.loc, .ld (.loc 0), none, 1⟩, ⟨.loc, .fld 1 (.var 1), none, 2⟩, ⟨.loc, .ld (.loc 0), none, 3⟩, ⟨.loc, .bin .add (.loc 2) (.loc 0), none, 4⟩, ⟨.loc, .fld 2 (.var 1), none, 5⟩, ⟨.loc, .ld (.loc 0), none, 6⟩, ⟨.loc, .fld 0 (.var 1), none, 9⟩, ⟨.loc, .ld (.loc 0), none, 10⟩, ⟨.loc, .fld 1 (.var 1), none, 11⟩, ⟨.loc, .ld (.loc 0), none, 12⟩] [⟨⟨.loc, .call (.cst (.func (.func 13) [] [])) [(.loc 6), (.loc 4)], none, 7⟩, [(10, .ld (.loc 4), (.loc 3), none), (12, .ld (.loc 2), (.loc 1), none)], []⟩, ⟨⟨.loc, .call (.cst (.func (.func 103) [] [])) [], none, 8⟩, [(10, .ld (.loc 5), (.loc 4), none), (12, .ld (.loc 3), (.loc 2), none)], []⟩, ⟨⟨.loc, .call (.cst (.func (.func 102) [] [])) [(.loc 0), (.loc 4), (.loc 2)], none, 13⟩, [], [⟨(.var 2), .mv (.loc 2), none, 14⟩, ⟨(.var 3), .mv (.loc 0), none, 15⟩]⟩])
 .ret)),
 [.var 2, .var 3]⟩
/-- stripe.Put -/
def e40 : EFunc := ⟨[0, 1, 2, 3, 6, 8, 9, 10, 11, 12, 13, 22, 28, 36, 45],
 [some 0, some 1, some 2, some 3, none, none, none, none, none, none, none, none, none, none, none],
 (.seq (.region [⟨(.var 4), .box 3 (.var 2), none, 0⟩, ⟨(.var 5), .mv (.cst (.int .i64 0)), none, 0⟩, ⟨(.var 6), .mv (.cst (.int .i64 0)), none, 0⟩])
 (.seq (.region [⟨.loc, .mv (.var 0), none, 0⟩, ⟨.loc, .mv (.var 1), none, 0⟩, ⟨.loc, .ldn 3 (.var 4), none, 0⟩, ⟨.loc, .call (.cst (.func (.func 104) [] [])) [(.loc 2), (.loc 1), (.loc 0)], none, 0⟩, ⟨.loc, .mv (.loc 0), none, 0⟩, ⟨.loc, .ext 0 (.loc 0), none, 0⟩, ⟨.loc, .ext 1 (.loc 1), none, 0⟩, ⟨(.var 7), .mv (.loc 1), none, 0⟩, ⟨(.var 8), .mv (.loc 0), none, 0⟩])
 (.seq (.seq (.region [⟨.loc, .mv (.var 8), none, 0⟩, ⟨(.var 11), .bin .neq (.loc 0) (.cst (.int .i64 0)), none, 0⟩])
 (.cond (.var 11) (.seq (.region [⟨.loc, .mv (.var 8), none, 0⟩, ⟨(.var 5), .mv (.cst (.int .i64 0)), none, 0⟩, ⟨(.var 6), .mv (.loc 0), none, 0⟩])
 .ret) .skip))
 (.seq (.seq (.region [⟨.loc, .mv (.var 3), none, 0⟩, ⟨.loc, .len false (.loc 0), none, 0⟩, ⟨.loc, .mv (.var 1), none, 0⟩, ⟨.loc, .call (.cst (.func (.func 101) [] [])) [(.loc 0)], none, 0⟩, ⟨(.var 12), .bin .gtr (.loc 2) (.loc 0), none, 0⟩])
 (.cond (.var 12) (.seq (.region [⟨(.var 5), .mv (.cst (.int .i64 0)), none, 0⟩, ⟨(.var 6), .mv (.cst (.int .i64 260)), none, 0⟩])
 .ret) .skip))
 (.seq (.region [⟨.loc, .mv (.var 1), none, 0⟩, ⟨.loc, .mv (.var 3), none, 0⟩, ⟨.loc, .call (.cst (.func (.func 105) [] [])) [(.loc 1), (.loc 0), (.cst (.int .i64 44))], none, 0⟩, ⟨.loc, .mv (.loc 0), none, 0⟩, ⟨.loc, .ext 0 (.loc 0), none, 0⟩, ⟨.loc, .ext 1 (.loc 1), none, 0⟩, ⟨(.var 9), .mv (.loc 1), none, 0⟩, ⟨(.var 8), .mv (.loc 0), none, 0⟩])
 (.seq (.seq (.region [⟨.loc, .mv (.var 8), none, 0⟩, ⟨(.var 13), .bin .neq (.loc 0) (.cst (.int .i64 0)), none, 0⟩])
 (.cond (.var 13) (.seq (.region [⟨.loc, .mv (.var 8), none, 0⟩, ⟨(.var 5), .mv (.cst (.int .i64 0)), none, 0⟩, ⟨(.var 6), .mv (.loc 0), none, 0⟩])
 .ret) .skip))
 (.seq (.region [⟨.loc, .mv (.var 1), none, 0⟩, ⟨.loc, .mv (.var 9), none, 0⟩, ⟨.loc, .call (.cst (.func (.func 106) [] [])) [(.loc 1), (.loc 0)], none, 0⟩, ⟨.loc, .mv (.loc 0), none, 0⟩, ⟨.loc, .ext 0 (.loc 0), none, 0⟩, ⟨.loc, .ext 1 (.loc 1), none, 0⟩, ⟨(.var 10), .alloc [.nilslice], none, 0⟩, ⟨.drop, .st 1 (.var 10) (.loc 1), none, 0⟩, ⟨(.var 8), .mv (.loc 0), none, 0⟩])
 (.seq (.seq (.region [⟨.loc, .mv (.var 8), none, 0⟩, ⟨(.var 14), .bin .neq (.loc 0) (.cst (.int .i64 0)), none, 0⟩])
 (.cond (.var 14) (.seq (.region [⟨.loc, .mv (.var 8), none, 0⟩, ⟨(.var 5), .mv (.cst (.int .i64 0)), none, 0⟩, ⟨(.var 6), .mv (.loc 0), none, 0⟩])
 .ret) .skip))
 (.seq (.region [⟨.loc, .mv (.var 7), none, 0⟩, ⟨.loc, .mv (.var 3), none, 0⟩, ⟨.loc, .len false (.loc 0), none, 0⟩, ⟨.loc, .mkfn (.func 109) [] [(.var 10)], none, 0⟩, ⟨.loc, .call (.cst (.func (.func 107) [] [])) [(.loc 3), (.loc 1), (.cst (.func (.func 108) [] [])), (.loc 0)], none, 0⟩, ⟨(.var 5), .mv (.loc 0), none, 0⟩, ⟨(.var 6), .mv (.cst (.int .i64 0)), none, 0⟩])
 .ret))))))))),
 [.var 5, .var 6]⟩
/-- stripe.Get -/
def e41 : EFunc := ⟨[0, 1, 2, 5, 6, 7, 8, 9, 10, 11, 12, 21, 32, 42],
 [some 0, some 1, some 2, none, none, none, none, none, none, none, none, none, none, none],
 (.seq (.region [⟨(.var 3), .box 3 (.var 2), none, 0⟩, ⟨(.var 4), .mv (.cst (.nilslice)), none, 0⟩, ⟨(.var 5), .mv (.cst (.int .i64 0)), none, 0⟩])
 (.seq (.region [⟨.loc, .mv (.var 0), none, 0⟩, ⟨.loc, .mv (.var 1), none, 0⟩, ⟨.loc, .ldn 3 (.var 3), none, 0⟩, ⟨.loc, .call (.cst (.func (.func 104) [] [])) [(.loc 2), (.loc 1), (.loc 0)], none, 0⟩, ⟨.loc, .mv (.loc 0), none, 0⟩, ⟨.loc, .ext 0 (.loc 0), none, 0⟩, ⟨.loc, .ext 1 (.loc 1), none, 0⟩, ⟨(.var 6), .mv (.loc 1), none, 0⟩, ⟨(.var 7), .mv (.loc 0), none, 0⟩])
 (.seq (.seq (.region [⟨.loc, .mv (.var 7), none, 0⟩, ⟨(.var 11), .bin .neq (.loc 0) (.cst (.int .i64 0)), none, 0⟩])
 (.cond (.var 11) (.seq (.region [⟨.loc, .mv (.var 7), none, 0⟩, ⟨(.var 4), .mv (.cst (.nilslice)), none, 0⟩, ⟨(.var 5), .mv (.loc 0), none, 0⟩])
 .ret) .skip))
 (.seq (.region [⟨.loc, .mv (.var 6), none, 0⟩, ⟨.loc, .call (.cst (.func (.func 110) [] [])) [(.loc 0)], none, 0⟩, ⟨.loc, .mv (.loc 0), none, 0⟩, ⟨.loc, .ext 0 (.loc 0), none, 0⟩, ⟨.loc, .ext 1 (.loc 1), none, 0⟩, ⟨(.var 8), .mv (.loc 1), none, 0⟩, ⟨(.var 9), .mv (.loc 0), none, 0⟩])
 (.seq (.seq (.region [⟨.loc, .mv (.var 8), none, 0⟩, ⟨.loc, .lenM (.loc 0), none, 0⟩, ⟨.loc, .mv (.var 1), none, 0⟩, ⟨.loc, .call (.cst (.func (.func 111) [] [])) [(.loc 0)], none, 0⟩, ⟨(.var 12), .bin .lss (.loc 2) (.loc 0), none, 0⟩])
 (.cond (.var 12) (.seq (.region [⟨(.var 4), .mv (.cst (.nilslice)), none, 0⟩, ⟨(.var 5), .mv (.cst (.int .i64 130)), none, 0⟩])
 .ret) .skip))
 (.seq (.region [⟨.loc, .mv (.var 1), none, 0⟩, ⟨.loc, .mv (.var 6), none, 0⟩, ⟨.loc, .mv (.var 8), none, 0⟩, ⟨.loc, .call (.cst (.func (.func 113) [] [])) [(.loc 1), (.loc 0)], none, 0⟩, ⟨.loc, .call (.cst (.func (.func 112) [] [])) [(.loc 3), (.loc 0)], none, 0⟩, ⟨.loc, .mv (.loc 0), none, 0⟩, ⟨.loc, .ext 0 (.loc 0), none, 0⟩, ⟨.loc, .ext 1 (.loc 1), none, 0⟩, ⟨(.var 10), .mv (.loc 1), none, 0⟩, ⟨(.var 7), .mv (.loc 0), none, 0⟩])
 (.seq (.seq (.region [⟨.loc, .mv (.var 7), none, 0⟩, ⟨(.var 13), .bin .neq (.loc 0) (.cst (.int .i64 0)), none, 0⟩])
 (.cond (.var 13) (.seq (.region [⟨.loc, .mv (.var 7), none, 0⟩, ⟨(.var 4), .mv (.cst (.nilslice)), none, 0⟩, ⟨(.var 5), .mv (.loc 0), none, 0⟩])
 .ret) .skip))
 (.seq (.region [⟨.loc, .mv (.var 1), none, 0⟩, ⟨.loc, .mv (.var 10), none, 0⟩, ⟨.loc, .mv (.var 9), none, 0⟩, ⟨.loc, .call (.cst (.func (.func 114) [] [])) [(.loc 2), (.loc 1), (.loc 0)], none, 0⟩, ⟨.loc, .ext 0 (.loc 0), none, 0⟩, ⟨.loc, .ext 1 (.loc 1), none, 0⟩, ⟨(.var 4), .mv (.loc 1), none, 0⟩, ⟨(.var 5), .mv (.loc 0), none, 0⟩])
 .ret)))))))),
 [.var 4, .var 5]⟩
/-- super.Put -/
def e50 : EFunc := ⟨[0, 1, 2, 3, 7, 8, 9, 10, 12, 18, 26],
 [some 0, some 1, some 2, some 3, none, none, none, none, none, none, none],
 (.seq (.region [⟨(.var 4), .box 5 (.var 3), none, 0⟩, ⟨(.var 5), .mv (.cst (.int .i64 0)), none, 0⟩])
 (.seq (.seq (.region [⟨.loc, .mv (.var 0), none, 0⟩, ⟨.loc, .mv (.var 1), none, 0⟩, ⟨.loc, .mv (.var 2), none, 0⟩, ⟨.loc, .call (.cst (.func (.func 126) [] [])) [(.loc 2), (.loc 1), (.loc 0)], none, 0⟩, ⟨(.var 6), .mv (.loc 0), none, 0⟩])
 (.seq (.region [⟨.loc, .mv (.var 6), none, 0⟩, ⟨(.var 9), .bin .neq (.loc 0) (.cst (.int .i64 0)), none, 0⟩])
 (.cond (.var 9) (.seq (.region [⟨.loc, .mv (.var 6), none, 0⟩, ⟨(.var 5), .mv (.loc 0), none, 0⟩])
 .ret) .skip)))
 (.seq (.region [⟨.loc, .mv (.var 2), none, 0⟩, ⟨.loc, .fld 0 (.var 4), none, 0⟩, ⟨.loc, .ld (.loc 0), none, 0⟩, ⟨.loc, .call (.cst (.func (.func 54) [] [])) [(.loc 2), (.loc 0)], none, 0⟩, ⟨(.var 7), .alloc [.int .u8 0, .int .i64 0, .int .u64 0], none, 0⟩, ⟨.drop, .st 3 (.var 7) (.loc 0), none, 0⟩])
 (.seq (.seq (.region [⟨.loc, .ldn 3 (.var 7), none, 0⟩, ⟨.loc, .build [.int .u8 0, .int .i64 0, .int .u64 0] [], none, 0⟩, ⟨(.var 10), .eqagg false [1, 1, 1] (.loc 1) (.loc 0), none, 0⟩])
 (.cond (.var 10) (.seq (.region [⟨(.var 5), .mv (.cst (.int .i64 2)), none, 0⟩])
 .ret) .skip))
 (.seq (.dregion [⟨.loc, .mv (.var 0), none, 0⟩, ⟨.loc, .mv (.var 1), none, 1⟩, ⟨.loc, .ldn 3 (.var 7), none, 2⟩, ⟨.loc, .fld 1 (.var 4), none, 3⟩, ⟨.loc, .ldn 4 (.loc 0), none, 4⟩] [⟨⟨.loc, .call (.cst (.func (.func 127) [] [])) [(.cst (.nilslice)), (.loc 0)], none, 5⟩, [(2, .ldn 3 (.var 7), (.loc 3), none)], []⟩, ⟨⟨.loc, .call (.cst (.func (.func 40) [] [])) [(.loc 5), (.loc 4), (.loc 3), (.loc 0)], none, 6⟩, [], [⟨.loc, .mv (.loc 0), none, 7⟩, ⟨.loc, .ext 0 (.loc 0), none, 8⟩, ⟨.loc, .ext 1 (.loc 1), none, 9⟩, ⟨.loc, .mv (.loc 1), none, 10⟩, ⟨(.var 8), .mv (.loc 1), none, 11⟩]⟩])
 (.seq (.region [⟨.loc, .mv (.var 8), none, 0⟩, ⟨(.var 5), .mv (.loc 0), none, 0⟩])
 .ret)))))),
 [.var 5]⟩
/-- super.Get -/
def e51 : EFunc := ⟨[0, 1, 2, 3, 4, 5, 6, 7, 8, 9, 10, 11, 12, 19, 32],
 [some 0, some 1, some 2, none, none, none, none, none, none, none, none, none, none, none, none],
 (.seq (.region [⟨(.var 3), .box 1 (.var 0), none, 0⟩, ⟨(.var 4), .box 1 (.var 1), none, 0⟩, ⟨(.var 5), .box 1 (.var 2), none, 0⟩, ⟨(.var 6), .alloc [.int .u64 0, .int .i64 0, .int .u64 0, .int .i64 0, .int .i64 0], none, 0⟩, ⟨(.var 7), .mv (.cst (.int .i64 0)), none, 0⟩])
 (.seq (.seq (.region [⟨.loc, .ld (.var 3), none, 0⟩, ⟨.loc, .ld (.var 4), none, 0⟩, ⟨.loc, .ld (.var 5), none, 0⟩, ⟨.loc, .call (.cst (.func (.func 126) [] [])) [(.loc 2), (.loc 1), (.loc 0)], none, 0⟩, ⟨(.var 8), .mv (.loc 0), none, 0⟩])
 (.seq (.region [⟨.loc, .mv (.var 8), none, 0⟩, ⟨(.var 13), .bin .neq (.loc 0) (.cst (.int .i64 0)), none, 0⟩])
 (.cond (.var 13) (.seq (.region [⟨.loc, .build [.int .u64 0, .int .i64 0, .int .u64 0, .int .i64 0, .int .i64 0] [], none, 0⟩, ⟨.loc, .mv (.var 8), none, 0⟩, ⟨.drop, .st 5 (.var 6) (.loc 1), none, 0⟩, ⟨(.var 7), .mv (.loc 0), none, 0⟩])
 .ret) .skip)))
 (.seq (.region [⟨.loc, .mkfn (.func 128) [] [(.var 5), (.var 3), (.var 4)], none, 0⟩, ⟨(.var 9), .mv (.loc 0), none, 0⟩])
 (.seq (.region [⟨.loc, .ld (.var 3), none, 0⟩, ⟨.loc, .ld (.var 5), none, 0⟩, ⟨.loc, .call (.cst (.func (.func 131) [] [])) [(.loc 1), (.loc 0)], none, 0⟩, ⟨.loc, .mv (.var 9), none, 0⟩, ⟨.loc, .call (.cst (.func (.func 130) [] [])) [(.loc 1), (.loc 0)], none, 0⟩, ⟨.loc, .mv (.loc 0), none, 0⟩, ⟨.loc, .ext 0 (.loc 0), none, 0⟩, ⟨.loc, .ext 1 (.loc 1), none, 0⟩, ⟨(.var 10), .alloc [.int .u8 0, .int .u8 0, .int .u16 0, .int .u64 0, .int .u16 0, .int .u8 0, .int .u8 0, .int .u8 0, .int .u8 0, .int .u8 0, .int .u8 0, .int .u8 0, .int .u8 0, .int .u8 0, .int .u8 0, .int .u8 0, .int .u8 0, .int .u8 0, .int .u8 0, .int .u8 0, .int .u8 0, .int .u8 0, .int .u8 0, .int .u8 0, .int .u8 0, .int .u8 0, .int .u8 0, .int .u8 0, .int .u8 0, .int .u8 0, .int .u8 0, .int .u8 0, .int .u8 0, .int .u8 0, .int .u8 0, .int .u8 0, .int .u8 0, .int .u8 0, .int .u8 0, .int .u8 0, .int .u8 0, .int .u8 0, .int .u8 0, .int .u8 0, .int .u8 0, .int .u8 0, .int .u8 0, .int .u8 0, .int .u8 0], none, 0⟩, ⟨.drop, .st 49 (.var 10) (.loc 1), none, 0⟩, ⟨(.var 11), .mv (.loc 0), none, 0⟩])
 (.seq (.seq (.region [⟨.loc, .mv (.var 11), none, 0⟩, ⟨(.var 14), .un .not (.loc 0), none, 0⟩])
 (.cond (.var 14) (.seq (.region [⟨.loc, .build [.int .u64 0, .int .i64 0, .int .u64 0, .int .i64 0, .int .i64 0] [], none, 0⟩, ⟨.drop, .st 5 (.var 6) (.loc 0), none, 0⟩, ⟨(.var 7), .mv (.cst (.int .i64 190)), none, 0⟩])
 .ret) .skip))
 (.seq (.region [⟨.loc, .ld (.var 3), none, 0⟩, ⟨.loc, .ld (.var 4), none, 0⟩, ⟨.loc, .ld (.var 5), none, 0⟩, ⟨.loc, .fld 3 (.var 10), none, 0⟩, ⟨.loc, .ld (.loc 0), none, 0⟩, ⟨.loc, .call (.cst (.func (.func 129) [] [])) [(.loc 4), (.loc 3), (.loc 2), (.loc 0)], none, 0⟩, ⟨.loc, .mv (.loc 0), none, 0⟩, ⟨.loc, .ext 0 (.loc 0), none, 0⟩, ⟨.loc, .ext 1 (.loc 1), none, 0⟩, ⟨(.var 12), .alloc [.int .u64 0, .int .i64 0, .int .u64 0, .int .i64 0, .int .i64 0], none, 0⟩, ⟨.drop, .st 5 (.var 12) (.loc 1), none, 0⟩, ⟨.loc, .mv (.loc 0), none, 0⟩])
 (.seq (.region [⟨.loc, .ldn 5 (.var 12), none, 0⟩, ⟨.drop, .st 5 (.var 6) (.loc 0), none, 0⟩, ⟨(.var 7), .mv (.cst (.int .i64 0)), none, 0⟩])
 .ret))))))),
 [.cell 6 (some 5), .var 7]⟩
/-- super.Find -/
def e52 : EFunc := ⟨[0, 1, 2, 3, 4, 5, 6, 7, 8, 9, 10, 11, 16, 28],
 [some 0, some 1, none, none, none, none, none, none, none, none, none, none, none, none],
 (.seq (.region [⟨(.var 2), .box 1 (.var 0), none, 0⟩, ⟨(.var 3), .box 1 (.var 1), none, 0⟩, ⟨(.var 4), .alloc [.int .u64 0, .int .i64 0, .int .u64 0, .int .i64 0, .int .i64 0], none, 0⟩, ⟨(.var 5), .mv (.cst (.int .i64 0)), none, 0⟩, ⟨(.var 6), .mv (.cst (.int .i64 0)), none, 0⟩])
 (.seq (.seq (.region [⟨.loc, .ld (.var 2), none, 0⟩, ⟨.loc, .ld (.var 3), none, 0⟩, ⟨.loc, .call (.cst (.func (.func 126) [] [])) [(.loc 1), (.loc 0), (.cst (.int .i64 1))], none, 0⟩, ⟨(.var 7), .mv (.loc 0), none, 0⟩])
 (.seq (.region [⟨.loc, .mv (.var 7), none, 0⟩, ⟨(.var 12), .bin .neq (.loc 0) (.cst (.int .i64 0)), none, 0⟩])
 (.cond (.var 12) (.seq (.region [⟨.loc, .build [.int .u64 0, .int .i64 0, .int .u64 0, .int .i64 0, .int .i64 0] [], none, 0⟩, ⟨.loc, .mv (.var 7), none, 0⟩, ⟨.drop, .st 5 (.var 4) (.loc 1), none, 0⟩, ⟨(.var 5), .mv (.cst (.int .i64 0)), none, 0⟩, ⟨(.var 6), .mv (.loc 0), none, 0⟩])
 .ret) .skip)))
 (.seq (.region [⟨.loc, .ld (.var 2), none, 0⟩, ⟨.loc, .ld (.var 3), none, 0⟩, ⟨.loc, .call (.cst (.func (.func 133) [] [])) [(.loc 1), (.loc 0)], none, 0⟩, ⟨.loc, .mkfn (.func 134) [] [(.var 2), (.var 3)], none, 0⟩, ⟨.loc, .call (.cst (.func (.func 132) [] [])) [(.loc 1), (.loc 0)], none, 0⟩, ⟨.loc, .mv (.loc 0), none, 0⟩, ⟨.loc, .ext 0 (.loc 0), none, 0⟩, ⟨.loc, .ext 1 (.loc 1), none, 0⟩, ⟨(.var 8), .mv (.loc 1), none, 0⟩, ⟨(.var 9), .mv (.loc 0), none, 0⟩])
 (.seq (.seq (.region [⟨.loc, .mv (.var 9), none, 0⟩, ⟨(.var 13), .un .not (.loc 0), none, 0⟩])
 (.cond (.var 13) (.seq (.region [⟨.loc, .build [.int .u64 0, .int .i64 0, .int .u64 0, .int .i64 0, .int .i64 0] [], none, 0⟩, ⟨.drop, .st 5 (.var 4) (.loc 0), none, 0⟩, ⟨(.var 5), .mv (.cst (.int .i64 0)), none, 0⟩, ⟨(.var 6), .mv (.cst (.int .i64 190)), none, 0⟩])
 .ret) .skip))
 (.seq (.region [⟨.loc, .ld (.var 2), none, 0⟩, ⟨.loc, .ld (.var 3), none, 0⟩, ⟨.loc, .mv (.var 8), none, 0⟩, ⟨.loc, .call (.cst (.func (.func 51) [] [])) [(.loc 2), (.loc 1), (.loc 0)], none, 0⟩, ⟨.loc, .mv (.loc 0), none, 0⟩, ⟨.loc, .ext 0 (.loc 0), none, 0⟩, ⟨.loc, .ext 1 (.loc 1), none, 0⟩, ⟨(.var 10), .alloc [.int .u64 0, .int .i64 0, .int .u64 0, .int .i64 0, .int .i64 0], none, 0⟩, ⟨.drop, .st 5 (.var 10) (.loc 1), none, 0⟩, ⟨(.var 11), .mv (.loc 0), none, 0⟩])
 (.seq (.region [⟨.loc, .ldn 5 (.var 10), none, 0⟩, ⟨.loc, .mv (.var 8), none, 0⟩, ⟨.loc, .mv (.var 11), none, 0⟩, ⟨.drop, .st 5 (.var 4) (.loc 2), none, 0⟩, ⟨(.var 5), .mv (.loc 1), none, 0⟩, ⟨(.var 6), .mv (.loc 0), none, 0⟩])
 .ret)))))),
 [.cell 4 (some 5), .var 5, .var 6]⟩
/-- super.Seen -/
def e53 : EFunc := ⟨[0, 2, 3, 4, 5, 6, 8, 9, 10, 19],
 [some 0, none, none, none, none, none, none, none, none, none],
 (.seq (.region [⟨(.var 1), .mv (.cst (.int .u64 0)), none, 0⟩])
 (.seq (.region [⟨(.var 2), .mv (.cst (.int .u64 0)), none, 0⟩])
 (.seq (.seq (.region [⟨.loc, .mv (.var 0), none, 0⟩, ⟨(.var 6), .call (.cst (.func (.func 135) [] [])) [(.loc 0)], none, 0⟩, ⟨(.var 7), .mv (.cst (.int .i64 0)), none, 0⟩])
 (.block 0 (.loop (.seq (.region [⟨(.var 8), .bin .lss (.var 7) (.var 6), none, 0⟩])
 (.seq (.cond (.var 8) .skip (.exit 0))
 (.seq (.block 1 (.seq (.region [⟨.loc, .mv (.var 7), none, 0⟩, ⟨(.var 3), .mv (.loc 0), none, 0⟩])
 (.seq (.region [⟨.loc, .mv (.var 0), none, 0⟩, ⟨.loc, .mv (.var 3), none, 0⟩, ⟨.loc, .call (.cst (.func (.func 131) [] [])) [(.loc 1), (.loc 0)], none, 0⟩, ⟨.loc, .call (.cst (.func (.func 130) [] [])) [(.loc 0), (.cst (.func (.func 136) [] []))], none, 0⟩, ⟨.loc, .mv (.loc 0), none, 0⟩, ⟨.loc, .ext 0 (.loc 0), none, 0⟩, ⟨.loc, .ext 1 (.loc 1), none, 0⟩, ⟨(.var 4), .alloc [.int .u8 0, .int .u8 0, .int .u16 0, .int .u64 0, .int .u16 0, .int .u8 0, .int .u8 0, .int .u8 0, .int .u8 0, .int .u8 0, .int .u8 0, .int .u8 0, .int .u8 0, .int .u8 0, .int .u8 0, .int .u8 0, .int .u8 0, .int .u8 0, .int .u8 0, .int .u8 0, .int .u8 0, .int .u8 0, .int .u8 0, .int .u8 0, .int .u8 0, .int .u8 0, .int .u8 0, .int .u8 0, .int .u8 0, .int .u8 0, .int .u8 0, .int .u8 0, .int .u8 0, .int .u8 0, .int .u8 0, .int .u8 0, .int .u8 0, .int .u8 0, .int .u8 0, .int .u8 0, .int .u8 0, .int .u8 0, .int .u8 0, .int .u8 0, .int .u8 0, .int .u8 0, .int .u8 0, .int .u8 0, .int .u8 0], none, 0⟩, ⟨.drop, .st 49 (.var 4) (.loc 1), none, 0⟩, ⟨(.var 5), .mv (.loc 0), none, 0⟩])
 (.seq (.region [⟨(.var 9), .mv (.var 5), none, 0⟩])
 (.cond (.var 9) (.region [⟨.loc, .mv (.var 2), none, 0⟩, ⟨.loc, .fld 3 (.var 4), none, 0⟩, ⟨.loc, .ld (.loc 0), none, 0⟩, ⟨.loc, .call (.cst (.func (.func 137) [] [])) [(.loc 0)], none, 0⟩, ⟨.loc, .minmax true [(.loc 3), (.loc 0)], none, 0⟩, ⟨(.var 2), .mv (.loc 0), none, 0⟩]) .skip)))))
 (.region [⟨.loc, .bin .add (.var 7) (.cst (.int .i64 1)), none, 0⟩, ⟨(.var 7), .mv (.loc 0), none, 0⟩])))))))
 (.seq (.region [⟨.loc, .mv (.var 2), none, 0⟩, ⟨(.var 1), .mv (.loc 0), none, 0⟩])
 .ret)))),
 [.var 1]⟩
/-- super.Ref -/
def e54 : EFunc := ⟨[0, 1, 4, 5, 6, 18],
 [some 0, some 1, none, none, none, none],
 (.seq (.region [⟨(.var 2), .alloc [.int .u8 0, .int .i64 0, .int .u64 0], none, 0⟩])
 (.seq (.region [⟨.loc, .mv (.var 1), none, 0⟩, ⟨.loc, .call (.cst (.func (.func 138) [] [])) [(.loc 0), (.cst (.int .i64 0))], none, 0⟩, ⟨.loc, .mv (.loc 0), none, 0⟩, ⟨.loc, .ext 0 (.loc 0), none, 0⟩, ⟨.loc, .ext 1 (.loc 1), none, 0⟩, ⟨(.var 3), .mv (.loc 1), none, 0⟩, ⟨(.var 4), .mv (.loc 0), none, 0⟩])
 (.seq (.seq (.region [⟨.loc, .mv (.var 0), none, 0⟩, ⟨.loc, .call (.cst (.func (.func 139) [] [])) [(.loc 0)], none, 0⟩, ⟨.loc, .un .not (.loc 0), none, 0⟩, ⟨.loc, .mv (.loc 0), none, 0⟩, ⟨.loc, .mv (.var 4), (some ((.loc 0), false)), 0⟩, ⟨.loc, .bin .neq (.loc 0) (.cst (.int .i64 0)), (some ((.loc 1), false)), 0⟩, ⟨(.var 5), .pick (.loc 2) (.cst (.bool true)) (.loc 0), none, 0⟩])
 (.cond (.var 5) (.seq (.region [⟨.loc, .build [.int .u8 0, .int .i64 0, .int .u64 0] [], none, 0⟩, ⟨.drop, .st 3 (.var 2) (.loc 0), none, 0⟩])
 .ret) .skip))
 (.seq (.region [⟨.loc, .mv (.var 0), none, 0⟩, ⟨.loc, .mv (.var 3), none, 0⟩, ⟨.loc, .build [.int .u8 0, .int .i64 0, .int .u64 0] [(0, 1, (.cst (.int .u8 1))), (1, 1, (.loc 1)), (2, 1, (.loc 0))], none, 0⟩, ⟨.drop, .st 3 (.var 2) (.loc 0), none, 0⟩])
 .ret)))),
 [.cell 2 (some 3)]⟩
/-- ciboriumlaw19.heads -/
def e55 : EFunc := ⟨[0, 1, 2, 5, 6, 7, 8, 9, 10, 11, 12],
 [none, none, none, none, none, none, none, none, none, none, none],
 (.seq (.region [⟨(.var 0), .mv (.cst (.bool false)), none, 0⟩])
 (.seq (.region [⟨.loc, .build [.int .i64 0, .int .i64 0, .int .i64 0] [(0, 1, (.cst (.int .i64 2))), (1, 1, (.cst (.int .i64 1))), (2, 1, (.cst (.int .i64 3)))], none, 0⟩, ⟨.loc, .call (.cst (.func (.func 39) [] [])) [(.loc 0)], none, 0⟩, ⟨.loc, .mv (.loc 0), none, 0⟩, ⟨.loc, .ext 0 (.loc 0), none, 0⟩, ⟨.loc, .ext 1 (.loc 1), none, 0⟩, ⟨(.var 1), .mv (.loc 1), none, 0⟩, ⟨(.var 2), .mv (.loc 0), none, 0⟩])
 (.seq (.region [⟨.loc, .mv (.var 1), none, 0⟩, ⟨.loc, .mv (.var 2), none, 0⟩, ⟨.loc, .call (.cst (.func (.func 52) [] [])) [(.loc 1), (.loc 0)], none, 0⟩, ⟨.loc, .mv (.loc 0), none, 0⟩, ⟨.loc, .ext 0 (.loc 0), none, 0⟩, ⟨.loc, .ext 1 (.loc 1), none, 0⟩, ⟨.loc, .ext 2 (.loc 2), none, 0⟩, ⟨.loc, .alloc [.int .u64 0, .int .i64 0, .int .u64 0, .int .i64 0, .int .i64 0], none, 0⟩, ⟨.drop, .st 5 (.loc 0) (.loc 3), none, 0⟩, ⟨.loc, .mv (.loc 2), none, 0⟩, ⟨(.var 3), .mv (.loc 2), none, 0⟩])
 (.seq (.region [⟨.loc, .mv (.var 1), none, 0⟩, ⟨.loc, .mv (.var 2), none, 0⟩, ⟨.loc, .build [.int .i64 0, .int .u64 0, .int .i64 0, .int .i64 0] [(0, 1, (.cst (.int .i64 2))), (1, 1, (.cst (.int .u64 9))), (2, 1, (.cst (.int .i64 1))), (3, 1, (.cst (.int .i64 7)))], none, 0⟩, ⟨.loc, .build [.int .u64 0, .int .i64 0, .int .u64 0, .int .i64 0, .int .i64 0] [(0, 1, (.cst (.int .u64 4))), (1, 4, (.loc 0))], none, 0⟩, ⟨.loc, .call (.cst (.func (.func 50) [] [])) [(.loc 3), (.loc 2), (.cst (.int .i64 0)), (.loc 0)], none, 0⟩, ⟨(.var 4), .mv (.loc 0), none, 0⟩])
 (.seq (.region [⟨.loc, .mv (.var 1), none, 0⟩, ⟨.loc, .mv (.var 2), none, 0⟩, ⟨.loc, .build [.int .u64 0, .int .i64 0, .int .u64 0, .int .i64 0, .int .i64 0] [(0, 1, (.cst (.int .u64 5)))], none, 0⟩, ⟨.loc, .call (.cst (.func (.func 50) [] [])) [(.loc 2), (.loc 1), (.cst (.int .i64 1)), (.loc 0)], none, 0⟩, ⟨(.var 5), .mv (.loc 0), none, 0⟩])
 (.seq (.region [⟨.loc, .mv (.var 1), none, 0⟩, ⟨.loc, .mv (.var 2), none, 0⟩, ⟨.loc, .call (.cst (.func (.func 52) [] [])) [(.loc 1), (.loc 0)], none, 0⟩, ⟨.loc, .mv (.loc 0), none, 0⟩, ⟨.loc, .ext 0 (.loc 0), none, 0⟩, ⟨.loc, .ext 1 (.loc 1), none, 0⟩, ⟨.loc, .ext 2 (.loc 2), none, 0⟩, ⟨(.var 6), .alloc [.int .u64 0, .int .i64 0, .int .u64 0, .int .i64 0, .int .i64 0], none, 0⟩, ⟨.drop, .st 5 (.var 6) (.loc 2), none, 0⟩, ⟨(.var 7), .mv (.loc 1), none, 0⟩, ⟨(.var 8), .mv (.loc 0), none, 0⟩])
 (.seq (.region [⟨.loc, .mv (.var 1), none, 0⟩, ⟨.loc, .mv (.var 2), none, 0⟩, ⟨.loc, .call (.cst (.func (.func 51) [] [])) [(.loc 1), (.loc 0), (.cst (.int .i64 0))], none, 0⟩, ⟨.loc, .mv (.loc 0), none, 0⟩, ⟨.loc, .ext 0 (.loc 0), none, 0⟩, ⟨.loc, .ext 1 (.loc 1), none, 0⟩, ⟨(.var 9), .alloc [.int .u64 0, .int .i64 0, .int .u64 0, .int .i64 0, .int .i64 0], none, 0⟩, ⟨.drop, .st 5 (.var 9) (.loc 1), none, 0⟩, ⟨(.var 10), .mv (.loc 0), none, 0⟩])
 (.seq (.region [⟨.loc, .mv (.var 3), none, 0⟩, ⟨.loc, .bin .eql (.loc 0) (.cst (.int .i64 190)), none, 0⟩, ⟨.loc, .mv (.loc 0), none, 0⟩, ⟨.loc, .mv (.var 4), (some ((.loc 0), true)), 0⟩, ⟨.loc, .bin .eql (.loc 0) (.cst (.int .i64 0)), (some ((.loc 1), true)), 0⟩, ⟨.loc, .pick (.loc 2) (.loc 0) (.cst (.bool false)), none, 0⟩, ⟨.loc, .mv (.loc 0), none, 0⟩, ⟨.loc, .mv (.var 5), (some ((.loc 0), true)), 0⟩, ⟨.loc, .bin .eql (.loc 0) (.cst (.int .i64 0)), (some ((.loc 1), true)), 0⟩, ⟨.loc, .pick (.loc 2) (.loc 0) (.cst (.bool false)), none, 0⟩, ⟨.loc, .mv (.loc 0), none, 0⟩, ⟨.loc, .fld 0 (.var 6), (some ((.loc 0), true)), 0⟩, ⟨.loc, .ld (.loc 0), (some ((.loc 1), true)), 0⟩, ⟨.loc, .bin .eql (.loc 0) (.cst (.int .u64 5)), (some ((.loc 2), true)), 0⟩, ⟨.loc, .pick (.loc 3) (.loc 0) (.cst (.bool false)), none, 0⟩, ⟨.loc, .mv (.loc 0), none, 0⟩, ⟨.loc, .mv (.var 7), (some ((.loc 0), true)), 0⟩, ⟨.loc, .bin .eql (.loc 0) (.cst (.int .i64 1)), (some ((.loc 1), true)), 0⟩, ⟨.loc, .pick (.loc 2) (.loc 0) (.cst (.bool false)), none, 0⟩, ⟨.loc, .mv (.loc 0), none, 0⟩, ⟨.loc, .mv (.var 8), (some ((.loc 0), true)), 0⟩, ⟨.loc, .bin .eql (.loc 0) (.cst (.int .i64 0)), (some ((.loc 1), true)), 0⟩, ⟨.loc, .pick (.loc 2) (.loc 0) (.cst (.bool false)), none, 0⟩, ⟨.loc, .mv (.loc 0), none, 0⟩, ⟨.loc, .fld 0 (.var 9), (some ((.loc 0), true)), 0⟩, ⟨.loc, .ld (.loc 0), (some ((.loc 1), true)), 0⟩, ⟨.loc, .bin .eql (.loc 0) (.cst (.int .u64 4)), (some ((.loc 2), true)), 0⟩, ⟨.loc, .pick (.loc 3) (.loc 0) (.cst (.bool false)), none, 0⟩, ⟨.loc, .mv (.loc 0), none, 0⟩, ⟨.loc, .fld 1 (.var 9), (some ((.loc 0), true)), 0⟩, ⟨.loc, .fld 3 (.loc 0), (some ((.loc 1), true)), 0⟩, ⟨.loc, .ld (.loc 0), (some ((.loc 2), true)), 0⟩, ⟨.loc, .bin .eql (.loc 0) (.cst (.int .i64 7)), (some ((.loc 3), true)), 0⟩, ⟨.loc, .pick (.loc 4) (.loc 0) (.cst (.bool false)), none, 0⟩, ⟨.loc, .mv (.loc 0), none, 0⟩, ⟨.loc, .mv (.var 10), (some ((.loc 0), true)), 0⟩, ⟨.loc, .bin .eql (.loc 0) (.cst (.int .i64 0)), (some ((.loc 1), true)), 0⟩, ⟨.loc, .pick (.loc 2) (.loc 0) (.cst (.bool false)), none, 0⟩, ⟨.loc, .mv (.loc 0), none, 0⟩, ⟨.loc, .mv (.var 1), (some ((.loc 0), true)), 0⟩, ⟨.loc, .call (.cst (.func (.func 53) [] [])) [(.loc 0)], (some ((.loc 1), true)), 0⟩, ⟨.loc, .bin .eql (.loc 0) (.cst (.int .u64 5)), (some ((.loc 2), true)), 0⟩, ⟨.loc, .pick (.loc 3) (.loc 0) (.cst (.bool false)), none, 0⟩, ⟨.loc, .mv (.loc 0), none, 0⟩, ⟨.loc, .call (.cst (.func (.func 54) [] [])) [(.cst (.int .i64 1)), (.cst (.int .u64 5))], (some ((.loc 0), true)), 0⟩, ⟨.loc, .build [.int .u8 0, .int .i64 0, .int .u64 0] [(0, 1, (.cst (.int .u8 1))), (1, 1, (.cst (.int .i64 1))), (2, 1, (.cst (.int .u64 5242880)))], (some ((.loc 1), true)), 0⟩, ⟨.loc, .eqagg false [1, 1, 1] (.loc 1) (.loc 0), (some ((.loc 2), true)), 0⟩, ⟨.loc, .pick (.loc 3) (.loc 0) (.cst (.bool false)), none, 0⟩, ⟨(.var 0), .mv (.loc 0), none, 0⟩])
 .ret)))))))),
 [.var 0]⟩
/-- drive.New -/
def e58 : EFunc := ⟨[0, 2, 3, 9],
 [some 0, none, none, none],
 (.seq (.region [⟨(.var 1), .mv (.cst (.nilptr)), none, 0⟩])
 (.seq (.seq (.region [⟨.loc, .mv (.var 0), none, 0⟩, ⟨.loc, .bin .lss (.loc 0) (.cst (.int .i64 1)), none, 0⟩, ⟨.loc, .mv (.loc 0), none, 0⟩, ⟨.loc, .mv (.var 0), (some ((.loc 0), false)), 0⟩, ⟨.loc, .bin .gtr (.loc 0) (.cst (.int .i64 600)), (some ((.loc 1), false)), 0⟩, ⟨(.var 3), .pick (.loc 2) (.cst (.bool true)) (.loc 0), none, 0⟩])
 (.cond (.var 3) (.seq (.region [⟨(.var 1), .mv (.cst (.nilptr)), none, 0⟩])
 .ret) .skip))
 (.seq (.region [⟨.loc, .build [.nilslice, .nilslice, .nilslice, .nilmap, .bool false] [], none, 0⟩, ⟨.loc, .box 5 (.loc 0), none, 0⟩, ⟨(.var 2), .mv (.loc 0), none, 0⟩])
 (.seq (.region [⟨.loc, .mv (.var 2), none, 0⟩, ⟨.loc, .mv (.var 0), none, 0⟩, ⟨.loc, .call (.cst (.func (.func 141) [] [])) [(.loc 1), (.loc 0)], none, 0⟩])
 (.seq (.region [⟨.loc, .mv (.var 2), none, 0⟩, ⟨(.var 1), .mv (.loc 0), none, 0⟩])
 .ret))))),
 [.var 1]⟩
/-- code.Coder).N -/
def e95 : EFunc := ⟨[0, 2, 4],
 [some 0, none, none],
 (.seq (.region [⟨(.var 1), .mv (.cst (.int .i64 0)), none, 0⟩])
 (.seq (.seq (.region [⟨.loc, .mv (.var 0), none, 0⟩, ⟨(.var 2), .call (.cst (.func (.func 188) [] [])) [(.loc 0)], none, 0⟩])
 (.cond (.var 2) (.seq (.region [⟨(.var 1), .mv (.cst (.int .i64 0)), none, 0⟩])
 .ret) .skip))
 (.seq (.region [⟨.loc, .mv (.var 0), none, 0⟩, ⟨.loc, .nilchk (.loc 0), none, 0⟩, ⟨.loc, .fld 0 (.loc 0), none, 0⟩, ⟨.loc, .call (.cst (.func (.func 189) [] [])) [(.loc 0)], none, 0⟩, ⟨(.var 1), .mv (.loc 0), none, 0⟩])
 .ret))),
 [.var 1]⟩
/-- array.Array).N -/
def e96 : EFunc := ⟨[0, 2, 4],
 [some 0, none, none],
 (.seq (.region [⟨(.var 1), .mv (.cst (.int .i64 0)), none, 0⟩])
 (.seq (.seq (.region [⟨.loc, .mv (.var 0), none, 0⟩, ⟨(.var 2), .call (.cst (.func (.func 118) [] [])) [(.loc 0)], none, 0⟩])
 (.cond (.var 2) (.seq (.region [⟨(.var 1), .mv (.cst (.int .i64 0)), none, 0⟩])
 .ret) .skip))
 (.seq (.region [⟨.loc, .mv (.var 0), none, 0⟩, ⟨.loc, .nilchk (.loc 0), none, 0⟩, ⟨.loc, .fld 0 (.loc 0), none, 0⟩, ⟨.loc, .ld (.loc 0), none, 0⟩, ⟨.loc, .len false (.loc 0), none, 0⟩, ⟨(.var 1), .mv (.loc 0), none, 0⟩])
 .ret))),
 [.var 1]⟩
/-- stripe.Home -/
def e100 : EFunc := ⟨[0, 1, 2, 6, 16],
 [some 0, some 1, some 2, none, none],
 (.seq (.region [⟨(.var 3), .mv (.cst (.int .i64 0)), none, 0⟩])
 (.seq (.seq (.region [⟨.loc, .mv (.var 0), none, 0⟩, ⟨.loc, .bin .lss (.loc 0) (.cst (.int .i64 1)), none, 0⟩, ⟨.loc, .mv (.loc 0), none, 0⟩, ⟨.loc, .mv (.var 1), (some ((.loc 0), false)), 0⟩, ⟨.loc, .bin .lss (.loc 0) (.cst (.int .i64 0)), (some ((.loc 1), false)), 0⟩, ⟨.loc, .pick (.loc 2) (.cst (.bool true)) (.loc 0), none, 0⟩, ⟨.loc, .mv (.loc 0), none, 0⟩, ⟨.loc, .mv (.var 2), (some ((.loc 0), false)), 0⟩, ⟨.loc, .bin .lss (.loc 0) (.cst (.int .i64 0)), (some ((.loc 1), false)), 0⟩, ⟨(.var 4), .pick (.loc 2) (.cst (.bool true)) (.loc 0), none, 0⟩])
 (.cond (.var 4) (.seq (.region [⟨(.var 3), .mv (.cst (.int .i64 0)), none, 0⟩])
 .ret) .skip))
 (.seq (.dregion [⟨.loc, .mv (.var 1), none, 0⟩, ⟨.loc, .mv (.var 0), none, 1⟩, ⟨.loc, .bin .rem (.loc 1) (.loc 0), none, 2⟩, ⟨.loc, .mv (.var 2), none, 3⟩, ⟨.loc, .mv (.var 0), none, 4⟩, ⟨.loc, .bin .rem (.loc 1) (.loc 0), none, 5⟩, ⟨.loc, .bin .add (.loc 3) (.loc 0), none, 6⟩, ⟨.loc, .mv (.var 0), none, 7⟩, ⟨.loc, .bin .rem (.loc 1) (.loc 0), none, 8⟩, ⟨(.var 3), .mv (.loc 0), none, 9⟩] [])
 .ret))),
 [.var 3]⟩
/-- stripe.Room -/
def e101 : EFunc := ⟨[0, 2],
 [some 0, none],
 (.seq (.region [⟨(.var 1), .mv (.cst (.int .i64 0)), none, 0⟩])
 (.seq (.region [⟨.loc, .mv (.var 0), none, 0⟩, ⟨.loc, .call (.cst (.func (.func 111) [] [])) [(.loc 0)], none, 0⟩, ⟨.loc, .bin .mul (.loc 0) (.cst (.int .i64 44)), none, 0⟩, ⟨(.var 1), .mv (.loc 0), none, 0⟩])
 .ret)),
 [.var 1]⟩
/-- code.New -/
def e102 : EFunc := ⟨[0, 1, 2, 6, 7, 8, 24, 38],
 [some 0, some 1, some 2, none, none, none, none, none],
 (.seq (.region [⟨(.var 3), .mv (.cst (.nilptr)), none, 0⟩])
 (.seq (.seq (.region [⟨.loc, .mv (.var 1), none, 0⟩, ⟨.loc, .bin .lss (.loc 0) (.cst (.int .i64 1)), none, 0⟩, ⟨.loc, .mv (.loc 0), none, 0⟩, ⟨.loc, .mv (.var 2), (some ((.loc 0), false)), 0⟩, ⟨.loc, .bin .lss (.loc 0) (.cst (.int .i64 1)), (some ((.loc 1), false)), 0⟩, ⟨.loc, .pick (.loc 2) (.cst (.bool true)) (.loc 0), none, 0⟩, ⟨.loc, .mv (.loc 0), none, 0⟩, ⟨.loc, .mv (.var 1), (some ((.loc 0), false)), 0⟩, ⟨.loc, .bin .gtr (.loc 0) (.cst (.int .i64 255)), (some ((.loc 1), false)), 0⟩, ⟨.loc, .pick (.loc 2) (.cst (.bool true)) (.loc 0), none, 0⟩, ⟨.loc, .mv (.loc 0), none, 0⟩, ⟨.loc, .mv (.var 2), (some ((.loc 0), false)), 0⟩, ⟨.loc, .mv (.var 1), (some ((.loc 1), false)), 0⟩, ⟨.loc, .bin .sub (.cst (.int .i64 255)) (.loc 0), (some ((.loc 2), false)), 0⟩, ⟨.loc, .bin .gtr (.loc 2) (.loc 0), (some ((.loc 3), false)), 0⟩, ⟨(.var 6), .pick (.loc 4) (.cst (.bool true)) (.loc 0), none, 0⟩])
 (.cond (.var 6) (.seq (.region [⟨(.var 3), .mv (.cst (.nilptr)), none, 0⟩])
 .ret) .skip))
 (.seq (.region [⟨.loc, .mv (.var 0), none, 0⟩, ⟨.loc, .mv (.var 1), none, 0⟩, ⟨.loc, .mv (.var 1), none, 0⟩, ⟨.loc, .mv (.var 2), none, 0⟩, ⟨.loc, .bin .add (.loc 1) (.loc 0), none, 0⟩, ⟨.loc, .call (.cst (.func (.func 191) [] [])) [(.loc 3), (.loc 0)], none, 0⟩, ⟨.loc, .mv (.var 1), none, 0⟩, ⟨.loc, .call (.cst (.func (.func 191) [] [])) [(.cst (.int .i64 0)), (.loc 0)], none, 0⟩, ⟨.loc, .call (.cst (.func (.func 190) [] [])) [(.loc 7), (.loc 2), (.loc 0)], none, 0⟩, ⟨.loc, .mv (.loc 0), none, 0⟩, ⟨.loc, .ext 0 (.loc 0), none, 0⟩, ⟨.loc, .ext 1 (.loc 1), none, 0⟩, ⟨(.var 4), .alloc [.int .i64 0, .int .i64 0, .nilslice], none, 0⟩, ⟨.drop, .st 3 (.var 4) (.loc 1), none, 0⟩, ⟨(.var 5), .mv (.loc 0), none, 0⟩])
 (.seq (.seq (.region [⟨.loc, .mv (.var 5), none, 0⟩, ⟨(.var 7), .bin .neq (.loc 0) (.cst (.int .i64 0)), none, 0⟩])
 (.cond (.var 7) (.seq (.region [⟨(.var 3), .mv (.cst (.nilptr)), none, 0⟩])
 .ret) .skip))
 (.seq (.region [⟨.loc, .mv (.var 1), none, 0⟩, ⟨.loc, .mv (.var 2), none, 0⟩, ⟨.loc, .build [.int .i64 0, .int .i64 0] [(0, 1, (.loc 1)), (1, 1, (.loc 0))], none, 0⟩, ⟨.loc, .mv (.var 0), none, 0⟩, ⟨.loc, .ldn 3 (.var 4), none, 0⟩, ⟨.loc, .build [.int .i64 0, .int .i64 0, .nilptr, .int .i64 0, .int .i64 0, .nilslice] [(0, 2, (.loc 2)), (2, 1, (.loc 1)), (3, 3, (.loc 0))], none, 0⟩, ⟨.loc, .box 6 (.loc 0), none, 0⟩, ⟨(.var 3), .mv (.loc 0), none, 0⟩])
 .ret))))),
 [.var 3]⟩
/-- field.New -/
def e103 : EFunc := ⟨[0],
 [none],
 (.seq (.region [⟨(.var 0), .mv (.cst (.nilptr)), none, 0⟩])
 (.seq (.region [⟨.loc, .build [.int .u32 0, .int .i32 0, .int .u32 0, .bool false, .int .u8 0, .int .u8 0, .int .u8 0, .int .u8 0, .int .u8 0, .int .u8 0, .int .u8 0, .int .u8 0, .int .u8 0, .int .u8 0, .int .u8 0, .int .u8 0, .int .u8 0, .int .u8 0, .int .u8 0, .int .u8 0, .int .u8 0, .int .u8 0, .int .u8 0, .int .u8 0, .int .u8 0, .int .u8 0, .int .u8 0, .int .u8 0, .int .u8 0, .int .u8 0, .int .u8 0, .int .u8 0, .int .u8 0, .int .u8 0, .int .u8 0, .int .u8 0, .int .u8 0, .int .u8 0, .int .u8 0, .int .u8 0, .int .u8 0, .int .u8 0, .int .u8 0, .int .u8 0, .int .u8 0, .int .u8 0, .int .u8 0, .int .u8 0, .int .u8 0, .int .u8 0, .int .u8 0, .int .u8 0, .int .u8 0, .int .u8 0, .int .u8 0, .int .u8 0, .int .u8 0, .int .u8 0, .int .u8 0, .int .u8 0, .int .u8 0, .int .u8 0, .int .u8 0, .int .u8 0, .int .u8 0, .int .u8 0, .int .u8 0, .int .u8 0, .int .u8 0, .int .u8 0, .int .u8 0, .int .u8 0, .int .u8 0, .int .u8 0, .int .u8 0, .int .u8 0, .int .u8 0, .int .u8 0, .int .u8 0, .int .u8 0, .int .u8 0, .int .u8 0, .int .u8 0, .int .u8 0, .int .u8 0, .int .u8 0, .int .u8 0, .int .u8 0, .int .u8 0, .int .u8 0, .int .u8 0, .int .u8 0, .int .u8 0, .int .u8 0, .int .u8 0, .int .u8 0, .int .u8 0, .int .u8 0, .int .u8 0, .int .u8 0, .int .u8 0, .int .u8 0, .int .u8 0, .int .u8 0, .int .u8 0, .int .u8 0, .int .u8 0, .int .u8 0, .int .u8 0, .int .u8 0, .int .u8 0, .int .u8 0, .int .u8 0, .int .u8 0, .int .u8 0, .int .u8 0, .int .u8 0, .int .u8 0, .int .u8 0, .int .u8 0, .int .u8 0, .int .u8 0, .int .u8 0, .int .u8 0, .int .u8 0, .int .u8 0, .int .u8 0, .int .u8 0, .int .u8 0, .int .u8 0, .int .u8 0, .int .u8 0, .int .u8 0, .int .u8 0, .int .u8 0, .int .u8 0, .int .u8 0, .int .u8 0, .int .u8 0, .int .u8 0, .int .u8 0, .int .u8 0, .int .u8 0, .int .u8 0, .int .u8 0, .int .u8 0, .int .u8 0, .int .u8 0, .int .u8 0, .int .u8 0, .int .u8 0, .int .u8 0, .int .u8 0, .int .u8 0, .int .u8 0, .int .u8 0, .int .u8 0, .int .u8 0, .int .u8 0, .int .u8 0, .int .u8 0, .int .u8 0, .int .u8 0, .int .u8 0, .int .u8 0, .int .u8 0, .int .u8 0, .int .u8 0, .int .u8 0, .int .u8 0, .int .u8 0, .int .u8 0, .int .u8 0, .int .u8 0, .int .u8 0, .int .u8 0, .int .u8 0, .int .u8 0, .int .u8 0, .int .u8 0, .int .u8 0, .int .u8 0, .int .u8 0, .int .u8 0, .int .u8 0, .int .u8 0, .int .u8 0, .int .u8 0, .int .u8 0, .int .u8 0, .int .u8 0, .int .u8 0, .int .u8 0, .int .u8 0, .int .u8 0, .int .u8 0, .int .u8 0, .int .u8 0, .int .u8 0, .int .u8 0, .int .u8 0, .int .u8 0, .int .u8 0, .int .u8 0, .int .u8 0, .int .u8 0, .int .u8 0, .int .u8 0, .int .u8 0, .int .u8 0, .int .u8 0, .int .u8 0, .int .u8 0, .int .u8 0, .int .u8 0, .int .u8 0, .int .u8 0, .int .u8 0, .int .u8 0, .int .u8 0, .int .u8 0, .int .u8 0, .int .u8 0, .int .u8 0, .int .u8 0, .int .u8 0, .int .u8 0, .int .u8 0, .int .u8 0, .int .u8 0, .int .u8 0, .int .u8 0, .int .u8 0, .int .u8 0, .int .u8 0, .int .u8 0, .int .u8 0, .int .u8 0, .int .u8 0, .int .u8 0, .int .u8 0, .int .u8 0, .int .u8 0, .int .u8 0, .int .u8 0, .int .u8 0, .int .u8 0, .int .u8 0, .int .u8 0, .int .u8 0, .int .u8 0, .int .u8 0, .int .u8 0, .int .u8 0, .int .u8 0, .int .u8 0, .int .u8 0, .int .u8 0, .int .u8 0, .int .u8 0, .int .u8 0, .int .u8 0, .int .u8 0, .int .u8 0, .int .u8 0, .int .u8 0, .int .u8 0, .int .u8 0, .int .u8 0, .int .u8 0, .int .u8 0, .int .u8 0, .int .u8 0, .int .u8 0, .int .u8 0, .int .u8 0, .int .u8 0, .int .u8 0, .int .u8 0, .int .u8 0, .int .u8 0, .int .u8 0, .int .u8 0, .int .u8 0, .int .u8 0, .int .u8 0, .int .u8 0, .int .u8 0, .int .u8 0, .int .u8 0, .int .u8 0, .int .u8 0, .int .u8 0, .int .u8 0, .int .u8 0, .int .u8 0, .int .u8 0, .int .u8 0, .int .u8 0, .int .u8 0, .int .u8 0, .int .u8 0, .int .u8 0, .int .u8 0, .int .u8 0, .int .u8 0, .int .u8 0, .int .u8 0, .int .u8 0, .int .u8 0, .int .u8 0, .int .u8 0, .int .u8 0, .int .u8 0, .int .u8 0, .int .u8 0, .int .u8 0, .int .u8 0, .int .u8 0, .int .u8 0, .int .u8 0, .int .u8 0, .int .u8 0, .int .u8 0, .int .u8 0, .int .u8 0, .int .u8 0, .int .u8 0, .int .u8 0, .int .u8 0, .int .u8 0, .int .u8 0, .int .u8 0, .int .u8 0, .int .u8 0, .int .u8 0, .int .u8 0, .int .u8 0, .int .u8 0, .int .u8 0, .int .u8 0, .int .u8 0, .int .u8 0, .int .u8 0, .int .u8 0, .int .u8 0, .int .u8 0, .int .u8 0, .int .u8 0, .int .u8 0, .int .u8 0, .int .u8 0, .int .u8 0, .int .u8 0, .int .u8 0, .int .u8 0, .int .u8 0, .int .u8 0, .int .u8 0, .int .u8 0, .int .u8 0, .int .u8 0, .int .u8 0, .int .u8 0, .int .u8 0, .int .u8 0, .int .u8 0, .int .u8 0, .int .u8 0, .int .u8 0, .int .u8 0, .int .u8 0, .int .u8 0, .int .u8 0, .int .u8 0, .int .u8 0, .int .u8 0, .int .u8 0, .int .u8 0, .int .u8 0, .int .u8 0, .int .u8 0, .int .u8 0, .int .u8 0, .int .u8 0, .int .u8 0, .int .u8 0, .int .u8 0, .int .u8 0, .int .u8 0, .int .u8 0, .int .u8 0, .int .u8 0, .int .u8 0, .int .u8 0, .int .u8 0, .int .u8 0, .int .u8 0, .int .u8 0, .int .u8 0, .int .u8 0, .int .u8 0, .int .u8 0, .int .u8 0, .int .u8 0, .int .u8 0, .int .u8 0, .int .u8 0, .int .u8 0, .int .u8 0, .int .u8 0, .int .u8 0, .int .u8 0, .int .u8 0, .int .u8 0, .int .u8 0, .int .u8 0, .int .u8 0, .int .u8 0, .int .u8 0, .int .u8 0, .int .u8 0, .int .u8 0, .int .u8 0, .int .u8 0, .int .u8 0, .int .u8 0, .int .u8 0, .int .u8 0, .int .u8 0, .int .u8 0, .int .u8 0, .int .u8 0, .int .u8 0, .int .u8 0, .int .u8 0, .int .u8 0, .int .u8 0, .int .u8 0, .int .u8 0, .int .u8 0, .int .u8 0, .int .u8 0, .int .u8 0, .int .u8 0, .int .u8 0, .int .u8 0, .int .u8 0, .int .u8 0, .int .u8 0, .int .u8 0, .int .u8 0, .int .u8 0, .int .u8 0, .int .u8 0, .int .u8 0, .int .u8 0, .int .u8 0, .int .u8 0, .int .u8 0, .int .u8 0, .int .u8 0, .int .u8 0, .int .u8 0, .int .u8 0, .int .u8 0, .int .u8 0, .int .u8 0, .int .u8 0, .int .u8 0, .int .u8 0, .int .u8 0, .int .u8 0, .int .u8 0, .int .u8 0, .int .u8 0, .int .u8 0, .int .u8 0, .int .u8 0, .int .u8 0, .int .u8 0, .int .u8 0, .int .u8 0, .int .u8 0, .int .u8 0, .int .u8 0, .int .u8 0, .int .u8 0, .int .u8 0, .int .u8 0, .int .u8 0, .int .u8 0, .int .u8 0, .int .u8 0, .int .u8 0, .int .u8 0, .int .u8 0, .int .u8 0, .int .u8 0, .int .u8 0, .int .u8 0, .int .u8 0, .int .u8 0, .int .u8 0, .int .u8 0, .int .u8 0, .int .u8 0, .int .u8 0, .int .u8 0, .int .u8 0, .int .u8 0, .int .u8 0, .int .u8 0, .int .u8 0, .int .i64 0, .int .i64 0, .int .i64 0, .int .i64 0, .int .i64 0, .int .i64 0, .int .i64 0, .int .i64 0, .int .i64 0, .int .i64 0, .int .i64 0, .int .i64 0, .int .i64 0, .int .i64 0, .int .i64 0, .int .i64 0, .int .i64 0, .int .i64 0, .int .i64 0, .int .i64 0, .int .i64 0, .int .i64 0, .int .i64 0, .int .i64 0, .int .i64 0, .int .i64 0, .int .i64 0, .int .i64 0, .int .i64 0, .int .i64 0, .int .i64 0, .int .i64 0, .int .i64 0, .int .i64 0, .int .i64 0, .int .i64 0, .int .i64 0, .int .i64 0, .int .i64 0, .int .i64 0, .int .i64 0, .int .i64 0, .int .i64 0, .int .i64 0, .int .i64 0, .int .i64 0, .int .i64 0, .int .i64 0, .int .i64 0, .int .i64 0, .int .i64 0, .int .i64 0, .int .i64 0, .int .i64 0, .int .i64 0, .int .i64 0, .int .i64 0, .int .i64 0, .int .i64 0, .int .i64 0, .int .i64 0, .int .i64 0, .int .i64 0, .int .i64 0, .int .i64 0, .int .i64 0, .int .i64 0, .int .i64 0, .int .i64 0, .int .i64 0, .int .i64 0, .int .i64 0, .int .i64 0, .int .i64 0, .int .i64 0, .int .i64 0, .int .i64 0, .int .i64 0, .int .i64 0, .int .i64 0, .int .i64 0, .int .i64 0, .int .i64 0, .int .i64 0, .int .i64 0, .int .i64 0, .int .i64 0, .int .i64 0, .int .i64 0, .int .i64 0, .int .i64 0, .int .i64 0, .int .i64 0, .int .i64 0, .int .i64 0, .int .i64 0, .int .i64 0, .int .i64 0, .int .i64 0, .int .i64 0, .int .i64 0, .int .i64 0, .int .i64 0, .int .i64 0, .int .i64 0, .int .i64 0, .int .i64 0, .int .i64 0, .int .i64 0, .int .i64 0, .int .i64 0, .int .i64 0, .int .i64 0, .int .i64 0, .int .i64 0, .int .i64 0, .int .i64 0, .int .i64 0, .int .i64 0, .int .i64 0, .int .i64 0, .int .i64 0, .int .i64 0, .int .i64 0, .int .i64 0, .int .i64 0, .int .i64 0, .int .i64 0, .int .i64 0, .int .i64 0, .int .i64 0, .int .i64 0, .int .i64 0, .int .i64 0, .int .i64 0, .int .i64 0, .int .i64 0, .int .i64 0, .int .i64 0, .int .i64 0, .int .i64 0, .int .i64 0, .int .i64 0, .int .i64 0, .int .i64 0, .int .i64 0, .int .i64 0, .int .i64 0, .int .i64 0, .int .i64 0, .int .i64 0, .int .i64 0, .int .i64 0, .int .i64 0, .int .i64 0, .int .i64 0, .int .i64 0, .int .i64 0, .int .i64 0, .int .i64 0, .int .i64 0, .int .i64 0, .int .i64 0, .int .i64 0, .int .i64 0, .int .i64 0, .int .i64 0, .int .i64 0, .int .i64 0, .int .i64 0, .int .i64 0, .int .i64 0, .int .i64 0, .int .i64 0, .int .i64 0, .int .i64 0, .int .i64 0, .int .i64 0, .int .i64 0, .int .i64 0, .int .i64 0, .int .i64 0, .int .i64 0, .int .i64 0, .int .i64 0, .int .i64 0, .int .i64 0, .int .i64 0, .int .i64 0, .int .i64 0, .int .i64 0, .int .i64 0, .int .i64 0, .int .i64 0, .int .i64 0, .int .i64 0, .int .i64 0, .int .i64 0, .int .i64 0, .int .i64 0, .int .i64 0, .int .i64 0, .int .i64 0, .int .i64 0, .int .i64 0, .int .i64 0, .int .i64 0, .int .i64 0, .int .i64 0, .int .i64 0, .int .i64 0, .int .i64 0, .int .i64 0, .int .i64 0, .int .i64 0, .int .i64 0, .int .i64 0, .int .i64 0, .int .i64 0, .int .i64 0, .int .i64 0, .int .i64 0, .int .i64 0, .int .i64 0, .int .i64 0, .int .i64 0, .int .i64 0, .int .i64 0, .int .i64 0, .int .i64 0, .int .i64 0, .int .i64 0, .int .i64 0, .int .i64 0, .int .i64 0, .int .i64 0, .int .i64 0, .int .i64 0, .int .i64 0, .int .i64 0, .int .i64 0, .int .i64 0, .int .i64 0, .int .i64 0, .int .i64 0, .int .i64 0, .int .i64 0, .int .i64 0, .int .i64 0, .int .i64 0, .int .i64 0, .int .i64 0, .int .i64 0, .int .i64 0, .int .i64 0, .int .i64 0] [(3, 1, (.cst (.bool true)))], none, 0⟩, ⟨.loc, .box 770 (.loc 0), none, 0⟩, ⟨(.var 0), .mv (.loc 0), none, 0⟩])
 .ret)),
 [.var 0]⟩
/-- stripe.meant -/
def e104 : EFunc := ⟨[0, 1, 2, 5, 6, 7, 8, 17],
 [some 0, some 1, some 2, none, none, none, none, none],
 (.seq (.region [⟨(.var 3), .box 3 (.var 2), none, 0⟩, ⟨(.var 4), .mv (.cst (.nilptr)), none, 0⟩, ⟨(.var 5), .mv (.cst (.int .i64 0)), none, 0⟩])
 (.seq (.block 0 (.seq (.region [⟨.loc, .mv (.var 0), none, 0⟩, ⟨.loc, .call (.cst (.func (.func 96) [] [])) [(.loc 0)], none, 0⟩, ⟨.loc, .bin .eql (.loc 0) (.cst (.int .i64 0)), none, 0⟩, ⟨.loc, .mv (.loc 0), none, 0⟩, ⟨.loc, .mv (.var 1), (some ((.loc 0), false)), 0⟩, ⟨.loc, .call (.cst (.func (.func 95) [] [])) [(.loc 0)], (some ((.loc 1), false)), 0⟩, ⟨.loc, .bin .eql (.loc 0) (.cst (.int .i64 0)), (some ((.loc 2), false)), 0⟩, ⟨.loc, .pick (.loc 3) (.cst (.bool true)) (.loc 0), none, 0⟩, ⟨(.var 6), .mv (.loc 0), none, 0⟩])
 (.cond (.var 6) (.seq (.region [⟨(.var 4), .mv (.cst (.nilptr)), none, 0⟩, ⟨(.var 5), .mv (.cst (.int .i64 1)), none, 0⟩])
 .ret) (.seq (.dregion [⟨.loc, .mv (.var 0), none, 0⟩, ⟨.loc, .mv (.var 1), none, 2⟩] [⟨⟨.loc, .call (.cst (.func (.func 96) [] [])) [(.loc 1)], none, 1⟩, [], []⟩, ⟨⟨.loc, .call (.cst (.func (.func 95) [] [])) [(.loc 1)], none, 3⟩, [], [⟨.loc, .bin .neq (.loc 1) (.loc 0), none, 4⟩, ⟨.loc, .mv (.loc 0), none, 5⟩, ⟨.loc, .fld 0 (.var 3), (some ((.loc 0), false)), 6⟩, ⟨.loc, .ld (.loc 0), (some ((.loc 1), false)), 7⟩, ⟨.loc, .bin .lss (.loc 0) (.cst (.int .u8 1)), (some ((.loc 2), false)), 8⟩, ⟨.loc, .pick (.loc 3) (.cst (.bool true)) (.loc 0), none, 9⟩, ⟨.loc, .mv (.loc 0), none, 10⟩, ⟨.loc, .fld 0 (.var 3), (some ((.loc 0), false)), 11⟩, ⟨.loc, .ld (.loc 0), (some ((.loc 1), false)), 12⟩, ⟨.loc, .bin .gtr (.loc 0) (.cst (.int .u8 4)), (some ((.loc 2), false)), 13⟩, ⟨.loc, .pick (.loc 3) (.cst (.bool true)) (.loc 0), none, 14⟩, ⟨.loc, .mv (.loc 0), none, 15⟩, ⟨.loc, .fld 1 (.var 3), (some ((.loc 0), false)), 16⟩, ⟨.loc, .ld (.loc 0), (some ((.loc 1), false)), 17⟩, ⟨.loc, .bin .lss (.loc 0) (.cst (.int .i64 0)), (some ((.loc 2), false)), 18⟩, ⟨.loc, .pick (.loc 3) (.cst (.bool true)) (.loc 0), none, 19⟩, ⟨.loc, .mv (.loc 0), none, 20⟩, ⟨.loc, .fld 1 (.var 3), (some ((.loc 0), false)), 21⟩, ⟨.loc, .ld (.loc 0), (some ((.loc 1), false)), 22⟩, ⟨.loc, .mv (.var 0), (some ((.loc 2), false)), 23⟩]⟩, ⟨⟨.loc, .call (.cst (.func (.func 135) [] [])) [(.loc 0)], (some ((.loc 3), false)), 24⟩, [(22, .ld (.loc 3), (.loc 2), some ((.loc 4), false))], [⟨.loc, .bin .geq (.loc 2) (.loc 0), (some ((.loc 4), false)), 25⟩, ⟨.loc, .pick (.loc 5) (.cst (.bool true)) (.loc 0), none, 26⟩, ⟨(.var 7), .mv (.loc 0), none, 27⟩]⟩])
 (.cond (.var 7) (.seq (.region [⟨(.var 4), .mv (.cst (.nilptr)), none, 0⟩, ⟨(.var 5), .mv (.cst (.int .i64 2)), none, 0⟩])
 .ret) .skip)))))
 (.seq (.region [⟨.loc, .mv (.var 0), none, 0⟩, ⟨.loc, .mv (.var 1), none, 0⟩, ⟨.loc, .ldn 3 (.var 3), none, 0⟩, ⟨.loc, .build [.nilptr, .nilptr, .int .u8 0, .int .i64 0, .int .u64 0] [(0, 1, (.loc 2)), (1, 1, (.loc 1)), (2, 3, (.loc 0))], none, 0⟩, ⟨.loc, .box 5 (.loc 0), none, 0⟩, ⟨(.var 4), .mv (.loc 0), none, 0⟩, ⟨(.var 5), .mv (.cst (.int .i64 0)), none, 0⟩])
 .ret))),
 [.var 4, .var 5]⟩
/-- code.Coder).Split -/
def e105 : EFunc := ⟨[0, 1, 2, 6, 7, 8, 9, 10, 11, 14, 21, 39, 40, 41],
 [some 0, some 1, some 2, none, none, none, none, none, none, none, none, none, none, none],
 (.seq (.region [⟨(.var 3), .mv (.cst (.nilslice)), none, 0⟩, ⟨(.var 4), .mv (.cst (.int .i64 0)), none, 0⟩])
 (.seq (.block 0 (.seq (.region [⟨.loc, .mv (.var 0), none, 0⟩, ⟨.loc, .call (.cst (.func (.func 188) [] [])) [(.loc 0)], none, 0⟩, ⟨(.var 8), .mv (.loc 0), none, 0⟩])
 (.cond (.var 8) (.seq (.region [⟨(.var 3), .mv (.cst (.nilslice)), none, 0⟩, ⟨(.var 4), .mv (.cst (.int .i64 1)), none, 0⟩])
 .ret) (.seq (.region [⟨.loc, .mv (.var 2), none, 0⟩, ⟨.loc, .bin .lss (.loc 0) (.cst (.int .i64 1)), none, 0⟩, ⟨.loc, .mv (.loc 0), none, 0⟩, ⟨.loc, .mv (.var 2), (some ((.loc 0), false)), 0⟩, ⟨.loc, .bin .gtr (.loc 0) (.cst (.int .i64 65536)), (some ((.loc 1), false)), 0⟩, ⟨.loc, .pick (.loc 2) (.cst (.bool true)) (.loc 0), none, 0⟩, ⟨(.var 9), .mv (.loc 0), none, 0⟩])
 (.cond (.var 9) (.seq (.region [⟨(.var 3), .mv (.cst (.nilslice)), none, 0⟩, ⟨(.var 4), .mv (.cst (.int .i64 2)), none, 0⟩])
 .ret) (.seq (.region [⟨.loc, .mv (.var 1), none, 0⟩, ⟨.loc, .len false (.loc 0), none, 0⟩, ⟨.loc, .mv (.var 0), none, 0⟩, ⟨.loc, .nilchk (.loc 0), none, 0⟩, ⟨.loc, .fld 0 (.loc 0), none, 0⟩, ⟨.loc, .fld 0 (.loc 0), none, 0⟩, ⟨.loc, .ld (.loc 0), none, 0⟩, ⟨.loc, .mv (.var 2), none, 0⟩, ⟨.loc, .bin .mul (.loc 1) (.loc 0), none, 0⟩, ⟨.loc, .bin .gtr (.loc 7) (.loc 0), none, 0⟩, ⟨(.var 10), .mv (.loc 0), none, 0⟩])
 (.cond (.var 10) (.seq (.region [⟨(.var 3), .mv (.cst (.nilslice)), none, 0⟩, ⟨(.var 4), .mv (.cst (.int .i64 260)), none, 0⟩])
 .ret) .skip)))))))
 (.seq (.region [⟨.loc, .mv (.var 0), none, 0⟩, ⟨.loc, .nilchk (.loc 0), none, 0⟩, ⟨.loc, .fld 0 (.loc 0), none, 0⟩, ⟨.loc, .fld 0 (.loc 0), none, 0⟩, ⟨.loc, .ld (.loc 0), none, 0⟩, ⟨.loc, .make 1 24 [.nilslice] (.loc 0) (.loc 0), none, 0⟩, ⟨(.var 5), .mv (.loc 0), none, 0⟩])
 (.seq (.seq (.region [⟨.loc, .mv (.var 5), none, 0⟩, ⟨(.var 11), .len false (.loc 0), none, 0⟩, ⟨(.var 12), .mv (.cst (.int .i64 0)), none, 0⟩])
 (.block 1 (.loop (.seq (.region [⟨(.var 13), .bin .lss (.var 12) (.var 11), none, 0⟩])
 (.seq (.cond (.var 13) .skip (.exit 1))
 (.seq (.block 2 (.seq (.region [⟨.loc, .mv (.var 12), none, 0⟩, ⟨(.var 6), .mv (.loc 0), none, 0⟩])
 (.seq (.region [⟨.loc, .mv (.var 1), none, 0⟩, ⟨.loc, .len false (.loc 0), none, 0⟩, ⟨.loc, .mv (.var 2), none, 0⟩, ⟨.loc, .minmax false [(.loc 1), (.loc 0)], none, 0⟩, ⟨(.var 7), .mv (.loc 0), none, 0⟩])
 (.seq (.dregion [⟨.loc, .mv (.var 5), none, 0⟩, ⟨.loc, .mv (.var 6), none, 1⟩, ⟨.loc, .mv (.var 2), none, 2⟩, ⟨.loc, .make 1 1 [.int .u8 0] (.cst (.int .i64 0)) (.loc 0), none, 3⟩, ⟨.loc, .mv (.var 1), none, 4⟩, ⟨.loc, .mv (.var 7), none, 5⟩, ⟨.loc, .sub 1 (.loc 1) none (some (.loc 0)) none, none, 6⟩, ⟨.loc, .mv (.var 2), none, 8⟩] [⟨⟨.loc, .append 1 1 (.loc 4) (.loc 1), none, 7⟩, [], [⟨.loc, .sub 1 (.loc 0) none (some (.loc 1)) none, none, 9⟩, ⟨.loc, .idx 1 (.loc 9) (.loc 8), none, 10⟩]⟩, ⟨⟨.drop, .st 1 (.loc 0) (.loc 1), none, 11⟩, [], []⟩])
 (.region [⟨.loc, .mv (.var 1), none, 0⟩, ⟨.loc, .mv (.var 7), none, 0⟩, ⟨.loc, .sub 1 (.loc 1) (some (.loc 0)) none none, none, 0⟩, ⟨(.var 1), .mv (.loc 0), none, 0⟩])))))
 (.region [⟨.loc, .bin .add (.var 12) (.cst (.int .i64 1)), none, 0⟩, ⟨(.var 12), .mv (.loc 0), none, 0⟩])))))))
 (.seq (.region [⟨.loc, .mv (.var 5), none, 0⟩, ⟨(.var 3), .mv (.loc 0), none, 0⟩, ⟨(.var 4), .mv (.cst (.int .i64 0)), none, 0⟩])
 .ret))))),
 [.var 3, .var 4]⟩
/-- code.Coder).All -/
def e106 : EFunc := ⟨[0, 1, 4, 5, 6, 7, 8, 10, 18, 25, 26, 27, 28],
 [some 0, some 1, none, none, none, none, none, none, none, none, none, none, none],
 (.seq (.region [⟨(.var 2), .mv (.cst (.nilslice)), none, 0⟩, ⟨(.var 3), .mv (.cst (.int .i64 0)), none, 0⟩])
 (.seq (.region [⟨.loc, .mv (.var 0), none, 0⟩, ⟨.loc, .mv (.var 1), none, 0⟩, ⟨.loc, .call (.cst (.func (.func 192) [] [])) [(.loc 1), (.loc 0)], none, 0⟩, ⟨.loc, .mv (.loc 0), none, 0⟩, ⟨.loc, .ext 0 (.loc 0), none, 0⟩, ⟨.loc, .ext 1 (.loc 1), none, 0⟩, ⟨(.var 4), .mv (.loc 1), none, 0⟩, ⟨(.var 5), .mv (.loc 0), none, 0⟩])
 (.seq (.seq (.region [⟨.loc, .mv (.var 5), none, 0⟩, ⟨(.var 8), .bin .neq (.loc 0) (.cst (.int .i64 0)), none, 0⟩])
 (.cond (.var 8) (.seq (.region [⟨.loc, .mv (.var 5), none, 0⟩, ⟨(.var 2), .mv (.cst (.nilslice)), none, 0⟩, ⟨(.var 3), .mv (.loc 0), none, 0⟩])
 .ret) .skip))
 (.seq (.region [⟨.loc, .mv (.var 0), none, 0⟩, ⟨.loc, .nilchk (.loc 0), none, 0⟩, ⟨.loc, .fld 0 (.loc 0), none, 0⟩, ⟨.loc, .call (.cst (.func (.func 189) [] [])) [(.loc 0)], none, 0⟩, ⟨.loc, .make 1 24 [.nilslice] (.cst (.int .i64 0)) (.loc 0), none, 0⟩, ⟨(.var 6), .mv (.loc 0), none, 0⟩])
 (.seq (.seq (.region [⟨(.var 9), .mv (.var 1), none, 0⟩, ⟨(.var 10), .len false (.var 9), none, 0⟩, ⟨(.var 11), .mv (.cst (.int .i64 0)), none, 0⟩])
 (.block 0 (.loop (.seq (.region [⟨(.var 12), .bin .lss (.var 11) (.var 10), none, 0⟩])
 (.seq (.cond (.var 12) .skip (.exit 0))
 (.seq (.block 1 (.seq (.region [⟨.loc, .idx 1 (.var 9) (.var 11), none, 0⟩, ⟨.loc, .ld (.loc 0), none, 0⟩, ⟨(.var 7), .mv (.loc 0), none, 0⟩])
 (.region [⟨.loc, .mv (.var 6), none, 0⟩, ⟨.loc, .mv (.var 7), none, 0⟩, ⟨.loc, .append 1 1 (.cst (.nilslice)) (.loc 0), none, 0⟩, ⟨.loc, .buildS 1 1 [.nilslice] [(0, 1, (.loc 0))], none, 0⟩, ⟨.loc, .append 1 24 (.loc 3) (.loc 0), none, 0⟩, ⟨(.var 6), .mv (.loc 0), none, 0⟩])))
 (.region [⟨.loc, .bin .add (.var 11) (.cst (.int .i64 1)), none, 0⟩, ⟨(.var 11), .mv (.loc 0), none, 0⟩])))))))
 (.seq (.region [⟨.loc, .mv (.var 6), none, 0⟩, ⟨.loc, .mv (.var 4), none, 0⟩, ⟨.loc, .append 1 24 (.loc 1) (.loc 0), none, 0⟩, ⟨(.var 2), .mv (.loc 0), none, 0⟩, ⟨(.var 3), .mv (.cst (.int .i64 0)), none, 0⟩])
 .ret)))))),
 [.var 2, .var 3]⟩
/-- stripe.set).writes -/
def e107 : EFunc := ⟨[0, 1, 2, 3, 8, 9, 10, 15, 16, 17, 30],
 [some 0, some 1, some 2, some 3, none, none, none, none, none, none, none],
 (.seq (.region [⟨(.var 4), .mv (.cst (.int .i64 0)), none, 0⟩])
 (.seq (.region [⟨(.var 5), .mv (.cst (.int .i64 0)), none, 0⟩])
 (.seq (.seq (.region [⟨.loc, .mv (.var 0), none, 0⟩, ⟨.loc, .nilchk (.loc 0), none, 0⟩, ⟨.loc, .fld 1 (.loc 0), none, 0⟩, ⟨.loc, .ld (.loc 0), none, 0⟩, ⟨(.var 7), .call (.cst (.func (.func 95) [] [])) [(.loc 0)], none, 0⟩, ⟨(.var 8), .mv (.cst (.int .i64 0)), none, 0⟩])
 (.block 0 (.loop (.seq (.region [⟨(.var 9), .bin .lss (.var 8) (.var 7), none, 0⟩])
 (.seq (.cond (.var 9) .skip (.exit 0))
 (.seq (.block 1 (.seq (.region [⟨.loc, .mv (.var 8), none, 0⟩, ⟨(.var 6), .mv (.loc 0), none, 0⟩])
 (.seq (.region [⟨.loc, .mv (.var 2), none, 0⟩, ⟨.loc, .mv (.var 6), none, 0⟩, ⟨.loc, .call (.loc 1) [(.loc 0)], none, 0⟩, ⟨.loc, .mv (.loc 0), none, 0⟩, ⟨.loc, .mv (.var 0), (some ((.loc 0), true)), 0⟩, ⟨.loc, .mv (.var 6), (some ((.loc 1), true)), 0⟩, ⟨.loc, .mv (.var 1), (some ((.loc 2), true)), 0⟩, ⟨.loc, .mv (.var 3), (some ((.loc 3), true)), 0⟩, ⟨.loc, .mv (.var 6), (some ((.loc 4), true)), 0⟩, ⟨.loc, .call (.loc 1) [(.loc 0)], (some ((.loc 5), true)), 0⟩, ⟨.loc, .call (.cst (.func (.func 193) [] [])) [(.loc 5), (.loc 4), (.loc 3), (.loc 0)], (some ((.loc 6), true)), 0⟩, ⟨(.var 10), .pick (.loc 7) (.loc 0) (.cst (.bool false)), none, 0⟩])
 (.cond (.var 10) (.region [⟨.loc, .mv (.var 5), none, 0⟩, ⟨.loc, .bin .add (.loc 0) (.cst (.int .i64 1)), none, 0⟩, ⟨(.var 5), .mv (.loc 0), none, 0⟩]) .skip))))
 (.region [⟨.loc, .bin .add (.var 8) (.cst (.int .i64 1)), none, 0⟩, ⟨(.var 8), .mv (.loc 0), none, 0⟩])))))))
 (.seq (.region [⟨.loc, .mv (.var 5), none, 0⟩, ⟨(.var 4), .mv (.loc 0), none, 0⟩])
 .ret)))),
 [.var 4]⟩
/-- stripe.Put$1 -/
def e108 : EFunc := ⟨[0, 2],
 [some 0, none],
 (.seq (.region [⟨(.var 1), .mv (.cst (.bool false)), none, 0⟩])
 (.seq (.region [⟨(.var 1), .mv (.cst (.bool true)), none, 0⟩])
 .ret)),
 [.var 1]⟩
/-- stripe.Put$2 -/
def e109 : EFunc := ⟨[0, 1, 3],
 [some 0, some 1, none],
 (.seq (.region [⟨(.var 2), .mv (.cst (.nilslice)), none, 0⟩])
 (.seq (.region [⟨.loc, .ld (.var 1), none, 0⟩, ⟨.loc, .mv (.var 0), none, 0⟩, ⟨.loc, .idx 1 (.loc 1) (.loc 0), none, 0⟩, ⟨.loc, .ld (.loc 0), none, 0⟩, ⟨(.var 2), .mv (.loc 0), none, 0⟩])
 .ret)),
 [.var 2]⟩
/-- stripe.set).whole -/
def e110 : EFunc := ⟨[0, 2, 3, 4, 5, 6, 7, 8, 14, 15, 16, 37],
 [some 0, none, none, none, none, none, none, none, none, none, none, none],
 (.seq (.region [⟨(.var 1), .mv (.cst (.nilmap)), none, 0⟩, ⟨(.var 2), .mv (.cst (.int .i64 0)), none, 0⟩])
 (.seq (.region [⟨.loc, .mkmap, none, 0⟩, ⟨(.var 3), .mv (.loc 0), none, 0⟩])
 (.seq (.region [⟨(.var 4), .mv (.cst (.int .i64 0)), none, 0⟩])
 (.seq (.seq (.region [⟨.loc, .mv (.var 0), none, 0⟩, ⟨.loc, .nilchk (.loc 0), none, 0⟩, ⟨.loc, .fld 1 (.loc 0), none, 0⟩, ⟨.loc, .ld (.loc 0), none, 0⟩, ⟨(.var 8), .call (.cst (.func (.func 95) [] [])) [(.loc 0)], none, 0⟩, ⟨(.var 9), .mv (.cst (.int .i64 0)), none, 0⟩])
 (.block 0 (.loop (.seq (.region [⟨(.var 10), .bin .lss (.var 9) (.var 8), none, 0⟩])
 (.seq (.cond (.var 10) .skip (.exit 0))
 (.seq (.block 1 (.seq (.region [⟨.loc, .mv (.var 9), none, 0⟩, ⟨(.var 5), .mv (.loc 0), none, 0⟩])
 (.seq (.region [⟨.loc, .mv (.var 0), none, 0⟩, ⟨.loc, .mv (.var 5), none, 0⟩, ⟨.loc, .call (.cst (.func (.func 194) [] [])) [(.loc 1), (.loc 0)], none, 0⟩, ⟨.loc, .mv (.loc 0), none, 0⟩, ⟨.loc, .ext 0 (.loc 0), none, 0⟩, ⟨.loc, .ext 1 (.loc 1), none, 0⟩, ⟨(.var 6), .alloc [.int .u8 0, .int .u8 0, .int .u16 0, .int .u64 0, .int .u16 0, .int .u8 0, .int .u8 0, .int .u8 0, .int .u8 0, .int .u8 0, .int .u8 0, .int .u8 0, .int .u8 0, .int .u8 0, .int .u8 0, .int .u8 0, .int .u8 0, .int .u8 0, .int .u8 0, .int .u8 0, .int .u8 0, .int .u8 0, .int .u8 0, .int .u8 0, .int .u8 0, .int .u8 0, .int .u8 0, .int .u8 0, .int .u8 0, .int .u8 0, .int .u8 0, .int .u8 0, .int .u8 0, .int .u8 0, .int .u8 0, .int .u8 0, .int .u8 0, .int .u8 0, .int .u8 0, .int .u8 0, .int .u8 0, .int .u8 0, .int .u8 0, .int .u8 0, .int .u8 0, .int .u8 0, .int .u8 0, .int .u8 0, .int .u8 0], none, 0⟩, ⟨.drop, .st 49 (.var 6) (.loc 1), none, 0⟩, ⟨(.var 7), .mv (.loc 0), none, 0⟩])
 (.seq (.seq (.region [⟨.loc, .mv (.var 7), none, 0⟩, ⟨.loc, .un .not (.loc 0), none, 0⟩, ⟨.loc, .mv (.loc 0), none, 0⟩, ⟨.loc, .mv (.var 3), (some ((.loc 0), false)), 0⟩, ⟨.loc, .lenM (.loc 0), (some ((.loc 1), false)), 0⟩, ⟨.loc, .bin .gtr (.loc 0) (.cst (.int .i64 0)), (some ((.loc 2), false)), 0⟩, ⟨.loc, .mv (.loc 0), (some ((.loc 3), false)), 0⟩, ⟨.loc, .fld 4 (.var 6), (some ((.loc 0), true)), 0⟩, ⟨.loc, .ld (.loc 0), (some ((.loc 1), true)), 0⟩, ⟨.loc, .conv .i64 (.loc 0), (some ((.loc 2), true)), 0⟩, ⟨.loc, .mv (.var 4), (some ((.loc 3), true)), 0⟩, ⟨.loc, .bin .neq (.loc 1) (.loc 0), (some ((.loc 4), true)), 0⟩, ⟨.loc, .pick (.loc 5) (.loc 0) (.cst (.bool false)), (some ((.loc 9), false)), 0⟩, ⟨(.var 11), .pick (.loc 10) (.cst (.bool true)) (.loc 0), none, 0⟩])
 (.cond (.var 11) (.exit 1) .skip))
 (.dregion [⟨.loc, .mv (.var 3), none, 0⟩, ⟨.loc, .mv (.var 5), none, 1⟩, ⟨.loc, .ldn 49 (.var 6), none, 2⟩, ⟨.loc, .fld 4 (.var 6), none, 3⟩, ⟨.loc, .ld (.loc 0), none, 4⟩, ⟨.loc, .conv .i64 (.loc 0), none, 5⟩] [⟨⟨.drop, .mapset 1 (.loc 5) (.loc 4) (.loc 3), none, 6⟩, [(4, .ld (.loc 2), (.loc 1), none)], [⟨(.var 4), .mv (.loc 0), none, 7⟩]⟩])))))
 (.region [⟨.loc, .bin .add (.var 9) (.cst (.int .i64 1)), none, 0⟩, ⟨(.var 9), .mv (.loc 0), none, 0⟩])))))))
 (.seq (.region [⟨.loc, .mv (.var 3), none, 0⟩, ⟨.loc, .mv (.var 4), none, 0⟩, ⟨(.var 1), .mv (.loc 1), none, 0⟩, ⟨(.var 2), .mv (.loc 0), none, 0⟩])
 .ret))))),
 [.var 1, .var 2]⟩
/-- code.Coder).K -/
def e111 : EFunc := ⟨[0, 2, 4],
 [some 0, none, none],
 (.seq (.region [⟨(.var 1), .mv (.cst (.int .i64 0)), none, 0⟩])
 (.seq (.seq (.region [⟨.loc, .mv (.var 0), none, 0⟩, ⟨(.var 2), .call (.cst (.func (.func 188) [] [])) [(.loc 0)], none, 0⟩])
 (.cond (.var 2) (.seq (.region [⟨(.var 1), .mv (.cst (.int .i64 0)), none, 0⟩])
 .ret) .skip))
 (.seq (.region [⟨.loc, .mv (.var 0), none, 0⟩, ⟨.loc, .nilchk (.loc 0), none, 0⟩, ⟨.loc, .fld 0 (.loc 0), none, 0⟩, ⟨.loc, .call (.cst (.func (.func 195) [] [])) [(.loc 0)], none, 0⟩, ⟨(.var 1), .mv (.loc 0), none, 0⟩])
 .ret))),
 [.var 1]⟩
/-- decode.Data -/
def e112 : EFunc := ⟨[0, 1, 4, 5],
 [some 0, some 1, none, none],
 (.seq (.region [⟨(.var 2), .mv (.cst (.nilslice)), none, 0⟩, ⟨(.var 3), .mv (.cst (.int .i64 0)), none, 0⟩])
 (.seq (.region [⟨.loc, .mv (.var 0), none, 0⟩, ⟨.loc, .mv (.var 1), none, 0⟩, ⟨.loc, .mv (.var 0), none, 0⟩, ⟨.loc, .mkfn (.func 111) [(.loc 0)] [], none, 0⟩, ⟨.loc, .call (.cst (.func (.func 196) [] [])) [(.loc 3), (.loc 2), (.loc 0)], none, 0⟩, ⟨.loc, .ext 0 (.loc 0), none, 0⟩, ⟨.loc, .ext 1 (.loc 1), none, 0⟩, ⟨(.var 2), .mv (.loc 1), none, 0⟩, ⟨(.var 3), .mv (.loc 0), none, 0⟩])
 .ret)),
 [.var 2, .var 3]⟩
/-- stripe.set).rows -/
def e113 : EFunc := ⟨[0, 1, 4, 5, 6, 7, 8, 16, 17, 18, 26],
 [some 0, some 1, none, none, none, none, none, none, none, none, none],
 (.seq (.region [⟨(.var 2), .mv (.cst (.nilslice)), none, 0⟩])
 (.seq (.region [⟨.loc, .mv (.var 0), none, 0⟩, ⟨.loc, .nilchk (.loc 0), none, 0⟩, ⟨.loc, .fld 1 (.loc 0), none, 0⟩, ⟨.loc, .ld (.loc 0), none, 0⟩, ⟨.loc, .call (.cst (.func (.func 95) [] [])) [(.loc 0)], none, 0⟩, ⟨.loc, .make 1 24 [.nilslice] (.loc 0) (.loc 0), none, 0⟩, ⟨(.var 3), .mv (.loc 0), none, 0⟩])
 (.seq (.seq (.region [⟨.loc, .mv (.var 3), none, 0⟩, ⟨(.var 7), .len false (.loc 0), none, 0⟩, ⟨(.var 8), .mv (.cst (.int .i64 0)), none, 0⟩])
 (.block 0 (.loop (.seq (.region [⟨(.var 9), .bin .lss (.var 8) (.var 7), none, 0⟩])
 (.seq (.cond (.var 9) .skip (.exit 0))
 (.seq (.block 1 (.seq (.region [⟨.loc, .mv (.var 8), none, 0⟩, ⟨(.var 4), .mv (.loc 0), none, 0⟩])
 (.seq (.region [⟨.loc, .mv (.var 1), none, 0⟩, ⟨.loc, .mv (.var 4), none, 0⟩, ⟨.loc, .lookup true 1 (.agg [.int .u8 0, .int .u8 0, .int .u16 0, .int .u64 0, .int .u16 0, .int .u8 0, .int .u8 0, .int .u8 0, .int .u8 0, .int .u8 0, .int .u8 0, .int .u8 0, .int .u8 0, .int .u8 0, .int .u8 0, .int .u8 0, .int .u8 0, .int .u8 0, .int .u8 0, .int .u8 0, .int .u8 0, .int .u8 0, .int .u8 0, .int .u8 0, .int .u8 0, .int .u8 0, .int .u8 0, .int .u8 0, .int .u8 0, .int .u8 0, .int .u8 0, .int .u8 0, .int .u8 0, .int .u8 0, .int .u8 0, .int .u8 0, .int .u8 0, .int .u8 0, .int .u8 0, .int .u8 0, .int .u8 0, .int .u8 0, .int .u8 0, .int .u8 0, .int .u8 0, .int .u8 0, .int .u8 0, .int .u8 0, .int .u8 0]) (.loc 1) (.loc 0), none, 0⟩, ⟨.loc, .mv (.loc 0), none, 0⟩, ⟨.loc, .ext 0 (.loc 0), none, 0⟩, ⟨.loc, .ext 1 (.loc 1), none, 0⟩, ⟨(.var 5), .alloc [.int .u8 0, .int .u8 0, .int .u16 0, .int .u64 0, .int .u16 0, .int .u8 0, .int .u8 0, .int .u8 0, .int .u8 0, .int .u8 0, .int .u8 0, .int .u8 0, .int .u8 0, .int .u8 0, .int .u8 0, .int .u8 0, .int .u8 0, .int .u8 0, .int .u8 0, .int .u8 0, .int .u8 0, .int .u8 0, .int .u8 0, .int .u8 0, .int .u8 0, .int .u8 0, .int .u8 0, .int .u8 0, .int .u8 0, .int .u8 0, .int .u8 0, .int .u8 0, .int .u8 0, .int .u8 0, .int .u8 0, .int .u8 0, .int .u8 0, .int .u8 0, .int .u8 0, .int .u8 0, .int .u8 0, .int .u8 0, .int .u8 0, .int .u8 0, .int .u8 0, .int .u8 0, .int .u8 0, .int .u8 0, .int .u8 0], none, 0⟩, ⟨.drop, .st 49 (.var 5) (.loc 1), none, 0⟩, ⟨(.var 6), .mv (.loc 0), none, 0⟩])
 (.seq (.region [⟨(.var 10), .mv (.var 6), none, 0⟩])
 (.cond (.var 10) (.region [⟨.loc, .mv (.var 3), none, 0⟩, ⟨.loc, .mv (.var 4), none, 0⟩, ⟨.loc, .fld 5 (.var 5), none, 0⟩, ⟨.loc, .subA 44 1 (.loc 0) none none none, none, 0⟩, ⟨.loc, .idx 1 (.loc 3) (.loc 2), none, 0⟩, ⟨.drop, .st 1 (.loc 0) (.loc 1), none, 0⟩]) .skip)))))
 (.region [⟨.loc, .bin .add (.var 8) (.cst (.int .i64 1)), none, 0⟩, ⟨(.var 8), .mv (.loc 0), none, 0⟩])))))))
 (.seq (.region [⟨.loc, .mv (.var 3), none, 0⟩, ⟨(.var 2), .mv (.loc 0), none, 0⟩])
 .ret)))),
 [.var 2]⟩
/-- code.Coder).Join -/
def e114 : EFunc := ⟨[0, 1, 2, 6, 7, 8, 10, 11, 14, 39, 40, 41, 42],
 [some 0, some 1, some 2, none, none, none, none, none, none, none, none, none, none],
 (.seq (.region [⟨(.var 3), .mv (.cst (.nilslice)), none, 0⟩, ⟨(.var 4), .mv (.cst (.int .i64 0)), none, 0⟩])
 (.seq (.block 0 (.seq (.region [⟨.loc, .mv (.var 0), none, 0⟩, ⟨.loc, .call (.cst (.func (.func 188) [] [])) [(.loc 0)], none, 0⟩, ⟨(.var 7), .mv (.loc 0), none, 0⟩])
 (.cond (.var 7) (.seq (.region [⟨(.var 3), .mv (.cst (.nilslice)), none, 0⟩, ⟨(.var 4), .mv (.cst (.int .i64 1)), none, 0⟩])
 .ret) (.seq (.dregion [⟨.loc, .mv (.var 0), none, 0⟩, ⟨.loc, .mv (.var 1), none, 1⟩] [⟨⟨.loc, .call (.cst (.func (.func 197) [] [])) [(.loc 1), (.loc 0)], none, 2⟩, [], [⟨.loc, .un .not (.loc 0), none, 3⟩, ⟨.loc, .mv (.loc 0), none, 4⟩, ⟨.loc, .mv (.var 2), (some ((.loc 0), false)), 5⟩, ⟨.loc, .bin .lss (.loc 0) (.cst (.int .i64 0)), (some ((.loc 1), false)), 6⟩, ⟨.loc, .pick (.loc 2) (.cst (.bool true)) (.loc 0), none, 7⟩, ⟨.loc, .mv (.loc 0), none, 8⟩, ⟨.loc, .mv (.var 2), (some ((.loc 0), false)), 9⟩, ⟨.loc, .mv (.var 0), (some ((.loc 1), false)), 10⟩, ⟨.loc, .nilchk (.loc 0), (some ((.loc 2), false)), 11⟩, ⟨.loc, .fld 0 (.loc 0), (some ((.loc 3), false)), 12⟩, ⟨.loc, .fld 0 (.loc 0), (some ((.loc 4), false)), 13⟩, ⟨.loc, .ld (.loc 0), (some ((.loc 5), false)), 14⟩, ⟨.loc, .mv (.var 1), (some ((.loc 6), false)), 15⟩, ⟨.loc, .idx 1 (.loc 0) (.cst (.int .i64 0)), (some ((.loc 7), false)), 16⟩, ⟨.loc, .ld (.loc 0), (some ((.loc 8), false)), 17⟩, ⟨.loc, .len false (.loc 0), (some ((.loc 9), false)), 18⟩, ⟨.loc, .bin .mul (.loc 4) (.loc 0), (some ((.loc 10), false)), 19⟩, ⟨.loc, .bin .gtr (.loc 10) (.loc 0), (some ((.loc 11), false)), 20⟩, ⟨.loc, .pick (.loc 12) (.cst (.bool true)) (.loc 0), none, 21⟩, ⟨(.var 8), .mv (.loc 0), none, 22⟩]⟩])
 (.cond (.var 8) (.seq (.region [⟨(.var 3), .mv (.cst (.nilslice)), none, 0⟩, ⟨(.var 4), .mv (.cst (.int .i64 2)), none, 0⟩])
 .ret) .skip)))))
 (.seq (.region [⟨.loc, .mv (.var 2), none, 0⟩, ⟨.loc, .make 1 1 [.int .u8 0] (.cst (.int .i64 0)) (.loc 0), none, 0⟩, ⟨(.var 5), .mv (.loc 0), none, 0⟩])
 (.seq (.seq (.region [⟨(.var 9), .mv (.var 1), none, 0⟩, ⟨(.var 10), .len false (.var 9), none, 0⟩, ⟨(.var 11), .mv (.cst (.int .i64 0)), none, 0⟩])
 (.block 1 (.loop (.seq (.region [⟨(.var 12), .bin .lss (.var 11) (.var 10), none, 0⟩])
 (.seq (.cond (.var 12) .skip (.exit 1))
 (.seq (.block 2 (.seq (.region [⟨.loc, .idx 1 (.var 9) (.var 11), none, 0⟩, ⟨.loc, .ld (.loc 0), none, 0⟩, ⟨(.var 6), .mv (.loc 0), none, 0⟩])
 (.region [⟨.loc, .mv (.var 5), none, 0⟩, ⟨.loc, .mv (.var 6), none, 0⟩, ⟨.loc, .mv (.var 6), none, 0⟩, ⟨.loc, .len false (.loc 0), none, 0⟩, ⟨.loc, .mv (.var 2), none, 0⟩, ⟨.loc, .mv (.var 5), none, 0⟩, ⟨.loc, .len false (.loc 0), none, 0⟩, ⟨.loc, .bin .sub (.loc 2) (.loc 0), none, 0⟩, ⟨.loc, .minmax false [(.loc 4), (.loc 0)], none, 0⟩, ⟨.loc, .sub 1 (.loc 7) none (some (.loc 0)) none, none, 0⟩, ⟨.loc, .append 1 1 (.loc 9) (.loc 0), none, 0⟩, ⟨(.var 5), .mv (.loc 0), none, 0⟩])))
 (.region [⟨.loc, .bin .add (.var 11) (.cst (.int .i64 1)), none, 0⟩, ⟨(.var 11), .mv (.loc 0), none, 0⟩])))))))
 (.seq (.region [⟨.loc, .mv (.var 5), none, 0⟩, ⟨(.var 3), .mv (.loc 0), none, 0⟩, ⟨(.var 4), .mv (.cst (.int .i64 0)), none, 0⟩])
 .ret))))),
 [.var 3, .var 4]⟩
/-- array.Array).none -/
def e118 : EFunc := ⟨[0, 2],
 [some 0, none],
 (.seq (.region [⟨(.var 1), .mv (.cst (.bool false)), none, 0⟩])
 (.seq (.region [⟨.loc, .mv (.var 0), none, 0⟩, ⟨.loc, .isnil 0 false (.loc 0), none, 0⟩, ⟨.loc, .mv (.loc 0), none, 0⟩, ⟨.loc, .mv (.var 0), (some ((.loc 0), false)), 0⟩, ⟨.loc, .nilchk (.loc 0), (some ((.loc 1), false)), 0⟩, ⟨.loc, .fld 0 (.loc 0), (some ((.loc 2), false)), 0⟩, ⟨.loc, .ld (.loc 0), (some ((.loc 3), false)), 0⟩, ⟨.loc, .len false (.loc 0), (some ((.loc 4), false)), 0⟩, ⟨.loc, .bin .eql (.loc 0) (.cst (.int .i64 0)), (some ((.loc 5), false)), 0⟩, ⟨.loc, .pick (.loc 6) (.cst (.bool true)) (.loc 0), none, 0⟩, ⟨(.var 1), .mv (.loc 0), none, 0⟩])
 .ret)),
 [.var 1]⟩
/-- array.Array).at -/
def e120 : EFunc := ⟨[0, 1, 4, 19],
 [some 0, some 1, none, none],
 (.seq (.region [⟨(.var 2), .mv (.cst (.nilptr)), none, 0⟩])
 (.seq (.seq (.region [⟨.loc, .mv (.var 0), none, 0⟩, ⟨.loc, .call (.cst (.func (.func 118) [] [])) [(.loc 0)], none, 0⟩, ⟨.loc, .mv (.loc 0), none, 0⟩, ⟨.loc, .mv (.var 1), (some ((.loc 0), false)), 0⟩, ⟨.loc, .bin .lss (.loc 0) (.cst (.int .i64 0)), (some ((.loc 1), false)), 0⟩, ⟨.loc, .pick (.loc 2) (.cst (.bool true)) (.loc 0), none, 0⟩, ⟨.loc, .mv (.loc 0), none, 0⟩, ⟨.loc, .mv (.var 1), (some ((.loc 0), false)), 0⟩, ⟨.loc, .mv (.var 0), (some ((.loc 1), false)), 0⟩, ⟨.loc, .nilchk (.loc 0), (some ((.loc 2), false)), 0⟩, ⟨.loc, .fld 0 (.loc 0), (some ((.loc 3), false)), 0⟩, ⟨.loc, .ld (.loc 0), (some ((.loc 4), false)), 0⟩, ⟨.loc, .len false (.loc 0), (some ((.loc 5), false)), 0⟩, ⟨.loc, .bin .geq (.loc 5) (.loc 0), (some ((.loc 6), false)), 0⟩, ⟨(.var 3), .pick (.loc 7) (.cst (.bool true)) (.loc 0), none, 0⟩])
 (.cond (.var 3) (.seq (.region [⟨(.var 2), .mv (.cst (.nilptr)), none, 0⟩])
 .ret) .skip))
 (.seq (.region [⟨.loc, .mv (.var 0), none, 0⟩, ⟨.loc, .nilchk (.loc 0), none, 0⟩, ⟨.loc, .fld 0 (.loc 0), none, 0⟩, ⟨.loc, .ld (.loc 0), none, 0⟩, ⟨.loc, .mv (.var 1), none, 0⟩, ⟨.loc, .idx 1 (.loc 1) (.loc 0), none, 0⟩, ⟨.loc, .ld (.loc 0), none, 0⟩, ⟨(.var 2), .mv (.loc 0), none, 0⟩])
 .ret))),
 [.var 2]⟩
/-- super.ready -/
def e126 : EFunc := ⟨[0, 1, 2, 6, 7, 16],
 [some 0, some 1, some 2, none, none, none],
 (.seq (.region [⟨(.var 3), .mv (.cst (.int .i64 0)), none, 0⟩])
 (.seq (.block 0 (.seq (.region [⟨.loc, .mv (.var 0), none, 0⟩, ⟨.loc, .call (.cst (.func (.func 96) [] [])) [(.loc 0)], none, 0⟩, ⟨.loc, .bin .eql (.loc 0) (.cst (.int .i64 0)), none, 0⟩, ⟨.loc, .mv (.loc 0), none, 0⟩, ⟨.loc, .mv (.var 1), (some ((.loc 0), false)), 0⟩, ⟨.loc, .call (.cst (.func (.func 95) [] [])) [(.loc 0)], (some ((.loc 1), false)), 0⟩, ⟨.loc, .bin .eql (.loc 0) (.cst (.int .i64 0)), (some ((.loc 2), false)), 0⟩, ⟨.loc, .pick (.loc 3) (.cst (.bool true)) (.loc 0), none, 0⟩, ⟨(.var 4), .mv (.loc 0), none, 0⟩])
 (.cond (.var 4) (.seq (.region [⟨(.var 3), .mv (.cst (.int .i64 1)), none, 0⟩])
 .ret) (.seq (.region [⟨.loc, .mv (.var 2), none, 0⟩, ⟨.loc, .call (.cst (.func (.func 139) [] [])) [(.loc 0)], none, 0⟩, ⟨.loc, .un .not (.loc 0), none, 0⟩, ⟨.loc, .mv (.loc 0), none, 0⟩, ⟨.loc, .mv (.var 0), (some ((.loc 0), false)), 0⟩, ⟨.loc, .call (.cst (.func (.func 96) [] [])) [(.loc 0)], (some ((.loc 1), false)), 0⟩, ⟨.loc, .mv (.var 1), (some ((.loc 2), false)), 0⟩, ⟨.loc, .call (.cst (.func (.func 95) [] [])) [(.loc 0)], (some ((.loc 3), false)), 0⟩, ⟨.loc, .bin .neq (.loc 2) (.loc 0), (some ((.loc 4), false)), 0⟩, ⟨.loc, .pick (.loc 5) (.cst (.bool true)) (.loc 0), none, 0⟩, ⟨.loc, .mv (.loc 0), none, 0⟩, ⟨.loc, .mv (.var 2), (some ((.loc 0), false)), 0⟩, ⟨.loc, .mv (.var 0), (some ((.loc 1), false)), 0⟩, ⟨.loc, .call (.cst (.func (.func 135) [] [])) [(.loc 0)], (some ((.loc 2), false)), 0⟩, ⟨.loc, .bin .geq (.loc 2) (.loc 0), (some ((.loc 3), false)), 0⟩, ⟨.loc, .pick (.loc 4) (.cst (.bool true)) (.loc 0), none, 0⟩, ⟨(.var 5), .mv (.loc 0), none, 0⟩])
 (.cond (.var 5) (.seq (.region [⟨(.var 3), .mv (.cst (.int .i64 2)), none, 0⟩])
 .ret) .skip)))))
 (.seq (.region [⟨(.var 3), .mv (.cst (.int .i64 0)), none, 0⟩])
 .ret))),
 [.var 3]⟩
/-- scroll.PutBytes -/
def e127 : EFunc := ⟨[0, 1, 3, 4, 5],
 [some 0, some 1, none, none, none],
 (.seq (.region [⟨(.var 2), .box 4 (.var 1), none, 0⟩, ⟨(.var 3), .mv (.cst (.nilslice)), none, 0⟩])
 (.seq (.dregion [⟨.loc, .mv (.var 0), none, 0⟩, ⟨.loc, .fld 0 (.var 2), none, 1⟩, ⟨.loc, .ld (.loc 0), none, 2⟩, ⟨.loc, .conv .u64 (.loc 0), none, 3⟩, ⟨.loc, .fld 1 (.var 2), none, 5⟩, ⟨.loc, .ld (.loc 0), none, 6⟩] [⟨⟨.loc, .call (.cst (.func (.func 200) [] [])) [(.loc 5), (.cst (.int .i64 2)), (.loc 2)], none, 4⟩, [(6, .ld (.loc 2), (.loc 1), none)], []⟩, ⟨⟨.loc, .call (.cst (.func (.func 200) [] [])) [(.loc 0), (.cst (.int .i64 8)), (.loc 1)], none, 7⟩, [], [⟨(.var 4), .mv (.loc 0), none, 8⟩]⟩])
 (.seq (.dregion [⟨.loc, .mv (.var 4), none, 0⟩, ⟨.loc, .fld 2 (.var 2), none, 1⟩, ⟨.loc, .ld (.loc 0), none, 2⟩, ⟨.loc, .conv .u64 (.loc 0), none, 3⟩, ⟨.loc, .fld 3 (.var 2), none, 5⟩, ⟨.loc, .ld (.loc 0), none, 6⟩, ⟨.loc, .conv .u64 (.loc 0), none, 7⟩] [⟨⟨.loc, .call (.cst (.func (.func 200) [] [])) [(.loc 6), (.cst (.int .i64 2)), (.loc 3)], none, 4⟩, [(6, .ld (.loc 3), (.loc 2), none)], []⟩, ⟨⟨.loc, .call (.cst (.func (.func 200) [] [])) [(.loc 0), (.cst (.int .i64 4)), (.loc 1)], none, 8⟩, [], [⟨(.var 3), .mv (.loc 0), none, 9⟩]⟩])
 .ret))),
 [.var 3]⟩
/-- super.Get$1 -/
def e128 : EFunc := ⟨[0, 1, 2, 3, 4, 5, 6, 8, 18],
 [some 0, some 1, some 2, some 3, none, none, none, none, none],
 (.seq (.region [⟨(.var 4), .box 49 (.var 0), none, 0⟩, ⟨(.var 5), .mv (.cst (.int .u64 0)), none, 0⟩, ⟨(.var 6), .mv (.cst (.bool false)), none, 0⟩])
 (.seq (.seq (.region [⟨.loc, .fld 0 (.var 4), none, 0⟩, ⟨.loc, .ld (.loc 0), none, 0⟩, ⟨.loc, .bin .neq (.loc 0) (.cst (.int .u8 1)), none, 0⟩, ⟨.loc, .mv (.loc 0), none, 0⟩, ⟨.loc, .fld 2 (.var 4), (some ((.loc 0), false)), 0⟩, ⟨.loc, .ld (.loc 0), (some ((.loc 1), false)), 0⟩, ⟨.loc, .conv .i64 (.loc 0), (some ((.loc 2), false)), 0⟩, ⟨.loc, .ld (.var 1), (some ((.loc 3), false)), 0⟩, ⟨.loc, .bin .neq (.loc 1) (.loc 0), (some ((.loc 4), false)), 0⟩, ⟨(.var 8), .pick (.loc 5) (.cst (.bool true)) (.loc 0), none, 0⟩])
 (.cond (.var 8) (.seq (.region [⟨(.var 5), .mv (.cst (.int .u64 0)), none, 0⟩, ⟨(.var 6), .mv (.cst (.bool false)), none, 0⟩])
 .ret) .skip))
 (.seq (.region [⟨.loc, .ld (.var 2), none, 0⟩, ⟨.loc, .ld (.var 3), none, 0⟩, ⟨.loc, .ld (.var 1), none, 0⟩, ⟨.loc, .fld 3 (.var 4), none, 0⟩, ⟨.loc, .ld (.loc 0), none, 0⟩, ⟨.loc, .call (.cst (.func (.func 129) [] [])) [(.loc 4), (.loc 3), (.loc 2), (.loc 0)], none, 0⟩, ⟨.loc, .mv (.loc 0), none, 0⟩, ⟨.loc, .ext 0 (.loc 0), none, 0⟩, ⟨.loc, .ext 1 (.loc 1), none, 0⟩, ⟨.loc, .alloc [.int .u64 0, .int .i64 0, .int .u64 0, .int .i64 0, .int .i64 0], none, 0⟩, ⟨.drop, .st 5 (.loc 0) (.loc 2), none, 0⟩, ⟨(.var 7), .mv (.loc 1), none, 0⟩])
 (.seq (.region [⟨.loc, .fld 3 (.var 4), none, 0⟩, ⟨.loc, .ld (.loc 0), none, 0⟩, ⟨.loc, .mv (.var 7), none, 0⟩, ⟨(.var 5), .mv (.loc 1), none, 0⟩, ⟨(.var 6), .mv (.loc 0), none, 0⟩])
 .ret)))),
 [.var 5, .var 6]⟩
/-- super.read -/
def e129 : EFunc := ⟨[0, 1, 2, 3, 8, 9, 10, 11, 12, 15, 32],
 [some 0, some 1, some 2, some 3, none, none, none, none, none, none, none],
 (.seq (.region [⟨(.var 4), .alloc [.int .u64 0, .int .i64 0, .int .u64 0, .int .i64 0, .int .i64 0], none, 0⟩, ⟨(.var 5), .mv (.cst (.bool false)), none, 0⟩])
 (.seq (.seq (.region [⟨.loc, .mv (.var 3), none, 0⟩, ⟨.loc, .bin .rem (.loc 0) (.cst (.int .u64 1048576)), none, 0⟩, ⟨(.var 9), .bin .neq (.loc 0) (.cst (.int .u64 0)), none, 0⟩])
 (.cond (.var 9) (.seq (.region [⟨.loc, .build [.int .u64 0, .int .i64 0, .int .u64 0, .int .i64 0, .int .i64 0] [], none, 0⟩, ⟨.drop, .st 5 (.var 4) (.loc 0), none, 0⟩, ⟨(.var 5), .mv (.cst (.bool false)), none, 0⟩])
 .ret) .skip))
 (.seq (.region [⟨.loc, .mv (.var 0), none, 0⟩, ⟨.loc, .mv (.var 1), none, 0⟩, ⟨.loc, .mv (.var 2), none, 0⟩, ⟨.loc, .mv (.var 3), none, 0⟩, ⟨.loc, .build [.int .u8 0, .int .i64 0, .int .u64 0] [(0, 1, (.cst (.int .u8 1))), (1, 1, (.loc 1)), (2, 1, (.loc 0))], none, 0⟩, ⟨.loc, .call (.cst (.func (.func 41) [] [])) [(.loc 4), (.loc 3), (.loc 0)], none, 0⟩, ⟨.loc, .mv (.loc 0), none, 0⟩, ⟨.loc, .ext 0 (.loc 0), none, 0⟩, ⟨.loc, .ext 1 (.loc 1), none, 0⟩, ⟨(.var 6), .mv (.loc 1), none, 0⟩, ⟨(.var 7), .mv (.loc 0), none, 0⟩])
 (.seq (.seq (.region [⟨.loc, .mv (.var 7), none, 0⟩, ⟨.loc, .bin .neq (.loc 0) (.cst (.int .i64 0)), none, 0⟩, ⟨.loc, .mv (.loc 0), none, 0⟩, ⟨.loc, .mv (.var 6), (some ((.loc 0), false)), 0⟩, ⟨.loc, .len false (.loc 0), (some ((.loc 1), false)), 0⟩, ⟨.loc, .bin .neq (.loc 0) (.cst (.int .i64 16)), (some ((.loc 2), false)), 0⟩, ⟨(.var 10), .pick (.loc 3) (.cst (.bool true)) (.loc 0), none, 0⟩])
 (.cond (.var 10) (.seq (.region [⟨.loc, .build [.int .u64 0, .int .i64 0, .int .u64 0, .int .i64 0, .int .i64 0] [], none, 0⟩, ⟨.drop, .st 5 (.var 4) (.loc 0), none, 0⟩, ⟨(.var 5), .mv (.cst (.bool false)), none, 0⟩])
 .ret) .skip))
 (.seq (.region [⟨.loc, .mv (.var 6), none, 0⟩, ⟨.loc, .call (.cst (.func (.func 201) [] [])) [(.loc 0), (.cst (.int .i64 0))], none, 0⟩, ⟨.loc, .mv (.loc 0), none, 0⟩, ⟨.loc, .ext 0 (.loc 0), none, 0⟩, ⟨.loc, .ext 1 (.loc 1), none, 0⟩, ⟨(.var 8), .alloc [.int .i64 0, .int .u64 0, .int .i64 0, .int .i64 0], none, 0⟩, ⟨.drop, .st 4 (.var 8) (.loc 1), none, 0⟩, ⟨(.var 7), .mv (.loc 0), none, 0⟩])
 (.seq (.dregion [⟨.loc, .mv (.var 3), none, 0⟩, ⟨.loc, .ldn 4 (.var 8), none, 2⟩, ⟨.loc, .mv (.var 7), none, 4⟩, ⟨.loc, .bin .eql (.loc 0) (.cst (.int .i64 0)), none, 5⟩] [⟨⟨.loc, .call (.cst (.func (.func 137) [] [])) [(.loc 3)], none, 1⟩, [(2, .ldn 4 (.var 8), (.loc 3), none)], [⟨.loc, .build [.int .u64 0, .int .i64 0, .int .u64 0, .int .i64 0, .int .i64 0] [(0, 1, (.loc 0)), (1, 4, (.loc 3))], none, 3⟩]⟩, ⟨⟨.drop, .st 5 (.var 4) (.loc 0), none, 6⟩, [], [⟨(.var 5), .mv (.loc 2), none, 7⟩]⟩])
 .ret)))))),
 [.cell 4 (some 5), .var 5]⟩
/-- api.Shard] -/
def e130 : EFunc := ⟨[0, 1, 3, 4, 5, 6, 7, 8, 9, 10, 11, 12, 13, 29],
 [some 0, some 1, none, none, none, none, none, none, none, none, none, none, none, none],
 (.seq (.region [⟨(.var 2), .box 1 (.var 1), none, 0⟩, ⟨(.var 3), .alloc [.int .u8 0, .int .u8 0, .int .u16 0, .int .u64 0, .int .u16 0, .int .u8 0, .int .u8 0, .int .u8 0, .int .u8 0, .int .u8 0, .int .u8 0, .int .u8 0, .int .u8 0, .int .u8 0, .int .u8 0, .int .u8 0, .int .u8 0, .int .u8 0, .int .u8 0, .int .u8 0, .int .u8 0, .int .u8 0, .int .u8 0, .int .u8 0, .int .u8 0, .int .u8 0, .int .u8 0, .int .u8 0, .int .u8 0, .int .u8 0, .int .u8 0, .int .u8 0, .int .u8 0, .int .u8 0, .int .u8 0, .int .u8 0, .int .u8 0, .int .u8 0, .int .u8 0, .int .u8 0, .int .u8 0, .int .u8 0, .int .u8 0, .int .u8 0, .int .u8 0, .int .u8 0, .int .u8 0, .int .u8 0, .int .u8 0], none, 0⟩, ⟨(.var 4), .mv (.cst (.bool false)), none, 0⟩])
 (.seq (.region [⟨(.var 5), .alloc [.int .u8 0, .int .u8 0, .int .u16 0, .int .u64 0, .int .u16 0, .int .u8 0, .int .u8 0, .int .u8 0, .int .u8 0, .int .u8 0, .int .u8 0, .int .u8 0, .int .u8 0, .int .u8 0, .int .u8 0, .int .u8 0, .int .u8 0, .int .u8 0, .int .u8 0, .int .u8 0, .int .u8 0, .int .u8 0, .int .u8 0, .int .u8 0, .int .u8 0, .int .u8 0, .int .u8 0, .int .u8 0, .int .u8 0, .int .u8 0, .int .u8 0, .int .u8 0, .int .u8 0, .int .u8 0, .int .u8 0, .int .u8 0, .int .u8 0, .int .u8 0, .int .u8 0, .int .u8 0, .int .u8 0, .int .u8 0, .int .u8 0, .int .u8 0, .int .u8 0, .int .u8 0, .int .u8 0, .int .u8 0, .int .u8 0], none, 0⟩])
 (.seq (.region [⟨(.var 6), .alloc [.int .u64 0], none, 0⟩, ⟨(.var 7), .alloc [.bool false], none, 0⟩, ⟨.drop, .st 1 (.var 6) (.cst (.int .u64 0)), none, 0⟩, ⟨.drop, .st 1 (.var 7) (.cst (.bool false)), none, 0⟩])
 (.seq (.seq (.region [⟨(.var 11), .mv (.var 0), none, 0⟩])
 (.block 0 (.rangeFunc (.var 11) [12] (.region [⟨(.var 8), .alloc [.int .u8 0, .int .u8 0, .int .u16 0, .int .u64 0, .int .u16 0, .int .u8 0, .int .u8 0, .int .u8 0, .int .u8 0, .int .u8 0, .int .u8 0, .int .u8 0, .int .u8 0, .int .u8 0, .int .u8 0, .int .u8 0, .int .u8 0, .int .u8 0, .int .u8 0, .int .u8 0, .int .u8 0, .int .u8 0, .int .u8 0, .int .u8 0, .int .u8 0, .int .u8 0, .int .u8 0, .int .u8 0, .int .u8 0, .int .u8 0, .int .u8 0, .int .u8 0, .int .u8 0, .int .u8 0, .int .u8 0, .int .u8 0, .int .u8 0, .int .u8 0, .int .u8 0, .int .u8 0, .int .u8 0, .int .u8 0, .int .u8 0, .int .u8 0, .int .u8 0, .int .u8 0, .int .u8 0, .int .u8 0, .int .u8 0], none, 0⟩, ⟨.drop, .st 49 (.var 8) (.var 12), none, 0⟩]) (.block 1 (.seq (.region [⟨.loc, .ld (.var 2), none, 0⟩, ⟨.loc, .ldn 49 (.var 8), none, 0⟩, ⟨.loc, .call (.loc 1) [(.loc 0)], none, 0⟩, ⟨.loc, .mv (.loc 0), none, 0⟩, ⟨.loc, .ext 0 (.loc 0), none, 0⟩, ⟨.loc, .ext 1 (.loc 1), none, 0⟩, ⟨(.var 9), .mv (.loc 1), none, 0⟩, ⟨(.var 10), .mv (.loc 0), none, 0⟩])
 (.seq (.region [⟨.loc, .mv (.var 10), none, 0⟩, ⟨.loc, .mv (.loc 0), none, 0⟩, ⟨.loc, .ld (.var 7), (some ((.loc 0), true)), 0⟩, ⟨.loc, .un .not (.loc 0), (some ((.loc 1), true)), 0⟩, ⟨.loc, .mv (.loc 0), (some ((.loc 2), true)), 0⟩, ⟨.loc, .mv (.var 9), (some ((.loc 0), false)), 0⟩, ⟨.loc, .ld (.var 6), (some ((.loc 1), false)), 0⟩, ⟨.loc, .bin .gtr (.loc 1) (.loc 0), (some ((.loc 2), false)), 0⟩, ⟨.loc, .pick (.loc 3) (.cst (.bool true)) (.loc 0), (some ((.loc 6), true)), 0⟩, ⟨(.var 13), .pick (.loc 7) (.loc 0) (.cst (.bool false)), none, 0⟩])
 (.cond (.var 13) (.region [⟨.loc, .ldn 49 (.var 8), none, 0⟩, ⟨.loc, .mv (.var 9), none, 0⟩, ⟨.drop, .st 49 (.var 5) (.loc 1), none, 0⟩, ⟨.drop, .st 1 (.var 6) (.loc 0), none, 0⟩, ⟨.drop, .st 1 (.var 7) (.cst (.bool true)), none, 0⟩]) .skip)))))))
 (.seq (.dregion [⟨.loc, .ldn 49 (.var 5), none, 0⟩, ⟨.loc, .ld (.var 7), none, 1⟩] [⟨⟨.drop, .st 49 (.var 3) (.loc 1), none, 2⟩, [(1, .ld (.var 7), (.loc 0), none)], [⟨(.var 4), .mv (.loc 0), none, 3⟩]⟩])
 .ret))))),
 [.cell 3 (some 49), .var 4]⟩
/-- super.shards -/
def e131 : EFunc := ⟨[0, 1, 2, 3, 4],
 [some 0, some 1, none, none, none],
 (.seq (.region [⟨(.var 2), .box 1 (.var 0), none, 0⟩, ⟨(.var 3), .box 1 (.var 1), none, 0⟩, ⟨(.var 4), .mv (.cst (.nilfunc)), none, 0⟩])
 (.seq (.region [⟨.loc, .mkfn (.func 202) [] [(.var 2), (.var 3)], none, 0⟩, ⟨(.var 4), .mv (.loc 0), none, 0⟩])
 .ret)),
 [.var 4]⟩
/-- super.greatest[int] -/
def e132 : EFunc := ⟨[0, 1, 3, 4, 5, 6, 7, 8, 9, 10, 11, 12, 13, 29],
 [some 0, some 1, none, none, none, none, none, none, none, none, none, none, none, none],
 (.seq (.region [⟨(.var 2), .box 1 (.var 1), none, 0⟩, ⟨(.var 3), .mv (.cst (.int .i64 0)), none, 0⟩, ⟨(.var 4), .mv (.cst (.bool false)), none, 0⟩])
 (.seq (.region [⟨(.var 5), .alloc [.int .i64 0], none, 0⟩])
 (.seq (.region [⟨(.var 6), .alloc [.int .u64 0], none, 0⟩, ⟨(.var 7), .alloc [.bool false], none, 0⟩, ⟨.drop, .st 1 (.var 6) (.cst (.int .u64 0)), none, 0⟩, ⟨.drop, .st 1 (.var 7) (.cst (.bool false)), none, 0⟩])
 (.seq (.seq (.region [⟨(.var 11), .mv (.var 0), none, 0⟩])
 (.block 0 (.rangeFunc (.var 11) [12] (.region [⟨(.var 8), .mv (.var 12), none, 0⟩]) (.block 1 (.seq (.region [⟨.loc, .ld (.var 2), none, 0⟩, ⟨.loc, .mv (.var 8), none, 0⟩, ⟨.loc, .call (.loc 1) [(.loc 0)], none, 0⟩, ⟨.loc, .mv (.loc 0), none, 0⟩, ⟨.loc, .ext 0 (.loc 0), none, 0⟩, ⟨.loc, .ext 1 (.loc 1), none, 0⟩, ⟨(.var 9), .mv (.loc 1), none, 0⟩, ⟨(.var 10), .mv (.loc 0), none, 0⟩])
 (.seq (.region [⟨.loc, .mv (.var 10), none, 0⟩, ⟨.loc, .mv (.loc 0), none, 0⟩, ⟨.loc, .ld (.var 7), (some ((.loc 0), true)), 0⟩, ⟨.loc, .un .not (.loc 0), (some ((.loc 1), true)), 0⟩, ⟨.loc, .mv (.loc 0), (some ((.loc 2), true)), 0⟩, ⟨.loc, .mv (.var 9), (some ((.loc 0), false)), 0⟩, ⟨.loc, .ld (.var 6), (some ((.loc 1), false)), 0⟩, ⟨.loc, .bin .gtr (.loc 1) (.loc 0), (some ((.loc 2), false)), 0⟩, ⟨.loc, .pick (.loc 3) (.cst (.bool true)) (.loc 0), (some ((.loc 6), true)), 0⟩, ⟨(.var 13), .pick (.loc 7) (.loc 0) (.cst (.bool false)), none, 0⟩])
 (.cond (.var 13) (.region [⟨.loc, .mv (.var 8), none, 0⟩, ⟨.loc, .mv (.var 9), none, 0⟩, ⟨.drop, .st 1 (.var 5) (.loc 1), none, 0⟩, ⟨.drop, .st 1 (.var 6) (.loc 0), none, 0⟩, ⟨.drop, .st 1 (.var 7) (.cst (.bool true)), none, 0⟩]) .skip)))))))
 (.seq (.dregion [⟨.loc, .ld (.var 5), none, 0⟩, ⟨.loc, .ld (.var 7), none, 1⟩, ⟨(.var 3), .mv (.loc 1), none, 2⟩, ⟨(.var 4), .mv (.loc 0), none, 3⟩] [])
 .ret))))),
 [.var 3, .var 4]⟩
/-- super.heads -/
def e133 : EFunc := ⟨[0, 1, 2, 3, 4],
 [some 0, some 1, none, none, none],
 (.seq (.region [⟨(.var 2), .box 1 (.var 0), none, 0⟩, ⟨(.var 3), .box 1 (.var 1), none, 0⟩, ⟨(.var 4), .mv (.cst (.nilfunc)), none, 0⟩])
 (.seq (.region [⟨.loc, .mkfn (.func 205) [] [(.var 2), (.var 3)], none, 0⟩, ⟨(.var 4), .mv (.loc 0), none, 0⟩])
 .ret)),
 [.var 4]⟩
/-- super.Find$1 -/
def e134 : EFunc := ⟨[0, 1, 2, 4, 5, 6, 7],
 [some 0, some 1, some 2, none, none, none, none],
 (.seq (.region [⟨(.var 3), .mv (.cst (.int .u64 0)), none, 0⟩, ⟨(.var 4), .mv (.cst (.bool false)), none, 0⟩])
 (.seq (.region [⟨.loc, .ld (.var 1), none, 0⟩, ⟨.loc, .ld (.var 2), none, 0⟩, ⟨.loc, .mv (.var 0), none, 0⟩, ⟨.loc, .call (.cst (.func (.func 51) [] [])) [(.loc 2), (.loc 1), (.loc 0)], none, 0⟩, ⟨.loc, .mv (.loc 0), none, 0⟩, ⟨.loc, .ext 0 (.loc 0), none, 0⟩, ⟨.loc, .ext 1 (.loc 1), none, 0⟩, ⟨(.var 5), .alloc [.int .u64 0, .int .i64 0, .int .u64 0, .int .i64 0, .int .i64 0], none, 0⟩, ⟨.drop, .st 5 (.var 5) (.loc 1), none, 0⟩, ⟨(.var 6), .mv (.loc 0), none, 0⟩])
 (.seq (.region [⟨.loc, .fld 0 (.var 5), none, 0⟩, ⟨.loc, .ld (.loc 0), none, 0⟩, ⟨.loc, .mv (.var 6), none, 0⟩, ⟨.loc, .bin .eql (.loc 0) (.cst (.int .i64 0)), none, 0⟩, ⟨(.var 3), .mv (.loc 2), none, 0⟩, ⟨(.var 4), .mv (.loc 0), none, 0⟩])
 .ret))),
 [.var 3, .var 4]⟩
/-- array.Array).Sectors -/
def e135 : EFunc := ⟨[0, 2],
 [some 0, none],
 (.seq (.region [⟨(.var 1), .mv (.cst (.int .i64 0)), none, 0⟩])
 (.seq (.region [⟨.loc, .mv (.var 0), none, 0⟩, ⟨.loc, .call (.cst (.func (.func 120) [] [])) [(.loc 0), (.cst (.int .i64 0))], none, 0⟩, ⟨.loc, .call (.cst (.func (.func 206) [] [])) [(.loc 0)], none, 0⟩, ⟨(.var 1), .mv (.loc 0), none, 0⟩])
 .ret)),
 [.var 1]⟩
/-- super.Seen$1 -/
def e136 : EFunc := ⟨[0, 1, 2, 3],
 [some 0, none, none, none],
 (.seq (.region [⟨(.var 1), .box 49 (.var 0), none, 0⟩, ⟨(.var 2), .mv (.cst (.int .u64 0)), none, 0⟩, ⟨(.var 3), .mv (.cst (.bool false)), none, 0⟩])
 (.seq (.region [⟨.loc, .fld 3 (.var 1), none, 0⟩, ⟨.loc, .ld (.loc 0), none, 0⟩, ⟨(.var 2), .mv (.loc 0), none, 0⟩, ⟨(.var 3), .mv (.cst (.bool true)), none, 0⟩])
 .ret)),
 [.var 2, .var 3]⟩
/-- shard.Epoch -/
def e137 : EFunc := ⟨[0, 2],
 [some 0, none],
 (.seq (.region [⟨(.var 1), .mv (.cst (.int .u64 0)), none, 0⟩])
 (.seq (.region [⟨.loc, .mv (.var 0), none, 0⟩, ⟨.loc, .bin .shr (.loc 0) (.cst (.int .u64 20)), none, 0⟩, ⟨(.var 1), .mv (.loc 0), none, 0⟩])
 .ret)),
 [.var 1]⟩
/-- shard.Gen -/
def e138 : EFunc := ⟨[0, 1, 4, 5, 15],
 [some 0, some 1, none, none, none],
 (.seq (.region [⟨(.var 2), .mv (.cst (.int .u64 0)), none, 0⟩, ⟨(.var 3), .mv (.cst (.int .i64 0)), none, 0⟩])
 (.seq (.seq (.region [⟨.loc, .mv (.var 0), none, 0⟩, ⟨.loc, .bin .geq (.loc 0) (.cst (.int .u64 1099511627776)), none, 0⟩, ⟨.loc, .mv (.loc 0), none, 0⟩, ⟨.loc, .mv (.var 1), (some ((.loc 0), false)), 0⟩, ⟨.loc, .bin .lss (.loc 0) (.cst (.int .i64 0)), (some ((.loc 1), false)), 0⟩, ⟨.loc, .pick (.loc 2) (.cst (.bool true)) (.loc 0), none, 0⟩, ⟨.loc, .mv (.loc 0), none, 0⟩, ⟨.loc, .mv (.var 1), (some ((.loc 0), false)), 0⟩, ⟨.loc, .bin .geq (.loc 0) (.cst (.int .i64 1048576)), (some ((.loc 1), false)), 0⟩, ⟨(.var 4), .pick (.loc 2) (.cst (.bool true)) (.loc 0), none, 0⟩])
 (.cond (.var 4) (.seq (.region [⟨(.var 2), .mv (.cst (.int .u64 0)), none, 0⟩, ⟨(.var 3), .mv (.cst (.int .i64 2)), none, 0⟩])
 .ret) .skip))
 (.seq (.region [⟨.loc, .mv (.var 0), none, 0⟩, ⟨.loc, .bin .shl (.loc 0) (.cst (.int .u64 20)), none, 0⟩, ⟨.loc, .mv (.var 1), none, 0⟩, ⟨.loc, .conv .u64 (.loc 0), none, 0⟩, ⟨.loc, .bin .or (.loc 2) (.loc 0), none, 0⟩, ⟨(.var 2), .mv (.loc 0), none, 0⟩, ⟨(.var 3), .mv (.cst (.int .i64 0)), none, 0⟩])
 .ret))),
 [.var 2, .var 3]⟩
/-- super.is -/
def e139 : EFunc := ⟨[0, 2],
 [some 0, none],
 (.seq (.region [⟨(.var 1), .mv (.cst (.bool false)), none, 0⟩])
 (.seq (.region [⟨.loc, .mv (.var 0), none, 0⟩, ⟨.loc, .bin .geq (.loc 0) (.cst (.int .i64 0)), none, 0⟩, ⟨.loc, .mv (.loc 0), none, 0⟩, ⟨.loc, .mv (.var 0), (some ((.loc 0), true)), 0⟩, ⟨.loc, .bin .lss (.loc 0) (.cst (.int .i64 2)), (some ((.loc 1), true)), 0⟩, ⟨.loc, .pick (.loc 2) (.loc 0) (.cst (.bool false)), none, 0⟩, ⟨(.var 1), .mv (.loc 0), none, 0⟩])
 .ret)),
 [.var 1]⟩
/-- drive.Drive).empty -/
def e141 : EFunc := ⟨[0, 1],
 [some 0, some 1],
 (.dregion [⟨.loc, .mv (.var 0), none, 0⟩, ⟨.loc, .mv (.var 1), none, 1⟩, ⟨.loc, .make 64 64 [.int .u8 0, .int .u8 0, .int .u8 0, .int .u8 0, .int .u8 0, .int .u8 0, .int .u8 0, .int .u8 0, .int .u8 0, .int .u8 0, .int .u8 0, .int .u8 0, .int .u8 0, .int .u8 0, .int .u8 0, .int .u8 0, .int .u8 0, .int .u8 0, .int .u8 0, .int .u8 0, .int .u8 0, .int .u8 0, .int .u8 0, .int .u8 0, .int .u8 0, .int .u8 0, .int .u8 0, .int .u8 0, .int .u8 0, .int .u8 0, .int .u8 0, .int .u8 0, .int .u8 0, .int .u8 0, .int .u8 0, .int .u8 0, .int .u8 0, .int .u8 0, .int .u8 0, .int .u8 0, .int .u8 0, .int .u8 0, .int .u8 0, .int .u8 0, .int .u8 0, .int .u8 0, .int .u8 0, .int .u8 0, .int .u8 0, .int .u8 0, .int .u8 0, .int .u8 0, .int .u8 0, .int .u8 0, .int .u8 0, .int .u8 0, .int .u8 0, .int .u8 0, .int .u8 0, .int .u8 0, .int .u8 0, .int .u8 0, .int .u8 0, .int .u8 0] (.loc 0) (.loc 0), none, 2⟩, ⟨.loc, .mv (.var 1), none, 3⟩, ⟨.loc, .make 1 1 [.bool false] (.loc 0) (.loc 0), none, 4⟩, ⟨.loc, .mkmap, none, 5⟩, ⟨.loc, .build [.nilslice, .nilslice, .nilslice, .nilmap, .bool false] [(0, 1, (.loc 3)), (1, 1, (.loc 1)), (3, 1, (.loc 0))], none, 6⟩, ⟨.loc, .nilchk (.loc 6), none, 7⟩] [⟨⟨.drop, .st 5 (.loc 0) (.loc 1), none, 8⟩, [], []⟩]),
 []⟩
/-- drive.Drive).none -/
def e168 : EFunc := ⟨[0, 2],
 [some 0, none],
 (.seq (.region [⟨(.var 1), .mv (.cst (.bool false)), none, 0⟩])
 (.seq (.region [⟨.loc, .mv (.var 0), none, 0⟩, ⟨.loc, .isnil 0 false (.loc 0), none, 0⟩, ⟨.loc, .mv (.loc 0), none, 0⟩, ⟨.loc, .mv (.var 0), (some ((.loc 0), false)), 0⟩, ⟨.loc, .nilchk (.loc 0), (some ((.loc 1), false)), 0⟩, ⟨.loc, .fld 3 (.loc 0), (some ((.loc 2), false)), 0⟩, ⟨.loc, .ld (.loc 0), (some ((.loc 3), false)), 0⟩, ⟨.loc, .isnil 2 false (.loc 0), (some ((.loc 4), false)), 0⟩, ⟨.loc, .pick (.loc 5) (.cst (.bool true)) (.loc 0), none, 0⟩, ⟨(.var 1), .mv (.loc 0), none, 0⟩])
 .ret)),
 [.var 1]⟩
/-- array.Array).reach -/
def e171 : EFunc := ⟨[0, 1, 4, 5, 6, 8, 13],
 [some 0, some 1, none, none, none, none, none],
 (.seq (.region [⟨(.var 2), .mv (.cst (.nilptr)), none, 0⟩, ⟨(.var 3), .mv (.cst (.int .i64 0)), none, 0⟩])
 (.seq (.seq (.region [⟨.loc, .mv (.var 0), none, 0⟩, ⟨(.var 5), .call (.cst (.func (.func 118) [] [])) [(.loc 0)], none, 0⟩])
 (.cond (.var 5) (.seq (.region [⟨(.var 2), .mv (.cst (.nilptr)), none, 0⟩, ⟨(.var 3), .mv (.cst (.int .i64 1)), none, 0⟩])
 .ret) .skip))
 (.seq (.seq (.region [⟨.loc, .mv (.var 0), none, 0⟩, ⟨.loc, .mv (.var 1), none, 0⟩, ⟨.loc, .call (.cst (.func (.func 120) [] [])) [(.loc 1), (.loc 0)], none, 0⟩, ⟨(.var 4), .mv (.loc 0), none, 0⟩])
 (.seq (.region [⟨.loc, .mv (.var 4), none, 0⟩, ⟨(.var 6), .isnil 0 true (.loc 0), none, 0⟩])
 (.cond (.var 6) (.seq (.region [⟨.loc, .mv (.var 4), none, 0⟩, ⟨(.var 2), .mv (.loc 0), none, 0⟩, ⟨(.var 3), .mv (.cst (.int .i64 0)), none, 0⟩])
 .ret) .skip)))
 (.seq (.region [⟨(.var 2), .mv (.cst (.nilptr)), none, 0⟩, ⟨(.var 3), .mv (.cst (.int .i64 2)), none, 0⟩])
 .ret)))),
 [.var 2, .var 3]⟩
/-- code.Coder).none -/
def e188 : EFunc := ⟨[0, 2],
 [some 0, none],
 (.seq (.region [⟨(.var 1), .mv (.cst (.bool false)), none, 0⟩])
 (.seq (.region [⟨.loc, .mv (.var 0), none, 0⟩, ⟨.loc, .isnil 0 false (.loc 0), none, 0⟩, ⟨.loc, .mv (.loc 0), none, 0⟩, ⟨.loc, .mv (.var 0), (some ((.loc 0), false)), 0⟩, ⟨.loc, .nilchk (.loc 0), (some ((.loc 1), false)), 0⟩, ⟨.loc, .fld 2 (.loc 0), (some ((.loc 2), false)), 0⟩, ⟨.loc, .ld (.loc 0), (some ((.loc 3), false)), 0⟩, ⟨.loc, .isnil 0 false (.loc 0), (some ((.loc 4), false)), 0⟩, ⟨.loc, .pick (.loc 5) (.cst (.bool true)) (.loc 0), none, 0⟩, ⟨(.var 1), .mv (.loc 0), none, 0⟩])
 .ret)),
 [.var 1]⟩
/-- code.geometry).all -/
def e189 : EFunc := ⟨[0, 2],
 [some 0, none],
 (.seq (.region [⟨(.var 1), .mv (.cst (.int .i64 0)), none, 0⟩])
 (.seq (.dregion [⟨.loc, .mv (.var 0), none, 0⟩, ⟨.loc, .nilchk (.loc 0), none, 1⟩, ⟨.loc, .fld 0 (.loc 0), none, 2⟩, ⟨.loc, .ld (.loc 0), none, 3⟩, ⟨.loc, .mv (.var 0), none, 4⟩, ⟨.loc, .nilchk (.loc 0), none, 5⟩, ⟨.loc, .fld 1 (.loc 0), none, 6⟩, ⟨.loc, .ld (.loc 0), none, 7⟩, ⟨.loc, .bin .add (.loc 4) (.loc 0), none, 8⟩, ⟨(.var 1), .mv (.loc 0), none, 9⟩] [])
 .ret)),
 [.var 1]⟩
/-- matrix.Cauchy -/
def e190 : EFunc := ⟨[0, 1, 2, 3, 4, 5, 6, 7, 8, 12],
 [some 0, some 1, some 2, none, none, none, none, none, none, none],
 (.seq (.region [⟨(.var 3), .box 1 (.var 0), none, 0⟩, ⟨(.var 4), .box 1 (.var 1), none, 0⟩, ⟨(.var 5), .box 1 (.var 2), none, 0⟩, ⟨(.var 6), .alloc [.int .i64 0, .int .i64 0, .nilslice], none, 0⟩, ⟨(.var 7), .mv (.cst (.int .i64 0)), none, 0⟩])
 (.seq (.block 0 (.seq (.region [⟨.loc, .ld (.var 3), none, 0⟩, ⟨.loc, .call (.cst (.func (.func 246) [] [])) [(.loc 0)], none, 0⟩, ⟨(.var 8), .mv (.loc 0), none, 0⟩])
 (.cond (.var 8) (.seq (.region [⟨.loc, .build [.int .i64 0, .int .i64 0, .nilslice] [], none, 0⟩, ⟨.drop, .st 3 (.var 6) (.loc 0), none, 0⟩, ⟨(.var 7), .mv (.cst (.int .i64 1)), none, 0⟩])
 .ret) (.seq (.region [⟨.loc, .ld (.var 4), none, 0⟩, ⟨.loc, .len false (.loc 0), none, 0⟩, ⟨.loc, .call (.cst (.func (.func 247) [] [])) [(.loc 0)], none, 0⟩, ⟨.loc, .un .not (.loc 0), none, 0⟩, ⟨.loc, .mv (.loc 0), none, 0⟩, ⟨.loc, .ld (.var 5), (some ((.loc 0), false)), 0⟩, ⟨.loc, .len false (.loc 0), (some ((.loc 1), false)), 0⟩, ⟨.loc, .call (.cst (.func (.func 247) [] [])) [(.loc 0)], (some ((.loc 2), false)), 0⟩, ⟨.loc, .un .not (.loc 0), (some ((.loc 3), false)), 0⟩, ⟨.loc, .pick (.loc 4) (.cst (.bool true)) (.loc 0), none, 0⟩, ⟨.loc, .mv (.loc 0), none, 0⟩, ⟨.loc, .ld (.var 4), (some ((.loc 0), false)), 0⟩, ⟨.loc, .ld (.var 5), (some ((.loc 1), false)), 0⟩, ⟨.loc, .buildS 2 1 [.nilslice, .nilslice] [(0, 1, (.loc 1)), (1, 1, (.loc 0))], (some ((.loc 2), false)), 0⟩, ⟨.loc, .call (.cst (.func (.func 248) [] [])) [(.loc 0)], (some ((.loc 3), false)), 0⟩, ⟨.loc, .pick (.loc 4) (.cst (.bool true)) (.loc 0), none, 0⟩, ⟨(.var 9), .mv (.loc 0), none, 0⟩])
 (.cond (.var 9) (.seq (.region [⟨.loc, .build [.int .i64 0, .int .i64 0, .nilslice] [], none, 0⟩, ⟨.drop, .st 3 (.var 6) (.loc 0), none, 0⟩, ⟨(.var 7), .mv (.cst (.int .i64 2)), none, 0⟩])
 .ret) .skip)))))
 (.seq (.region [⟨.loc, .ld (.var 4), none, 0⟩, ⟨.loc, .len false (.loc 0), none, 0⟩, ⟨.loc, .ld (.var 5), none, 0⟩, ⟨.loc, .len false (.loc 0), none, 0⟩, ⟨.loc, .mkfn (.func 250) [] [(.var 3), (.var 4), (.var 5)], none, 0⟩, ⟨.loc, .call (.cst (.func (.func 249) [] [])) [(.loc 3), (.loc 1), (.loc 0)], none, 0⟩, ⟨.drop, .st 3 (.var 6) (.loc 0), none, 0⟩, ⟨(.var 7), .mv (.cst (.int .i64 0)), none, 0⟩])
 .ret))),
 [.cell 6 (some 3), .var 7]⟩
/-- code.rising -/
def e191 : EFunc := ⟨[0, 1, 4, 5, 6, 14],
 [some 0, some 1, none, none, none, none],
 (.seq (.region [⟨(.var 2), .mv (.cst (.nilslice)), none, 0⟩])
 (.seq (.region [⟨.loc, .mv (.var 1), none, 0⟩, ⟨.loc, .mv (.var 0), none, 0⟩, ⟨.loc, .bin .sub (.loc 1) (.loc 0), none, 0⟩, ⟨.loc, .make 1 1 [.int .u8 0] (.cst (.int .i64 0)) (.loc 0), none, 0⟩, ⟨(.var 3), .mv (.loc 0), none, 0⟩])
 (.seq (.seq (.region [⟨.loc, .mv (.var 0), none, 0⟩, ⟨(.var 4), .mv (.loc 0), none, 0⟩])
 (.block 0 (.loop (.seq (.seq (.region [⟨.loc, .mv (.var 4), none, 0⟩, ⟨.loc, .mv (.var 1), none, 0⟩, ⟨(.var 5), .bin .lss (.loc 1) (.loc 0), none, 0⟩])
 (.cond (.var 5) .skip (.exit 0)))
 (.seq (.block 1 (.region [⟨.loc, .mv (.var 3), none, 0⟩, ⟨.loc, .mv (.var 4), none, 0⟩, ⟨.loc, .conv .u8 (.loc 0), none, 0⟩, ⟨.loc, .buildS 1 1 [.int .u8 0] [(0, 1, (.loc 0))], none, 0⟩, ⟨.loc, .append 1 1 (.loc 3) (.loc 0), none, 0⟩, ⟨(.var 3), .mv (.loc 0), none, 0⟩]))
 (.region [⟨.loc, .mv (.var 4), none, 0⟩, ⟨.loc, .bin .add (.loc 0) (.cst (.int .i64 1)), none, 0⟩, ⟨(.var 4), .mv (.loc 0), none, 0⟩]))))))
 (.seq (.region [⟨.loc, .mv (.var 3), none, 0⟩, ⟨(.var 2), .mv (.loc 0), none, 0⟩])
 .ret)))),
 [.var 2]⟩
/-- code.Coder).Encode -/
def e192 : EFunc := ⟨[0, 1, 4, 5, 6, 7, 8, 9, 12, 27, 28, 29],
 [some 0, some 1, none, none, none, none, none, none, none, none, none, none],
 (.seq (.region [⟨(.var 2), .mv (.cst (.nilslice)), none, 0⟩, ⟨(.var 3), .mv (.cst (.int .i64 0)), none, 0⟩])
 (.seq (.block 0 (.seq (.region [⟨.loc, .mv (.var 0), none, 0⟩, ⟨.loc, .call (.cst (.func (.func 188) [] [])) [(.loc 0)], none, 0⟩, ⟨(.var 7), .mv (.loc 0), none, 0⟩])
 (.cond (.var 7) (.seq (.region [⟨(.var 2), .mv (.cst (.nilslice)), none, 0⟩, ⟨(.var 3), .mv (.cst (.int .i64 1)), none, 0⟩])
 .ret) (.seq (.region [⟨.loc, .mv (.var 0), none, 0⟩, ⟨.loc, .mv (.var 1), none, 0⟩, ⟨.loc, .call (.cst (.func (.func 197) [] [])) [(.loc 1), (.loc 0)], none, 0⟩, ⟨.loc, .un .not (.loc 0), none, 0⟩, ⟨(.var 8), .mv (.loc 0), none, 0⟩])
 (.cond (.var 8) (.seq (.region [⟨(.var 2), .mv (.cst (.nilslice)), none, 0⟩, ⟨(.var 3), .mv (.cst (.int .i64 2)), none, 0⟩])
 .ret) .skip)))))
 (.seq (.region [⟨.loc, .mv (.var 0), none, 0⟩, ⟨.loc, .nilchk (.loc 0), none, 0⟩, ⟨.loc, .fld 0 (.loc 0), none, 0⟩, ⟨.loc, .fld 1 (.loc 0), none, 0⟩, ⟨.loc, .ld (.loc 0), none, 0⟩, ⟨.loc, .make 1 24 [.nilslice] (.cst (.int .i64 0)) (.loc 0), none, 0⟩, ⟨(.var 4), .mv (.loc 0), none, 0⟩])
 (.seq (.seq (.region [⟨.loc, .mv (.var 0), none, 0⟩, ⟨.loc, .nilchk (.loc 0), none, 0⟩, ⟨.loc, .fld 0 (.loc 0), none, 0⟩, ⟨.loc, .fld 1 (.loc 0), none, 0⟩, ⟨(.var 9), .ld (.loc 0), none, 0⟩, ⟨(.var 10), .mv (.cst (.int .i64 0)), none, 0⟩])
 (.block 1 (.loop (.seq (.region [⟨(.var 11), .bin .lss (.var 10) (.var 9), none, 0⟩])
 (.seq (.cond (.var 11) .skip (.exit 1))
 (.seq (.block 2 (.seq (.region [⟨.loc, .mv (.var 10), none, 0⟩, ⟨(.var 5), .mv (.loc 0), none, 0⟩])
 (.seq (.region [⟨.loc, .mv (.var 0), none, 0⟩, ⟨.loc, .mv (.var 0), none, 0⟩, ⟨.loc, .nilchk (.loc 0), none, 0⟩, ⟨.loc, .fld 0 (.loc 0), none, 0⟩, ⟨.loc, .fld 0 (.loc 0), none, 0⟩, ⟨.loc, .ld (.loc 0), none, 0⟩, ⟨.loc, .mv (.var 5), none, 0⟩, ⟨.loc, .bin .add (.loc 1) (.loc 0), none, 0⟩, ⟨.loc, .call (.cst (.func (.func 252) [] [])) [(.loc 7), (.loc 0)], none, 0⟩, ⟨(.var 6), .mv (.loc 0), none, 0⟩])
 (.region [⟨.loc, .mv (.var 4), none, 0⟩, ⟨.loc, .mv (.var 0), none, 0⟩, ⟨.loc, .mv (.var 1), none, 0⟩, ⟨.loc, .mv (.var 6), none, 0⟩, ⟨.loc, .mkfn (.func 254) [(.loc 0)] [], none, 0⟩, ⟨.loc, .call (.cst (.func (.func 253) [] [])) [(.loc 3), (.loc 2), (.loc 0)], none, 0⟩, ⟨.loc, .buildS 1 1 [.nilslice] [(0, 1, (.loc 0))], none, 0⟩, ⟨.loc, .append 1 24 (.loc 6) (.loc 0), none, 0⟩, ⟨(.var 4), .mv (.loc 0), none, 0⟩]))))
 (.region [⟨.loc, .bin .add (.var 10) (.cst (.int .i64 1)), none, 0⟩, ⟨(.var 10), .mv (.loc 0), none, 0⟩])))))))
 (.seq (.region [⟨.loc, .mv (.var 4), none, 0⟩, ⟨(.var 2), .mv (.loc 0), none, 0⟩, ⟨(.var 3), .mv (.cst (.int .i64 0)), none, 0⟩])
 .ret))))),
 [.var 2, .var 3]⟩
/-- stripe.set).write -/
def e193 : EFunc := ⟨[0, 1, 2, 3, 8, 9, 10, 11],
 [some 0, some 1, some 2, some 3, none, none, none, none],
 (.seq (.region [⟨(.var 4), .mv (.cst (.bool false)), none, 0⟩])
 (.seq (.dregion [⟨.loc, .mv (.var 0), none, 0⟩, ⟨.loc, .nilchk (.loc 0), none, 1⟩, ⟨.loc, .fld 2 (.loc 0), none, 2⟩, ⟨.loc, .fld 0 (.loc 0), none, 3⟩, ⟨.loc, .ld (.loc 0), none, 4⟩, ⟨.loc, .mv (.var 1), none, 5⟩, ⟨.loc, .conv .u8 (.loc 0), none, 6⟩, ⟨.loc, .mv (.var 0), none, 7⟩, ⟨.loc, .nilchk (.loc 0), none, 8⟩, ⟨.loc, .fld 2 (.loc 0), none, 9⟩, ⟨.loc, .fld 1 (.loc 0), none, 10⟩, ⟨.loc, .ld (.loc 0), none, 11⟩, ⟨.loc, .conv .u16 (.loc 0), none, 12⟩, ⟨.loc, .mv (.var 0), none, 13⟩, ⟨.loc, .nilchk (.loc 0), none, 14⟩, ⟨.loc, .fld 2 (.loc 0), none, 15⟩, ⟨.loc, .fld 2 (.loc 0), none, 16⟩, ⟨.loc, .ld (.loc 0), none, 17⟩, ⟨.loc, .mv (.var 2), none, 18⟩, ⟨.loc, .conv .u16 (.loc 0), none, 19⟩, ⟨.loc, .build [.int .u8 0, .int .u8 0, .int .u16 0, .int .u64 0, .int .u16 0, .int .u8 0, .int .u8 0, .int .u8 0, .int .u8 0, .int .u8 0, .int .u8 0, .int .u8 0, .int .u8 0, .int .u8 0, .int .u8 0, .int .u8 0, .int .u8 0, .int .u8 0, .int .u8 0, .int .u8 0, .int .u8 0, .int .u8 0, .int .u8 0, .int .u8 0, .int .u8 0, .int .u8 0, .int .u8 0, .int .u8 0, .int .u8 0, .int .u8 0, .int .u8 0, .int .u8 0, .int .u8 0, .int .u8 0, .int .u8 0, .int .u8 0, .int .u8 0, .int .u8 0, .int .u8 0, .int .u8 0, .int .u8 0, .int .u8 0, .int .u8 0, .int .u8 0, .int .u8 0, .int .u8 0, .int .u8 0, .int .u8 0, .int .u8 0] [(0, 1, (.loc 15)), (1, 1, (.loc 13)), (2, 1, (.loc 7)), (3, 1, (.loc 2)), (4, 1, (.loc 0))], none, 20⟩, ⟨(.var 5), .alloc [.int .u8 0, .int .u8 0, .int .u16 0, .int .u64 0, .int .u16 0, .int .u8 0, .int .u8 0, .int .u8 0, .int .u8 0, .int .u8 0, .int .u8 0, .int .u8 0, .int .u8 0, .int .u8 0, .int .u8 0, .int .u8 0, .int .u8 0, .int .u8 0, .int .u8 0, .int .u8 0, .int .u8 0, .int .u8 0, .int .u8 0, .int .u8 0, .int .u8 0, .int .u8 0, .int .u8 0, .int .u8 0, .int .u8 0, .int .u8 0, .int .u8 0, .int .u8 0, .int .u8 0, .int .u8 0, .int .u8 0, .int .u8 0, .int .u8 0, .int .u8 0, .int .u8 0, .int .u8 0, .int .u8 0, .int .u8 0, .int .u8 0, .int .u8 0, .int .u8 0, .int .u8 0, .int .u8 0, .int .u8 0, .int .u8 0], none, 21⟩] [⟨⟨.drop, .st 49 (.var 5) (.loc 0), none, 22⟩, [], []⟩])
 (.seq (.region [⟨.loc, .fld 5 (.var 5), none, 0⟩, ⟨.loc, .subA 44 1 (.loc 0) none none none, none, 0⟩, ⟨.loc, .mv (.var 3), none, 0⟩, ⟨.loc, .copy 1 (.loc 1) (.loc 0), none, 0⟩])
 (.seq (.region [⟨.loc, .ldn 49 (.var 5), none, 0⟩, ⟨.loc, .call (.cst (.func (.func 255) [] [])) [(.loc 0)], none, 0⟩, ⟨.loc, .mv (.loc 0), none, 0⟩, ⟨.loc, .ext 0 (.loc 0), none, 0⟩, ⟨.loc, .ext 1 (.loc 1), none, 0⟩, ⟨(.var 6), .mv (.loc 1), none, 0⟩, ⟨(.var 7), .mv (.loc 0), none, 0⟩])
 (.seq (.dregion [⟨.loc, .mv (.var 7), none, 0⟩, ⟨.loc, .bin .eql (.loc 0) (.cst (.int .i64 0)), none, 1⟩, ⟨.loc, .mv (.loc 0), none, 2⟩, ⟨.loc, .mv (.var 0), (some ((.loc 0), true)), 3⟩, ⟨.loc, .nilchk (.loc 0), (some ((.loc 1), true)), 4⟩, ⟨.loc, .fld 0 (.loc 0), (some ((.loc 2), true)), 5⟩, ⟨.loc, .ld (.loc 0), (some ((.loc 3), true)), 6⟩, ⟨.loc, .mv (.var 0), (some ((.loc 4), true)), 7⟩, ⟨.loc, .mv (.var 1), (some ((.loc 5), true)), 8⟩, ⟨.loc, .mv (.var 0), (some ((.loc 6), true)), 10⟩, ⟨.loc, .nilchk (.loc 0), (some ((.loc 7), true)), 11⟩, ⟨.loc, .fld 2 (.loc 0), (some ((.loc 8), true)), 12⟩, ⟨.loc, .fld 1 (.loc 0), (some ((.loc 9), true)), 13⟩, ⟨.loc, .ld (.loc 0), (some ((.loc 10), true)), 14⟩, ⟨.loc, .mv (.var 6), (some ((.loc 11), true)), 15⟩] [⟨⟨.loc, .call (.cst (.func (.func 257) [] [])) [(.loc 7), (.loc 6)], (some ((.loc 12), true)), 9⟩, [(6, .ld (.loc 10), (.loc 9), some ((.loc 13), true)), (14, .ld (.loc 3), (.loc 2), some ((.loc 13), true))], []⟩, ⟨⟨.loc, .call (.cst (.func (.func 256) [] [])) [(.loc 9), (.loc 0), (.loc 2), (.loc 1)], (some ((.loc 13), true)), 16⟩, [], [⟨.loc, .bin .eql (.loc 0) (.cst (.int .i64 0)), (some ((.loc 14), true)), 17⟩, ⟨.loc, .pick (.loc 15) (.loc 0) (.cst (.bool false)), none, 18⟩, ⟨(.var 4), .mv (.loc 0), none, 19⟩]⟩])
 .ret))))),
 [.var 4]⟩
/-- stripe.set).read -/
def e194 : EFunc := ⟨[0, 1, 4, 5, 6, 7, 8, 26],
 [some 0, some 1, none, none, none, none, none, none],
 (.seq (.region [⟨(.var 2), .alloc [.int .u8 0, .int .u8 0, .int .u16 0, .int .u64 0, .int .u16 0, .int .u8 0, .int .u8 0, .int .u8 0, .int .u8 0, .int .u8 0, .int .u8 0, .int .u8 0, .int .u8 0, .int .u8 0, .int .u8 0, .int .u8 0, .int .u8 0, .int .u8 0, .int .u8 0, .int .u8 0, .int .u8 0, .int .u8 0, .int .u8 0, .int .u8 0, .int .u8 0, .int .u8 0, .int .u8 0, .int .u8 0, .int .u8 0, .int .u8 0, .int .u8 0, .int .u8 0, .int .u8 0, .int .u8 0, .int .u8 0, .int .u8 0, .int .u8 0, .int .u8 0, .int .u8 0, .int .u8 0, .int .u8 0, .int .u8 0, .int .u8 0, .int .u8 0, .int .u8 0, .int .u8 0, .int .u8 0, .int .u8 0, .int .u8 0], none, 0⟩, ⟨(.var 3), .mv (.cst (.bool false)), none, 0⟩])
 (.seq (.dregion [⟨.loc, .mv (.var 0), none, 0⟩, ⟨.loc, .nilchk (.loc 0), none, 1⟩, ⟨.loc, .fld 0 (.loc 0), none, 2⟩, ⟨.loc, .ld (.loc 0), none, 3⟩, ⟨.loc, .mv (.var 0), none, 4⟩, ⟨.loc, .mv (.var 1), none, 5⟩, ⟨.loc, .mv (.var 0), none, 7⟩, ⟨.loc, .nilchk (.loc 0), none, 8⟩, ⟨.loc, .fld 2 (.loc 0), none, 9⟩, ⟨.loc, .fld 1 (.loc 0), none, 10⟩, ⟨.loc, .ld (.loc 0), none, 11⟩] [⟨⟨.loc, .call (.cst (.func (.func 257) [] [])) [(.loc 6), (.loc 5)], none, 6⟩, [(3, .ld (.loc 9), (.loc 8), none), (11, .ld (.loc 2), (.loc 1), none)], []⟩, ⟨⟨.loc, .call (.cst (.func (.func 258) [] [])) [(.loc 8), (.loc 0), (.loc 1)], none, 12⟩, [], [⟨.loc, .mv (.loc 0), none, 13⟩, ⟨.loc, .ext 0 (.loc 0), none, 14⟩, ⟨.loc, .ext 1 (.loc 1), none, 15⟩, ⟨(.var 4), .mv (.loc 1), none, 16⟩, ⟨(.var 5), .mv (.loc 0), none, 17⟩]⟩])
 (.seq (.seq (.region [⟨.loc, .mv (.var 5), none, 0⟩, ⟨(.var 7), .bin .neq (.loc 0) (.cst (.int .i64 0)), none, 0⟩])
 (.cond (.var 7) (.seq (.region [⟨.loc, .build [.int .u8 0, .int .u8 0, .int .u16 0, .int .u64 0, .int .u16 0, .int .u8 0, .int .u8 0, .int .u8 0, .int .u8 0, .int .u8 0, .int .u8 0, .int .u8 0, .int .u8 0, .int .u8 0, .int .u8 0, .int .u8 0, .int .u8 0, .int .u8 0, .int .u8 0, .int .u8 0, .int .u8 0, .int .u8 0, .int .u8 0, .int .u8 0, .int .u8 0, .int .u8 0, .int .u8 0, .int .u8 0, .int .u8 0, .int .u8 0, .int .u8 0, .int .u8 0, .int .u8 0, .int .u8 0, .int .u8 0, .int .u8 0, .int .u8 0, .int .u8 0, .int .u8 0, .int .u8 0, .int .u8 0, .int .u8 0, .int .u8 0, .int .u8 0, .int .u8 0, .int .u8 0, .int .u8 0, .int .u8 0, .int .u8 0] [], none, 0⟩, ⟨.drop, .st 49 (.var 2) (.loc 0), none, 0⟩, ⟨(.var 3), .mv (.cst (.bool false)), none, 0⟩])
 .ret) .skip))
 (.seq (.region [⟨.loc, .mv (.var 4), none, 0⟩, ⟨.loc, .call (.cst (.func (.func 204) [] [])) [(.loc 0)], none, 0⟩, ⟨.loc, .mv (.loc 0), none, 0⟩, ⟨.loc, .ext 0 (.loc 0), none, 0⟩, ⟨.loc, .ext 1 (.loc 1), none, 0⟩, ⟨(.var 6), .alloc [.int .u8 0, .int .u8 0, .int .u16 0, .int .u64 0, .int .u16 0, .int .u8 0, .int .u8 0, .int .u8 0, .int .u8 0, .int .u8 0, .int .u8 0, .int .u8 0, .int .u8 0, .int .u8 0, .int .u8 0, .int .u8 0, .int .u8 0, .int .u8 0, .int .u8 0, .int .u8 0, .int .u8 0, .int .u8 0, .int .u8 0, .int .u8 0, .int .u8 0, .int .u8 0, .int .u8 0, .int .u8 0, .int .u8 0, .int .u8 0, .int .u8 0, .int .u8 0, .int .u8 0, .int .u8 0, .int .u8 0, .int .u8 0, .int .u8 0, .int .u8 0, .int .u8 0, .int .u8 0, .int .u8 0, .int .u8 0, .int .u8 0, .int .u8 0, .int .u8 0, .int .u8 0, .int .u8 0, .int .u8 0, .int .u8 0], none, 0⟩, ⟨.drop, .st 49 (.var 6) (.loc 1), none, 0⟩, ⟨(.var 5), .mv (.loc 0), none, 0⟩])
 (.seq (.dregion [⟨.loc, .ldn 49 (.var 6), none, 0⟩, ⟨.loc, .mv (.var 5), none, 1⟩, ⟨.loc, .bin .eql (.loc 0) (.cst (.int .i64 0)), none, 2⟩, ⟨.loc, .mv (.loc 0), none, 3⟩, ⟨.loc, .ldn 49 (.var 6), (some ((.loc 0), true)), 4⟩, ⟨.loc, .mv (.var 0), (some ((.loc 1), true)), 5⟩, ⟨.loc, .nilchk (.loc 0), (some ((.loc 2), true)), 6⟩, ⟨.loc, .fld 2 (.loc 0), (some ((.loc 3), true)), 7⟩, ⟨.loc, .ldn 3 (.loc 0), (some ((.loc 4), true)), 8⟩, ⟨.loc, .mv (.var 1), (some ((.loc 5), true)), 9⟩] [⟨⟨.loc, .call (.cst (.func (.func 259) [] [])) [(.loc 5), (.loc 1), (.loc 0)], (some ((.loc 6), true)), 10⟩, [(0, .ldn 49 (.var 6), (.loc 10), none)], [⟨.loc, .pick (.loc 7) (.loc 0) (.cst (.bool false)), none, 11⟩, ⟨.loc, .mv (.loc 0), none, 12⟩, ⟨.loc, .fld 4 (.var 6), (some ((.loc 0), true)), 13⟩, ⟨.loc, .ld (.loc 0), (some ((.loc 1), true)), 14⟩, ⟨.loc, .conv .i64 (.loc 0), (some ((.loc 2), true)), 15⟩, ⟨.loc, .mv (.var 0), (some ((.loc 3), true)), 16⟩, ⟨.loc, .nilchk (.loc 0), (some ((.loc 4), true)), 17⟩, ⟨.loc, .fld 1 (.loc 0), (some ((.loc 5), true)), 18⟩, ⟨.loc, .ld (.loc 0), (some ((.loc 6), true)), 19⟩]⟩, ⟨⟨.loc, .call (.cst (.func (.func 101) [] [])) [(.loc 0)], (some ((.loc 7), true)), 20⟩, [(0, .ldn 49 (.var 6), (.loc 20), none), (14, .ld (.loc 7), (.loc 6), some ((.loc 8), true))], [⟨.loc, .bin .leq (.loc 5) (.loc 0), (some ((.loc 8), true)), 21⟩, ⟨.loc, .pick (.loc 9) (.loc 0) (.cst (.bool false)), none, 22⟩]⟩, ⟨⟨.drop, .st 49 (.var 2) (.loc 22), none, 23⟩, [(14, .ld (.loc 9), (.loc 8), some ((.loc 10), true))], [⟨(.var 3), .mv (.loc 0), none, 24⟩]⟩])
 .ret))))),
 [.cell 2 (some 49), .var 3]⟩
/-- code.geometry).data -/
def e195 : EFunc := ⟨[0, 2],
 [some 0, none],
 (.seq (.region [⟨(.var 1), .mv (.cst (.int .i64 0)), none, 0⟩])
 (.seq (.region [⟨.loc, .mv (.var 0), none, 0⟩, ⟨.loc, .nilchk (.loc 0), none, 0⟩, ⟨.loc, .fld 0 (.loc 0), none, 0⟩, ⟨.loc, .ld (.loc 0), none, 0⟩, ⟨(.var 1), .mv (.loc 0), none, 0⟩])
 .ret)),
 [.var 1]⟩
/-- decode.filled -/
def e196 : EFunc := ⟨[0, 1, 2, 6, 7, 8, 9, 10, 11, 12, 13, 14, 22, 32, 33, 34, 41, 58],
 [some 0, some 1, some 2, none, none, none, none, none, none, none, none, none, none, none, none, none, none, none],
 (.seq (.region [⟨(.var 3), .mv (.cst (.nilslice)), none, 0⟩, ⟨(.var 4), .mv (.cst (.int .i64 0)), none, 0⟩])
 (.seq (.region [⟨.loc, .mv (.var 0), none, 0⟩, ⟨.loc, .mv (.var 1), none, 0⟩, ⟨.loc, .call (.cst (.func (.func 260) [] [])) [(.loc 1), (.loc 0)], none, 0⟩, ⟨.loc, .mv (.loc 0), none, 0⟩, ⟨.loc, .ext 0 (.loc 0), none, 0⟩, ⟨.loc, .ext 1 (.loc 1), none, 0⟩, ⟨(.var 5), .mv (.loc 1), none, 0⟩, ⟨(.var 6), .mv (.loc 0), none, 0⟩])
 (.seq (.seq (.region [⟨.loc, .mv (.var 6), none, 0⟩, ⟨(.var 12), .bin .neq (.loc 0) (.cst (.int .i64 0)), none, 0⟩])
 (.cond (.var 12) (.seq (.region [⟨.loc, .mv (.var 6), none, 0⟩, ⟨(.var 3), .mv (.cst (.nilslice)), none, 0⟩, ⟨(.var 4), .mv (.loc 0), none, 0⟩])
 .ret) .skip))
 (.seq (.region [⟨.loc, .mv (.var 5), none, 0⟩, ⟨.loc, .mv (.var 0), none, 0⟩, ⟨.loc, .call (.cst (.func (.func 111) [] [])) [(.loc 0)], none, 0⟩, ⟨.loc, .sub 1 (.loc 2) none (some (.loc 0)) none, none, 0⟩, ⟨(.var 7), .mv (.loc 0), none, 0⟩])
 (.seq (.region [⟨.loc, .mv (.var 2), none, 0⟩, ⟨.loc, .call (.loc 0) [], none, 0⟩, ⟨.loc, .make 1 24 [.nilslice] (.loc 0) (.loc 0), none, 0⟩, ⟨(.var 8), .mv (.loc 0), none, 0⟩])
 (.seq (.seq (.region [⟨.loc, .mv (.var 8), none, 0⟩, ⟨(.var 13), .len false (.loc 0), none, 0⟩, ⟨(.var 14), .mv (.cst (.int .i64 0)), none, 0⟩])
 (.block 0 (.loop (.seq (.region [⟨(.var 15), .bin .lss (.var 14) (.var 13), none, 0⟩])
 (.seq (.cond (.var 15) .skip (.exit 0))
 (.seq (.block 1 (.seq (.region [⟨.loc, .mv (.var 14), none, 0⟩, ⟨(.var 9), .mv (.loc 0), none, 0⟩])
 (.seq (.seq (.region [⟨.loc, .mv (.var 1), none, 0⟩, ⟨.loc, .mv (.var 9), none, 0⟩, ⟨.loc, .idx 1 (.loc 1) (.loc 0), none, 0⟩, ⟨.loc, .ld (.loc 0), none, 0⟩, ⟨.loc, .len false (.loc 0), none, 0⟩, ⟨(.var 16), .bin .gtr (.loc 0) (.cst (.int .i64 0)), none, 0⟩])
 (.cond (.var 16) (.seq (.region [⟨.loc, .mv (.var 8), none, 0⟩, ⟨.loc, .mv (.var 9), none, 0⟩, ⟨.loc, .mv (.var 1), none, 0⟩, ⟨.loc, .mv (.var 9), none, 0⟩, ⟨.loc, .idx 1 (.loc 1) (.loc 0), none, 0⟩, ⟨.loc, .ld (.loc 0), none, 0⟩, ⟨.loc, .call (.cst (.func (.func 261) [] [])) [(.loc 0)], none, 0⟩, ⟨.loc, .idx 1 (.loc 6) (.loc 5), none, 0⟩, ⟨.drop, .st 1 (.loc 0) (.loc 1), none, 0⟩])
 (.exit 1)) .skip))
 (.seq (.region [⟨.loc, .mv (.var 0), none, 0⟩, ⟨.loc, .mv (.var 7), none, 0⟩, ⟨.loc, .mv (.var 9), none, 0⟩, ⟨.loc, .call (.cst (.func (.func 262) [] [])) [(.loc 2), (.loc 1), (.loc 0)], none, 0⟩, ⟨.loc, .mv (.loc 0), none, 0⟩, ⟨.loc, .ext 0 (.loc 0), none, 0⟩, ⟨.loc, .ext 1 (.loc 1), none, 0⟩, ⟨(.var 10), .mv (.loc 1), none, 0⟩, ⟨(.var 11), .mv (.loc 0), none, 0⟩])
 (.seq (.seq (.region [⟨.loc, .mv (.var 11), none, 0⟩, ⟨(.var 17), .bin .neq (.loc 0) (.cst (.int .i64 0)), none, 0⟩])
 (.cond (.var 17) (.seq (.region [⟨.loc, .mv (.var 11), none, 0⟩, ⟨(.var 3), .mv (.cst (.nilslice)), none, 0⟩, ⟨(.var 4), .mv (.loc 0), none, 0⟩])
 .ret) .skip))
 (.region [⟨.loc, .mv (.var 8), none, 0⟩, ⟨.loc, .mv (.var 9), none, 0⟩, ⟨.loc, .mv (.var 0), none, 0⟩, ⟨.loc, .mv (.var 1), none, 0⟩, ⟨.loc, .mv (.var 7), none, 0⟩, ⟨.loc, .mv (.var 10), none, 0⟩, ⟨.loc, .call (.cst (.func (.func 263) [] [])) [(.loc 3), (.loc 2), (.loc 1), (.loc 0)], none, 0⟩, ⟨.loc, .idx 1 (.loc 6) (.loc 5), none, 0⟩, ⟨.drop, .st 1 (.loc 0) (.loc 1), none, 0⟩]))))))
 (.region [⟨.loc, .bin .add (.var 14) (.cst (.int .i64 1)), none, 0⟩, ⟨(.var 14), .mv (.loc 0), none, 0⟩])))))))
 (.seq (.region [⟨.loc, .mv (.var 8), none, 0⟩, ⟨(.var 3), .mv (.loc 0), none, 0⟩, ⟨(.var 4), .mv (.cst (.int .i64 0)), none, 0⟩])
 .ret))))))),
 [.var 3, .var 4]⟩
/-- code.Coder).right -/
def e197 : EFunc := ⟨[0, 1, 4],
 [some 0, some 1, none],
 (.seq (.region [⟨(.var 2), .mv (.cst (.bool false)), none, 0⟩])
 (.seq (.region [⟨.loc, .mv (.var 1), none, 0⟩, ⟨.loc, .len false (.loc 0), none, 0⟩, ⟨.loc, .mv (.var 0), none, 0⟩, ⟨.loc, .nilchk (.loc 0), none, 0⟩, ⟨.loc, .fld 0 (.loc 0), none, 0⟩, ⟨.loc, .fld 0 (.loc 0), none, 0⟩, ⟨.loc, .ld (.loc 0), none, 0⟩, ⟨.loc, .bin .eql (.loc 5) (.loc 0), none, 0⟩, ⟨.loc, .mv (.loc 0), none, 0⟩, ⟨.loc, .mv (.var 1), (some ((.loc 0), true)), 0⟩, ⟨.loc, .call (.cst (.func (.func 264) [] [])) [(.loc 0)], (some ((.loc 1), true)), 0⟩, ⟨.loc, .pick (.loc 2) (.loc 0) (.cst (.bool false)), none, 0⟩, ⟨(.var 2), .mv (.loc 0), none, 0⟩])
 .ret)),
 [.var 2]⟩
/-- num.Put -/
def e200 : EFunc := ⟨[0, 1, 2, 6, 7, 8, 16, 18, 19, 20],
 [some 0, some 1, some 2, none, none, none, none, none, none, none],
 (.seq (.region [⟨(.var 3), .mv (.cst (.nilslice)), none, 0⟩])
 (.seq (.region [⟨.loc, .mv (.var 0), none, 0⟩, ⟨.loc, .call (.cst (.func (.func 216) [] [])) [(.loc 0), (.cst (.int .i64 8))], none, 0⟩, ⟨(.var 4), .mv (.loc 0), none, 0⟩])
 (.seq (.seq (.region [⟨.loc, .mv (.var 1), none, 0⟩, ⟨.loc, .bin .lss (.loc 0) (.cst (.int .i64 1)), none, 0⟩, ⟨.loc, .mv (.loc 0), none, 0⟩, ⟨.loc, .mv (.var 1), (some ((.loc 0), false)), 0⟩, ⟨.loc, .bin .gtr (.loc 0) (.cst (.int .i64 8)), (some ((.loc 1), false)), 0⟩, ⟨(.var 6), .pick (.loc 2) (.cst (.bool true)) (.loc 0), none, 0⟩])
 (.cond (.var 6) (.seq (.region [⟨.loc, .mv (.var 4), none, 0⟩, ⟨(.var 3), .mv (.loc 0), none, 0⟩])
 .ret) .skip))
 (.seq (.seq (.region [⟨(.var 7), .mv (.var 1), none, 0⟩, ⟨(.var 8), .mv (.cst (.int .i64 0)), none, 0⟩])
 (.block 0 (.loop (.seq (.region [⟨(.var 9), .bin .lss (.var 8) (.var 7), none, 0⟩])
 (.seq (.cond (.var 9) .skip (.exit 0))
 (.seq (.block 1 (.seq (.region [⟨.loc, .mv (.var 8), none, 0⟩, ⟨(.var 5), .mv (.loc 0), none, 0⟩])
 (.region [⟨.loc, .mv (.var 4), none, 0⟩, ⟨.loc, .mv (.var 2), none, 0⟩, ⟨.loc, .mv (.var 5), none, 0⟩, ⟨.loc, .bin .mul (.cst (.int .i64 8)) (.loc 0), none, 0⟩, ⟨.loc, .bin .shr (.loc 2) (.loc 0), none, 0⟩, ⟨.loc, .conv .u8 (.loc 0), none, 0⟩, ⟨.loc, .buildS 1 1 [.int .u8 0] [(0, 1, (.loc 0))], none, 0⟩, ⟨.loc, .append 1 1 (.loc 6) (.loc 0), none, 0⟩, ⟨(.var 4), .mv (.loc 0), none, 0⟩])))
 (.region [⟨.loc, .bin .add (.var 8) (.cst (.int .i64 1)), none, 0⟩, ⟨(.var 8), .mv (.loc 0), none, 0⟩])))))))
 (.seq (.region [⟨.loc, .mv (.var 4), none, 0⟩, ⟨(.var 3), .mv (.loc 0), none, 0⟩])
 .ret))))),
 [.var 3]⟩
/-- scroll.GetBytes -/
def e201 : EFunc := ⟨[0, 1, 4, 5, 6, 7, 8, 9, 10, 11, 12, 13, 24],
 [some 0, some 1, none, none, none, none, none, none, none, none, none, none, none],
 (.seq (.region [⟨(.var 2), .alloc [.int .i64 0, .int .u64 0, .int .i64 0, .int .i64 0], none, 0⟩, ⟨(.var 3), .mv (.cst (.int .i64 0)), none, 0⟩])
 (.seq (.region [⟨(.var 4), .alloc [.int .u64 0, .int .u64 0, .int .u64 0, .int .u64 0], none, 0⟩])
 (.seq (.seq (.region [⟨(.var 9), .build [.int .i64 0, .int .i64 0, .int .i64 0, .int .i64 0] [(0, 1, (.cst (.int .i64 2))), (1, 1, (.cst (.int .i64 8))), (2, 1, (.cst (.int .i64 2))), (3, 1, (.cst (.int .i64 4)))], none, 0⟩, ⟨(.var 10), .mv (.cst (.int .i64 0)), none, 0⟩])
 (.block 0 (.loop (.seq (.region [⟨(.var 11), .bin .lss (.var 10) (.cst (.int .i64 4)), none, 0⟩])
 (.seq (.cond (.var 11) .skip (.exit 0))
 (.seq (.block 1 (.seq (.region [⟨.loc, .mv (.var 10), none, 0⟩, ⟨.loc, .idxV 4 (.var 9) (.var 10), none, 0⟩, ⟨(.var 5), .mv (.loc 1), none, 0⟩, ⟨(.var 6), .mv (.loc 0), none, 0⟩])
 (.seq (.region [⟨.loc, .mv (.var 0), none, 0⟩, ⟨.loc, .mv (.var 1), none, 0⟩, ⟨.loc, .mv (.var 6), none, 0⟩, ⟨.loc, .call (.cst (.func (.func 266) [] [])) [(.loc 2), (.loc 1), (.loc 0)], none, 0⟩, ⟨.loc, .mv (.loc 0), none, 0⟩, ⟨.loc, .ext 0 (.loc 0), none, 0⟩, ⟨.loc, .ext 1 (.loc 1), none, 0⟩, ⟨(.var 7), .mv (.loc 1), none, 0⟩, ⟨(.var 8), .mv (.loc 0), none, 0⟩])
 (.seq (.seq (.region [⟨.loc, .mv (.var 8), none, 0⟩, ⟨(.var 12), .bin .neq (.loc 0) (.cst (.int .i64 0)), none, 0⟩])
 (.cond (.var 12) (.seq (.region [⟨.loc, .build [.int .i64 0, .int .u64 0, .int .i64 0, .int .i64 0] [], none, 0⟩, ⟨.loc, .mv (.var 8), none, 0⟩, ⟨.drop, .st 4 (.var 2) (.loc 1), none, 0⟩, ⟨(.var 3), .mv (.loc 0), none, 0⟩])
 .ret) .skip))
 (.seq (.region [⟨.loc, .mv (.var 5), none, 0⟩, ⟨.loc, .mv (.var 7), none, 0⟩, ⟨.loc, .idxA 4 1 (.var 4) (.loc 1), none, 0⟩, ⟨.drop, .st 1 (.loc 0) (.loc 1), none, 0⟩])
 (.region [⟨.loc, .mv (.var 1), none, 0⟩, ⟨.loc, .mv (.var 6), none, 0⟩, ⟨.loc, .bin .add (.loc 1) (.loc 0), none, 0⟩, ⟨(.var 1), .mv (.loc 0), none, 0⟩]))))))
 (.region [⟨.loc, .bin .add (.var 10) (.cst (.int .i64 1)), none, 0⟩, ⟨(.var 10), .mv (.loc 0), none, 0⟩])))))))
 (.seq (.region [⟨.loc, .idxA 4 1 (.var 4) (.cst (.int .i64 0)), none, 0⟩, ⟨.loc, .ld (.loc 0), none, 0⟩, ⟨.loc, .conv .i64 (.loc 0), none, 0⟩, ⟨.loc, .idxA 4 1 (.var 4) (.cst (.int .i64 1)), none, 0⟩, ⟨.loc, .ld (.loc 0), none, 0⟩, ⟨.loc, .idxA 4 1 (.var 4) (.cst (.int .i64 2)), none, 0⟩, ⟨.loc, .ld (.loc 0), none, 0⟩, ⟨.loc, .conv .i64 (.loc 0), none, 0⟩, ⟨.loc, .idxA 4 1 (.var 4) (.cst (.int .i64 3)), none, 0⟩, ⟨.loc, .ld (.loc 0), none, 0⟩, ⟨.loc, .conv .i64 (.loc 0), none, 0⟩, ⟨.loc, .build [.int .i64 0, .int .u64 0, .int .i64 0, .int .i64 0] [(0, 1, (.loc 8)), (1, 1, (.loc 6)), (2, 1, (.loc 3)), (3, 1, (.loc 0))], none, 0⟩, ⟨.drop, .st 4 (.var 2) (.loc 0), none, 0⟩, ⟨(.var 3), .mv (.cst (.int .i64 0)), none, 0⟩])
 .ret)))),
 [.cell 2 (some 4), .var 3]⟩
/-- super.shards$1 -/
def e202 : EFunc := ⟨[0, 1, 2, 5, 6, 7, 10, 11, 12, 13, 28],
 [some 0, some 1, some 2, none, none, none, none, none, none, none, none],
 (.seq (.region [⟨.loc, .ld (.var 1), none, 0⟩, ⟨.loc, .ld (.var 2), none, 0⟩, ⟨(.var 6), .call (.cst (.func (.func 203) [] [])) [(.loc 1), (.loc 0)], none, 0⟩, ⟨(.var 7), .len false (.var 6), none, 0⟩, ⟨(.var 8), .mv (.cst (.int .i64 0)), none, 0⟩])
 (.block 0 (.loop (.seq (.region [⟨(.var 9), .bin .lss (.var 8) (.var 7), none, 0⟩])
 (.seq (.cond (.var 9) .skip (.exit 0))
 (.seq (.block 1 (.seq (.region [⟨.loc, .idx 1 (.var 6) (.var 8), none, 0⟩, ⟨.loc, .ld (.loc 0), none, 0⟩, ⟨(.var 3), .mv (.loc 0), none, 0⟩])
 (.seq (.region [⟨.loc, .mv (.var 3), none, 0⟩, ⟨.loc, .call (.cst (.func (.func 204) [] [])) [(.loc 0)], none, 0⟩, ⟨.loc, .mv (.loc 0), none, 0⟩, ⟨.loc, .ext 0 (.loc 0), none, 0⟩, ⟨.loc, .ext 1 (.loc 1), none, 0⟩, ⟨(.var 4), .alloc [.int .u8 0, .int .u8 0, .int .u16 0, .int .u64 0, .int .u16 0, .int .u8 0, .int .u8 0, .int .u8 0, .int .u8 0, .int .u8 0, .int .u8 0, .int .u8 0, .int .u8 0, .int .u8 0, .int .u8 0, .int .u8 0, .int .u8 0, .int .u8 0, .int .u8 0, .int .u8 0, .int .u8 0, .int .u8 0, .int .u8 0, .int .u8 0, .int .u8 0, .int .u8 0, .int .u8 0, .int .u8 0, .int .u8 0, .int .u8 0, .int .u8 0, .int .u8 0, .int .u8 0, .int .u8 0, .int .u8 0, .int .u8 0, .int .u8 0, .int .u8 0, .int .u8 0, .int .u8 0, .int .u8 0, .int .u8 0, .int .u8 0, .int .u8 0, .int .u8 0, .int .u8 0, .int .u8 0, .int .u8 0, .int .u8 0], none, 0⟩, ⟨.drop, .st 49 (.var 4) (.loc 1), none, 0⟩, ⟨(.var 5), .mv (.loc 0), none, 0⟩])
 (.seq (.region [⟨.loc, .mv (.var 5), none, 0⟩, ⟨.loc, .bin .eql (.loc 0) (.cst (.int .i64 0)), none, 0⟩, ⟨.loc, .mv (.loc 0), none, 0⟩, ⟨.loc, .mv (.var 0), (some ((.loc 0), true)), 0⟩, ⟨.loc, .ldn 49 (.var 4), (some ((.loc 1), true)), 0⟩, ⟨.loc, .call (.loc 1) [(.loc 0)], (some ((.loc 2), true)), 0⟩, ⟨.loc, .un .not (.loc 0), (some ((.loc 3), true)), 0⟩, ⟨(.var 10), .pick (.loc 4) (.loc 0) (.cst (.bool false)), none, 0⟩])
 (.cond (.var 10) .ret .skip)))))
 (.region [⟨.loc, .bin .add (.var 8) (.cst (.int .i64 1)), none, 0⟩, ⟨(.var 8), .mv (.loc 0), none, 0⟩]))))))),
 []⟩
/-- array.Array).Row -/
def e203 : EFunc := ⟨[0, 1, 4, 5, 6, 11, 12, 13],
 [some 0, some 1, none, none, none, none, none, none],
 (.seq (.region [⟨(.var 2), .mv (.cst (.nilslice)), none, 0⟩])
 (.seq (.region [⟨.loc, .mv (.var 0), none, 0⟩, ⟨.loc, .call (.cst (.func (.func 96) [] [])) [(.loc 0)], none, 0⟩, ⟨.loc, .make 1 24 [.nilslice] (.loc 0) (.loc 0), none, 0⟩, ⟨(.var 3), .mv (.loc 0), none, 0⟩])
 (.seq (.seq (.region [⟨.loc, .mv (.var 3), none, 0⟩, ⟨(.var 5), .len false (.loc 0), none, 0⟩, ⟨(.var 6), .mv (.cst (.int .i64 0)), none, 0⟩])
 (.block 0 (.loop (.seq (.region [⟨(.var 7), .bin .lss (.var 6) (.var 5), none, 0⟩])
 (.seq (.cond (.var 7) .skip (.exit 0))
 (.seq (.block 1 (.seq (.region [⟨.loc, .mv (.var 6), none, 0⟩, ⟨(.var 4), .mv (.loc 0), none, 0⟩])
 (.region [⟨.loc, .mv (.var 3), none, 0⟩, ⟨.loc, .mv (.var 4), none, 0⟩, ⟨.loc, .mv (.var 0), none, 0⟩, ⟨.loc, .mv (.var 4), none, 0⟩, ⟨.loc, .mv (.var 1), none, 0⟩, ⟨.loc, .call (.cst (.func (.func 258) [] [])) [(.loc 2), (.loc 1), (.loc 0)], none, 0⟩, ⟨.loc, .mv (.loc 0), none, 0⟩, ⟨.loc, .ext 0 (.loc 0), none, 0⟩, ⟨.loc, .ext 1 (.loc 1), none, 0⟩, ⟨.loc, .idx 1 (.loc 8) (.loc 7), none, 0⟩, ⟨.drop, .st 1 (.loc 0) (.loc 2), none, 0⟩])))
 (.region [⟨.loc, .bin .add (.var 6) (.cst (.int .i64 1)), none, 0⟩, ⟨(.var 6), .mv (.loc 0), none, 0⟩])))))))
 (.seq (.region [⟨.loc, .mv (.var 3), none, 0⟩, ⟨(.var 2), .mv (.loc 0), none, 0⟩])
 .ret)))),
 [.var 2]⟩
/-- shard.Get -/
def e204 : EFunc := ⟨[0, 2, 3, 4, 6, 7, 10, 22, 52],
 [some 0, none, none, none, none, none, none, none, none],
 (.seq (.region [⟨(.var 1), .alloc [.int .u8 0, .int .u8 0, .int .u16 0, .int .u64 0, .int .u16 0, .int .u8 0, .int .u8 0, .int .u8 0, .int .u8 0, .int .u8 0, .int .u8 0, .int .u8 0, .int .u8 0, .int .u8 0, .int .u8 0, .int .u8 0, .int .u8 0, .int .u8 0, .int .u8 0, .int .u8 0, .int .u8 0, .int .u8 0, .int .u8 0, .int .u8 0, .int .u8 0, .int .u8 0, .int .u8 0, .int .u8 0, .int .u8 0, .int .u8 0, .int .u8 0, .int .u8 0, .int .u8 0, .int .u8 0, .int .u8 0, .int .u8 0, .int .u8 0, .int .u8 0, .int .u8 0, .int .u8 0, .int .u8 0, .int .u8 0, .int .u8 0, .int .u8 0, .int .u8 0, .int .u8 0, .int .u8 0, .int .u8 0, .int .u8 0], none, 0⟩, ⟨(.var 2), .mv (.cst (.int .i64 0)), none, 0⟩])
 (.seq (.seq (.region [⟨.loc, .mv (.var 0), none, 0⟩, ⟨.loc, .len false (.loc 0), none, 0⟩, ⟨(.var 6), .bin .neq (.loc 0) (.cst (.int .i64 64)), none, 0⟩])
 (.cond (.var 6) (.seq (.region [⟨.loc, .build [.int .u8 0, .int .u8 0, .int .u16 0, .int .u64 0, .int .u16 0, .int .u8 0, .int .u8 0, .int .u8 0, .int .u8 0, .int .u8 0, .int .u8 0, .int .u8 0, .int .u8 0, .int .u8 0, .int .u8 0, .int .u8 0, .int .u8 0, .int .u8 0, .int .u8 0, .int .u8 0, .int .u8 0, .int .u8 0, .int .u8 0, .int .u8 0, .int .u8 0, .int .u8 0, .int .u8 0, .int .u8 0, .int .u8 0, .int .u8 0, .int .u8 0, .int .u8 0, .int .u8 0, .int .u8 0, .int .u8 0, .int .u8 0, .int .u8 0, .int .u8 0, .int .u8 0, .int .u8 0, .int .u8 0, .int .u8 0, .int .u8 0, .int .u8 0, .int .u8 0, .int .u8 0, .int .u8 0, .int .u8 0, .int .u8 0] [], none, 0⟩, ⟨.drop, .st 49 (.var 1) (.loc 0), none, 0⟩, ⟨(.var 2), .mv (.cst (.int .i64 2)), none, 0⟩])
 .ret) .skip))
 (.seq (.seq (.region [⟨.loc, .mv (.var 0), none, 0⟩, ⟨.loc, .call (.cst (.func (.func 266) [] [])) [(.loc 0), (.cst (.int .i64 60)), (.cst (.int .i64 4))], none, 0⟩, ⟨.loc, .mv (.loc 0), none, 0⟩, ⟨.loc, .ext 0 (.loc 0), none, 0⟩, ⟨.loc, .ext 1 (.loc 1), none, 0⟩, ⟨(.var 3), .mv (.loc 1), none, 0⟩, ⟨.loc, .mv (.loc 0), none, 0⟩])
 (.seq (.region [⟨.loc, .mv (.var 3), none, 0⟩, ⟨.loc, .conv .u32 (.loc 0), none, 0⟩, ⟨.loc, .mv (.var 0), none, 0⟩, ⟨.loc, .sub 1 (.loc 0) none (some (.cst (.int .i64 60))) none, none, 0⟩, ⟨.loc, .call (.cst (.func (.func 267) [] [])) [(.loc 0)], none, 0⟩, ⟨(.var 7), .bin .neq (.loc 3) (.loc 0), none, 0⟩])
 (.cond (.var 7) (.seq (.region [⟨.loc, .build [.int .u8 0, .int .u8 0, .int .u16 0, .int .u64 0, .int .u16 0, .int .u8 0, .int .u8 0, .int .u8 0, .int .u8 0, .int .u8 0, .int .u8 0, .int .u8 0, .int .u8 0, .int .u8 0, .int .u8 0, .int .u8 0, .int .u8 0, .int .u8 0, .int .u8 0, .int .u8 0, .int .u8 0, .int .u8 0, .int .u8 0, .int .u8 0, .int .u8 0, .int .u8 0, .int .u8 0, .int .u8 0, .int .u8 0, .int .u8 0, .int .u8 0, .int .u8 0, .int .u8 0, .int .u8 0, .int .u8 0, .int .u8 0, .int .u8 0, .int .u8 0, .int .u8 0, .int .u8 0, .int .u8 0, .int .u8 0, .int .u8 0, .int .u8 0, .int .u8 0, .int .u8 0, .int .u8 0, .int .u8 0, .int .u8 0] [], none, 0⟩, ⟨.drop, .st 49 (.var 1) (.loc 0), none, 0⟩, ⟨(.var 2), .mv (.cst (.int .i64 4)), none, 0⟩])
 .ret) .skip)))
 (.seq (.region [⟨.loc, .mv (.var 0), none, 0⟩, ⟨.loc, .call (.cst (.func (.func 268) [] [])) [(.loc 0)], none, 0⟩, ⟨(.var 4), .mv (.loc 0), none, 0⟩])
 (.seq (.region [⟨.loc, .mv (.var 4), none, 0⟩, ⟨.loc, .call (.loc 0) [(.cst (.int .i64 1))], none, 0⟩, ⟨.loc, .conv .u8 (.loc 0), none, 0⟩, ⟨.loc, .mv (.var 4), none, 0⟩, ⟨.loc, .call (.loc 0) [(.cst (.int .i64 1))], none, 0⟩, ⟨.loc, .conv .u8 (.loc 0), none, 0⟩, ⟨.loc, .build [.int .u8 0, .int .u8 0, .int .u16 0, .int .u64 0, .int .u16 0, .int .u8 0, .int .u8 0, .int .u8 0, .int .u8 0, .int .u8 0, .int .u8 0, .int .u8 0, .int .u8 0, .int .u8 0, .int .u8 0, .int .u8 0, .int .u8 0, .int .u8 0, .int .u8 0, .int .u8 0, .int .u8 0, .int .u8 0, .int .u8 0, .int .u8 0, .int .u8 0, .int .u8 0, .int .u8 0, .int .u8 0, .int .u8 0, .int .u8 0, .int .u8 0, .int .u8 0, .int .u8 0, .int .u8 0, .int .u8 0, .int .u8 0, .int .u8 0, .int .u8 0, .int .u8 0, .int .u8 0, .int .u8 0, .int .u8 0, .int .u8 0, .int .u8 0, .int .u8 0, .int .u8 0, .int .u8 0, .int .u8 0, .int .u8 0] [(0, 1, (.loc 3)), (1, 1, (.loc 0))], none, 0⟩, ⟨(.var 5), .alloc [.int .u8 0, .int .u8 0, .int .u16 0, .int .u64 0, .int .u16 0, .int .u8 0, .int .u8 0, .int .u8 0, .int .u8 0, .int .u8 0, .int .u8 0, .int .u8 0, .int .u8 0, .int .u8 0, .int .u8 0, .int .u8 0, .int .u8 0, .int .u8 0, .int .u8 0, .int .u8 0, .int .u8 0, .int .u8 0, .int .u8 0, .int .u8 0, .int .u8 0, .int .u8 0, .int .u8 0, .int .u8 0, .int .u8 0, .int .u8 0, .int .u8 0, .int .u8 0, .int .u8 0, .int .u8 0, .int .u8 0, .int .u8 0, .int .u8 0, .int .u8 0, .int .u8 0, .int .u8 0, .int .u8 0, .int .u8 0, .int .u8 0, .int .u8 0, .int .u8 0, .int .u8 0, .int .u8 0, .int .u8 0, .int .u8 0], none, 0⟩, ⟨.drop, .st 49 (.var 5) (.loc 0), none, 0⟩])
 (.seq (.region [⟨.loc, .mv (.var 4), none, 0⟩, ⟨.loc, .call (.loc 0) [(.cst (.int .i64 2))], none, 0⟩, ⟨.loc, .conv .u16 (.loc 0), none, 0⟩, ⟨.loc, .mv (.var 4), none, 0⟩, ⟨.loc, .call (.loc 0) [(.cst (.int .i64 8))], none, 0⟩, ⟨.loc, .fld 2 (.var 5), none, 0⟩, ⟨.drop, .st 1 (.loc 0) (.loc 3), none, 0⟩, ⟨.loc, .fld 3 (.var 5), none, 0⟩, ⟨.drop, .st 1 (.loc 0) (.loc 2), none, 0⟩])
 (.seq (.region [⟨.loc, .mv (.var 4), none, 0⟩, ⟨.loc, .call (.loc 0) [(.cst (.int .i64 2))], none, 0⟩, ⟨.loc, .conv .u16 (.loc 0), none, 0⟩, ⟨.loc, .fld 4 (.var 5), none, 0⟩, ⟨.drop, .st 1 (.loc 0) (.loc 1), none, 0⟩])
 (.seq (.seq (.region [⟨.loc, .fld 0 (.var 5), none, 0⟩, ⟨.loc, .ld (.loc 0), none, 0⟩, ⟨.loc, .call (.cst (.func (.func 269) [] [])) [(.loc 0)], none, 0⟩, ⟨.loc, .un .not (.loc 0), none, 0⟩, ⟨.loc, .mv (.loc 0), none, 0⟩, ⟨.loc, .mv (.var 4), (some ((.loc 0), false)), 0⟩, ⟨.loc, .call (.loc 0) [(.cst (.int .i64 2))], (some ((.loc 1), false)), 0⟩, ⟨.loc, .bin .neq (.loc 0) (.cst (.int .u64 0)), (some ((.loc 2), false)), 0⟩, ⟨(.var 8), .pick (.loc 3) (.cst (.bool true)) (.loc 0), none, 0⟩])
 (.cond (.var 8) (.seq (.region [⟨.loc, .build [.int .u8 0, .int .u8 0, .int .u16 0, .int .u64 0, .int .u16 0, .int .u8 0, .int .u8 0, .int .u8 0, .int .u8 0, .int .u8 0, .int .u8 0, .int .u8 0, .int .u8 0, .int .u8 0, .int .u8 0, .int .u8 0, .int .u8 0, .int .u8 0, .int .u8 0, .int .u8 0, .int .u8 0, .int .u8 0, .int .u8 0, .int .u8 0, .int .u8 0, .int .u8 0, .int .u8 0, .int .u8 0, .int .u8 0, .int .u8 0, .int .u8 0, .int .u8 0, .int .u8 0, .int .u8 0, .int .u8 0, .int .u8 0, .int .u8 0, .int .u8 0, .int .u8 0, .int .u8 0, .int .u8 0, .int .u8 0, .int .u8 0, .int .u8 0, .int .u8 0, .int .u8 0, .int .u8 0, .int .u8 0, .int .u8 0] [], none, 0⟩, ⟨.drop, .st 49 (.var 1) (.loc 0), none, 0⟩, ⟨(.var 2), .mv (.cst (.int .i64 3)), none, 0⟩])
 .ret) .skip))
 (.seq (.region [⟨.loc, .mv (.var 0), none, 0⟩, ⟨.loc, .sub 1 (.loc 0) (some (.cst (.int .i64 16))) (some (.cst (.int .i64 60))) none, none, 0⟩, ⟨.loc, .s2ap 44 (.loc 0), none, 0⟩, ⟨.loc, .ldn 44 (.loc 0), none, 0⟩, ⟨.loc, .fld 5 (.var 5), none, 0⟩, ⟨.drop, .st 44 (.loc 0) (.loc 1), none, 0⟩])
 (.seq (.region [⟨.loc, .ldn 49 (.var 5), none, 0⟩, ⟨.drop, .st 49 (.var 1) (.loc 0), none, 0⟩, ⟨(.var 2), .mv (.cst (.int .i64 0)), none, 0⟩])
 .ret)))))))))),
 [.cell 1 (some 49), .var 2]⟩
/-- super.heads$1 -/
def e205 : EFunc := ⟨[0, 1, 2, 4, 6, 7, 8, 24],
 [some 0, some 1, some 2, none, none, none, none, none],
 (.seq (.region [⟨(.var 5), .mv (.cst (.int .i64 0)), none, 0⟩])
 (.block 0 (.loop (.seq (.region [⟨(.var 6), .bin .lss (.var 5) (.cst (.int .i64 2)), none, 0⟩])
 (.seq (.cond (.var 6) .skip (.exit 0))
 (.seq (.block 1 (.seq (.region [⟨.loc, .mv (.var 5), none, 0⟩, ⟨(.var 3), .mv (.loc 0), none, 0⟩])
 (.seq (.region [⟨.loc, .ld (.var 1), none, 0⟩, ⟨.loc, .ld (.var 2), none, 0⟩, ⟨.loc, .mv (.var 3), none, 0⟩, ⟨.loc, .call (.cst (.func (.func 51) [] [])) [(.loc 2), (.loc 1), (.loc 0)], none, 0⟩, ⟨.loc, .mv (.loc 0), none, 0⟩, ⟨.loc, .ext 0 (.loc 0), none, 0⟩, ⟨.loc, .ext 1 (.loc 1), none, 0⟩, ⟨.loc, .alloc [.int .u64 0, .int .i64 0, .int .u64 0, .int .i64 0, .int .i64 0], none, 0⟩, ⟨.drop, .st 5 (.loc 0) (.loc 2), none, 0⟩, ⟨(.var 4), .mv (.loc 1), none, 0⟩])
 (.seq (.region [⟨.loc, .mv (.var 4), none, 0⟩, ⟨.loc, .bin .eql (.loc 0) (.cst (.int .i64 0)), none, 0⟩, ⟨.loc, .mv (.loc 0), none, 0⟩, ⟨.loc, .mv (.var 0), (some ((.loc 0), true)), 0⟩, ⟨.loc, .mv (.var 3), (some ((.loc 1), true)), 0⟩, ⟨.loc, .call (.loc 1) [(.loc 0)], (some ((.loc 2), true)), 0⟩, ⟨.loc, .un .not (.loc 0), (some ((.loc 3), true)), 0⟩, ⟨(.var 7), .pick (.loc 4) (.loc 0) (.cst (.bool false)), none, 0⟩])
 (.cond (.var 7) .ret .skip)))))
 (.region [⟨.loc, .bin .add (.var 5) (.cst (.int .i64 1)), none, 0⟩, ⟨(.var 5), .mv (.loc 0), none, 0⟩]))))))),
 []⟩
/-- drive.Drive).Sectors -/
def e206 : EFunc := ⟨[0, 2, 4],
 [some 0, none, none],
 (.seq (.region [⟨(.var 1), .mv (.cst (.int .i64 0)), none, 0⟩])
 (.seq (.seq (.region [⟨.loc, .mv (.var 0), none, 0⟩, ⟨(.var 2), .call (.cst (.func (.func 168) [] [])) [(.loc 0)], none, 0⟩])
 (.cond (.var 2) (.seq (.region [⟨(.var 1), .mv (.cst (.int .i64 0)), none, 0⟩])
 .ret) .skip))
 (.seq (.region [⟨.loc, .mv (.var 0), none, 0⟩, ⟨.loc, .nilchk (.loc 0), none, 0⟩, ⟨.loc, .fld 0 (.loc 0), none, 0⟩, ⟨.loc, .ld (.loc 0), none, 0⟩, ⟨.loc, .len false (.loc 0), none, 0⟩, ⟨(.var 1), .mv (.loc 0), none, 0⟩])
 .ret))),
 [.var 1]⟩
/-- num.grown -/
def e216 : EFunc := ⟨[0, 1, 4, 5, 6, 7, 15, 16, 17, 18],
 [some 0, some 1, none, none, none, none, none, none, none, none],
 (.seq (.region [⟨(.var 2), .mv (.cst (.nilslice)), none, 0⟩])
 (.seq (.region [⟨.loc, .mv (.var 0), none, 0⟩, ⟨.loc, .len false (.loc 0), none, 0⟩, ⟨.loc, .mv (.var 0), none, 0⟩, ⟨.loc, .len false (.loc 0), none, 0⟩, ⟨.loc, .mv (.var 1), none, 0⟩, ⟨.loc, .bin .add (.loc 1) (.loc 0), none, 0⟩, ⟨.loc, .make 1 1 [.int .u8 0] (.loc 4) (.loc 0), none, 0⟩, ⟨(.var 3), .mv (.loc 0), none, 0⟩])
 (.seq (.seq (.region [⟨(.var 6), .mv (.var 0), none, 0⟩, ⟨(.var 7), .len false (.var 6), none, 0⟩, ⟨(.var 8), .mv (.cst (.int .i64 0)), none, 0⟩])
 (.block 0 (.loop (.seq (.region [⟨(.var 9), .bin .lss (.var 8) (.var 7), none, 0⟩])
 (.seq (.cond (.var 9) .skip (.exit 0))
 (.seq (.block 1 (.seq (.region [⟨.loc, .mv (.var 8), none, 0⟩, ⟨.loc, .idx 1 (.var 6) (.var 8), none, 0⟩, ⟨.loc, .ld (.loc 0), none, 0⟩, ⟨(.var 4), .mv (.loc 2), none, 0⟩, ⟨(.var 5), .mv (.loc 0), none, 0⟩])
 (.region [⟨.loc, .mv (.var 3), none, 0⟩, ⟨.loc, .mv (.var 4), none, 0⟩, ⟨.loc, .mv (.var 5), none, 0⟩, ⟨.loc, .idx 1 (.loc 2) (.loc 1), none, 0⟩, ⟨.drop, .st 1 (.loc 0) (.loc 1), none, 0⟩])))
 (.region [⟨.loc, .bin .add (.var 8) (.cst (.int .i64 1)), none, 0⟩, ⟨(.var 8), .mv (.loc 0), none, 0⟩])))))))
 (.seq (.region [⟨.loc, .mv (.var 3), none, 0⟩, ⟨(.var 2), .mv (.loc 0), none, 0⟩])
 .ret)))),
 [.var 2]⟩
/-- matrix.nobody -/
def e246 : EFunc := ⟨[0, 2, 4],
 [some 0, none, none],
 (.seq (.region [⟨(.var 1), .mv (.cst (.bool false)), none, 0⟩])
 (.seq (.region [⟨.loc, .mv (.var 0), none, 0⟩, ⟨.loc, .call (.cst (.func (.func 251) [] [])) [(.loc 0), (.cst (.int .u8 1)), (.cst (.int .u8 1))], none, 0⟩, ⟨.loc, .mv (.loc 0), none, 0⟩, ⟨.loc, .ext 0 (.loc 0), none, 0⟩, ⟨.loc, .ext 1 (.loc 1), none, 0⟩, ⟨.loc, .mv (.loc 1), none, 0⟩, ⟨(.var 2), .mv (.loc 1), none, 0⟩])
 (.seq (.region [⟨.loc, .mv (.var 2), none, 0⟩, ⟨.loc, .bin .neq (.loc 0) (.cst (.int .i64 0)), none, 0⟩, ⟨(.var 1), .mv (.loc 0), none, 0⟩])
 .ret))),
 [.var 1]⟩
/-- matrix.within -/
def e247 : EFunc := ⟨[0, 2],
 [some 0, none],
 (.seq (.region [⟨(.var 1), .mv (.cst (.bool false)), none, 0⟩])
 (.seq (.region [⟨.loc, .mv (.var 0), none, 0⟩, ⟨.loc, .bin .geq (.loc 0) (.cst (.int .i64 1)), none, 0⟩, ⟨.loc, .mv (.loc 0), none, 0⟩, ⟨.loc, .mv (.var 0), (some ((.loc 0), true)), 0⟩, ⟨.loc, .bin .leq (.loc 0) (.cst (.int .i64 255)), (some ((.loc 1), true)), 0⟩, ⟨.loc, .pick (.loc 2) (.loc 0) (.cst (.bool false)), none, 0⟩, ⟨(.var 1), .mv (.loc 0), none, 0⟩])
 .ret)),
 [.var 1]⟩
/-- matrix.twice -/
def e248 : EFunc := ⟨[0, 2, 3, 5, 7, 8, 9, 10, 11, 14, 15, 16, 17, 22],
 [some 0, none, none, none, none, none, none, none, none, none, none, none, none, none],
 (.seq (.region [⟨(.var 1), .mv (.cst (.bool false)), none, 0⟩])
 (.seq (.region [⟨(.var 2), .alloc [.bool false, .bool false, .bool false, .bool false, .bool false, .bool false, .bool false, .bool false, .bool false, .bool false, .bool false, .bool false, .bool false, .bool false, .bool false, .bool false, .bool false, .bool false, .bool false, .bool false, .bool false, .bool false, .bool false, .bool false, .bool false, .bool false, .bool false, .bool false, .bool false, .bool false, .bool false, .bool false, .bool false, .bool false, .bool false, .bool false, .bool false, .bool false, .bool false, .bool false, .bool false, .bool false, .bool false, .bool false, .bool false, .bool false, .bool false, .bool false, .bool false, .bool false, .bool false, .bool false, .bool false, .bool false, .bool false, .bool false, .bool false, .bool false, .bool false, .bool false, .bool false, .bool false, .bool false, .bool false, .bool false, .bool false, .bool false, .bool false, .bool false, .bool false, .bool false, .bool false, .bool false, .bool false, .bool false, .bool false, .bool false, .bool false, .bool false, .bool false, .bool false, .bool false, .bool false, .bool false, .bool false, .bool false, .bool false, .bool false, .bool false, .bool false, .bool false, .bool false, .bool false, .bool false, .bool false, .bool false, .bool false, .bool false, .bool false, .bool false, .bool false, .bool false, .bool false, .bool false, .bool false, .bool false, .bool false, .bool false, .bool false, .bool false, .bool false, .bool false, .bool false, .bool false, .bool false, .bool false, .bool false, .bool false, .bool false, .bool false, .bool false, .bool false, .bool false, .bool false, .bool false, .bool false, .bool false, .bool false, .bool false, .bool false, .bool false, .bool false, .bool false, .bool false, .bool false, .bool false, .bool false, .bool false, .bool false, .bool false, .bool false, .bool false, .bool false, .bool false, .bool false, .bool false, .bool false, .bool false, .bool false, .bool false, .bool false, .bool false, .bool false, .bool false, .bool false, .bool false, .bool false, .bool false, .bool false, .bool false, .bool false, .bool false, .bool false, .bool false, .bool false, .bool false, .bool false, .bool false, .bool false, .bool false, .bool false, .bool false, .bool false, .bool false, .bool false, .bool false, .bool false, .bool false, .bool false, .bool false, .bool false, .bool false, .bool false, .bool false, .bool false, .bool false, .bool false, .bool false, .bool false, .bool false, .bool false, .bool false, .bool false, .bool false, .bool false, .bool false, .bool false, .bool false, .bool false, .bool false, .bool false, .bool false, .bool false, .bool false, .bool false, .bool false, .bool false, .bool false, .bool false, .bool false, .bool false, .bool false, .bool false, .bool false, .bool false, .bool false, .bool false, .bool false, .bool false, .bool false, .bool false, .bool false, .bool false, .bool false, .bool false, .bool false, .bool false, .bool false, .bool false, .bool false, .bool false, .bool false, .bool false, .bool false, .bool false, .bool false, .bool false, .bool false, .bool false, .bool false, .bool false, .bool false, .bool false, .bool false, .bool false, .bool false, .bool false, .bool false, .bool false, .bool false, .bool false, .bool false, .bool false, .bool false, .bool false, .bool false], none, 0⟩])
 (.seq (.seq (.region [⟨(.var 5), .mv (.var 0), none, 0⟩, ⟨(.var 6), .len false (.var 5), none, 0⟩, ⟨(.var 7), .mv (.cst (.int .i64 0)), none, 0⟩])
 (.block 0 (.loop (.seq (.region [⟨(.var 8), .bin .lss (.var 7) (.var 6), none, 0⟩])
 (.seq (.cond (.var 8) .skip (.exit 0))
 (.seq (.block 1 (.seq (.region [⟨.loc, .idx 1 (.var 5) (.var 7), none, 0⟩, ⟨.loc, .ld (.loc 0), none, 0⟩, ⟨(.var 3), .mv (.loc 0), none, 0⟩])
 (.seq (.region [⟨(.var 9), .mv (.var 3), none, 0⟩, ⟨(.var 10), .len false (.var 9), none, 0⟩, ⟨(.var 11), .mv (.cst (.int .i64 0)), none, 0⟩])
 (.block 2 (.loop (.seq (.region [⟨(.var 12), .bin .lss (.var 11) (.var 10), none, 0⟩])
 (.seq (.cond (.var 12) .skip (.exit 2))
 (.seq (.block 3 (.seq (.region [⟨.loc, .idx 1 (.var 9) (.var 11), none, 0⟩, ⟨.loc, .ld (.loc 0), none, 0⟩, ⟨(.var 4), .mv (.loc 0), none, 0⟩])
 (.seq (.seq (.region [⟨.loc, .mv (.var 4), none, 0⟩, ⟨.loc, .idxA 256 1 (.var 2) (.loc 0), none, 0⟩, ⟨(.var 13), .ld (.loc 0), none, 0⟩])
 (.cond (.var 13) (.seq (.region [⟨(.var 1), .mv (.cst (.bool true)), none, 0⟩])
 .ret) .skip))
 (.region [⟨.loc, .mv (.var 4), none, 0⟩, ⟨.loc, .idxA 256 1 (.var 2) (.loc 0), none, 0⟩, ⟨.drop, .st 1 (.loc 0) (.cst (.bool true)), none, 0⟩]))))
 (.region [⟨.loc, .bin .add (.var 11) (.cst (.int .i64 1)), none, 0⟩, ⟨(.var 11), .mv (.loc 0), none, 0⟩])))))))))
 (.region [⟨.loc, .bin .add (.var 7) (.cst (.int .i64 1)), none, 0⟩, ⟨(.var 7), .mv (.loc 0), none, 0⟩])))))))
 (.seq (.region [⟨(.var 1), .mv (.cst (.bool false)), none, 0⟩])
 .ret)))),
 [.var 1]⟩
/-- matrix.filled -/
def e249 : EFunc := ⟨[0, 1, 2, 6, 7, 8, 9, 17, 18, 19, 21, 22, 23],
 [some 0, some 1, some 2, none, none, none, none, none, none, none, none, none, none],
 (.seq (.region [⟨(.var 3), .alloc [.int .i64 0, .int .i64 0, .nilslice], none, 0⟩])
 (.seq (.region [⟨.loc, .mv (.var 0), none, 0⟩, ⟨.loc, .mv (.var 1), none, 0⟩, ⟨.loc, .mv (.var 0), none, 0⟩, ⟨.loc, .mv (.var 1), none, 0⟩, ⟨.loc, .bin .mul (.loc 1) (.loc 0), none, 0⟩, ⟨.loc, .make 1 1 [.int .u8 0] (.cst (.int .i64 0)) (.loc 0), none, 0⟩, ⟨.loc, .build [.int .i64 0, .int .i64 0, .nilslice] [(0, 1, (.loc 5)), (1, 1, (.loc 4)), (2, 1, (.loc 0))], none, 0⟩, ⟨(.var 4), .alloc [.int .i64 0, .int .i64 0, .nilslice], none, 0⟩, ⟨.drop, .st 3 (.var 4) (.loc 0), none, 0⟩])
 (.seq (.seq (.region [⟨(.var 7), .mv (.var 0), none, 0⟩, ⟨(.var 8), .mv (.cst (.int .i64 0)), none, 0⟩])
 (.block 0 (.loop (.seq (.region [⟨(.var 9), .bin .lss (.var 8) (.var 7), none, 0⟩])
 (.seq (.cond (.var 9) .skip (.exit 0))
 (.seq (.block 1 (.seq (.region [⟨.loc, .mv (.var 8), none, 0⟩, ⟨(.var 5), .mv (.loc 0), none, 0⟩])
 (.seq (.region [⟨(.var 10), .mv (.var 1), none, 0⟩, ⟨(.var 11), .mv (.cst (.int .i64 0)), none, 0⟩])
 (.block 2 (.loop (.seq (.region [⟨(.var 12), .bin .lss (.var 11) (.var 10), none, 0⟩])
 (.seq (.cond (.var 12) .skip (.exit 2))
 (.seq (.block 3 (.seq (.region [⟨.loc, .mv (.var 11), none, 0⟩, ⟨(.var 6), .mv (.loc 0), none, 0⟩])
 (.dregion [⟨.loc, .fld 2 (.var 4), none, 0⟩, ⟨.loc, .ld (.loc 0), none, 1⟩, ⟨.loc, .mv (.var 2), none, 2⟩, ⟨.loc, .mv (.var 5), none, 3⟩, ⟨.loc, .mv (.var 6), none, 4⟩] [⟨⟨.loc, .call (.loc 2) [(.loc 1), (.loc 0)], none, 5⟩, [(1, .ld (.loc 5), (.loc 4), none)], [⟨.loc, .buildS 1 1 [.int .u8 0] [(0, 1, (.loc 0))], none, 6⟩]⟩, ⟨⟨.loc, .append 1 1 (.loc 5) (.loc 0), none, 7⟩, [], [⟨.loc, .fld 2 (.var 4), none, 8⟩]⟩, ⟨⟨.drop, .st 1 (.loc 0) (.loc 1), none, 9⟩, [], []⟩])))
 (.region [⟨.loc, .bin .add (.var 11) (.cst (.int .i64 1)), none, 0⟩, ⟨(.var 11), .mv (.loc 0), none, 0⟩])))))))))
 (.region [⟨.loc, .bin .add (.var 8) (.cst (.int .i64 1)), none, 0⟩, ⟨(.var 8), .mv (.loc 0), none, 0⟩])))))))
 (.seq (.region [⟨.loc, .ldn 3 (.var 4), none, 0⟩, ⟨.drop, .st 3 (.var 3) (.loc 0), none, 0⟩])
 .ret)))),
 [.cell 3 (some 3)]⟩
/-- matrix.Cauchy$1 -/
def e250 : EFunc := ⟨[0, 1, 2, 3, 4, 7, 8],
 [some 0, some 1, some 2, some 3, some 4, none, none],
 (.seq (.region [⟨(.var 5), .mv (.cst (.int .u8 0)), none, 0⟩])
 (.seq (.dregion [⟨.loc, .ld (.var 2), none, 0⟩, ⟨.loc, .ld (.var 3), none, 1⟩, ⟨.loc, .mv (.var 0), none, 2⟩, ⟨.loc, .idx 1 (.loc 1) (.loc 0), none, 3⟩, ⟨.loc, .ld (.loc 0), none, 4⟩, ⟨.loc, .ld (.var 4), none, 5⟩, ⟨.loc, .mv (.var 1), none, 6⟩, ⟨.loc, .idx 1 (.loc 1) (.loc 0), none, 7⟩, ⟨.loc, .ld (.loc 0), none, 8⟩, ⟨.loc, .bin .xor (.loc 4) (.loc 0), none, 9⟩] [⟨⟨.loc, .call (.cst (.func (.func 251) [] [])) [(.loc 9), (.cst (.int .u8 1)), (.loc 0)], none, 10⟩, [], [⟨.loc, .mv (.loc 0), none, 11⟩, ⟨.loc, .ext 0 (.loc 0), none, 12⟩, ⟨.loc, .ext 1 (.loc 1), none, 13⟩, ⟨(.var 6), .mv (.loc 1), none, 14⟩, ⟨.loc, .mv (.loc 0), none, 15⟩]⟩])
 (.seq (.region [⟨.loc, .mv (.var 6), none, 0⟩, ⟨(.var 5), .mv (.loc 0), none, 0⟩])
 .ret))),
 [.var 5]⟩
/-- field.Field).Div -/
def e251 : EFunc := ⟨[0, 1, 2, 6, 7, 8, 12, 15],
 [some 0, some 1, some 2, none, none, none, none, none],
 (.seq (.region [⟨(.var 3), .mv (.cst (.int .u8 0)), none, 0⟩, ⟨(.var 4), .mv (.cst (.int .i64 0)), none, 0⟩])
 (.seq (.block 0 (.seq (.region [⟨.loc, .mv (.var 0), none, 0⟩, ⟨.loc, .call (.cst (.func (.func 286) [] [])) [(.loc 0)], none, 0⟩, ⟨.loc, .un .not (.loc 0), none, 0⟩, ⟨(.var 5), .mv (.loc 0), none, 0⟩])
 (.cond (.var 5) (.seq (.region [⟨(.var 3), .mv (.cst (.int .u8 0)), none, 0⟩, ⟨(.var 4), .mv (.cst (.int .i64 1)), none, 0⟩])
 .ret) (.seq (.region [⟨.loc, .mv (.var 2), none, 0⟩, ⟨.loc, .bin .eql (.loc 0) (.cst (.int .u8 0)), none, 0⟩, ⟨(.var 6), .mv (.loc 0), none, 0⟩])
 (.cond (.var 6) (.seq (.region [⟨(.var 3), .mv (.cst (.int .u8 0)), none, 0⟩, ⟨(.var 4), .mv (.cst (.int .i64 2)), none, 0⟩])
 .ret) (.seq (.region [⟨.loc, .mv (.var 1), none, 0⟩, ⟨.loc, .bin .eql (.loc 0) (.cst (.int .u8 0)), none, 0⟩, ⟨(.var 7), .mv (.loc 0), none, 0⟩])
 (.cond (.var 7) (.seq (.region [⟨(.var 3), .mv (.cst (.int .u8 0)), none, 0⟩, ⟨(.var 4), .mv (.cst (.int .i64 0)), none, 0⟩])
 .ret) .skip)))))))
 (.seq (.dregion [⟨.loc, .mv (.var 0), none, 0⟩, ⟨.loc, .mv (.var 0), none, 1⟩, ⟨.loc, .mv (.var 1), none, 2⟩, ⟨.loc, .nilchk (.loc 1), none, 3⟩, ⟨.loc, .fld 4 (.loc 0), none, 4⟩, ⟨.loc, .fld 510 (.loc 0), none, 5⟩, ⟨.loc, .idxA 256 1 (.loc 0) (.loc 3), none, 6⟩, ⟨.loc, .ld (.loc 0), none, 7⟩, ⟨.loc, .mv (.var 0), none, 8⟩, ⟨.loc, .mv (.var 2), none, 9⟩, ⟨.loc, .nilchk (.loc 1), none, 10⟩, ⟨.loc, .fld 4 (.loc 0), none, 11⟩, ⟨.loc, .fld 510 (.loc 0), none, 12⟩, ⟨.loc, .idxA 256 1 (.loc 0) (.loc 3), none, 13⟩, ⟨.loc, .ld (.loc 0), none, 14⟩, ⟨.loc, .bin .sub (.loc 7) (.loc 0), none, 15⟩, ⟨.loc, .bin .add (.loc 0) (.cst (.int .i64 255)), none, 16⟩, ⟨.loc, .nilchk (.loc 16), none, 17⟩, ⟨.loc, .fld 4 (.loc 0), none, 18⟩, ⟨.loc, .fld 0 (.loc 0), none, 19⟩, ⟨.loc, .idxA 510 1 (.loc 0) (.loc 3), none, 20⟩, ⟨.loc, .ld (.loc 0), none, 21⟩, ⟨(.var 3), .mv (.loc 0), none, 22⟩, ⟨(.var 4), .mv (.cst (.int .i64 0)), none, 23⟩] [])
 .ret))),
 [.var 3, .var 4]⟩
/-- code.Coder).Row -/
def e252 : EFunc := ⟨[0, 1, 4, 5, 6, 16, 29, 35, 36, 37],
 [some 0, some 1, none, none, none, none, none, none, none, none],
 (.seq (.region [⟨(.var 2), .mv (.cst (.nilslice)), none, 0⟩])
 (.seq (.seq (.region [⟨.loc, .mv (.var 0), none, 0⟩, ⟨.loc, .call (.cst (.func (.func 188) [] [])) [(.loc 0)], none, 0⟩, ⟨.loc, .mv (.loc 0), none, 0⟩, ⟨.loc, .mv (.var 0), (some ((.loc 0), false)), 0⟩, ⟨.loc, .nilchk (.loc 0), (some ((.loc 1), false)), 0⟩, ⟨.loc, .fld 0 (.loc 0), (some ((.loc 2), false)), 0⟩, ⟨.loc, .mv (.var 1), (some ((.loc 3), false)), 0⟩, ⟨.loc, .call (.cst (.func (.func 287) [] [])) [(.loc 1), (.loc 0)], (some ((.loc 4), false)), 0⟩, ⟨.loc, .un .not (.loc 0), (some ((.loc 5), false)), 0⟩, ⟨(.var 5), .pick (.loc 6) (.cst (.bool true)) (.loc 0), none, 0⟩])
 (.cond (.var 5) (.seq (.region [⟨(.var 2), .mv (.cst (.nilslice)), none, 0⟩])
 .ret) .skip))
 (.seq (.region [⟨.loc, .mv (.var 0), none, 0⟩, ⟨.loc, .nilchk (.loc 0), none, 0⟩, ⟨.loc, .fld 0 (.loc 0), none, 0⟩, ⟨.loc, .fld 0 (.loc 0), none, 0⟩, ⟨.loc, .ld (.loc 0), none, 0⟩, ⟨.loc, .make 1 1 [.int .u8 0] (.loc 0) (.loc 0), none, 0⟩, ⟨(.var 3), .mv (.loc 0), none, 0⟩])
 (.seq (.seq (.region [⟨.loc, .mv (.var 1), none, 0⟩, ⟨.loc, .mv (.var 0), none, 0⟩, ⟨.loc, .nilchk (.loc 0), none, 0⟩, ⟨.loc, .fld 0 (.loc 0), none, 0⟩, ⟨.loc, .fld 0 (.loc 0), none, 0⟩, ⟨.loc, .ld (.loc 0), none, 0⟩, ⟨(.var 6), .bin .lss (.loc 5) (.loc 0), none, 0⟩])
 (.cond (.var 6) (.seq (.region [⟨.loc, .mv (.var 3), none, 0⟩, ⟨.loc, .mv (.var 1), none, 0⟩, ⟨.loc, .idx 1 (.loc 1) (.loc 0), none, 0⟩, ⟨.drop, .st 1 (.loc 0) (.cst (.int .u8 1)), none, 0⟩])
 (.seq (.region [⟨.loc, .mv (.var 3), none, 0⟩, ⟨(.var 2), .mv (.loc 0), none, 0⟩])
 .ret)) .skip))
 (.seq (.seq (.region [⟨.loc, .mv (.var 3), none, 0⟩, ⟨(.var 7), .len false (.loc 0), none, 0⟩, ⟨(.var 8), .mv (.cst (.int .i64 0)), none, 0⟩])
 (.block 0 (.loop (.seq (.region [⟨(.var 9), .bin .lss (.var 8) (.var 7), none, 0⟩])
 (.seq (.cond (.var 9) .skip (.exit 0))
 (.seq (.block 1 (.seq (.region [⟨.loc, .mv (.var 8), none, 0⟩, ⟨(.var 4), .mv (.loc 0), none, 0⟩])
 (.dregion [⟨.loc, .mv (.var 3), none, 0⟩, ⟨.loc, .mv (.var 4), none, 1⟩, ⟨.loc, .mv (.var 0), none, 2⟩, ⟨.loc, .nilchk (.loc 0), none, 3⟩, ⟨.loc, .fld 3 (.loc 0), none, 4⟩, ⟨.loc, .ldn 3 (.loc 0), none, 5⟩, ⟨.loc, .mv (.var 1), none, 6⟩, ⟨.loc, .mv (.var 0), none, 7⟩, ⟨.loc, .nilchk (.loc 0), none, 8⟩, ⟨.loc, .fld 0 (.loc 0), none, 9⟩, ⟨.loc, .fld 0 (.loc 0), none, 10⟩, ⟨.loc, .ld (.loc 0), none, 11⟩, ⟨.loc, .bin .sub (.loc 5) (.loc 0), none, 12⟩, ⟨.loc, .mv (.var 4), none, 13⟩] [⟨⟨.loc, .call (.cst (.func (.func 288) [] [])) [(.loc 8), (.loc 1), (.loc 0)], none, 14⟩, [], [⟨.loc, .idx 1 (.loc 14) (.loc 13), none, 15⟩]⟩, ⟨⟨.drop, .st 1 (.loc 0) (.loc 1), none, 16⟩, [], []⟩])))
 (.region [⟨.loc, .bin .add (.var 8) (.cst (.int .i64 1)), none, 0⟩, ⟨(.var 8), .mv (.loc 0), none, 0⟩])))))))
 (.seq (.region [⟨.loc, .mv (.var 3), none, 0⟩, ⟨(.var 2), .mv (.loc 0), none, 0⟩])
 .ret)))))),
 [.var 2]⟩
/-- code.Coder).sum -/
def e253 : EFunc := ⟨[0, 1, 2, 6, 7, 8, 9, 15, 16, 17, 18],
 [some 0, some 1, some 2, none, none, none, none, none, none, none, none],
 (.seq (.region [⟨(.var 3), .mv (.cst (.nilslice)), none, 0⟩])
 (.seq (.region [⟨.loc, .mv (.var 1), none, 0⟩, ⟨.loc, .idx 1 (.loc 0) (.cst (.int .i64 0)), none, 0⟩, ⟨.loc, .ld (.loc 0), none, 0⟩, ⟨.loc, .len false (.loc 0), none, 0⟩, ⟨.loc, .make 1 1 [.int .u8 0] (.loc 0) (.loc 0), none, 0⟩, ⟨(.var 4), .mv (.loc 0), none, 0⟩])
 (.seq (.seq (.region [⟨(.var 7), .mv (.var 1), none, 0⟩, ⟨(.var 8), .len false (.var 7), none, 0⟩, ⟨(.var 9), .mv (.cst (.int .i64 0)), none, 0⟩])
 (.block 0 (.loop (.seq (.region [⟨(.var 10), .bin .lss (.var 9) (.var 8), none, 0⟩])
 (.seq (.cond (.var 10) .skip (.exit 0))
 (.seq (.block 1 (.seq (.region [⟨.loc, .mv (.var 9), none, 0⟩, ⟨.loc, .idx 1 (.var 7) (.var 9), none, 0⟩, ⟨.loc, .ld (.loc 0), none, 0⟩, ⟨(.var 5), .mv (.loc 2), none, 0⟩, ⟨(.var 6), .mv (.loc 0), none, 0⟩])
 (.dregion [⟨.loc, .mv (.var 0), none, 0⟩, ⟨.loc, .nilchk (.loc 0), none, 1⟩, ⟨.loc, .fld 2 (.loc 0), none, 2⟩, ⟨.loc, .ld (.loc 0), none, 3⟩, ⟨.loc, .mv (.var 2), none, 4⟩, ⟨.loc, .mv (.var 5), none, 5⟩, ⟨.loc, .mv (.var 6), none, 7⟩, ⟨.loc, .mv (.var 4), none, 8⟩] [⟨⟨.loc, .call (.loc 3) [(.loc 2)], none, 6⟩, [(3, .ld (.loc 6), (.loc 5), none)], []⟩, ⟨⟨.loc, .call (.cst (.func (.func 289) [] [])) [(.loc 5), (.loc 0), (.loc 2), (.loc 1)], none, 9⟩, [], [⟨(.var 4), .mv (.loc 0), none, 10⟩]⟩])))
 (.region [⟨.loc, .bin .add (.var 9) (.cst (.int .i64 1)), none, 0⟩, ⟨(.var 9), .mv (.loc 0), none, 0⟩])))))))
 (.seq (.region [⟨.loc, .mv (.var 4), none, 0⟩, ⟨(.var 3), .mv (.loc 0), none, 0⟩])
 .ret)))),
 [.var 3]⟩
/-- code.factors).of -/
def e254 : EFunc := ⟨[0, 1, 4],
 [some 0, some 1, none],
 (.seq (.region [⟨(.var 2), .mv (.cst (.int .u8 0)), none, 0⟩])
 (.seq (.region [⟨.loc, .mv (.var 0), none, 0⟩, ⟨.loc, .mv (.var 1), none, 0⟩, ⟨.loc, .idx 1 (.loc 1) (.loc 0), none, 0⟩, ⟨.loc, .ld (.loc 0), none, 0⟩, ⟨(.var 2), .mv (.loc 0), none, 0⟩])
 .ret)),
 [.var 2]⟩
/-- shard.Put -/
def e255 : EFunc := ⟨[0, 1, 2, 3, 4, 6, 10, 12, 13, 14, 15],
 [some 0, none, none, none, none, none, none, none, none, none, none],
 (.seq (.region [⟨(.var 1), .box 49 (.var 0), none, 0⟩, ⟨(.var 2), .mv (.cst (.nilslice)), none, 0⟩, ⟨(.var 3), .mv (.cst (.int .i64 0)), none, 0⟩])
 (.seq (.seq (.region [⟨.loc, .fld 0 (.var 1), none, 0⟩, ⟨.loc, .ld (.loc 0), none, 0⟩, ⟨.loc, .call (.cst (.func (.func 269) [] [])) [(.loc 0)], none, 0⟩, ⟨(.var 6), .un .not (.loc 0), none, 0⟩])
 (.cond (.var 6) (.seq (.region [⟨(.var 2), .mv (.cst (.nilslice)), none, 0⟩, ⟨(.var 3), .mv (.cst (.int .i64 2)), none, 0⟩])
 .ret) .skip))
 (.seq (.region [⟨(.var 4), .mv (.cst (.nilslice)), none, 0⟩])
 (.seq (.seq (.region [⟨.loc, .ldn 49 (.var 1), none, 0⟩, ⟨(.var 7), .call (.cst (.func (.func 290) [] [])) [(.loc 0)], none, 0⟩, ⟨(.var 8), .len false (.var 7), none, 0⟩, ⟨(.var 9), .mv (.cst (.int .i64 0)), none, 0⟩])
 (.block 0 (.loop (.seq (.region [⟨(.var 10), .bin .lss (.var 9) (.var 8), none, 0⟩])
 (.seq (.cond (.var 10) .skip (.exit 0))
 (.seq (.block 1 (.seq (.region [⟨.loc, .idx 2 (.var 7) (.var 9), none, 0⟩, ⟨.loc, .ldn 2 (.loc 0), none, 0⟩, ⟨(.var 5), .alloc [.int .i64 0, .int .u64 0], none, 0⟩, ⟨.drop, .st 2 (.var 5) (.loc 0), none, 0⟩])
 (.region [⟨.loc, .mv (.var 4), none, 0⟩, ⟨.loc, .fld 0 (.var 5), none, 0⟩, ⟨.loc, .ld (.loc 0), none, 0⟩, ⟨.loc, .fld 1 (.var 5), none, 0⟩, ⟨.loc, .ld (.loc 0), none, 0⟩, ⟨.loc, .call (.cst (.func (.func 200) [] [])) [(.loc 4), (.loc 2), (.loc 0)], none, 0⟩, ⟨(.var 4), .mv (.loc 0), none, 0⟩])))
 (.region [⟨.loc, .bin .add (.var 9) (.cst (.int .i64 1)), none, 0⟩, ⟨(.var 9), .mv (.loc 0), none, 0⟩])))))))
 (.seq (.region [⟨.loc, .mv (.var 4), none, 0⟩, ⟨.loc, .fld 5 (.var 1), none, 0⟩, ⟨.loc, .subA 44 1 (.loc 0) none none none, none, 0⟩, ⟨.loc, .append 1 1 (.loc 2) (.loc 0), none, 0⟩, ⟨(.var 4), .mv (.loc 0), none, 0⟩])
 (.seq (.region [⟨.loc, .mv (.var 4), none, 0⟩, ⟨.loc, .mv (.var 4), none, 0⟩, ⟨.loc, .call (.cst (.func (.func 267) [] [])) [(.loc 0)], none, 0⟩, ⟨.loc, .conv .u64 (.loc 0), none, 0⟩, ⟨.loc, .call (.cst (.func (.func 200) [] [])) [(.loc 3), (.cst (.int .i64 4)), (.loc 0)], none, 0⟩, ⟨(.var 2), .mv (.loc 0), none, 0⟩, ⟨(.var 3), .mv (.cst (.int .i64 0)), none, 0⟩])
 .ret)))))),
 [.var 2, .var 3]⟩
/-- array.Array).Write -/
def e256 : EFunc := ⟨[0, 1, 2, 3, 8, 9, 10, 18],
 [some 0, some 1, some 2, some 3, none, none, none, none],
 (.seq (.region [⟨(.var 4), .mv (.cst (.int .i64 0)), none, 0⟩])
 (.seq (.region [⟨.loc, .mv (.var 0), none, 0⟩, ⟨.loc, .mv (.var 1), none, 0⟩, ⟨.loc, .call (.cst (.func (.func 171) [] [])) [(.loc 1), (.loc 0)], none, 0⟩, ⟨.loc, .mv (.loc 0), none, 0⟩, ⟨.loc, .ext 0 (.loc 0), none, 0⟩, ⟨.loc, .ext 1 (.loc 1), none, 0⟩, ⟨(.var 5), .mv (.loc 1), none, 0⟩, ⟨(.var 6), .mv (.loc 0), none, 0⟩])
 (.seq (.seq (.region [⟨.loc, .mv (.var 6), none, 0⟩, ⟨(.var 7), .bin .neq (.loc 0) (.cst (.int .i64 0)), none, 0⟩])
 (.cond (.var 7) (.seq (.region [⟨.loc, .mv (.var 6), none, 0⟩, ⟨(.var 4), .mv (.loc 0), none, 0⟩])
 .ret) .skip))
 (.seq (.region [⟨.loc, .mv (.var 5), none, 0⟩, ⟨.loc, .mv (.var 2), none, 0⟩, ⟨.loc, .mv (.var 3), none, 0⟩, ⟨.loc, .call (.cst (.func (.func 291) [] [])) [(.loc 2), (.loc 1), (.loc 0)], none, 0⟩, ⟨(.var 4), .mv (.loc 0), none, 0⟩])
 .ret)))),
 [.var 4]⟩
/-- stripe.set).home -/
def e257 : EFunc := ⟨[0, 1, 4],
 [some 0, some 1, none],
 (.seq (.region [⟨(.var 2), .mv (.cst (.int .i64 0)), none, 0⟩])
 (.seq (.dregion [⟨.loc, .mv (.var 0), none, 0⟩, ⟨.loc, .nilchk (.loc 0), none, 1⟩, ⟨.loc, .fld 0 (.loc 0), none, 2⟩, ⟨.loc, .ld (.loc 0), none, 3⟩, ⟨.loc, .mv (.var 0), none, 5⟩, ⟨.loc, .nilchk (.loc 0), none, 6⟩, ⟨.loc, .fld 2 (.loc 0), none, 7⟩, ⟨.loc, .fld 1 (.loc 0), none, 8⟩, ⟨.loc, .ld (.loc 0), none, 9⟩, ⟨.loc, .mv (.var 1), none, 10⟩] [⟨⟨.loc, .call (.cst (.func (.func 96) [] [])) [(.loc 6)], none, 4⟩, [(9, .ld (.loc 3), (.loc 2), none)], []⟩, ⟨⟨.loc, .call (.cst (.func (.func 100) [] [])) [(.loc 0), (.loc 2), (.loc 1)], none, 11⟩, [], [⟨(.var 2), .mv (.loc 0), none, 12⟩]⟩])
 .ret)),
 [.var 2]⟩
/-- array.Array).Read -/
def e258 : EFunc := ⟨[0, 1, 2, 6, 7, 8, 9, 17],
 [some 0, some 1, some 2, none, none, none, none, none],
 (.seq (.region [⟨(.var 3), .mv (.cst (.nilslice)), none, 0⟩, ⟨(.var 4), .mv (.cst (.int .i64 0)), none, 0⟩])
 (.seq (.region [⟨.loc, .mv (.var 0), none, 0⟩, ⟨.loc, .mv (.var 1), none, 0⟩, ⟨.loc, .call (.cst (.func (.func 171) [] [])) [(.loc 1), (.loc 0)], none, 0⟩, ⟨.loc, .mv (.loc 0), none, 0⟩, ⟨.loc, .ext 0 (.loc 0), none, 0⟩, ⟨.loc, .ext 1 (.loc 1), none, 0⟩, ⟨(.var 5), .mv (.loc 1), none, 0⟩, ⟨(.var 6), .mv (.loc 0), none, 0⟩])
 (.seq (.seq (.region [⟨.loc, .mv (.var 6), none, 0⟩, ⟨(.var 7), .bin .neq (.loc 0) (.cst (.int .i64 0)), none, 0⟩])
 (.cond (.var 7) (.seq (.region [⟨.loc, .mv (.var 6), none, 0⟩, ⟨(.var 3), .mv (.cst (.nilslice)), none, 0⟩, ⟨(.var 4), .mv (.loc 0), none, 0⟩])
 .ret) .skip))
 (.seq (.region [⟨.loc, .mv (.var 5), none, 0⟩, ⟨.loc, .mv (.var 2), none, 0⟩, ⟨.loc, .call (.cst (.func (.func 292) [] [])) [(.loc 1), (.loc 0)], none, 0⟩, ⟨.loc, .ext 0 (.loc 0), none, 0⟩, ⟨.loc, .ext 1 (.loc 1), none, 0⟩, ⟨(.var 3), .mv (.loc 1), none, 0⟩, ⟨(.var 4), .mv (.loc 0), none, 0⟩])
 .ret)))),
 [.var 3, .var 4]⟩
/-- shard.Is -/
def e259 : EFunc := ⟨[0, 1, 2, 3, 4, 6],
 [some 0, some 1, some 2, none, none, none],
 (.seq (.region [⟨(.var 3), .box 49 (.var 0), none, 0⟩, ⟨(.var 4), .box 3 (.var 1), none, 0⟩, ⟨(.var 5), .mv (.cst (.bool false)), none, 0⟩])
 (.seq (.region [⟨.loc, .fld 0 (.var 3), none, 0⟩, ⟨.loc, .ld (.loc 0), none, 0⟩, ⟨.loc, .fld 0 (.var 4), none, 0⟩, ⟨.loc, .ld (.loc 0), none, 0⟩, ⟨.loc, .bin .eql (.loc 2) (.loc 0), none, 0⟩, ⟨.loc, .mv (.loc 0), none, 0⟩, ⟨.loc, .fld 2 (.var 3), (some ((.loc 0), true)), 0⟩, ⟨.loc, .ld (.loc 0), (some ((.loc 1), true)), 0⟩, ⟨.loc, .conv .i64 (.loc 0), (some ((.loc 2), true)), 0⟩, ⟨.loc, .fld 1 (.var 4), (some ((.loc 3), true)), 0⟩, ⟨.loc, .ld (.loc 0), (some ((.loc 4), true)), 0⟩, ⟨.loc, .bin .eql (.loc 2) (.loc 0), (some ((.loc 5), true)), 0⟩, ⟨.loc, .pick (.loc 6) (.loc 0) (.cst (.bool false)), none, 0⟩, ⟨.loc, .mv (.loc 0), none, 0⟩, ⟨.loc, .fld 3 (.var 3), (some ((.loc 0), true)), 0⟩, ⟨.loc, .ld (.loc 0), (some ((.loc 1), true)), 0⟩, ⟨.loc, .fld 2 (.var 4), (some ((.loc 2), true)), 0⟩, ⟨.loc, .ld (.loc 0), (some ((.loc 3), true)), 0⟩, ⟨.loc, .bin .eql (.loc 2) (.loc 0), (some ((.loc 4), true)), 0⟩, ⟨.loc, .pick (.loc 5) (.loc 0) (.cst (.bool false)), none, 0⟩, ⟨.loc, .mv (.loc 0), none, 0⟩, ⟨.loc, .fld 1 (.var 3), (some ((.loc 0), true)), 0⟩, ⟨.loc, .ld (.loc 0), (some ((.loc 1), true)), 0⟩, ⟨.loc, .conv .i64 (.loc 0), (some ((.loc 2), true)), 0⟩, ⟨.loc, .mv (.var 2), (some ((.loc 3), true)), 0⟩, ⟨.loc, .bin .eql (.loc 1) (.loc 0), (some ((.loc 4), true)), 0⟩, ⟨.loc, .pick (.loc 5) (.loc 0) (.cst (.bool false)), none, 0⟩, ⟨(.var 5), .mv (.loc 0), none, 0⟩])
 .ret)),
 [.var 5]⟩
/-- decode.there -/
def e260 : EFunc := ⟨[0, 1, 3, 4, 5, 6, 7, 8, 9, 12, 13, 14, 15, 16, 22, 29, 40],
 [some 0, some 1, none, none, none, none, none, none, none, none, none, none, none, none, none, none, none],
 (.seq (.region [⟨(.var 2), .box 1 (.var 1), none, 0⟩, ⟨(.var 3), .mv (.cst (.nilslice)), none, 0⟩, ⟨(.var 4), .mv (.cst (.int .i64 0)), none, 0⟩])
 (.seq (.seq (.region [⟨.loc, .mv (.var 0), none, 0⟩, ⟨.loc, .call (.cst (.func (.func 95) [] [])) [(.loc 0)], none, 0⟩, ⟨(.var 9), .bin .eql (.loc 0) (.cst (.int .i64 0)), none, 0⟩])
 (.cond (.var 9) (.seq (.region [⟨(.var 3), .mv (.cst (.nilslice)), none, 0⟩, ⟨(.var 4), .mv (.cst (.int .i64 1)), none, 0⟩])
 .ret) .skip))
 (.seq (.region [⟨(.var 5), .alloc [.nilslice], none, 0⟩])
 (.seq (.seq (.region [⟨(.var 10), .ld (.var 2), none, 0⟩, ⟨(.var 11), .len false (.var 10), none, 0⟩, ⟨(.var 12), .mv (.cst (.int .i64 0)), none, 0⟩])
 (.block 0 (.loop (.seq (.region [⟨(.var 13), .bin .lss (.var 12) (.var 11), none, 0⟩])
 (.seq (.cond (.var 13) .skip (.exit 0))
 (.seq (.block 1 (.seq (.region [⟨.loc, .mv (.var 12), none, 0⟩, ⟨.loc, .idx 1 (.var 10) (.var 12), none, 0⟩, ⟨.loc, .ld (.loc 0), none, 0⟩, ⟨(.var 6), .mv (.loc 2), none, 0⟩, ⟨(.var 7), .mv (.loc 0), none, 0⟩])
 (.seq (.region [⟨.loc, .mv (.var 7), none, 0⟩, ⟨.loc, .len false (.loc 0), none, 0⟩, ⟨(.var 14), .bin .gtr (.loc 0) (.cst (.int .i64 0)), none, 0⟩])
 (.cond (.var 14) (.region [⟨.loc, .ld (.var 5), none, 0⟩, ⟨.loc, .mv (.var 6), none, 0⟩, ⟨.loc, .buildS 1 1 [.int .i64 0] [(0, 1, (.loc 0))], none, 0⟩, ⟨.loc, .append 1 8 (.loc 2) (.loc 0), none, 0⟩, ⟨.drop, .st 1 (.var 5) (.loc 0), none, 0⟩]) .skip))))
 (.region [⟨.loc, .bin .add (.var 12) (.cst (.int .i64 1)), none, 0⟩, ⟨(.var 12), .mv (.loc 0), none, 0⟩])))))))
 (.seq (.region [⟨.loc, .mkfn (.func 293) [] [(.var 2), (.var 5)], none, 0⟩, ⟨(.var 8), .mv (.loc 0), none, 0⟩])
 (.seq (.block 2 (.seq (.dregion [⟨.loc, .ld (.var 2), none, 0⟩, ⟨.loc, .len false (.loc 0), none, 1⟩, ⟨.loc, .mv (.var 0), none, 2⟩] [⟨⟨.loc, .call (.cst (.func (.func 95) [] [])) [(.loc 0)], none, 3⟩, [(0, .ld (.var 2), (.loc 3), none)], [⟨.loc, .bin .neq (.loc 2) (.loc 0), none, 4⟩, ⟨.loc, .mv (.loc 0), none, 5⟩, ⟨.loc, .ld (.var 5), (some ((.loc 0), false)), 6⟩, ⟨.loc, .mv (.var 8), (some ((.loc 1), false)), 7⟩]⟩, ⟨⟨.loc, .call (.cst (.func (.func 294) [] [])) [(.loc 1), (.loc 0)], (some ((.loc 2), false)), 8⟩, [], [⟨.loc, .pick (.loc 3) (.cst (.bool true)) (.loc 0), none, 9⟩, ⟨(.var 15), .mv (.loc 0), none, 10⟩]⟩])
 (.cond (.var 15) (.seq (.region [⟨(.var 3), .mv (.cst (.nilslice)), none, 0⟩, ⟨(.var 4), .mv (.cst (.int .i64 2)), none, 0⟩])
 .ret) (.seq (.dregion [⟨.loc, .ld (.var 5), none, 0⟩, ⟨.loc, .len false (.loc 0), none, 1⟩, ⟨.loc, .mv (.var 0), none, 2⟩] [⟨⟨.loc, .call (.cst (.func (.func 111) [] [])) [(.loc 0)], none, 3⟩, [(0, .ld (.var 5), (.loc 3), none)], [⟨.loc, .bin .lss (.loc 2) (.loc 0), none, 4⟩, ⟨(.var 16), .mv (.loc 0), none, 5⟩]⟩])
 (.cond (.var 16) (.seq (.region [⟨(.var 3), .mv (.cst (.nilslice)), none, 0⟩, ⟨(.var 4), .mv (.cst (.int .i64 60)), none, 0⟩])
 .ret) .skip)))))
 (.seq (.region [⟨.loc, .ld (.var 5), none, 0⟩, ⟨(.var 3), .mv (.loc 0), none, 0⟩, ⟨(.var 4), .mv (.cst (.int .i64 0)), none, 0⟩])
 .ret))))))),
 [.var 3, .var 4]⟩
/-- slices.Clone[[]byte,byte] -/
def e261 : EFunc := ⟨[0, 2, 4],
 [some 0, none, none],
 (.seq (.region [⟨(.var 1), .mv (.cst (.nilslice)), none, 0⟩])
 (.seq (.seq (.region [⟨.loc, .mv (.var 0), none, 0⟩, ⟨(.var 2), .isnil 1 false (.loc 0), none, 0⟩])
 (.cond (.var 2) (.seq (.region [⟨(.var 1), .mv (.cst (.nilslice)), none, 0⟩])
 .ret) .skip))
 (.seq (.region [⟨.loc, .buildS 0 1 [] [], none, 0⟩, ⟨.loc, .mv (.var 0), none, 0⟩, ⟨.loc, .append 1 1 (.loc 1) (.loc 0), none, 0⟩, ⟨(.var 1), .mv (.loc 0), none, 0⟩])
 .ret))),
 [.var 1]⟩
/-- decode.plan -/
def e262 : EFunc := ⟨[0, 1, 2, 6, 7, 8, 9, 10, 11, 19],
 [some 0, some 1, some 2, none, none, none, none, none, none, none],
 (.seq (.region [⟨(.var 3), .mv (.cst (.nilslice)), none, 0⟩, ⟨(.var 4), .mv (.cst (.int .i64 0)), none, 0⟩])
 (.seq (.region [⟨.loc, .mv (.var 0), none, 0⟩, ⟨.loc, .mv (.var 1), none, 0⟩, ⟨.loc, .call (.cst (.func (.func 295) [] [])) [(.loc 1), (.loc 0)], none, 0⟩, ⟨.loc, .mv (.loc 0), none, 0⟩, ⟨.loc, .ext 0 (.loc 0), none, 0⟩, ⟨.loc, .ext 1 (.loc 1), none, 0⟩, ⟨(.var 5), .alloc [.int .i64 0, .int .i64 0, .nilslice], none, 0⟩, ⟨.drop, .st 3 (.var 5) (.loc 1), none, 0⟩, ⟨(.var 6), .mv (.loc 0), none, 0⟩])
 (.seq (.seq (.region [⟨.loc, .mv (.var 6), none, 0⟩, ⟨(.var 9), .bin .neq (.loc 0) (.cst (.int .i64 0)), none, 0⟩])
 (.cond (.var 9) (.seq (.region [⟨.loc, .mv (.var 6), none, 0⟩, ⟨(.var 3), .mv (.cst (.nilslice)), none, 0⟩, ⟨(.var 4), .mv (.loc 0), none, 0⟩])
 .ret) .skip))
 (.seq (.region [⟨.loc, .mv (.var 0), none, 0⟩, ⟨.loc, .mv (.var 2), none, 0⟩, ⟨.loc, .call (.cst (.func (.func 252) [] [])) [(.loc 1), (.loc 0)], none, 0⟩, ⟨(.var 7), .mv (.loc 0), none, 0⟩])
 (.seq (.dregion [⟨.loc, .mv (.var 0), none, 0⟩, ⟨.loc, .mv (.var 7), none, 2⟩, ⟨.loc, .len false (.loc 0), none, 3⟩, ⟨.loc, .mv (.var 7), none, 4⟩, ⟨.loc, .build [.int .i64 0, .int .i64 0, .nilslice] [(0, 1, (.cst (.int .i64 1))), (1, 1, (.loc 1)), (2, 1, (.loc 0))], none, 5⟩, ⟨.loc, .ldn 3 (.var 5), none, 6⟩, ⟨(.var 8), .alloc [.int .i64 0, .int .i64 0, .nilslice], none, 11⟩] [⟨⟨.loc, .call (.cst (.func (.func 297) [] [])) [(.loc 5)], none, 1⟩, [(6, .ldn 3 (.var 5), (.loc 1), none)], []⟩, ⟨⟨.loc, .call (.cst (.func (.func 296) [] [])) [(.loc 0), (.loc 2), (.loc 1)], none, 7⟩, [], [⟨.loc, .mv (.loc 0), none, 8⟩, ⟨.loc, .ext 0 (.loc 0), none, 9⟩, ⟨.loc, .ext 1 (.loc 1), none, 10⟩]⟩, ⟨⟨.drop, .st 3 (.var 8) (.loc 1), none, 12⟩, [], [⟨(.var 6), .mv (.loc 0), none, 13⟩]⟩])
 (.seq (.region [⟨.loc, .fld 2 (.var 8), none, 0⟩, ⟨.loc, .ld (.loc 0), none, 0⟩, ⟨.loc, .mv (.var 6), none, 0⟩, ⟨(.var 3), .mv (.loc 1), none, 0⟩, ⟨(.var 4), .mv (.loc 0), none, 0⟩])
 .ret)))))),
 [.var 3, .var 4]⟩
/-- decode.made -/
def e263 : EFunc := ⟨[0, 1, 2, 3, 8, 9, 10, 11, 20, 21, 22, 23],
 [some 0, some 1, some 2, some 3, none, none, none, none, none, none, none, none],
 (.seq (.region [⟨(.var 4), .mv (.cst (.nilslice)), none, 0⟩])
 (.seq (.region [⟨.loc, .mv (.var 1), none, 0⟩, ⟨.loc, .mv (.var 2), none, 0⟩, ⟨.loc, .idx 1 (.loc 0) (.cst (.int .i64 0)), none, 0⟩, ⟨.loc, .ld (.loc 0), none, 0⟩, ⟨.loc, .idx 1 (.loc 3) (.loc 0), none, 0⟩, ⟨.loc, .ld (.loc 0), none, 0⟩, ⟨.loc, .len false (.loc 0), none, 0⟩, ⟨.loc, .make 1 1 [.int .u8 0] (.loc 0) (.loc 0), none, 0⟩, ⟨(.var 5), .mv (.loc 0), none, 0⟩])
 (.seq (.seq (.region [⟨(.var 8), .mv (.var 2), none, 0⟩, ⟨(.var 9), .len false (.var 8), none, 0⟩, ⟨(.var 10), .mv (.cst (.int .i64 0)), none, 0⟩])
 (.block 0 (.loop (.seq (.region [⟨(.var 11), .bin .lss (.var 10) (.var 9), none, 0⟩])
 (.seq (.cond (.var 11) .skip (.exit 0))
 (.seq (.block 1 (.seq (.region [⟨.loc, .mv (.var 10), none, 0⟩, ⟨.loc, .idx 1 (.var 8) (.var 10), none, 0⟩, ⟨.loc, .ld (.loc 0), none, 0⟩, ⟨(.var 6), .mv (.loc 2), none, 0⟩, ⟨(.var 7), .mv (.loc 0), none, 0⟩])
 (.dregion [⟨.loc, .mv (.var 0), none, 0⟩, ⟨.loc, .mv (.var 3), none, 2⟩, ⟨.loc, .mv (.var 6), none, 3⟩, ⟨.loc, .idx 1 (.loc 1) (.loc 0), none, 4⟩, ⟨.loc, .ld (.loc 0), none, 5⟩, ⟨.loc, .mv (.var 1), none, 6⟩, ⟨.loc, .mv (.var 7), none, 7⟩, ⟨.loc, .idx 1 (.loc 1) (.loc 0), none, 8⟩, ⟨.loc, .ld (.loc 0), none, 9⟩, ⟨.loc, .mv (.var 5), none, 10⟩] [⟨⟨.loc, .call (.cst (.func (.func 297) [] [])) [(.loc 9)], none, 1⟩, [(5, .ld (.loc 7), (.loc 6), none), (9, .ld (.loc 3), (.loc 2), none)], []⟩, ⟨⟨.loc, .call (.cst (.func (.func 289) [] [])) [(.loc 0), (.loc 6), (.loc 2), (.loc 1)], none, 11⟩, [], [⟨(.var 5), .mv (.loc 0), none, 12⟩]⟩])))
 (.region [⟨.loc, .bin .add (.var 10) (.cst (.int .i64 1)), none, 0⟩, ⟨(.var 10), .mv (.loc 0), none, 0⟩])))))))
 (.seq (.region [⟨.loc, .mv (.var 5), none, 0⟩, ⟨(.var 4), .mv (.loc 0), none, 0⟩])
 .ret)))),
 [.var 4]⟩
/-- code.even -/
def e264 : EFunc := ⟨[0, 2, 4, 5, 6, 7, 8, 17],
 [some 0, none, none, none, none, none, none, none],
 (.seq (.region [⟨(.var 1), .mv (.cst (.bool false)), none, 0⟩])
 (.seq (.seq (.region [⟨(.var 3), .mv (.var 0), none, 0⟩, ⟨(.var 4), .len false (.var 3), none, 0⟩, ⟨(.var 5), .mv (.cst (.int .i64 0)), none, 0⟩])
 (.block 0 (.loop (.seq (.region [⟨(.var 6), .bin .lss (.var 5) (.var 4), none, 0⟩])
 (.seq (.cond (.var 6) .skip (.exit 0))
 (.seq (.block 1 (.seq (.region [⟨.loc, .idx 1 (.var 3) (.var 5), none, 0⟩, ⟨.loc, .ld (.loc 0), none, 0⟩, ⟨(.var 2), .mv (.loc 0), none, 0⟩])
 (.seq (.region [⟨.loc, .mv (.var 2), none, 0⟩, ⟨.loc, .len false (.loc 0), none, 0⟩, ⟨.loc, .mv (.var 0), none, 0⟩, ⟨.loc, .idx 1 (.loc 0) (.cst (.int .i64 0)), none, 0⟩, ⟨.loc, .ld (.loc 0), none, 0⟩, ⟨.loc, .len false (.loc 0), none, 0⟩, ⟨(.var 7), .bin .neq (.loc 4) (.loc 0), none, 0⟩])
 (.cond (.var 7) (.seq (.region [⟨(.var 1), .mv (.cst (.bool false)), none, 0⟩])
 .ret) .skip))))
 (.region [⟨.loc, .bin .add (.var 5) (.cst (.int .i64 1)), none, 0⟩, ⟨(.var 5), .mv (.loc 0), none, 0⟩])))))))
 (.seq (.region [⟨(.var 1), .mv (.cst (.bool true)), none, 0⟩])
 .ret))),
 [.var 1]⟩
/-- drive.Drive).ready -/
def e265 : EFunc := ⟨[0, 1, 4, 5, 8, 13],
 [some 0, some 1, none, none, none, none],
 (.seq (.region [⟨(.var 2), .mv (.cst (.int .i64 0)), none, 0⟩])
 (.seq (.block 0 (.seq (.region [⟨.loc, .mv (.var 0), none, 0⟩, ⟨.loc, .call (.cst (.func (.func 168) [] [])) [(.loc 0)], none, 0⟩, ⟨(.var 3), .mv (.loc 0), none, 0⟩])
 (.cond (.var 3) (.seq (.region [⟨(.var 2), .mv (.cst (.int .i64 1)), none, 0⟩])
 .ret) (.seq (.region [⟨.loc, .mv (.var 0), none, 0⟩, ⟨.loc, .nilchk (.loc 0), none, 0⟩, ⟨.loc, .fld 4 (.loc 0), none, 0⟩, ⟨.loc, .ld (.loc 0), none, 0⟩, ⟨(.var 4), .mv (.loc 0), none, 0⟩])
 (.cond (.var 4) (.seq (.region [⟨(.var 2), .mv (.cst (.int .i64 90)), none, 0⟩])
 .ret) (.seq (.region [⟨.loc, .mv (.var 0), none, 0⟩, ⟨.loc, .mv (.var 1), none, 0⟩, ⟨.loc, .call (.cst (.func (.func 298) [] [])) [(.loc 1), (.loc 0)], none, 0⟩, ⟨.loc, .un .not (.loc 0), none, 0⟩, ⟨(.var 5), .mv (.loc 0), none, 0⟩])
 (.cond (.var 5) (.seq (.region [⟨(.var 2), .mv (.cst (.int .i64 2)), none, 0⟩])
 .ret) .skip)))))))
 (.seq (.region [⟨(.var 2), .mv (.cst (.int .i64 0)), none, 0⟩])
 .ret))),
 [.var 2]⟩
/-- num.Get -/
def e266 : EFunc := ⟨[0, 1, 2, 6, 7, 8, 9, 10, 26, 32, 38, 39, 40, 41],
 [some 0, some 1, some 2, none, none, none, none, none, none, none, none, none, none, none],
 (.seq (.region [⟨(.var 3), .mv (.cst (.int .u64 0)), none, 0⟩, ⟨(.var 4), .mv (.cst (.int .i64 0)), none, 0⟩])
 (.seq (.seq (.region [⟨.loc, .mv (.var 2), none, 0⟩, ⟨.loc, .bin .lss (.loc 0) (.cst (.int .i64 1)), none, 0⟩, ⟨.loc, .mv (.loc 0), none, 0⟩, ⟨.loc, .mv (.var 2), (some ((.loc 0), false)), 0⟩, ⟨.loc, .bin .gtr (.loc 0) (.cst (.int .i64 8)), (some ((.loc 1), false)), 0⟩, ⟨.loc, .pick (.loc 2) (.cst (.bool true)) (.loc 0), none, 0⟩, ⟨.loc, .mv (.loc 0), none, 0⟩, ⟨.loc, .mv (.var 1), (some ((.loc 0), false)), 0⟩, ⟨.loc, .bin .lss (.loc 0) (.cst (.int .i64 0)), (some ((.loc 1), false)), 0⟩, ⟨.loc, .pick (.loc 2) (.cst (.bool true)) (.loc 0), none, 0⟩, ⟨.loc, .mv (.loc 0), none, 0⟩, ⟨.loc, .mv (.var 1), (some ((.loc 0), false)), 0⟩, ⟨.loc, .mv (.var 0), (some ((.loc 1), false)), 0⟩, ⟨.loc, .len false (.loc 0), (some ((.loc 2), false)), 0⟩, ⟨.loc, .bin .gtr (.loc 2) (.loc 0), (some ((.loc 3), false)), 0⟩, ⟨(.var 8), .pick (.loc 4) (.cst (.bool true)) (.loc 0), none, 0⟩])
 (.cond (.var 8) (.seq (.region [⟨(.var 3), .mv (.cst (.int .u64 0)), none, 0⟩, ⟨(.var 4), .mv (.cst (.int .i64 2)), none, 0⟩])
 .ret) .skip))
 (.seq (.seq (.region [⟨.loc, .mv (.var 2), none, 0⟩, ⟨.loc, .mv (.var 0), none, 0⟩, ⟨.loc, .len false (.loc 0), none, 0⟩, ⟨.loc, .mv (.var 1), none, 0⟩, ⟨.loc, .bin .sub (.loc 1) (.loc 0), none, 0⟩, ⟨(.var 9), .bin .gtr (.loc 4) (.loc 0), none, 0⟩])
 (.cond (.var 9) (.seq (.region [⟨(.var 3), .mv (.cst (.int .u64 0)), none, 0⟩, ⟨(.var 4), .mv (.cst (.int .i64 5)), none, 0⟩])
 .ret) .skip))
 (.seq (.region [⟨(.var 5), .mv (.cst (.int .u64 0)), none, 0⟩])
 (.seq (.seq (.region [⟨.loc, .mv (.var 0), none, 0⟩, ⟨.loc, .mv (.var 1), none, 0⟩, ⟨.loc, .mv (.var 1), none, 0⟩, ⟨.loc, .mv (.var 2), none, 0⟩, ⟨.loc, .bin .add (.loc 1) (.loc 0), none, 0⟩, ⟨(.var 10), .sub 1 (.loc 4) (some (.loc 3)) (some (.loc 0)) none, none, 0⟩, ⟨(.var 11), .len false (.var 10), none, 0⟩, ⟨(.var 12), .mv (.cst (.int .i64 0)), none, 0⟩])
 (.block 0 (.loop (.seq (.region [⟨(.var 13), .bin .lss (.var 12) (.var 11), none, 0⟩])
 (.seq (.cond (.var 13) .skip (.exit 0))
 (.seq (.block 1 (.seq (.region [⟨.loc, .mv (.var 12), none, 0⟩, ⟨.loc, .idx 1 (.var 10) (.var 12), none, 0⟩, ⟨.loc, .ld (.loc 0), none, 0⟩, ⟨(.var 6), .mv (.loc 2), none, 0⟩, ⟨(.var 7), .mv (.loc 0), none, 0⟩])
 (.region [⟨.loc, .mv (.var 5), none, 0⟩, ⟨.loc, .mv (.var 7), none, 0⟩, ⟨.loc, .conv .u64 (.loc 0), none, 0⟩, ⟨.loc, .mv (.var 6), none, 0⟩, ⟨.loc, .bin .mul (.cst (.int .i64 8)) (.loc 0), none, 0⟩, ⟨.loc, .bin .shl (.loc 2) (.loc 0), none, 0⟩, ⟨.loc, .bin .or (.loc 5) (.loc 0), none, 0⟩, ⟨(.var 5), .mv (.loc 0), none, 0⟩])))
 (.region [⟨.loc, .bin .add (.var 12) (.cst (.int .i64 1)), none, 0⟩, ⟨(.var 12), .mv (.loc 0), none, 0⟩])))))))
 (.seq (.region [⟨.loc, .mv (.var 5), none, 0⟩, ⟨(.var 3), .mv (.loc 0), none, 0⟩, ⟨(.var 4), .mv (.cst (.int .i64 0)), none, 0⟩])
 .ret)))))),
 [.var 3, .var 4]⟩
/-- crc.Sum -/
def e267 : EFunc := ⟨[0, 2],
 [some 0, none],
 (.seq (.region [⟨(.var 1), .mv (.cst (.int .u32 0)), none, 0⟩])
 (.seq (.region [⟨.loc, .mv (.var 0), none, 0⟩, ⟨.loc, .call (.cst (.func (.func 299) [] [])) [(.cst (.int .u32 0)), (.loc 0)], none, 0⟩, ⟨(.var 1), .mv (.loc 0), none, 0⟩])
 .ret)),
 [.var 1]⟩
/-- shard.taker -/
def e268 : EFunc := ⟨[0, 1, 2, 3],
 [some 0, none, none, none],
 (.seq (.region [⟨(.var 1), .box 1 (.var 0), none, 0⟩, ⟨(.var 2), .mv (.cst (.nilfunc)), none, 0⟩])
 (.seq (.region [⟨(.var 3), .alloc [.int .i64 0], none, 0⟩, ⟨.drop, .st 1 (.var 3) (.cst (.int .i64 0)), none, 0⟩])
 (.seq (.region [⟨.loc, .mkfn (.func 300) [] [(.var 1), (.var 3)], none, 0⟩, ⟨(.var 2), .mv (.loc 0), none, 0⟩])
 .ret))),
 [.var 2]⟩
/-- shard.kind -/
def e269 : EFunc := ⟨[0, 2],
 [some 0, none],
 (.seq (.region [⟨(.var 1), .mv (.cst (.bool false)), none, 0⟩])
 (.seq (.region [⟨.loc, .mv (.var 0), none, 0⟩, ⟨.loc, .bin .geq (.loc 0) (.cst (.int .u8 1)), none, 0⟩, ⟨.loc, .mv (.loc 0), none, 0⟩, ⟨.loc, .mv (.var 0), (some ((.loc 0), true)), 0⟩, ⟨.loc, .bin .leq (.loc 0) (.cst (.int .u8 4)), (some ((.loc 1), true)), 0⟩, ⟨.loc, .pick (.loc 2) (.loc 0) (.cst (.bool false)), none, 0⟩, ⟨(.var 1), .mv (.loc 0), none, 0⟩])
 .ret)),
 [.var 1]⟩
/-- field.Field).ready -/
def e286 : EFunc := ⟨[0, 2, 11],
 [some 0, none, none],
 (.seq (.region [⟨(.var 1), .mv (.cst (.bool false)), none, 0⟩])
 (.seq (.seq (.region [⟨.loc, .mv (.var 0), none, 0⟩, ⟨.loc, .isnil 0 false (.loc 0), none, 0⟩, ⟨.loc, .mv (.loc 0), none, 0⟩, ⟨.loc, .mv (.var 0), (some ((.loc 0), false)), 0⟩, ⟨.loc, .nilchk (.loc 0), (some ((.loc 1), false)), 0⟩, ⟨.loc, .fld 3 (.loc 0), (some ((.loc 2), false)), 0⟩, ⟨.loc, .ld (.loc 0), (some ((.loc 3), false)), 0⟩, ⟨.loc, .un .not (.loc 0), (some ((.loc 4), false)), 0⟩, ⟨(.var 2), .pick (.loc 5) (.cst (.bool true)) (.loc 0), none, 0⟩])
 (.cond (.var 2) (.seq (.region [⟨(.var 1), .mv (.cst (.bool false)), none, 0⟩])
 .ret) .skip))
 (.seq (.region [⟨.loc, .mv (.var 0), none, 0⟩, ⟨.loc, .nilchk (.loc 0), none, 0⟩, ⟨.loc, .fld 0 (.loc 0), none, 0⟩, ⟨.loc, .mv (.var 0), none, 0⟩, ⟨.loc, .mkfn (.func 309) [(.loc 0)] [], none, 0⟩, ⟨.loc, .call (.cst (.func (.func 308) [] [])) [(.loc 2), (.loc 0)], none, 0⟩])
 (.seq (.region [⟨(.var 1), .mv (.cst (.bool true)), none, 0⟩])
 .ret)))),
 [.var 1]⟩
/-- code.geometry).has -/
def e287 : EFunc := ⟨[0, 1, 4],
 [some 0, some 1, none],
 (.seq (.region [⟨(.var 2), .mv (.cst (.bool false)), none, 0⟩])
 (.seq (.region [⟨.loc, .mv (.var 1), none, 0⟩, ⟨.loc, .bin .geq (.loc 0) (.cst (.int .i64 0)), none, 0⟩, ⟨.loc, .mv (.loc 0), none, 0⟩, ⟨.loc, .mv (.var 1), (some ((.loc 0), true)), 0⟩, ⟨.loc, .mv (.var 0), (some ((.loc 1), true)), 0⟩, ⟨.loc, .call (.cst (.func (.func 189) [] [])) [(.loc 0)], (some ((.loc 2), true)), 0⟩, ⟨.loc, .bin .lss (.loc 2) (.loc 0), (some ((.loc 3), true)), 0⟩, ⟨.loc, .pick (.loc 4) (.loc 0) (.cst (.bool false)), none, 0⟩, ⟨(.var 2), .mv (.loc 0), none, 0⟩])
 .ret)),
 [.var 2]⟩
/-- matrix.At -/
def e288 : EFunc := ⟨[0, 1, 2, 3, 6, 29],
 [some 0, some 1, some 2, none, none, none],
 (.seq (.region [⟨(.var 3), .box 3 (.var 0), none, 0⟩, ⟨(.var 4), .mv (.cst (.int .u8 0)), none, 0⟩])
 (.seq (.seq (.region [⟨.loc, .ldn 3 (.var 3), none, 0⟩, ⟨.loc, .call (.cst (.func (.func 310) [] [])) [(.loc 0)], none, 0⟩, ⟨.loc, .un .not (.loc 0), none, 0⟩, ⟨.loc, .mv (.loc 0), none, 0⟩, ⟨.loc, .mv (.var 1), (some ((.loc 0), false)), 0⟩, ⟨.loc, .bin .lss (.loc 0) (.cst (.int .i64 0)), (some ((.loc 1), false)), 0⟩, ⟨.loc, .pick (.loc 2) (.cst (.bool true)) (.loc 0), none, 0⟩, ⟨.loc, .mv (.loc 0), none, 0⟩, ⟨.loc, .mv (.var 1), (some ((.loc 0), false)), 0⟩, ⟨.loc, .fld 0 (.var 3), (some ((.loc 1), false)), 0⟩, ⟨.loc, .ld (.loc 0), (some ((.loc 2), false)), 0⟩, ⟨.loc, .bin .geq (.loc 2) (.loc 0), (some ((.loc 3), false)), 0⟩, ⟨.loc, .pick (.loc 4) (.cst (.bool true)) (.loc 0), none, 0⟩, ⟨.loc, .mv (.loc 0), none, 0⟩, ⟨.loc, .mv (.var 2), (some ((.loc 0), false)), 0⟩, ⟨.loc, .bin .lss (.loc 0) (.cst (.int .i64 0)), (some ((.loc 1), false)), 0⟩, ⟨.loc, .pick (.loc 2) (.cst (.bool true)) (.loc 0), none, 0⟩, ⟨.loc, .mv (.loc 0), none, 0⟩, ⟨.loc, .mv (.var 2), (some ((.loc 0), false)), 0⟩, ⟨.loc, .fld 1 (.var 3), (some ((.loc 1), false)), 0⟩, ⟨.loc, .ld (.loc 0), (some ((.loc 2), false)), 0⟩, ⟨.loc, .bin .geq (.loc 2) (.loc 0), (some ((.loc 3), false)), 0⟩, ⟨(.var 5), .pick (.loc 4) (.cst (.bool true)) (.loc 0), none, 0⟩])
 (.cond (.var 5) (.seq (.region [⟨(.var 4), .mv (.cst (.int .u8 0)), none, 0⟩])
 .ret) .skip))
 (.seq (.region [⟨.loc, .fld 2 (.var 3), none, 0⟩, ⟨.loc, .ld (.loc 0), none, 0⟩, ⟨.loc, .fld 1 (.var 3), none, 0⟩, ⟨.loc, .ld (.loc 0), none, 0⟩, ⟨.loc, .mv (.var 1), none, 0⟩, ⟨.loc, .call (.cst (.func (.func 311) [] [])) [(.loc 3), (.loc 1), (.loc 0)], none, 0⟩, ⟨.loc, .mv (.var 2), none, 0⟩, ⟨.loc, .idx 1 (.loc 1) (.loc 0), none, 0⟩, ⟨.loc, .ld (.loc 0), none, 0⟩, ⟨(.var 4), .mv (.loc 0), none, 0⟩])
 .ret))),
 [.var 4]⟩
/-- field.Field).Fold -/
def e289 : EFunc := ⟨[0, 1, 2, 3, 8, 9, 10, 11, 12, 15, 25, 26, 27, 28],
 [some 0, some 1, some 2, some 3, none, none, none, none, none, none, none, none, none, none],
 (.seq (.region [⟨(.var 4), .mv (.cst (.nilslice)), none, 0⟩])
 (.seq (.seq (.region [⟨.loc, .mv (.var 0), none, 0⟩, ⟨.loc, .call (.cst (.func (.func 286) [] [])) [(.loc 0)], none, 0⟩, ⟨(.var 9), .un .not (.loc 0), none, 0⟩])
 (.cond (.var 9) (.seq (.region [⟨(.var 4), .mv (.cst (.nilslice)), none, 0⟩])
 .ret) .skip))
 (.seq (.region [⟨.loc, .mv (.var 3), none, 0⟩, ⟨.loc, .append 1 1 (.cst (.nilslice)) (.loc 0), none, 0⟩, ⟨(.var 5), .mv (.loc 0), none, 0⟩])
 (.seq (.region [⟨.loc, .mv (.var 2), none, 0⟩, ⟨.loc, .len false (.loc 0), none, 0⟩, ⟨.loc, .mv (.var 5), none, 0⟩, ⟨.loc, .len false (.loc 0), none, 0⟩, ⟨.loc, .minmax false [(.loc 2), (.loc 0)], none, 0⟩, ⟨(.var 6), .mv (.loc 0), none, 0⟩])
 (.seq (.seq (.region [⟨.loc, .mv (.var 2), none, 0⟩, ⟨.loc, .mv (.var 6), none, 0⟩, ⟨(.var 10), .sub 1 (.loc 1) none (some (.loc 0)) none, none, 0⟩, ⟨(.var 11), .len false (.var 10), none, 0⟩, ⟨(.var 12), .mv (.cst (.int .i64 0)), none, 0⟩])
 (.block 0 (.loop (.seq (.region [⟨(.var 13), .bin .lss (.var 12) (.var 11), none, 0⟩])
 (.seq (.cond (.var 13) .skip (.exit 0))
 (.seq (.block 1 (.seq (.region [⟨.loc, .mv (.var 12), none, 0⟩, ⟨.loc, .idx 1 (.var 10) (.var 12), none, 0⟩, ⟨.loc, .ld (.loc 0), none, 0⟩, ⟨(.var 7), .mv (.loc 2), none, 0⟩, ⟨(.var 8), .mv (.loc 0), none, 0⟩])
 (.dregion [⟨.loc, .mv (.var 5), none, 0⟩, ⟨.loc, .mv (.var 7), none, 1⟩, ⟨.loc, .idx 1 (.loc 1) (.loc 0), none, 2⟩, ⟨.loc, .ld (.loc 0), none, 3⟩, ⟨.loc, .mv (.var 0), none, 4⟩, ⟨.loc, .nilchk (.loc 0), none, 5⟩, ⟨.loc, .fld 4 (.loc 0), none, 6⟩, ⟨.loc, .mv (.var 1), none, 7⟩, ⟨.loc, .mv (.var 8), none, 8⟩] [⟨⟨.loc, .call (.cst (.func (.func 312) [] [])) [(.loc 2), (.loc 1), (.loc 0)], none, 9⟩, [(3, .ld (.loc 7), (.loc 6), none)], [⟨.loc, .bin .xor (.loc 6) (.loc 0), none, 10⟩, ⟨.loc, .idx 1 (.loc 10) (.loc 9), none, 11⟩]⟩, ⟨⟨.drop, .st 1 (.loc 0) (.loc 1), none, 12⟩, [], []⟩])))
 (.region [⟨.loc, .bin .add (.var 12) (.cst (.int .i64 1)), none, 0⟩, ⟨(.var 12), .mv (.loc 0), none, 0⟩])))))))
 (.seq (.region [⟨.loc, .mv (.var 5), none, 0⟩, ⟨(.var 4), .mv (.loc 0), none, 0⟩])
 .ret)))))),
 [.var 4]⟩
/-- shard.head -/
def e290 : EFunc := ⟨[0, 1, 2],
 [some 0, none, none],
 (.seq (.region [⟨(.var 1), .box 49 (.var 0), none, 0⟩, ⟨(.var 2), .mv (.cst (.nilslice)), none, 0⟩])
 (.seq (.region [⟨.loc, .fld 0 (.var 1), none, 0⟩, ⟨.loc, .ld (.loc 0), none, 0⟩, ⟨.loc, .conv .u64 (.loc 0), none, 0⟩, ⟨.loc, .build [.int .i64 0, .int .u64 0] [(0, 1, (.cst (.int .i64 1))), (1, 1, (.loc 0))], none, 0⟩, ⟨.loc, .fld 1 (.var 1), none, 0⟩, ⟨.loc, .ld (.loc 0), none, 0⟩, ⟨.loc, .conv .u64 (.loc 0), none, 0⟩, ⟨.loc, .build [.int .i64 0, .int .u64 0] [(0, 1, (.cst (.int .i64 1))), (1, 1, (.loc 0))], none, 0⟩, ⟨.loc, .fld 2 (.var 1), none, 0⟩, ⟨.loc, .ld (.loc 0), none, 0⟩, ⟨.loc, .conv .u64 (.loc 0), none, 0⟩, ⟨.loc, .build [.int .i64 0, .int .u64 0] [(0, 1, (.cst (.int .i64 2))), (1, 1, (.loc 0))], none, 0⟩, ⟨.loc, .fld 3 (.var 1), none, 0⟩, ⟨.loc, .ld (.loc 0), none, 0⟩, ⟨.loc, .build [.int .i64 0, .int .u64 0] [(0, 1, (.cst (.int .i64 8))), (1, 1, (.loc 0))], none, 0⟩, ⟨.loc, .fld 4 (.var 1), none, 0⟩, ⟨.loc, .ld (.loc 0), none, 0⟩, ⟨.loc, .conv .u64 (.loc 0), none, 0⟩, ⟨.loc, .build [.int .i64 0, .int .u64 0] [(0, 1, (.cst (.int .i64 2))), (1, 1, (.loc 0))], none, 0⟩, ⟨.loc, .build [.int .i64 0, .int .u64 0] [(0, 1, (.cst (.int .i64 2))), (1, 1, (.cst (.int .u64 0)))], none, 0⟩, ⟨.loc, .buildS 6 2 [.int .i64 0, .int .u64 0, .int .i64 0, .int .u64 0, .int .i64 0, .int .u64 0, .int .i64 0, .int .u64 0, .int .i64 0, .int .u64 0, .int .i64 0, .int .u64 0] [(0, 2, (.loc 16)), (2, 2, (.loc 12)), (4, 2, (.loc 8)), (6, 2, (.loc 5)), (8, 2, (.loc 1)), (10, 2, (.loc 0))], none, 0⟩, ⟨(.var 2), .mv (.loc 0), none, 0⟩])
 .ret)),
 [.var 2]⟩
/-- drive.Drive).Write -/
def e291 : EFunc := ⟨[0, 1, 2, 6, 7, 12, 16],
 [some 0, some 1, some 2, none, none, none, none],
 (.seq (.region [⟨(.var 3), .mv (.cst (.int .i64 0)), none, 0⟩])
 (.seq (.seq (.region [⟨.loc, .mv (.var 0), none, 0⟩, ⟨.loc, .mv (.var 1), none, 0⟩, ⟨.loc, .call (.cst (.func (.func 265) [] [])) [(.loc 1), (.loc 0)], none, 0⟩, ⟨(.var 4), .mv (.loc 0), none, 0⟩])
 (.seq (.region [⟨.loc, .mv (.var 4), none, 0⟩, ⟨(.var 5), .bin .neq (.loc 0) (.cst (.int .i64 0)), none, 0⟩])
 (.cond (.var 5) (.seq (.region [⟨.loc, .mv (.var 4), none, 0⟩, ⟨(.var 3), .mv (.loc 0), none, 0⟩])
 .ret) .skip)))
 (.seq (.seq (.region [⟨.loc, .mv (.var 2), none, 0⟩, ⟨.loc, .len false (.loc 0), none, 0⟩, ⟨(.var 6), .bin .neq (.loc 0) (.cst (.int .i64 64)), none, 0⟩])
 (.cond (.var 6) (.seq (.region [⟨(.var 3), .mv (.cst (.int .i64 2)), none, 0⟩])
 .ret) .skip))
 (.seq (.dregion [⟨.loc, .mv (.var 0), none, 0⟩, ⟨.loc, .nilchk (.loc 0), none, 1⟩, ⟨.loc, .fld 3 (.loc 0), none, 2⟩, ⟨.loc, .ld (.loc 0), none, 3⟩, ⟨.loc, .mv (.var 1), none, 4⟩, ⟨.loc, .mv (.var 0), none, 5⟩, ⟨.loc, .nilchk (.loc 0), none, 6⟩, ⟨.loc, .fld 2 (.loc 0), none, 7⟩, ⟨.loc, .ld (.loc 0), none, 8⟩, ⟨.loc, .len false (.loc 0), none, 9⟩] [⟨⟨.drop, .mapset 1 (.loc 6) (.loc 5) (.loc 0), none, 10⟩, [], []⟩])
 (.seq (.dregion [⟨.loc, .mv (.var 0), none, 0⟩, ⟨.loc, .mv (.var 0), none, 1⟩, ⟨.loc, .nilchk (.loc 0), none, 2⟩, ⟨.loc, .fld 2 (.loc 0), none, 3⟩, ⟨.loc, .ld (.loc 0), none, 4⟩, ⟨.loc, .mv (.var 1), none, 5⟩, ⟨.loc, .mv (.var 2), none, 6⟩, ⟨.loc, .s2ap 64 (.loc 0), none, 7⟩, ⟨.loc, .ldn 64 (.loc 0), none, 8⟩, ⟨.loc, .build [.int .i64 0, .int .u8 0, .int .u8 0, .int .u8 0, .int .u8 0, .int .u8 0, .int .u8 0, .int .u8 0, .int .u8 0, .int .u8 0, .int .u8 0, .int .u8 0, .int .u8 0, .int .u8 0, .int .u8 0, .int .u8 0, .int .u8 0, .int .u8 0, .int .u8 0, .int .u8 0, .int .u8 0, .int .u8 0, .int .u8 0, .int .u8 0, .int .u8 0, .int .u8 0, .int .u8 0, .int .u8 0, .int .u8 0, .int .u8 0, .int .u8 0, .int .u8 0, .int .u8 0, .int .u8 0, .int .u8 0, .int .u8 0, .int .u8 0, .int .u8 0, .int .u8 0, .int .u8 0, .int .u8 0, .int .u8 0, .int .u8 0, .int .u8 0, .int .u8 0, .int .u8 0, .int .u8 0, .int .u8 0, .int .u8 0, .int .u8 0, .int .u8 0, .int .u8 0, .int .u8 0, .int .u8 0, .int .u8 0, .int .u8 0, .int .u8 0, .int .u8 0, .int .u8 0, .int .u8 0, .int .u8 0, .int .u8 0, .int .u8 0, .int .u8 0, .int .u8 0] [(0, 1, (.loc 3)), (1, 64, (.loc 0))], none, 9⟩, ⟨.loc, .buildS 1 65 [.int .i64 0, .int .u8 0, .int .u8 0, .int .u8 0, .int .u8 0, .int .u8 0, .int .u8 0, .int .u8 0, .int .u8 0, .int .u8 0, .int .u8 0, .int .u8 0, .int .u8 0, .int .u8 0, .int .u8 0, .int .u8 0, .int .u8 0, .int .u8 0, .int .u8 0, .int .u8 0, .int .u8 0, .int .u8 0, .int .u8 0, .int .u8 0, .int .u8 0, .int .u8 0, .int .u8 0, .int .u8 0, .int .u8 0, .int .u8 0, .int .u8 0, .int .u8 0, .int .u8 0, .int .u8 0, .int .u8 0, .int .u8 0, .int .u8 0, .int .u8 0, .int .u8 0, .int .u8 0, .int .u8 0, .int .u8 0, .int .u8 0, .int .u8 0, .int .u8 0, .int .u8 0, .int .u8 0, .int .u8 0, .int .u8 0, .int .u8 0, .int .u8 0, .int .u8 0, .int .u8 0, .int .u8 0, .int .u8 0, .int .u8 0, .int .u8 0, .int .u8 0, .int .u8 0, .int .u8 0, .int .u8 0, .int .u8 0, .int .u8 0, .int .u8 0, .int .u8 0] [(0, 65, (.loc 0))], none, 10⟩] [⟨⟨.loc, .append 65 72 (.loc 6) (.loc 0), none, 11⟩, [], [⟨.loc, .nilchk (.loc 11), none, 12⟩, ⟨.loc, .fld 2 (.loc 0), none, 13⟩]⟩, ⟨⟨.drop, .st 1 (.loc 0) (.loc 2), none, 14⟩, [], []⟩])
 (.seq (.region [⟨(.var 3), .mv (.cst (.int .i64 0)), none, 0⟩])
 .ret)))))),
 [.var 3]⟩
/-- drive.Drive).Read -/
def e292 : EFunc := ⟨[0, 1, 4, 5, 6, 7, 12],
 [some 0, some 1, none, none, none, none, none],
 (.seq (.region [⟨(.var 2), .mv (.cst (.nilslice)), none, 0⟩, ⟨(.var 3), .mv (.cst (.int .i64 0)), none, 0⟩])
 (.seq (.seq (.region [⟨.loc, .mv (.var 0), none, 0⟩, ⟨.loc, .mv (.var 1), none, 0⟩, ⟨.loc, .call (.cst (.func (.func 265) [] [])) [(.loc 1), (.loc 0)], none, 0⟩, ⟨(.var 4), .mv (.loc 0), none, 0⟩])
 (.seq (.region [⟨.loc, .mv (.var 4), none, 0⟩, ⟨(.var 6), .bin .neq (.loc 0) (.cst (.int .i64 0)), none, 0⟩])
 (.cond (.var 6) (.seq (.region [⟨.loc, .mv (.var 4), none, 0⟩, ⟨(.var 2), .mv (.cst (.nilslice)), none, 0⟩, ⟨(.var 3), .mv (.loc 0), none, 0⟩])
 .ret) .skip)))
 (.seq (.region [⟨.loc, .mv (.var 0), none, 0⟩, ⟨.loc, .mv (.var 1), none, 0⟩, ⟨.loc, .call (.cst (.func (.func 313) [] [])) [(.loc 1), (.loc 0)], none, 0⟩, ⟨(.var 5), .alloc [.int .u8 0, .int .u8 0, .int .u8 0, .int .u8 0, .int .u8 0, .int .u8 0, .int .u8 0, .int .u8 0, .int .u8 0, .int .u8 0, .int .u8 0, .int .u8 0, .int .u8 0, .int .u8 0, .int .u8 0, .int .u8 0, .int .u8 0, .int .u8 0, .int .u8 0, .int .u8 0, .int .u8 0, .int .u8 0, .int .u8 0, .int .u8 0, .int .u8 0, .int .u8 0, .int .u8 0, .int .u8 0, .int .u8 0, .int .u8 0, .int .u8 0, .int .u8 0, .int .u8 0, .int .u8 0, .int .u8 0, .int .u8 0, .int .u8 0, .int .u8 0, .int .u8 0, .int .u8 0, .int .u8 0, .int .u8 0, .int .u8 0, .int .u8 0, .int .u8 0, .int .u8 0, .int .u8 0, .int .u8 0, .int .u8 0, .int .u8 0, .int .u8 0, .int .u8 0, .int .u8 0, .int .u8 0, .int .u8 0, .int .u8 0, .int .u8 0, .int .u8 0, .int .u8 0, .int .u8 0, .int .u8 0, .int .u8 0, .int .u8 0, .int .u8 0], none, 0⟩, ⟨.drop, .st 64 (.var 5) (.loc 0), none, 0⟩])
 (.seq (.region [⟨.loc, .subA 64 1 (.var 5) none none none, none, 0⟩, ⟨(.var 2), .mv (.loc 0), none, 0⟩, ⟨(.var 3), .mv (.cst (.int .i64 0)), none, 0⟩])
 .ret)))),
 [.var 2, .var 3]⟩
/-- decode.there$1 -/
def e293 : EFunc := ⟨[0, 1, 2, 4],
 [some 0, some 1, some 2, none],
 (.seq (.region [⟨(.var 3), .mv (.cst (.bool false)), none, 0⟩])
 (.seq (.dregion [⟨.loc, .ld (.var 1), none, 0⟩, ⟨.loc, .mv (.var 0), none, 1⟩, ⟨.loc, .idx 1 (.loc 1) (.loc 0), none, 2⟩, ⟨.loc, .ld (.loc 0), none, 3⟩, ⟨.loc, .len false (.loc 0), none, 4⟩, ⟨.loc, .ld (.var 1), none, 5⟩, ⟨.loc, .ld (.var 2), none, 6⟩, ⟨.loc, .idx 1 (.loc 0) (.cst (.int .i64 0)), none, 7⟩, ⟨.loc, .ld (.loc 0), none, 8⟩, ⟨.loc, .idx 1 (.loc 3) (.loc 0), none, 9⟩, ⟨.loc, .ld (.loc 0), none, 10⟩, ⟨.loc, .len false (.loc 0), none, 11⟩, ⟨.loc, .bin .neq (.loc 7) (.loc 0), none, 12⟩, ⟨(.var 3), .mv (.loc 0), none, 13⟩] [])
 .ret)),
 [.var 3]⟩
/-- slices.ContainsFunc[[]int,int] -/
def e294 : EFunc := ⟨[0, 1, 4],
 [some 0, some 1, none],
 (.seq (.region [⟨(.var 2), .mv (.cst (.bool false)), none, 0⟩])
 (.seq (.region [⟨.loc, .mv (.var 0), none, 0⟩, ⟨.loc, .mv (.var 1), none, 0⟩, ⟨.loc, .call (.cst (.func (.func 314) [] [])) [(.loc 1), (.loc 0)], none, 0⟩, ⟨.loc, .bin .geq (.loc 0) (.cst (.int .i64 0)), none, 0⟩, ⟨(.var 2), .mv (.loc 0), none, 0⟩])
 .ret)),
 [.var 2]⟩
/-- decode.inverse -/
def e295 : EFunc := ⟨[0, 1, 4, 5, 6, 8, 14, 15, 16, 17],
 [some 0, some 1, none, none, none, none, none, none, none, none],
 (.seq (.region [⟨(.var 2), .alloc [.int .i64 0, .int .i64 0, .nilslice], none, 0⟩, ⟨(.var 3), .mv (.cst (.int .i64 0)), none, 0⟩])
 (.seq (.region [⟨.loc, .mv (.var 1), none, 0⟩, ⟨.loc, .len false (.loc 0), none, 0⟩, ⟨.loc, .mv (.var 0), none, 0⟩, ⟨.loc, .call (.cst (.func (.func 111) [] [])) [(.loc 0)], none, 0⟩, ⟨.loc, .build [.int .i64 0, .int .i64 0, .nilslice] [(0, 1, (.loc 2)), (1, 1, (.loc 0))], none, 0⟩, ⟨(.var 4), .alloc [.int .i64 0, .int .i64 0, .nilslice], none, 0⟩, ⟨.drop, .st 3 (.var 4) (.loc 0), none, 0⟩])
 (.seq (.seq (.region [⟨(.var 6), .mv (.var 1), none, 0⟩, ⟨(.var 7), .len false (.var 6), none, 0⟩, ⟨(.var 8), .mv (.cst (.int .i64 0)), none, 0⟩])
 (.block 0 (.loop (.seq (.region [⟨(.var 9), .bin .lss (.var 8) (.var 7), none, 0⟩])
 (.seq (.cond (.var 9) .skip (.exit 0))
 (.seq (.block 1 (.seq (.region [⟨.loc, .idx 1 (.var 6) (.var 8), none, 0⟩, ⟨.loc, .ld (.loc 0), none, 0⟩, ⟨(.var 5), .mv (.loc 0), none, 0⟩])
 (.dregion [⟨.loc, .fld 2 (.var 4), none, 0⟩, ⟨.loc, .ld (.loc 0), none, 1⟩, ⟨.loc, .mv (.var 0), none, 2⟩, ⟨.loc, .mv (.var 5), none, 3⟩] [⟨⟨.loc, .call (.cst (.func (.func 252) [] [])) [(.loc 1), (.loc 0)], none, 4⟩, [(1, .ld (.loc 4), (.loc 3), none)], []⟩, ⟨⟨.loc, .append 1 1 (.loc 3) (.loc 0), none, 5⟩, [], [⟨.loc, .fld 2 (.var 4), none, 6⟩]⟩, ⟨⟨.drop, .st 1 (.loc 0) (.loc 1), none, 7⟩, [], []⟩])))
 (.region [⟨.loc, .bin .add (.var 8) (.cst (.int .i64 1)), none, 0⟩, ⟨(.var 8), .mv (.loc 0), none, 0⟩])))))))
 (.seq (.dregion [⟨.loc, .mv (.var 0), none, 0⟩, ⟨.loc, .ldn 3 (.var 4), none, 2⟩] [⟨⟨.loc, .call (.cst (.func (.func 297) [] [])) [(.loc 1)], none, 1⟩, [(2, .ldn 3 (.var 4), (.loc 1), none)], []⟩, ⟨⟨.loc, .call (.cst (.func (.func 315) [] [])) [(.loc 0), (.loc 1)], none, 3⟩, [], [⟨.loc, .ext 0 (.loc 0), none, 4⟩, ⟨.loc, .ext 1 (.loc 1), none, 5⟩]⟩, ⟨⟨.drop, .st 3 (.var 2) (.loc 1), none, 6⟩, [], [⟨(.var 3), .mv (.loc 0), none, 7⟩]⟩])
 .ret)))),
 [.cell 2 (some 3), .var 3]⟩
/-- matrix.Mul -/
def e296 : EFunc := ⟨[0, 1, 2, 4, 5, 6, 7, 8, 9, 10, 11, 12, 13, 17, 46, 47, 48, 58, 59, 60, 61],
 [some 0, some 1, some 2, none, none, none, none, none, none, none, none, none, none, none, none, none, none, none, none, none, none],
 (.seq (.region [⟨(.var 3), .box 3 (.var 1), none, 0⟩, ⟨(.var 4), .box 3 (.var 2), none, 0⟩, ⟨(.var 5), .alloc [.int .i64 0, .int .i64 0, .nilslice], none, 0⟩, ⟨(.var 6), .mv (.cst (.int .i64 0)), none, 0⟩])
 (.seq (.block 0 (.seq (.region [⟨.loc, .mv (.var 0), none, 0⟩, ⟨.loc, .call (.cst (.func (.func 246) [] [])) [(.loc 0)], none, 0⟩, ⟨(.var 12), .mv (.loc 0), none, 0⟩])
 (.cond (.var 12) (.seq (.region [⟨.loc, .build [.int .i64 0, .int .i64 0, .nilslice] [], none, 0⟩, ⟨.drop, .st 3 (.var 5) (.loc 0), none, 0⟩, ⟨(.var 6), .mv (.cst (.int .i64 1)), none, 0⟩])
 .ret) (.seq (.region [⟨.loc, .ldn 3 (.var 3), none, 0⟩, ⟨.loc, .call (.cst (.func (.func 310) [] [])) [(.loc 0)], none, 0⟩, ⟨.loc, .un .not (.loc 0), none, 0⟩, ⟨.loc, .mv (.loc 0), none, 0⟩, ⟨.loc, .ldn 3 (.var 4), (some ((.loc 0), false)), 0⟩, ⟨.loc, .call (.cst (.func (.func 310) [] [])) [(.loc 0)], (some ((.loc 1), false)), 0⟩, ⟨.loc, .un .not (.loc 0), (some ((.loc 2), false)), 0⟩, ⟨.loc, .pick (.loc 3) (.cst (.bool true)) (.loc 0), none, 0⟩, ⟨.loc, .mv (.loc 0), none, 0⟩, ⟨.loc, .fld 1 (.var 3), (some ((.loc 0), false)), 0⟩, ⟨.loc, .ld (.loc 0), (some ((.loc 1), false)), 0⟩, ⟨.loc, .fld 0 (.var 4), (some ((.loc 2), false)), 0⟩, ⟨.loc, .ld (.loc 0), (some ((.loc 3), false)), 0⟩, ⟨.loc, .bin .neq (.loc 2) (.loc 0), (some ((.loc 4), false)), 0⟩, ⟨.loc, .pick (.loc 5) (.cst (.bool true)) (.loc 0), none, 0⟩, ⟨(.var 13), .mv (.loc 0), none, 0⟩])
 (.cond (.var 13) (.seq (.region [⟨.loc, .build [.int .i64 0, .int .i64 0, .nilslice] [], none, 0⟩, ⟨.drop, .st 3 (.var 5) (.loc 0), none, 0⟩, ⟨(.var 6), .mv (.cst (.int .i64 2)), none, 0⟩])
 .ret) .skip)))))
 (.seq (.dregion [⟨.loc, .fld 0 (.var 3), none, 0⟩, ⟨.loc, .ld (.loc 0), none, 1⟩, ⟨.loc, .fld 1 (.var 4), none, 2⟩, ⟨.loc, .ld (.loc 0), none, 3⟩, ⟨.loc, .fld 0 (.var 3), none, 4⟩, ⟨.loc, .ld (.loc 0), none, 5⟩, ⟨.loc, .fld 1 (.var 4), none, 6⟩, ⟨.loc, .ld (.loc 0), none, 7⟩, ⟨.loc, .bin .mul (.loc 2) (.loc 0), none, 8⟩, ⟨.loc, .make 1 1 [.int .u8 0] (.cst (.int .i64 0)) (.loc 0), none, 9⟩, ⟨.loc, .build [.int .i64 0, .int .i64 0, .nilslice] [(0, 1, (.loc 8)), (1, 1, (.loc 6)), (2, 1, (.loc 0))], none, 10⟩, ⟨(.var 7), .alloc [.int .i64 0, .int .i64 0, .nilslice], none, 11⟩] [⟨⟨.drop, .st 3 (.var 7) (.loc 0), none, 12⟩, [], []⟩])
 (.seq (.seq (.region [⟨.loc, .fld 0 (.var 3), none, 0⟩, ⟨(.var 14), .ld (.loc 0), none, 0⟩, ⟨(.var 15), .mv (.cst (.int .i64 0)), none, 0⟩])
 (.block 1 (.loop (.seq (.region [⟨(.var 16), .bin .lss (.var 15) (.var 14), none, 0⟩])
 (.seq (.cond (.var 16) .skip (.exit 1))
 (.seq (.block 2 (.seq (.region [⟨.loc, .mv (.var 15), none, 0⟩, ⟨(.var 8), .mv (.loc 0), none, 0⟩])
 (.seq (.region [⟨.loc, .fld 1 (.var 4), none, 0⟩, ⟨.loc, .ld (.loc 0), none, 0⟩, ⟨.loc, .make 1 1 [.int .u8 0] (.loc 0) (.loc 0), none, 0⟩, ⟨(.var 9), .mv (.loc 0), none, 0⟩])
 (.seq (.seq (.region [⟨.loc, .fld 2 (.var 3), none, 0⟩, ⟨.loc, .ld (.loc 0), none, 0⟩, ⟨.loc, .fld 1 (.var 3), none, 0⟩, ⟨.loc, .ld (.loc 0), none, 0⟩, ⟨.loc, .mv (.var 8), none, 0⟩, ⟨(.var 17), .call (.cst (.func (.func 311) [] [])) [(.loc 3), (.loc 1), (.loc 0)], none, 0⟩, ⟨(.var 18), .len false (.var 17), none, 0⟩, ⟨(.var 19), .mv (.cst (.int .i64 0)), none, 0⟩])
 (.block 3 (.loop (.seq (.region [⟨(.var 20), .bin .lss (.var 19) (.var 18), none, 0⟩])
 (.seq (.cond (.var 20) .skip (.exit 3))
 (.seq (.block 4 (.seq (.region [⟨.loc, .mv (.var 19), none, 0⟩, ⟨.loc, .idx 1 (.var 17) (.var 19), none, 0⟩, ⟨.loc, .ld (.loc 0), none, 0⟩, ⟨(.var 10), .mv (.loc 2), none, 0⟩, ⟨(.var 11), .mv (.loc 0), none, 0⟩])
 (.region [⟨.loc, .mv (.var 0), none, 0⟩, ⟨.loc, .mv (.var 11), none, 0⟩, ⟨.loc, .fld 2 (.var 4), none, 0⟩, ⟨.loc, .ld (.loc 0), none, 0⟩, ⟨.loc, .fld 1 (.var 4), none, 0⟩, ⟨.loc, .ld (.loc 0), none, 0⟩, ⟨.loc, .mv (.var 10), none, 0⟩, ⟨.loc, .call (.cst (.func (.func 311) [] [])) [(.loc 3), (.loc 1), (.loc 0)], none, 0⟩, ⟨.loc, .mv (.var 9), none, 0⟩, ⟨.loc, .call (.cst (.func (.func 289) [] [])) [(.loc 8), (.loc 7), (.loc 1), (.loc 0)], none, 0⟩, ⟨(.var 9), .mv (.loc 0), none, 0⟩])))
 (.region [⟨.loc, .bin .add (.var 19) (.cst (.int .i64 1)), none, 0⟩, ⟨(.var 19), .mv (.loc 0), none, 0⟩])))))))
 (.region [⟨.loc, .fld 2 (.var 7), none, 0⟩, ⟨.loc, .ld (.loc 0), none, 0⟩, ⟨.loc, .mv (.var 9), none, 0⟩, ⟨.loc, .append 1 1 (.loc 1) (.loc 0), none, 0⟩, ⟨.loc, .fld 2 (.var 7), none, 0⟩, ⟨.drop, .st 1 (.loc 0) (.loc 1), none, 0⟩])))))
 (.region [⟨.loc, .bin .add (.var 15) (.cst (.int .i64 1)), none, 0⟩, ⟨(.var 15), .mv (.loc 0), none, 0⟩])))))))
 (.seq (.region [⟨.loc, .ldn 3 (.var 7), none, 0⟩, ⟨.drop, .st 3 (.var 5) (.loc 0), none, 0⟩, ⟨(.var 6), .mv (.cst (.int .i64 0)), none, 0⟩])
 .ret))))),
 [.cell 5 (some 3), .var 6]⟩
/-- code.Coder).Field -/
def e297 : EFunc := ⟨[0, 2, 4],
 [some 0, none, none],
 (.seq (.region [⟨(.var 1), .mv (.cst (.nilptr)), none, 0⟩])
 (.seq (.seq (.region [⟨.loc, .mv (.var 0), none, 0⟩, ⟨(.var 2), .call (.cst (.func (.func 188) [] [])) [(.loc 0)], none, 0⟩])
 (.cond (.var 2) (.seq (.region [⟨(.var 1), .mv (.cst (.nilptr)), none, 0⟩])
 .ret) .skip))
 (.seq (.region [⟨.loc, .mv (.var 0), none, 0⟩, ⟨.loc, .nilchk (.loc 0), none, 0⟩, ⟨.loc, .fld 2 (.loc 0), none, 0⟩, ⟨.loc, .ld (.loc 0), none, 0⟩, ⟨(.var 1), .mv (.loc 0), none, 0⟩])
 .ret))),
 [.var 1]⟩
/-- drive.Drive).has -/
def e298 : EFunc := ⟨[0, 1, 4],
 [some 0, some 1, none],
 (.seq (.region [⟨(.var 2), .mv (.cst (.bool false)), none, 0⟩])
 (.seq (.region [⟨.loc, .mv (.var 1), none, 0⟩, ⟨.loc, .bin .geq (.loc 0) (.cst (.int .i64 0)), none, 0⟩, ⟨.loc, .mv (.loc 0), none, 0⟩, ⟨.loc, .mv (.var 1), (some ((.loc 0), true)), 0⟩, ⟨.loc, .mv (.var 0), (some ((.loc 1), true)), 0⟩, ⟨.loc, .nilchk (.loc 0), (some ((.loc 2), true)), 0⟩, ⟨.loc, .fld 0 (.loc 0), (some ((.loc 3), true)), 0⟩, ⟨.loc, .ld (.loc 0), (some ((.loc 4), true)), 0⟩, ⟨.loc, .len false (.loc 0), (some ((.loc 5), true)), 0⟩, ⟨.loc, .bin .lss (.loc 5) (.loc 0), (some ((.loc 6), true)), 0⟩, ⟨.loc, .pick (.loc 7) (.loc 0) (.cst (.bool false)), none, 0⟩, ⟨(.var 2), .mv (.loc 0), none, 0⟩])
 .ret)),
 [.var 2]⟩
/-- crc.More -/
def e299 : EFunc := ⟨[0, 1, 4],
 [some 0, some 1, none],
 (.seq (.region [⟨(.var 2), .mv (.cst (.int .u32 0)), none, 0⟩])
 (.seq (.region [⟨.loc, .mv (.var 0), none, 0⟩, ⟨.loc, .un .xor (.loc 0), none, 0⟩, ⟨.loc, .mv (.var 1), none, 0⟩, ⟨.loc, .call (.cst (.func (.func 316) [] [])) [(.loc 1), (.loc 0)], none, 0⟩, ⟨.loc, .un .xor (.loc 0), none, 0⟩, ⟨(.var 2), .mv (.loc 0), none, 0⟩])
 .ret)),
 [.var 2]⟩
/-- shard.taker$1 -/
def e300 : EFunc := ⟨[0, 1, 2, 4, 5],
 [some 0, some 1, some 2, none, none],
 (.seq (.region [⟨(.var 3), .mv (.cst (.int .u64 0)), none, 0⟩])
 (.seq (.region [⟨.loc, .ld (.var 1), none, 0⟩, ⟨.loc, .ld (.var 2), none, 0⟩, ⟨.loc, .mv (.var 0), none, 0⟩, ⟨.loc, .call (.cst (.func (.func 266) [] [])) [(.loc 2), (.loc 1), (.loc 0)], none, 0⟩, ⟨.loc, .mv (.loc 0), none, 0⟩, ⟨.loc, .ext 0 (.loc 0), none, 0⟩, ⟨.loc, .ext 1 (.loc 1), none, 0⟩, ⟨(.var 4), .mv (.loc 1), none, 0⟩, ⟨.loc, .mv (.loc 0), none, 0⟩])
 (.seq (.region [⟨.loc, .ld (.var 2), none, 0⟩, ⟨.loc, .mv (.var 0), none, 0⟩, ⟨.loc, .bin .add (.loc 1) (.loc 0), none, 0⟩, ⟨.drop, .st 1 (.var 2) (.loc 0), none, 0⟩])
 (.seq (.region [⟨.loc, .mv (.var 4), none, 0⟩, ⟨(.var 3), .mv (.loc 0), none, 0⟩])
 .ret)))),
 [.var 3]⟩
/-- (*sync.Once).Do -/
def e308 : EFunc := ⟨[0, 1, 8],
 [some 0, some 1, none],
 (.seq (.region [⟨.loc, .mv (.var 0), none, 0⟩, ⟨.loc, .nilchk (.loc 0), none, 0⟩, ⟨.loc, .fld 0 (.loc 0), none, 0⟩, ⟨.loc, .call (.cst (.func (.func 319) [] [])) [(.loc 0)], none, 0⟩, ⟨(.var 2), .un .not (.loc 0), none, 0⟩])
 (.cond (.var 2) (.region [⟨.loc, .mv (.var 0), none, 0⟩, ⟨.loc, .mv (.var 1), none, 0⟩, ⟨.loc, .call (.cst (.func (.func 320) [] [])) [(.loc 1), (.loc 0)], none, 0⟩]) .skip)),
 []⟩
/-- field.Field).fill -/
def e309 : EFunc := ⟨[0, 2, 3, 4, 5, 34],
 [some 0, none, none, none, none, none],
 (.seq (.region [⟨(.var 1), .mv (.cst (.int .i64 1)), none, 0⟩])
 (.seq (.region [⟨(.var 3), .mv (.cst (.int .i64 0)), none, 0⟩])
 (.block 0 (.loop (.seq (.region [⟨(.var 4), .bin .lss (.var 3) (.cst (.int .i64 255)), none, 0⟩])
 (.seq (.cond (.var 4) .skip (.exit 0))
 (.seq (.block 1 (.seq (.region [⟨.loc, .mv (.var 3), none, 0⟩, ⟨(.var 2), .mv (.loc 0), none, 0⟩])
 (.seq (.dregion [⟨.loc, .mv (.var 0), none, 0⟩, ⟨.loc, .mv (.var 2), none, 1⟩, ⟨.loc, .mv (.var 0), none, 2⟩, ⟨.loc, .mv (.var 2), none, 3⟩, ⟨.loc, .bin .add (.loc 0) (.cst (.int .i64 255)), none, 4⟩, ⟨.loc, .mv (.var 1), none, 5⟩, ⟨.loc, .conv .u8 (.loc 0), none, 6⟩, ⟨.loc, .mv (.var 1), none, 7⟩, ⟨.loc, .conv .u8 (.loc 0), none, 8⟩, ⟨.loc, .nilchk (.loc 8), none, 9⟩, ⟨.loc, .fld 4 (.loc 0), none, 10⟩, ⟨.loc, .fld 0 (.loc 0), none, 11⟩, ⟨.loc, .idxA 510 1 (.loc 0) (.loc 10), none, 12⟩, ⟨.loc, .nilchk (.loc 10), none, 14⟩, ⟨.loc, .fld 4 (.loc 0), none, 15⟩, ⟨.loc, .fld 0 (.loc 0), none, 16⟩] [⟨⟨.drop, .st 1 (.loc 3) (.loc 9), none, 13⟩, [], [⟨.loc, .idxA 510 1 (.loc 0) (.loc 11), none, 17⟩]⟩, ⟨⟨.drop, .st 1 (.loc 0) (.loc 8), none, 18⟩, [], []⟩])
 (.seq (.region [⟨.loc, .mv (.var 0), none, 0⟩, ⟨.loc, .mv (.var 1), none, 0⟩, ⟨.loc, .mv (.var 2), none, 0⟩, ⟨.loc, .nilchk (.loc 2), none, 0⟩, ⟨.loc, .fld 4 (.loc 0), none, 0⟩, ⟨.loc, .fld 510 (.loc 0), none, 0⟩, ⟨.loc, .idxA 256 1 (.loc 0) (.loc 4), none, 0⟩, ⟨.drop, .st 1 (.loc 0) (.loc 4), none, 0⟩])
 (.seq (.region [⟨.loc, .mv (.var 1), none, 0⟩, ⟨.loc, .bin .shl (.loc 0) (.cst (.int .u64 1)), none, 0⟩, ⟨(.var 1), .mv (.loc 0), none, 0⟩])
 (.seq (.region [⟨.loc, .mv (.var 1), none, 0⟩, ⟨(.var 5), .bin .geq (.loc 0) (.cst (.int .i64 256)), none, 0⟩])
 (.cond (.var 5) (.region [⟨.loc, .mv (.var 1), none, 0⟩, ⟨.loc, .bin .xor (.loc 0) (.cst (.int .i64 285)), none, 0⟩, ⟨(.var 1), .mv (.loc 0), none, 0⟩]) .skip)))))))
 (.region [⟨.loc, .bin .add (.var 3) (.cst (.int .i64 1)), none, 0⟩, ⟨(.var 3), .mv (.loc 0), none, 0⟩])))))))),
 []⟩
/-- matrix.Right -/
def e310 : EFunc := ⟨[0, 1, 2],
 [some 0, none, none],
 (.seq (.region [⟨(.var 1), .box 3 (.var 0), none, 0⟩, ⟨(.var 2), .mv (.cst (.bool false)), none, 0⟩])
 (.seq (.region [⟨.loc, .fld 0 (.var 1), none, 0⟩, ⟨.loc, .ld (.loc 0), none, 0⟩, ⟨.loc, .call (.cst (.func (.func 247) [] [])) [(.loc 0)], none, 0⟩, ⟨.loc, .mv (.loc 0), none, 0⟩, ⟨.loc, .fld 1 (.var 1), (some ((.loc 0), true)), 0⟩, ⟨.loc, .ld (.loc 0), (some ((.loc 1), true)), 0⟩, ⟨.loc, .call (.cst (.func (.func 247) [] [])) [(.loc 0)], (some ((.loc 2), true)), 0⟩, ⟨.loc, .pick (.loc 3) (.loc 0) (.cst (.bool false)), none, 0⟩, ⟨.loc, .mv (.loc 0), none, 0⟩, ⟨.loc, .fld 2 (.var 1), (some ((.loc 0), true)), 0⟩, ⟨.loc, .ld (.loc 0), (some ((.loc 1), true)), 0⟩, ⟨.loc, .len false (.loc 0), (some ((.loc 2), true)), 0⟩, ⟨.loc, .fld 0 (.var 1), (some ((.loc 3), true)), 0⟩, ⟨.loc, .ld (.loc 0), (some ((.loc 4), true)), 0⟩, ⟨.loc, .fld 1 (.var 1), (some ((.loc 5), true)), 0⟩, ⟨.loc, .ld (.loc 0), (some ((.loc 6), true)), 0⟩, ⟨.loc, .bin .mul (.loc 2) (.loc 0), (some ((.loc 7), true)), 0⟩, ⟨.loc, .bin .eql (.loc 5) (.loc 0), (some ((.loc 8), true)), 0⟩, ⟨.loc, .pick (.loc 9) (.loc 0) (.cst (.bool false)), none, 0⟩, ⟨(.var 2), .mv (.loc 0), none, 0⟩])
 .ret)),
 [.var 2]⟩
/-- matrix.row[uint8] -/
def e311 : EFunc := ⟨[0, 1, 2, 6],
 [some 0, some 1, some 2, none],
 (.seq (.region [⟨(.var 3), .mv (.cst (.nilslice)), none, 0⟩])
 (.seq (.region [⟨.loc, .mv (.var 0), none, 0⟩, ⟨.loc, .mv (.var 2), none, 0⟩, ⟨.loc, .mv (.var 1), none, 0⟩, ⟨.loc, .bin .mul (.loc 1) (.loc 0), none, 0⟩, ⟨.loc, .mv (.var 2), none, 0⟩, ⟨.loc, .bin .add (.loc 0) (.cst (.int .i64 1)), none, 0⟩, ⟨.loc, .mv (.var 1), none, 0⟩, ⟨.loc, .bin .mul (.loc 1) (.loc 0), none, 0⟩, ⟨.loc, .mv (.var 2), none, 0⟩, ⟨.loc, .bin .add (.loc 0) (.cst (.int .i64 1)), none, 0⟩, ⟨.loc, .mv (.var 1), none, 0⟩, ⟨.loc, .bin .mul (.loc 1) (.loc 0), none, 0⟩, ⟨.loc, .sub 1 (.loc 11) (some (.loc 8)) (some (.loc 4)) (some (.loc 0)), none, 0⟩, ⟨(.var 3), .mv (.loc 0), none, 0⟩])
 .ret)),
 [.var 3]⟩
/-- field.tables).mul -/
def e312 : EFunc := ⟨[0, 1, 2, 6, 12],
 [some 0, some 1, some 2, none, none],
 (.seq (.region [⟨(.var 3), .mv (.cst (.int .u8 0)), none, 0⟩])
 (.seq (.seq (.region [⟨.loc, .mv (.var 1), none, 0⟩, ⟨.loc, .bin .eql (.loc 0) (.cst (.int .u8 0)), none, 0⟩, ⟨.loc, .mv (.loc 0), none, 0⟩, ⟨.loc, .mv (.var 2), (some ((.loc 0), false)), 0⟩, ⟨.loc, .bin .eql (.loc 0) (.cst (.int .u8 0)), (some ((.loc 1), false)), 0⟩, ⟨(.var 4), .pick (.loc 2) (.cst (.bool true)) (.loc 0), none, 0⟩])
 (.cond (.var 4) (.seq (.region [⟨(.var 3), .mv (.cst (.int .u8 0)), none, 0⟩])
 .ret) .skip))
 (.seq (.dregion [⟨.loc, .mv (.var 0), none, 0⟩, ⟨.loc, .mv (.var 0), none, 1⟩, ⟨.loc, .mv (.var 1), none, 2⟩, ⟨.loc, .nilchk (.loc 1), none, 3⟩, ⟨.loc, .fld 510 (.loc 0), none, 4⟩, ⟨.loc, .idxA 256 1 (.loc 0) (.loc 2), none, 5⟩, ⟨.loc, .ld (.loc 0), none, 6⟩, ⟨.loc, .mv (.var 0), none, 7⟩, ⟨.loc, .mv (.var 2), none, 8⟩, ⟨.loc, .nilchk (.loc 1), none, 9⟩, ⟨.loc, .fld 510 (.loc 0), none, 10⟩, ⟨.loc, .idxA 256 1 (.loc 0) (.loc 2), none, 11⟩, ⟨.loc, .ld (.loc 0), none, 12⟩, ⟨.loc, .bin .add (.loc 6) (.loc 0), none, 13⟩, ⟨.loc, .nilchk (.loc 13), none, 14⟩, ⟨.loc, .fld 0 (.loc 0), none, 15⟩, ⟨.loc, .idxA 510 1 (.loc 0) (.loc 2), none, 16⟩, ⟨.loc, .ld (.loc 0), none, 17⟩, ⟨(.var 3), .mv (.loc 0), none, 18⟩] [])
 .ret))),
 [.var 3]⟩
/-- drive.Drive).seen -/
def e313 : EFunc := ⟨[0, 1, 4, 5, 6, 16],
 [some 0, some 1, none, none, none, none],
 (.seq (.region [⟨(.var 2), .alloc [.int .u8 0, .int .u8 0, .int .u8 0, .int .u8 0, .int .u8 0, .int .u8 0, .int .u8 0, .int .u8 0, .int .u8 0, .int .u8 0, .int .u8 0, .int .u8 0, .int .u8 0, .int .u8 0, .int .u8 0, .int .u8 0, .int .u8 0, .int .u8 0, .int .u8 0, .int .u8 0, .int .u8 0, .int .u8 0, .int .u8 0, .int .u8 0, .int .u8 0, .int .u8 0, .int .u8 0, .int .u8 0, .int .u8 0, .int .u8 0, .int .u8 0, .int .u8 0, .int .u8 0, .int .u8 0, .int .u8 0, .int .u8 0, .int .u8 0, .int .u8 0, .int .u8 0, .int .u8 0, .int .u8 0, .int .u8 0, .int .u8 0, .int .u8 0, .int .u8 0, .int .u8 0, .int .u8 0, .int .u8 0, .int .u8 0, .int .u8 0, .int .u8 0, .int .u8 0, .int .u8 0, .int .u8 0, .int .u8 0, .int .u8 0, .int .u8 0, .int .u8 0, .int .u8 0, .int .u8 0, .int .u8 0, .int .u8 0, .int .u8 0, .int .u8 0], none, 0⟩])
 (.seq (.seq (.region [⟨.loc, .mv (.var 0), none, 0⟩, ⟨.loc, .nilchk (.loc 0), none, 0⟩, ⟨.loc, .fld 3 (.loc 0), none, 0⟩, ⟨.loc, .ld (.loc 0), none, 0⟩, ⟨.loc, .mv (.var 1), none, 0⟩, ⟨.loc, .lookup true 1 (.int .i64 0) (.loc 1) (.loc 0), none, 0⟩, ⟨.loc, .mv (.loc 0), none, 0⟩, ⟨.loc, .ext 0 (.loc 0), none, 0⟩, ⟨.loc, .ext 1 (.loc 1), none, 0⟩, ⟨(.var 3), .mv (.loc 1), none, 0⟩, ⟨(.var 4), .mv (.loc 0), none, 0⟩])
 (.seq (.region [⟨(.var 5), .mv (.var 4), none, 0⟩])
 (.cond (.var 5) (.seq (.region [⟨.loc, .mv (.var 0), none, 0⟩, ⟨.loc, .nilchk (.loc 0), none, 0⟩, ⟨.loc, .fld 2 (.loc 0), none, 0⟩, ⟨.loc, .ld (.loc 0), none, 0⟩, ⟨.loc, .mv (.var 3), none, 0⟩, ⟨.loc, .idx 65 (.loc 1) (.loc 0), none, 0⟩, ⟨.loc, .fld 1 (.loc 0), none, 0⟩, ⟨.loc, .ldn 64 (.loc 0), none, 0⟩, ⟨.drop, .st 64 (.var 2) (.loc 0), none, 0⟩])
 .ret) .skip)))
 (.seq (.region [⟨.loc, .mv (.var 0), none, 0⟩, ⟨.loc, .nilchk (.loc 0), none, 0⟩, ⟨.loc, .fld 0 (.loc 0), none, 0⟩, ⟨.loc, .ld (.loc 0), none, 0⟩, ⟨.loc, .mv (.var 1), none, 0⟩, ⟨.loc, .idx 64 (.loc 1) (.loc 0), none, 0⟩, ⟨.loc, .ldn 64 (.loc 0), none, 0⟩, ⟨.drop, .st 64 (.var 2) (.loc 0), none, 0⟩])
 .ret))),
 [.cell 2 (some 64)]⟩
/-- slices.IndexFunc[[]int,int] -/
def e314 : EFunc := ⟨[0, 1, 4, 5, 7, 8, 9, 16],
 [some 0, some 1, none, none, none, none, none, none],
 (.seq (.region [⟨(.var 2), .mv (.cst (.int .i64 0)), none, 0⟩])
 (.seq (.seq (.region [⟨.loc, .mv (.var 0), none, 0⟩, ⟨(.var 4), .len false (.loc 0), none, 0⟩, ⟨(.var 5), .mv (.cst (.int .i64 0)), none, 0⟩])
 (.block 0 (.loop (.seq (.region [⟨(.var 6), .bin .lss (.var 5) (.var 4), none, 0⟩])
 (.seq (.cond (.var 6) .skip (.exit 0))
 (.seq (.block 1 (.seq (.region [⟨.loc, .mv (.var 5), none, 0⟩, ⟨(.var 3), .mv (.loc 0), none, 0⟩])
 (.seq (.region [⟨.loc, .mv (.var 1), none, 0⟩, ⟨.loc, .mv (.var 0), none, 0⟩, ⟨.loc, .mv (.var 3), none, 0⟩, ⟨.loc, .idx 1 (.loc 1) (.loc 0), none, 0⟩, ⟨.loc, .ld (.loc 0), none, 0⟩, ⟨(.var 7), .call (.loc 4) [(.loc 0)], none, 0⟩])
 (.cond (.var 7) (.seq (.region [⟨.loc, .mv (.var 3), none, 0⟩, ⟨(.var 2), .mv (.loc 0), none, 0⟩])
 .ret) .skip))))
 (.region [⟨.loc, .bin .add (.var 5) (.cst (.int .i64 1)), none, 0⟩, ⟨(.var 5), .mv (.loc 0), none, 0⟩])))))))
 (.seq (.region [⟨(.var 2), .mv (.cst (.int .i64 (-1))), none, 0⟩])
 .ret))),
 [.var 2]⟩
/-- matrix.Invert -/
def e315 : EFunc := ⟨[0, 1, 3, 4, 5, 6, 7, 11, 32],
 [some 0, some 1, none, none, none, none, none, none, none],
 (.seq (.region [⟨(.var 2), .box 3 (.var 1), none, 0⟩, ⟨(.var 3), .alloc [.int .i64 0, .int .i64 0, .nilslice], none, 0⟩, ⟨(.var 4), .mv (.cst (.int .i64 0)), none, 0⟩])
 (.seq (.block 0 (.seq (.region [⟨.loc, .mv (.var 0), none, 0⟩, ⟨.loc, .call (.cst (.func (.func 246) [] [])) [(.loc 0)], none, 0⟩, ⟨(.var 6), .mv (.loc 0), none, 0⟩])
 (.cond (.var 6) (.seq (.region [⟨.loc, .build [.int .i64 0, .int .i64 0, .nilslice] [], none, 0⟩, ⟨.drop, .st 3 (.var 3) (.loc 0), none, 0⟩, ⟨(.var 4), .mv (.cst (.int .i64 1)), none, 0⟩])
 .ret) (.seq (.region [⟨.loc, .ldn 3 (.var 2), none, 0⟩, ⟨.loc, .call (.cst (.func (.func 310) [] [])) [(.loc 0)], none, 0⟩, ⟨.loc, .un .not (.loc 0), none, 0⟩, ⟨.loc, .mv (.loc 0), none, 0⟩, ⟨.loc, .fld 0 (.var 2), (some ((.loc 0), false)), 0⟩, ⟨.loc, .ld (.loc 0), (some ((.loc 1), false)), 0⟩, ⟨.loc, .fld 1 (.var 2), (some ((.loc 2), false)), 0⟩, ⟨.loc, .ld (.loc 0), (some ((.loc 3), false)), 0⟩, ⟨.loc, .bin .neq (.loc 2) (.loc 0), (some ((.loc 4), false)), 0⟩, ⟨.loc, .pick (.loc 5) (.cst (.bool true)) (.loc 0), none, 0⟩, ⟨(.var 7), .mv (.loc 0), none, 0⟩])
 (.cond (.var 7) (.seq (.region [⟨.loc, .build [.int .i64 0, .int .i64 0, .nilslice] [], none, 0⟩, ⟨.drop, .st 3 (.var 3) (.loc 0), none, 0⟩, ⟨(.var 4), .mv (.cst (.int .i64 2)), none, 0⟩])
 .ret) .skip)))))
 (.seq (.region [⟨.loc, .mv (.var 0), none, 0⟩, ⟨.loc, .ldn 3 (.var 2), none, 0⟩, ⟨.loc, .call (.cst (.func (.func 321) [] [])) [(.loc 1), (.loc 0), (.cst (.bool true))], none, 0⟩, ⟨(.var 5), .alloc [.nilptr], none, 0⟩, ⟨.drop, .st 1 (.var 5) (.loc 0), none, 0⟩])
 (.seq (.seq (.dregion [⟨.loc, .ld (.var 5), none, 0⟩, ⟨.loc, .fld 1 (.var 2), none, 1⟩, ⟨.loc, .ld (.loc 0), none, 2⟩, ⟨.loc, .fld 0 (.var 2), none, 4⟩, ⟨.loc, .ld (.loc 0), none, 5⟩] [⟨⟨.loc, .call (.cst (.func (.func 322) [] [])) [(.loc 4), (.loc 2)], none, 3⟩, [(5, .ld (.loc 2), (.loc 1), none)], [⟨(.var 8), .bin .lss (.loc 0) (.loc 1), none, 6⟩]⟩])
 (.cond (.var 8) (.seq (.region [⟨.loc, .build [.int .i64 0, .int .i64 0, .nilslice] [], none, 0⟩, ⟨.drop, .st 3 (.var 3) (.loc 0), none, 0⟩, ⟨(.var 4), .mv (.cst (.int .i64 40)), none, 0⟩])
 .ret) .skip))
 (.seq (.region [⟨.loc, .fld 0 (.var 2), none, 0⟩, ⟨.loc, .ld (.loc 0), none, 0⟩, ⟨.loc, .fld 1 (.var 2), none, 0⟩, ⟨.loc, .ld (.loc 0), none, 0⟩, ⟨.loc, .mkfn (.func 323) [] [(.var 5), (.var 2)], none, 0⟩, ⟨.loc, .call (.cst (.func (.func 249) [] [])) [(.loc 3), (.loc 1), (.loc 0)], none, 0⟩, ⟨.drop, .st 3 (.var 3) (.loc 0), none, 0⟩, ⟨(.var 4), .mv (.cst (.int .i64 0)), none, 0⟩])
 .ret))))),
 [.cell 3 (some 3), .var 4]⟩
/-- crc.through -/
def e316 : EFunc := ⟨[0, 1, 4, 6, 7, 8, 9, 10],
 [some 0, some 1, none, none, none, none, none, none],
 (.seq (.region [⟨(.var 2), .mv (.cst (.int .u32 0)), none, 0⟩])
 (.seq (.seq (.region [⟨(.var 4), .mv (.var 1), none, 0⟩, ⟨(.var 5), .len false (.var 4), none, 0⟩, ⟨(.var 6), .mv (.cst (.int .i64 0)), none, 0⟩])
 (.block 0 (.loop (.seq (.region [⟨(.var 7), .bin .lss (.var 6) (.var 5), none, 0⟩])
 (.seq (.cond (.var 7) .skip (.exit 0))
 (.seq (.block 1 (.seq (.region [⟨.loc, .idx 1 (.var 4) (.var 6), none, 0⟩, ⟨.loc, .ld (.loc 0), none, 0⟩, ⟨(.var 3), .mv (.loc 0), none, 0⟩])
 (.region [⟨.loc, .mv (.var 0), none, 0⟩, ⟨.loc, .mv (.var 3), none, 0⟩, ⟨.loc, .call (.cst (.func (.func 324) [] [])) [(.loc 1), (.loc 0)], none, 0⟩, ⟨(.var 0), .mv (.loc 0), none, 0⟩])))
 (.region [⟨.loc, .bin .add (.var 6) (.cst (.int .i64 1)), none, 0⟩, ⟨(.var 6), .mv (.loc 0), none, 0⟩])))))))
 (.seq (.region [⟨.loc, .mv (.var 0), none, 0⟩, ⟨(.var 2), .mv (.loc 0), none, 0⟩])
 .ret))),
 [.var 2]⟩
/-- atomic.Bool).Load -/
def e319 : EFunc := ⟨[0, 2],
 [some 0, none],
 (.seq (.region [⟨(.var 1), .mv (.cst (.bool false)), none, 0⟩])
 (.seq (.region [⟨.loc, .mv (.var 0), none, 0⟩, ⟨.loc, .nilchk (.loc 0), none, 0⟩, ⟨.loc, .fld 0 (.loc 0), none, 0⟩, ⟨.loc, .call (.cst (.func (.func 325) [] [])) [(.loc 0)], none, 0⟩, ⟨.loc, .bin .neq (.loc 0) (.cst (.int .u32 0)), none, 0⟩, ⟨(.var 1), .mv (.loc 0), none, 0⟩])
 .ret)),
 [.var 1]⟩
/-- (*sync.Once).doSlow -/
def e320 : EFunc := ⟨[0, 1, 15],
 [some 0, some 1, none],
 (.seq (.region [⟨.loc, .mv (.var 0), none, 0⟩, ⟨.loc, .nilchk (.loc 0), none, 0⟩, ⟨.loc, .fld 1 (.loc 0), none, 0⟩, ⟨.loc, .call (.cst (.func (.func 326) [] [])) [(.loc 0)], none, 0⟩])
 (.seq (.region [⟨.loc, .mv (.var 0), none, 0⟩, ⟨.loc, .nilchk (.loc 0), none, 0⟩, ⟨.loc, .fld 1 (.loc 0), none, 0⟩, ⟨.drop, .defer (.cst (.func (.func 327) [] [])) [(.loc 0)], none, 0⟩])
 (.seq (.region [⟨.loc, .mv (.var 0), none, 0⟩, ⟨.loc, .nilchk (.loc 0), none, 0⟩, ⟨.loc, .fld 0 (.loc 0), none, 0⟩, ⟨.loc, .call (.cst (.func (.func 319) [] [])) [(.loc 0)], none, 0⟩, ⟨(.var 2), .un .not (.loc 0), none, 0⟩])
 (.cond (.var 2) (.seq (.region [⟨.loc, .mv (.var 0), none, 0⟩, ⟨.loc, .nilchk (.loc 0), none, 0⟩, ⟨.loc, .fld 0 (.loc 0), none, 0⟩, ⟨.drop, .defer (.cst (.func (.func 328) [] [])) [(.loc 0), (.cst (.bool true))], none, 0⟩])
 (.region [⟨.loc, .mv (.var 1), none, 0⟩, ⟨.loc, .call (.loc 0) [], none, 0⟩])) .skip)))),
 []⟩
/-- matrix.begun -/
def e321 : EFunc := ⟨[0, 1, 2, 4, 6, 7, 8, 9, 14, 15, 16, 25],
 [some 0, some 1, some 2, none, none, none, none, none, none, none, none, none],
 (.seq (.region [⟨(.var 3), .box 3 (.var 1), none, 0⟩, ⟨(.var 4), .mv (.cst (.nilptr)), none, 0⟩])
 (.seq (.region [⟨.loc, .mv (.var 0), none, 0⟩, ⟨.loc, .build [.nilptr, .nilslice] [(0, 1, (.loc 0))], none, 0⟩, ⟨.loc, .box 2 (.loc 0), none, 0⟩, ⟨(.var 5), .mv (.loc 0), none, 0⟩])
 (.seq (.seq (.region [⟨.loc, .fld 0 (.var 3), none, 0⟩, ⟨(.var 8), .ld (.loc 0), none, 0⟩, ⟨(.var 9), .mv (.cst (.int .i64 0)), none, 0⟩])
 (.block 0 (.loop (.seq (.region [⟨(.var 10), .bin .lss (.var 9) (.var 8), none, 0⟩])
 (.seq (.cond (.var 10) .skip (.exit 0))
 (.seq (.block 1 (.seq (.region [⟨.loc, .mv (.var 9), none, 0⟩, ⟨(.var 6), .mv (.loc 0), none, 0⟩])
 (.seq (.region [⟨.loc, .fld 2 (.var 3), none, 0⟩, ⟨.loc, .ld (.loc 0), none, 0⟩, ⟨.loc, .fld 1 (.var 3), none, 0⟩, ⟨.loc, .ld (.loc 0), none, 0⟩, ⟨.loc, .mv (.var 6), none, 0⟩, ⟨.loc, .call (.cst (.func (.func 311) [] [])) [(.loc 3), (.loc 1), (.loc 0)], none, 0⟩, ⟨.loc, .append 1 1 (.cst (.nilslice)) (.loc 0), none, 0⟩, ⟨(.var 7), .mv (.loc 0), none, 0⟩])
 (.seq (.seq (.region [⟨(.var 11), .mv (.var 2), none, 0⟩])
 (.cond (.var 11) (.seq (.region [⟨.loc, .mv (.var 7), none, 0⟩, ⟨.loc, .fld 0 (.var 3), none, 0⟩, ⟨.loc, .ld (.loc 0), none, 0⟩, ⟨.loc, .appendZ 1 1 [.int .u8 0] (.loc 2) (.loc 0), none, 0⟩, ⟨(.var 7), .mv (.loc 0), none, 0⟩])
 (.region [⟨.loc, .mv (.var 7), none, 0⟩, ⟨.loc, .fld 1 (.var 3), none, 0⟩, ⟨.loc, .ld (.loc 0), none, 0⟩, ⟨.loc, .mv (.var 6), none, 0⟩, ⟨.loc, .bin .add (.loc 1) (.loc 0), none, 0⟩, ⟨.loc, .idx 1 (.loc 4) (.loc 0), none, 0⟩, ⟨.drop, .st 1 (.loc 0) (.cst (.int .u8 1)), none, 0⟩])) .skip))
 (.region [⟨.loc, .mv (.var 5), none, 0⟩, ⟨.loc, .mv (.var 5), none, 0⟩, ⟨.loc, .nilchk (.loc 0), none, 0⟩, ⟨.loc, .fld 1 (.loc 0), none, 0⟩, ⟨.loc, .ld (.loc 0), none, 0⟩, ⟨.loc, .mv (.var 7), none, 0⟩, ⟨.loc, .buildS 1 1 [.nilslice] [(0, 1, (.loc 0))], none, 0⟩, ⟨.loc, .append 1 24 (.loc 2) (.loc 0), none, 0⟩, ⟨.loc, .nilchk (.loc 7), none, 0⟩, ⟨.loc, .fld 1 (.loc 0), none, 0⟩, ⟨.drop, .st 1 (.loc 0) (.loc 2), none, 0⟩])))))
 (.region [⟨.loc, .bin .add (.var 9) (.cst (.int .i64 1)), none, 0⟩, ⟨(.var 9), .mv (.loc 0), none, 0⟩])))))))
 (.seq (.region [⟨.loc, .mv (.var 5), none, 0⟩, ⟨(.var 4), .mv (.loc 0), none, 0⟩])
 .ret)))),
 [.var 4]⟩
/-- matrix.work).eliminate -/
def e322 : EFunc := ⟨[0, 1, 4, 5, 6, 7, 8, 9, 10, 18, 25],
 [some 0, some 1, none, none, none, none, none, none, none, none, none],
 (.seq (.region [⟨(.var 2), .mv (.cst (.int .i64 0)), none, 0⟩])
 (.seq (.region [⟨(.var 3), .mv (.cst (.int .i64 0)), none, 0⟩])
 (.seq (.seq (.region [⟨(.var 6), .mv (.var 1), none, 0⟩, ⟨(.var 7), .mv (.cst (.int .i64 0)), none, 0⟩])
 (.block 0 (.loop (.seq (.region [⟨(.var 8), .bin .lss (.var 7) (.var 6), none, 0⟩])
 (.seq (.cond (.var 8) .skip (.exit 0))
 (.seq (.block 1 (.seq (.region [⟨.loc, .mv (.var 7), none, 0⟩, ⟨(.var 4), .mv (.loc 0), none, 0⟩])
 (.seq (.seq (.region [⟨.loc, .mv (.var 3), none, 0⟩, ⟨.loc, .mv (.var 0), none, 0⟩, ⟨.loc, .nilchk (.loc 0), none, 0⟩, ⟨.loc, .fld 1 (.loc 0), none, 0⟩, ⟨.loc, .ld (.loc 0), none, 0⟩, ⟨.loc, .len false (.loc 0), none, 0⟩, ⟨(.var 9), .bin .eql (.loc 5) (.loc 0), none, 0⟩])
 (.cond (.var 9) (.seq (.region [⟨.loc, .mv (.var 3), none, 0⟩, ⟨(.var 2), .mv (.loc 0), none, 0⟩])
 .ret) .skip))
 (.seq (.region [⟨.loc, .mv (.var 0), none, 0⟩, ⟨.loc, .mv (.var 3), none, 0⟩, ⟨.loc, .mv (.var 4), none, 0⟩, ⟨.loc, .call (.cst (.func (.func 329) [] [])) [(.loc 2), (.loc 1), (.loc 0)], none, 0⟩, ⟨(.var 5), .mv (.loc 0), none, 0⟩])
 (.seq (.seq (.region [⟨.loc, .mv (.var 5), none, 0⟩, ⟨(.var 10), .bin .lss (.loc 0) (.cst (.int .i64 0)), none, 0⟩])
 (.cond (.var 10) (.exit 1) .skip))
 (.seq (.dregion [⟨.loc, .mv (.var 0), none, 0⟩, ⟨.loc, .nilchk (.loc 0), none, 1⟩, ⟨.loc, .fld 1 (.loc 0), none, 2⟩, ⟨.loc, .ld (.loc 0), none, 3⟩, ⟨.loc, .mv (.var 3), none, 4⟩, ⟨.loc, .mv (.var 0), none, 5⟩, ⟨.loc, .nilchk (.loc 0), none, 6⟩, ⟨.loc, .fld 1 (.loc 0), none, 7⟩, ⟨.loc, .ld (.loc 0), none, 8⟩, ⟨.loc, .mv (.var 5), none, 9⟩, ⟨.loc, .mv (.var 0), none, 10⟩, ⟨.loc, .nilchk (.loc 0), none, 11⟩, ⟨.loc, .fld 1 (.loc 0), none, 12⟩, ⟨.loc, .ld (.loc 0), none, 13⟩, ⟨.loc, .mv (.var 5), none, 14⟩, ⟨.loc, .idx 1 (.loc 1) (.loc 0), none, 15⟩, ⟨.loc, .ld (.loc 0), none, 16⟩, ⟨.loc, .mv (.var 0), none, 17⟩, ⟨.loc, .nilchk (.loc 0), none, 18⟩, ⟨.loc, .fld 1 (.loc 0), none, 19⟩, ⟨.loc, .ld (.loc 0), none, 20⟩, ⟨.loc, .mv (.var 3), none, 21⟩, ⟨.loc, .idx 1 (.loc 1) (.loc 0), none, 22⟩, ⟨.loc, .ld (.loc 0), none, 23⟩, ⟨.loc, .idx 1 (.loc 20) (.loc 19), none, 24⟩] [⟨⟨.drop, .st 1 (.loc 0) (.loc 8), none, 25⟩, [], [⟨.loc, .idx 1 (.loc 16) (.loc 15), none, 26⟩]⟩, ⟨⟨.drop, .st 1 (.loc 0) (.loc 2), none, 27⟩, [], []⟩])
 (.seq (.region [⟨.loc, .mv (.var 0), none, 0⟩, ⟨.loc, .mv (.var 3), none, 0⟩, ⟨.loc, .mv (.var 4), none, 0⟩, ⟨.loc, .call (.cst (.func (.func 330) [] [])) [(.loc 2), (.loc 1), (.loc 0)], none, 0⟩])
 (.region [⟨.loc, .mv (.var 3), none, 0⟩, ⟨.loc, .bin .add (.loc 0) (.cst (.int .i64 1)), none, 0⟩, ⟨(.var 3), .mv (.loc 0), none, 0⟩]))))))))
 (.region [⟨.loc, .bin .add (.var 7) (.cst (.int .i64 1)), none, 0⟩, ⟨(.var 7), .mv (.loc 0), none, 0⟩])))))))
 (.seq (.region [⟨.loc, .mv (.var 3), none, 0⟩, ⟨(.var 2), .mv (.loc 0), none, 0⟩])
 .ret)))),
 [.var 2]⟩
/-- matrix.Invert$1 -/
def e323 : EFunc := ⟨[0, 1, 2, 3, 6],
 [some 0, some 1, some 2, some 3, none],
 (.seq (.region [⟨(.var 4), .mv (.cst (.int .u8 0)), none, 0⟩])
 (.seq (.dregion [⟨.loc, .ld (.var 2), none, 0⟩, ⟨.loc, .nilchk (.loc 0), none, 1⟩, ⟨.loc, .fld 1 (.loc 0), none, 2⟩, ⟨.loc, .ld (.loc 0), none, 3⟩, ⟨.loc, .mv (.var 0), none, 4⟩, ⟨.loc, .idx 1 (.loc 1) (.loc 0), none, 5⟩, ⟨.loc, .ld (.loc 0), none, 6⟩, ⟨.loc, .fld 1 (.var 3), none, 7⟩, ⟨.loc, .ld (.loc 0), none, 8⟩, ⟨.loc, .mv (.var 1), none, 9⟩, ⟨.loc, .bin .add (.loc 1) (.loc 0), none, 10⟩, ⟨.loc, .idx 1 (.loc 4) (.loc 0), none, 11⟩, ⟨.loc, .ld (.loc 0), none, 12⟩, ⟨(.var 4), .mv (.loc 0), none, 13⟩] [])
 .ret)),
 [.var 4]⟩
/-- crc.eat -/
def e324 : EFunc := ⟨[0, 1, 4, 9, 10],
 [some 0, some 1, none, none, none],
 (.seq (.region [⟨(.var 2), .mv (.cst (.int .u32 0)), none, 0⟩])
 (.seq (.region [⟨.loc, .mv (.var 0), none, 0⟩, ⟨.loc, .mv (.var 1), none, 0⟩, ⟨.loc, .conv .u32 (.loc 0), none, 0⟩, ⟨.loc, .bin .xor (.loc 2) (.loc 0), none, 0⟩, ⟨(.var 0), .mv (.loc 0), none, 0⟩])
 (.seq (.seq (.region [⟨(.var 3), .mv (.cst (.int .i64 0)), none, 0⟩])
 (.block 0 (.loop (.seq (.region [⟨(.var 4), .bin .lss (.var 3) (.cst (.int .i64 8)), none, 0⟩])
 (.seq (.cond (.var 4) .skip (.exit 0))
 (.seq (.block 1 (.region [⟨.loc, .mv (.var 0), none, 0⟩, ⟨.loc, .call (.cst (.func (.func 331) [] [])) [(.loc 0)], none, 0⟩, ⟨(.var 0), .mv (.loc 0), none, 0⟩]))
 (.region [⟨.loc, .bin .add (.var 3) (.cst (.int .i64 1)), none, 0⟩, ⟨(.var 3), .mv (.loc 0), none, 0⟩])))))))
 (.seq (.region [⟨.loc, .mv (.var 0), none, 0⟩, ⟨(.var 2), .mv (.loc 0), none, 0⟩])
 .ret)))),
 [.var 2]⟩
/-- (*sync.Mutex).Lock -/
def e326 : EFunc := ⟨[0],
 [some 0],
 (.region [⟨.loc, .mv (.var 0), none, 0⟩, ⟨.loc, .nilchk (.loc 0), none, 0⟩, ⟨.loc, .fld 0 (.loc 0), none, 0⟩, ⟨.loc, .call (.cst (.func (.func 332) [] [])) [(.loc 0)], none, 0⟩]),
 []⟩
/-- (*sync.Mutex).Unlock -/
def e327 : EFunc := ⟨[0],
 [some 0],
 (.region [⟨.loc, .mv (.var 0), none, 0⟩, ⟨.loc, .nilchk (.loc 0), none, 0⟩, ⟨.loc, .fld 0 (.loc 0), none, 0⟩, ⟨.loc, .call (.cst (.func (.func 333) [] [])) [(.loc 0)], none, 0⟩]),
 []⟩
/-- atomic.Bool).Store -/
def e328 : EFunc := ⟨[0, 1],
 [some 0, some 1],
 (.dregion [⟨.loc, .mv (.var 0), none, 0⟩, ⟨.loc, .nilchk (.loc 0), none, 1⟩, ⟨.loc, .fld 0 (.loc 0), none, 2⟩, ⟨.loc, .mv (.var 1), none, 3⟩] [⟨⟨.loc, .call (.cst (.func (.func 335) [] [])) [(.loc 0)], none, 4⟩, [], []⟩, ⟨⟨.loc, .call (.cst (.func (.func 334) [] [])) [(.loc 2), (.loc 0)], none, 5⟩, [], []⟩]),
 []⟩
/-- matrix.work).pivot -/
def e329 : EFunc := ⟨[0, 1, 2, 6, 7, 8, 14, 15, 16, 17, 25],
 [some 0, some 1, some 2, none, none, none, none, none, none, none, none],
 (.seq (.region [⟨(.var 3), .mv (.cst (.int .i64 0)), none, 0⟩])
 (.seq (.seq (.region [⟨.loc, .mv (.var 0), none, 0⟩, ⟨.loc, .nilchk (.loc 0), none, 0⟩, ⟨.loc, .fld 1 (.loc 0), none, 0⟩, ⟨.loc, .ld (.loc 0), none, 0⟩, ⟨.loc, .mv (.var 1), none, 0⟩, ⟨(.var 6), .sub 1 (.loc 1) (some (.loc 0)) none none, none, 0⟩, ⟨(.var 7), .len false (.var 6), none, 0⟩, ⟨(.var 8), .mv (.cst (.int .i64 0)), none, 0⟩])
 (.block 0 (.loop (.seq (.region [⟨(.var 9), .bin .lss (.var 8) (.var 7), none, 0⟩])
 (.seq (.cond (.var 9) .skip (.exit 0))
 (.seq (.block 1 (.seq (.region [⟨.loc, .mv (.var 8), none, 0⟩, ⟨.loc, .idx 1 (.var 6) (.var 8), none, 0⟩, ⟨.loc, .ld (.loc 0), none, 0⟩, ⟨(.var 4), .mv (.loc 2), none, 0⟩, ⟨(.var 5), .mv (.loc 0), none, 0⟩])
 (.seq (.region [⟨.loc, .mv (.var 5), none, 0⟩, ⟨.loc, .mv (.var 2), none, 0⟩, ⟨.loc, .idx 1 (.loc 1) (.loc 0), none, 0⟩, ⟨.loc, .ld (.loc 0), none, 0⟩, ⟨(.var 10), .bin .neq (.loc 0) (.cst (.int .u8 0)), none, 0⟩])
 (.cond (.var 10) (.seq (.region [⟨.loc, .mv (.var 1), none, 0⟩, ⟨.loc, .mv (.var 4), none, 0⟩, ⟨.loc, .bin .add (.loc 1) (.loc 0), none, 0⟩, ⟨(.var 3), .mv (.loc 0), none, 0⟩])
 .ret) .skip))))
 (.region [⟨.loc, .bin .add (.var 8) (.cst (.int .i64 1)), none, 0⟩, ⟨(.var 8), .mv (.loc 0), none, 0⟩])))))))
 (.seq (.region [⟨(.var 3), .mv (.cst (.int .i64 (-1))), none, 0⟩])
 .ret))),
 [.var 3]⟩
/-- matrix.work).clean -/
def e330 : EFunc := ⟨[0, 1, 2, 6, 8, 9, 50, 51, 52, 53, 66],
 [some 0, some 1, some 2, none, none, none, none, none, none, none, none],
 (.seq (.dregion [⟨.loc, .mv (.var 0), none, 0⟩, ⟨.loc, .nilchk (.loc 0), none, 1⟩, ⟨.loc, .fld 0 (.loc 0), none, 2⟩, ⟨.loc, .ld (.loc 0), none, 3⟩, ⟨.loc, .mv (.var 0), none, 4⟩, ⟨.loc, .nilchk (.loc 0), none, 5⟩, ⟨.loc, .fld 1 (.loc 0), none, 6⟩, ⟨.loc, .ld (.loc 0), none, 7⟩, ⟨.loc, .mv (.var 1), none, 8⟩, ⟨.loc, .idx 1 (.loc 1) (.loc 0), none, 9⟩, ⟨.loc, .ld (.loc 0), none, 10⟩, ⟨.loc, .mv (.var 2), none, 11⟩, ⟨.loc, .idx 1 (.loc 1) (.loc 0), none, 12⟩, ⟨.loc, .ld (.loc 0), none, 13⟩] [⟨⟨.loc, .call (.cst (.func (.func 251) [] [])) [(.loc 10), (.cst (.int .u8 1)), (.loc 0)], none, 14⟩, [], [⟨.loc, .mv (.loc 0), none, 15⟩, ⟨.loc, .ext 0 (.loc 0), none, 16⟩, ⟨.loc, .ext 1 (.loc 1), none, 17⟩, ⟨(.var 3), .mv (.loc 1), none, 18⟩, ⟨.loc, .mv (.loc 0), none, 19⟩]⟩])
 (.seq (.dregion [⟨.loc, .mv (.var 0), none, 0⟩, ⟨.loc, .nilchk (.loc 0), none, 1⟩, ⟨.loc, .fld 1 (.loc 0), none, 2⟩, ⟨.loc, .ld (.loc 0), none, 3⟩, ⟨.loc, .mv (.var 1), none, 4⟩, ⟨.loc, .mv (.var 0), none, 5⟩, ⟨.loc, .nilchk (.loc 0), none, 6⟩, ⟨.loc, .fld 0 (.loc 0), none, 7⟩, ⟨.loc, .ld (.loc 0), none, 8⟩, ⟨.loc, .mv (.var 3), none, 9⟩, ⟨.loc, .mv (.var 0), none, 10⟩, ⟨.loc, .nilchk (.loc 0), none, 11⟩, ⟨.loc, .fld 1 (.loc 0), none, 12⟩, ⟨.loc, .ld (.loc 0), none, 13⟩, ⟨.loc, .mv (.var 1), none, 14⟩, ⟨.loc, .idx 1 (.loc 1) (.loc 0), none, 15⟩, ⟨.loc, .ld (.loc 0), none, 16⟩] [⟨⟨.loc, .call (.cst (.func (.func 336) [] [])) [(.loc 8), (.loc 7), (.loc 0)], none, 17⟩, [(3, .ld (.loc 15), (.loc 14), none)], [⟨.loc, .idx 1 (.loc 14) (.loc 13), none, 18⟩]⟩, ⟨⟨.drop, .st 1 (.loc 0) (.loc 1), none, 19⟩, [], []⟩])
 (.seq (.region [⟨.loc, .mv (.var 0), none, 0⟩, ⟨.loc, .nilchk (.loc 0), none, 0⟩, ⟨.loc, .fld 1 (.loc 0), none, 0⟩, ⟨(.var 6), .ld (.loc 0), none, 0⟩, ⟨(.var 7), .len false (.var 6), none, 0⟩, ⟨(.var 8), .mv (.cst (.int .i64 0)), none, 0⟩])
 (.block 0 (.loop (.seq (.region [⟨(.var 9), .bin .lss (.var 8) (.var 7), none, 0⟩])
 (.seq (.cond (.var 9) .skip (.exit 0))
 (.seq (.block 1 (.seq (.region [⟨.loc, .mv (.var 8), none, 0⟩, ⟨.loc, .idx 1 (.var 6) (.var 8), none, 0⟩, ⟨.loc, .ld (.loc 0), none, 0⟩, ⟨(.var 4), .mv (.loc 2), none, 0⟩, ⟨(.var 5), .mv (.loc 0), none, 0⟩])
 (.seq (.region [⟨.loc, .mv (.var 4), none, 0⟩, ⟨.loc, .mv (.var 1), none, 0⟩, ⟨.loc, .bin .neq (.loc 1) (.loc 0), none, 0⟩, ⟨.loc, .mv (.loc 0), none, 0⟩, ⟨.loc, .mv (.var 5), (some ((.loc 0), true)), 0⟩, ⟨.loc, .mv (.var 2), (some ((.loc 1), true)), 0⟩, ⟨.loc, .idx 1 (.loc 1) (.loc 0), (some ((.loc 2), true)), 0⟩, ⟨.loc, .ld (.loc 0), (some ((.loc 3), true)), 0⟩, ⟨.loc, .bin .neq (.loc 0) (.cst (.int .u8 0)), (some ((.loc 4), true)), 0⟩, ⟨(.var 10), .pick (.loc 5) (.loc 0) (.cst (.bool false)), none, 0⟩])
 (.cond (.var 10) (.dregion [⟨.loc, .mv (.var 0), none, 0⟩, ⟨.loc, .nilchk (.loc 0), none, 1⟩, ⟨.loc, .fld 1 (.loc 0), none, 2⟩, ⟨.loc, .ld (.loc 0), none, 3⟩, ⟨.loc, .mv (.var 4), none, 4⟩, ⟨.loc, .mv (.var 0), none, 5⟩, ⟨.loc, .nilchk (.loc 0), none, 6⟩, ⟨.loc, .fld 0 (.loc 0), none, 7⟩, ⟨.loc, .ld (.loc 0), none, 8⟩, ⟨.loc, .mv (.var 5), none, 9⟩, ⟨.loc, .mv (.var 2), none, 10⟩, ⟨.loc, .idx 1 (.loc 1) (.loc 0), none, 11⟩, ⟨.loc, .ld (.loc 0), none, 12⟩, ⟨.loc, .mv (.var 0), none, 13⟩, ⟨.loc, .nilchk (.loc 0), none, 14⟩, ⟨.loc, .fld 1 (.loc 0), none, 15⟩, ⟨.loc, .ld (.loc 0), none, 16⟩, ⟨.loc, .mv (.var 1), none, 17⟩, ⟨.loc, .idx 1 (.loc 1) (.loc 0), none, 18⟩, ⟨.loc, .ld (.loc 0), none, 19⟩, ⟨.loc, .mv (.var 5), none, 20⟩] [⟨⟨.loc, .call (.cst (.func (.func 289) [] [])) [(.loc 12), (.loc 8), (.loc 1), (.loc 0)], none, 21⟩, [(3, .ld (.loc 19), (.loc 18), none)], [⟨.loc, .idx 1 (.loc 18) (.loc 17), none, 22⟩]⟩, ⟨⟨.drop, .st 1 (.loc 0) (.loc 1), none, 23⟩, [], []⟩]) .skip))))
 (.region [⟨.loc, .bin .add (.var 8) (.cst (.int .i64 1)), none, 0⟩, ⟨(.var 8), .mv (.loc 0), none, 0⟩]))))))))),
 []⟩
/-- crc.step -/
def e331 : EFunc := ⟨[0, 2],
 [some 0, none],
 (.seq (.region [⟨(.var 1), .mv (.cst (.int .u32 0)), none, 0⟩])
 (.seq (.region [⟨.loc, .mv (.var 0), none, 0⟩, ⟨.loc, .bin .shr (.loc 0) (.cst (.int .u64 1)), none, 0⟩, ⟨.loc, .mv (.var 0), none, 0⟩, ⟨.loc, .bin .and (.loc 0) (.cst (.int .u32 1)), none, 0⟩, ⟨.loc, .un .neg (.loc 0), none, 0⟩, ⟨.loc, .bin .and (.cst (.int .u32 2197175160)) (.loc 0), none, 0⟩, ⟨.loc, .bin .xor (.loc 4) (.loc 0), none, 0⟩, ⟨(.var 1), .mv (.loc 0), none, 0⟩])
 .ret)),
 [.var 1]⟩
/-- sync.Mutex).Lock -/
def e332 : EFunc := ⟨[0, 6],
 [some 0, none],
 (.seq (.region [⟨.loc, .call (.cst (.func (.func 337) [] [])) [], none, 0⟩])
 (.seq (.seq (.region [⟨.loc, .mv (.var 0), none, 0⟩, ⟨.loc, .nilchk (.loc 0), none, 0⟩, ⟨.loc, .fld 0 (.loc 0), none, 0⟩, ⟨(.var 1), .call (.cst (.func (.func 338) [] [])) [(.loc 0), (.cst (.int .i32 0)), (.cst (.int .i32 1))], none, 0⟩])
 (.cond (.var 1) (.seq (.cond (.cst (.bool true)) (.seq (.region [⟨.loc, .call (.cst (.func (.func 339) [] [])) [], none, 0⟩])
 (.region [⟨.loc, .mv (.var 0), none, 0⟩, ⟨.loc, .uptr (.loc 0), none, 0⟩, ⟨.loc, .call (.cst (.func (.func 340) [] [])) [(.loc 0)], none, 0⟩])) .skip)
 .ret) .skip))
 (.region [⟨.loc, .mv (.var 0), none, 0⟩, ⟨.loc, .call (.cst (.func (.func 341) [] [])) [(.loc 0)], none, 0⟩]))),
 []⟩
/-- sync.Mutex).Unlock -/
def e333 : EFunc := ⟨[0, 2, 16],
 [some 0, none, none],
 (.seq (.cond (.cst (.bool true)) (.seq (.region [⟨.loc, .mv (.var 0), none, 0⟩, ⟨.loc, .nilchk (.loc 0), none, 0⟩, ⟨.loc, .fld 0 (.loc 0), none, 0⟩, ⟨.loc, .ld (.loc 0), none, 0⟩])
 (.seq (.region [⟨.loc, .mv (.var 0), none, 0⟩, ⟨.loc, .uptr (.loc 0), none, 0⟩, ⟨.loc, .call (.cst (.func (.func 342) [] [])) [(.loc 0)], none, 0⟩])
 (.region [⟨.loc, .call (.cst (.func (.func 337) [] [])) [], none, 0⟩]))) .skip)
 (.seq (.region [⟨.loc, .mv (.var 0), none, 0⟩, ⟨.loc, .nilchk (.loc 0), none, 0⟩, ⟨.loc, .fld 0 (.loc 0), none, 0⟩, ⟨.loc, .call (.cst (.func (.func 343) [] [])) [(.loc 0), (.cst (.int .i32 (-1)))], none, 0⟩, ⟨(.var 1), .mv (.loc 0), none, 0⟩])
 (.seq (.seq (.region [⟨.loc, .mv (.var 1), none, 0⟩, ⟨(.var 2), .bin .neq (.loc 0) (.cst (.int .i32 0)), none, 0⟩])
 (.cond (.var 2) (.region [⟨.loc, .mv (.var 0), none, 0⟩, ⟨.loc, .mv (.var 1), none, 0⟩, ⟨.loc, .call (.cst (.func (.func 344) [] [])) [(.loc 1), (.loc 0)], none, 0⟩]) .skip))
 (.region [⟨.loc, .call (.cst (.func (.func 339) [] [])) [], none, 0⟩])))),
 []⟩
/-- atomic.b32 -/
def e335 : EFunc := ⟨[0, 2, 3],
 [some 0, none, none],
 (.seq (.region [⟨(.var 1), .mv (.cst (.int .u32 0)), none, 0⟩])
 (.seq (.seq (.region [⟨(.var 2), .mv (.var 0), none, 0⟩])
 (.cond (.var 2) (.seq (.region [⟨(.var 1), .mv (.cst (.int .u32 1)), none, 0⟩])
 .ret) .skip))
 (.seq (.region [⟨(.var 1), .mv (.cst (.int .u32 0)), none, 0⟩])
 .ret))),
 [.var 1]⟩
/-- field.Field).Scale -/
def e336 : EFunc := ⟨[0, 1, 2, 6, 7, 8, 9, 12, 16, 17, 18, 19],
 [some 0, some 1, some 2, none, none, none, none, none, none, none, none, none],
 (.seq (.region [⟨(.var 3), .mv (.cst (.nilslice)), none, 0⟩])
 (.seq (.seq (.region [⟨.loc, .mv (.var 0), none, 0⟩, ⟨.loc, .call (.cst (.func (.func 286) [] [])) [(.loc 0)], none, 0⟩, ⟨(.var 7), .un .not (.loc 0), none, 0⟩])
 (.cond (.var 7) (.seq (.region [⟨(.var 3), .mv (.cst (.nilslice)), none, 0⟩])
 .ret) .skip))
 (.seq (.region [⟨.loc, .mv (.var 2), none, 0⟩, ⟨.loc, .len false (.loc 0), none, 0⟩, ⟨.loc, .make 1 1 [.int .u8 0] (.loc 0) (.loc 0), none, 0⟩, ⟨(.var 4), .mv (.loc 0), none, 0⟩])
 (.seq (.seq (.region [⟨(.var 8), .mv (.var 2), none, 0⟩, ⟨(.var 9), .len false (.var 8), none, 0⟩, ⟨(.var 10), .mv (.cst (.int .i64 0)), none, 0⟩])
 (.block 0 (.loop (.seq (.region [⟨(.var 11), .bin .lss (.var 10) (.var 9), none, 0⟩])
 (.seq (.cond (.var 11) .skip (.exit 0))
 (.seq (.block 1 (.seq (.region [⟨.loc, .mv (.var 10), none, 0⟩, ⟨.loc, .idx 1 (.var 8) (.var 10), none, 0⟩, ⟨.loc, .ld (.loc 0), none, 0⟩, ⟨(.var 5), .mv (.loc 2), none, 0⟩, ⟨(.var 6), .mv (.loc 0), none, 0⟩])
 (.region [⟨.loc, .mv (.var 4), none, 0⟩, ⟨.loc, .mv (.var 5), none, 0⟩, ⟨.loc, .mv (.var 0), none, 0⟩, ⟨.loc, .nilchk (.loc 0), none, 0⟩, ⟨.loc, .fld 4 (.loc 0), none, 0⟩, ⟨.loc, .mv (.var 1), none, 0⟩, ⟨.loc, .mv (.var 6), none, 0⟩, ⟨.loc, .call (.cst (.func (.func 312) [] [])) [(.loc 2), (.loc 1), (.loc 0)], none, 0⟩, ⟨.loc, .idx 1 (.loc 7) (.loc 6), none, 0⟩, ⟨.drop, .st 1 (.loc 0) (.loc 1), none, 0⟩])))
 (.region [⟨.loc, .bin .add (.var 10) (.cst (.int .i64 1)), none, 0⟩, ⟨(.var 10), .mv (.loc 0), none, 0⟩])))))))
 (.seq (.region [⟨.loc, .mv (.var 4), none, 0⟩, ⟨(.var 3), .mv (.loc 0), none, 0⟩])
 .ret))))),
 [.var 3]⟩
/-- sync.Mutex).lockSlow -/
def e341 : EFunc := ⟨[0, 2, 3, 4, 5, 6, 7, 8, 9, 20, 41, 52, 57, 65, 68, 71, 80, 83, 87, 107, 115, 123],
 [some 0, none, none, none, none, none, none, none, none, none, none, none, none, none, none, none, none, none, none, none, none, none],
 (.seq (.region [⟨(.var 1), .mv (.cst (.int .i64 0)), none, 0⟩])
 (.seq (.region [⟨(.var 2), .mv (.cst (.bool false)), none, 0⟩])
 (.seq (.region [⟨(.var 3), .mv (.cst (.bool false)), none, 0⟩])
 (.seq (.region [⟨(.var 4), .mv (.cst (.int .i64 0)), none, 0⟩])
 (.seq (.region [⟨.loc, .mv (.var 0), none, 0⟩, ⟨.loc, .nilchk (.loc 0), none, 0⟩, ⟨.loc, .fld 0 (.loc 0), none, 0⟩, ⟨.loc, .ld (.loc 0), none, 0⟩, ⟨(.var 5), .mv (.loc 0), none, 0⟩])
 (.seq (.block 0 (.loop (.block 1 (.seq (.seq (.region [⟨.loc, .mv (.var 5), none, 0⟩, ⟨.loc, .bin .and (.loc 0) (.cst (.int .i32 5)), none, 0⟩, ⟨.loc, .bin .eql (.loc 0) (.cst (.int .i32 1)), none, 0⟩, ⟨.loc, .mv (.loc 0), none, 0⟩, ⟨.loc, .mv (.var 4), (some ((.loc 0), true)), 0⟩, ⟨.loc, .call (.cst (.func (.func 345) [] [])) [(.loc 0)], (some ((.loc 1), true)), 0⟩, ⟨(.var 9), .pick (.loc 2) (.loc 0) (.cst (.bool false)), none, 0⟩])
 (.cond (.var 9) (.seq (.seq (.region [⟨.loc, .mv (.var 3), none, 0⟩, ⟨.loc, .un .not (.loc 0), none, 0⟩, ⟨.loc, .mv (.loc 0), none, 0⟩, ⟨.loc, .mv (.var 5), (some ((.loc 0), true)), 0⟩, ⟨.loc, .bin .and (.loc 0) (.cst (.int .i32 2)), (some ((.loc 1), true)), 0⟩, ⟨.loc, .bin .eql (.loc 0) (.cst (.int .i32 0)), (some ((.loc 2), true)), 0⟩, ⟨.loc, .pick (.loc 3) (.loc 0) (.cst (.bool false)), none, 0⟩, ⟨.loc, .mv (.loc 0), none, 0⟩, ⟨.loc, .mv (.var 5), (some ((.loc 0), true)), 0⟩, ⟨.loc, .bin .shr (.loc 0) (.cst (.int .u64 3)), (some ((.loc 1), true)), 0⟩, ⟨.loc, .bin .neq (.loc 0) (.cst (.int .i32 0)), (some ((.loc 2), true)), 0⟩, ⟨.loc, .pick (.loc 3) (.loc 0) (.cst (.bool false)), none, 0⟩, ⟨.loc, .mv (.loc 0), none, 0⟩, ⟨.loc, .mv (.var 0), (some ((.loc 0), true)), 0⟩, ⟨.loc, .nilchk (.loc 0), (some ((.loc 1), true)), 0⟩, ⟨.loc, .fld 0 (.loc 0), (some ((.loc 2), true)), 0⟩, ⟨.loc, .mv (.var 5), (some ((.loc 3), true)), 0⟩, ⟨.loc, .mv (.var 5), (some ((.loc 4), true)), 0⟩, ⟨.loc, .bin .or (.loc 0) (.cst (.int .i32 2)), (some ((.loc 5), true)), 0⟩, ⟨.loc, .call (.cst (.func (.func 338) [] [])) [(.loc 3), (.loc 2), (.loc 0)], (some ((.loc 6), true)), 0⟩, ⟨(.var 10), .pick (.loc 7) (.loc 0) (.cst (.bool false)), none, 0⟩])
 (.cond (.var 10) (.region [⟨(.var 3), .mv (.cst (.bool true)), none, 0⟩]) .skip))
 (.seq (.region [⟨.loc, .call (.cst (.func (.func 346) [] [])) [], none, 0⟩])
 (.seq (.region [⟨.loc, .mv (.var 4), none, 0⟩, ⟨.loc, .bin .add (.loc 0) (.cst (.int .i64 1)), none, 0⟩, ⟨(.var 4), .mv (.loc 0), none, 0⟩])
 (.seq (.region [⟨.loc, .mv (.var 0), none, 0⟩, ⟨.loc, .nilchk (.loc 0), none, 0⟩, ⟨.loc, .fld 0 (.loc 0), none, 0⟩, ⟨.loc, .ld (.loc 0), none, 0⟩, ⟨(.var 5), .mv (.loc 0), none, 0⟩])
 (.exit 1))))) .skip))
 (.seq (.region [⟨.loc, .mv (.var 5), none, 0⟩, ⟨(.var 6), .mv (.loc 0), none, 0⟩])
 (.seq (.seq (.region [⟨.loc, .mv (.var 5), none, 0⟩, ⟨.loc, .bin .and (.loc 0) (.cst (.int .i32 4)), none, 0⟩, ⟨(.var 11), .bin .eql (.loc 0) (.cst (.int .i32 0)), none, 0⟩])
 (.cond (.var 11) (.region [⟨.loc, .mv (.var 6), none, 0⟩, ⟨.loc, .bin .or (.loc 0) (.cst (.int .i32 1)), none, 0⟩, ⟨(.var 6), .mv (.loc 0), none, 0⟩]) .skip))
 (.seq (.seq (.region [⟨.loc, .mv (.var 5), none, 0⟩, ⟨.loc, .bin .and (.loc 0) (.cst (.int .i32 5)), none, 0⟩, ⟨(.var 12), .bin .neq (.loc 0) (.cst (.int .i32 0)), none, 0⟩])
 (.cond (.var 12) (.region [⟨.loc, .mv (.var 6), none, 0⟩, ⟨.loc, .bin .add (.loc 0) (.cst (.int .i32 8)), none, 0⟩, ⟨(.var 6), .mv (.loc 0), none, 0⟩]) .skip))
 (.seq (.seq (.region [⟨.loc, .mv (.var 2), none, 0⟩, ⟨.loc, .mv (.loc 0), none, 0⟩, ⟨.loc, .mv (.var 5), (some ((.loc 0), true)), 0⟩, ⟨.loc, .bin .and (.loc 0) (.cst (.int .i32 1)), (some ((.loc 1), true)), 0⟩, ⟨.loc, .bin .neq (.loc 0) (.cst (.int .i32 0)), (some ((.loc 2), true)), 0⟩, ⟨(.var 13), .pick (.loc 3) (.loc 0) (.cst (.bool false)), none, 0⟩])
 (.cond (.var 13) (.region [⟨.loc, .mv (.var 6), none, 0⟩, ⟨.loc, .bin .or (.loc 0) (.cst (.int .i32 4)), none, 0⟩, ⟨(.var 6), .mv (.loc 0), none, 0⟩]) .skip))
 (.seq (.seq (.region [⟨(.var 14), .mv (.var 3), none, 0⟩])
 (.cond (.var 14) (.seq (.seq (.region [⟨.loc, .mv (.var 6), none, 0⟩, ⟨.loc, .bin .and (.loc 0) (.cst (.int .i32 2)), none, 0⟩, ⟨(.var 15), .bin .eql (.loc 0) (.cst (.int .i32 0)), none, 0⟩])
 (.cond (.var 15) (.region [⟨.loc, .call (.cst (.func (.func 347) [] [])) [(.cst (.str [115, 121, 110, 99, 58, 32, 105, 110, 99, 111, 110, 115, 105, 115, 116, 101, 110, 116, 32, 109, 117, 116, 101, 120, 32, 115, 116, 97, 116, 101]))], none, 0⟩]) .skip))
 (.region [⟨.loc, .mv (.var 6), none, 0⟩, ⟨.loc, .bin .andNot (.loc 0) (.cst (.int .i32 2)), none, 0⟩, ⟨(.var 6), .mv (.loc 0), none, 0⟩])) .skip))
 (.seq (.region [⟨.loc, .mv (.var 0), none, 0⟩, ⟨.loc, .nilchk (.loc 0), none, 0⟩, ⟨.loc, .fld 0 (.loc 0), none, 0⟩, ⟨.loc, .mv (.var 5), none, 0⟩, ⟨.loc, .mv (.var 6), none, 0⟩, ⟨(.var 16), .call (.cst (.func (.func 338) [] [])) [(.loc 2), (.loc 1), (.loc 0)], none, 0⟩])
 (.cond (.var 16) (.seq (.seq (.region [⟨.loc, .mv (.var 5), none, 0⟩, ⟨.loc, .bin .and (.loc 0) (.cst (.int .i32 5)), none, 0⟩, ⟨(.var 17), .bin .eql (.loc 0) (.cst (.int .i32 0)), none, 0⟩])
 (.cond (.var 17) (.exit 0) .skip))
 (.seq (.region [⟨.loc, .mv (.var 1), none, 0⟩, ⟨.loc, .bin .neq (.loc 0) (.cst (.int .i64 0)), none, 0⟩, ⟨(.var 7), .mv (.loc 0), none, 0⟩])
 (.seq (.seq (.region [⟨.loc, .mv (.var 1), none, 0⟩, ⟨(.var 18), .bin .eql (.loc 0) (.cst (.int .i64 0)), none, 0⟩])
 (.cond (.var 18) (.region [⟨.loc, .call (.cst (.func (.func 348) [] [])) [], none, 0⟩, ⟨(.var 1), .mv (.loc 0), none, 0⟩]) .skip))
 (.seq (.region [⟨.loc, .mv (.var 0), none, 0⟩, ⟨.loc, .nilchk (.loc 0), none, 0⟩, ⟨.loc, .fld 1 (.loc 0), none, 0⟩, ⟨.loc, .mv (.var 7), none, 0⟩, ⟨.loc, .call (.cst (.func (.func 349) [] [])) [(.loc 1), (.loc 0), (.cst (.int .i64 2))], none, 0⟩])
 (.seq (.region [⟨.loc, .mv (.var 2), none, 0⟩, ⟨.loc, .mv (.loc 0), none, 0⟩, ⟨.loc, .call (.cst (.func (.func 348) [] [])) [], (some ((.loc 0), false)), 0⟩, ⟨.loc, .mv (.var 1), (some ((.loc 1), false)), 0⟩, ⟨.loc, .bin .sub (.loc 1) (.loc 0), (some ((.loc 2), false)), 0⟩, ⟨.loc, .bin .gtr (.loc 0) (.cst (.int .i64 1000000)), (some ((.loc 3), false)), 0⟩, ⟨.loc, .pick (.loc 4) (.cst (.bool true)) (.loc 0), none, 0⟩, ⟨(.var 2), .mv (.loc 0), none, 0⟩])
 (.seq (.region [⟨.loc, .mv (.var 0), none, 0⟩, ⟨.loc, .nilchk (.loc 0), none, 0⟩, ⟨.loc, .fld 0 (.loc 0), none, 0⟩, ⟨.loc, .ld (.loc 0), none, 0⟩, ⟨(.var 5), .mv (.loc 0), none, 0⟩])
 (.seq (.seq (.region [⟨.loc, .mv (.var 5), none, 0⟩, ⟨.loc, .bin .and (.loc 0) (.cst (.int .i32 4)), none, 0⟩, ⟨(.var 19), .bin .neq (.loc 0) (.cst (.int .i32 0)), none, 0⟩])
 (.cond (.var 19) (.seq (.seq (.region [⟨.loc, .mv (.var 5), none, 0⟩, ⟨.loc, .bin .and (.loc 0) (.cst (.int .i32 3)), none, 0⟩, ⟨.loc, .bin .neq (.loc 0) (.cst (.int .i32 0)), none, 0⟩, ⟨.loc, .mv (.loc 0), none, 0⟩, ⟨.loc, .mv (.var 5), (some ((.loc 0), false)), 0⟩, ⟨.loc, .bin .shr (.loc 0) (.cst (.int .u64 3)), (some ((.loc 1), false)), 0⟩, ⟨.loc, .bin .eql (.loc 0) (.cst (.int .i32 0)), (some ((.loc 2), false)), 0⟩, ⟨(.var 20), .pick (.loc 3) (.cst (.bool true)) (.loc 0), none, 0⟩])
 (.cond (.var 20) (.region [⟨.loc, .call (.cst (.func (.func 347) [] [])) [(.cst (.str [115, 121, 110, 99, 58, 32, 105, 110, 99, 111, 110, 115, 105, 115, 116, 101, 110, 116, 32, 109, 117, 116, 101, 120, 32, 115, 116, 97, 116, 101]))], none, 0⟩]) .skip))
 (.seq (.region [⟨(.var 8), .mv (.cst (.int .i32 (-7))), none, 0⟩])
 (.seq (.seq (.region [⟨.loc, .mv (.var 2), none, 0⟩, ⟨.loc, .un .not (.loc 0), none, 0⟩, ⟨.loc, .mv (.loc 0), none, 0⟩, ⟨.loc, .mv (.var 5), (some ((.loc 0), false)), 0⟩, ⟨.loc, .bin .shr (.loc 0) (.cst (.int .u64 3)), (some ((.loc 1), false)), 0⟩, ⟨.loc, .bin .eql (.loc 0) (.cst (.int .i32 1)), (some ((.loc 2), false)), 0⟩, ⟨(.var 21), .pick (.loc 3) (.cst (.bool true)) (.loc 0), none, 0⟩])
 (.cond (.var 21) (.region [⟨.loc, .mv (.var 8), none, 0⟩, ⟨.loc, .bin .sub (.loc 0) (.cst (.int .i32 4)), none, 0⟩, ⟨(.var 8), .mv (.loc 0), none, 0⟩]) .skip))
 (.seq (.region [⟨.loc, .mv (.var 0), none, 0⟩, ⟨.loc, .nilchk (.loc 0), none, 0⟩, ⟨.loc, .fld 0 (.loc 0), none, 0⟩, ⟨.loc, .mv (.var 8), none, 0⟩, ⟨.loc, .call (.cst (.func (.func 343) [] [])) [(.loc 1), (.loc 0)], none, 0⟩])
 (.exit 0))))) .skip))
 (.seq (.region [⟨(.var 3), .mv (.cst (.bool true)), none, 0⟩])
 (.region [⟨(.var 4), .mv (.cst (.int .i64 0)), none, 0⟩]))))))))) (.region [⟨.loc, .mv (.var 0), none, 0⟩, ⟨.loc, .nilchk (.loc 0), none, 0⟩, ⟨.loc, .fld 0 (.loc 0), none, 0⟩, ⟨.loc, .ld (.loc 0), none, 0⟩, ⟨(.var 5), .mv (.loc 0), none, 0⟩]))))))))))))
 (.cond (.cst (.bool true)) (.seq (.region [⟨.loc, .call (.cst (.func (.func 339) [] [])) [], none, 0⟩])
 (.region [⟨.loc, .mv (.var 0), none, 0⟩, ⟨.loc, .uptr (.loc 0), none, 0⟩, ⟨.loc, .call (.cst (.func (.func 340) [] [])) [(.loc 0)], none, 0⟩])) .skip))))))),
 []⟩
/-- sync.Mutex).unlockSlow -/
def e344 : EFunc := ⟨[0, 1, 4, 8, 12, 21, 30],
 [some 0, some 1, none, none, none, none, none],
 (.seq (.seq (.region [⟨.loc, .mv (.var 1), none, 0⟩, ⟨.loc, .bin .add (.loc 0) (.cst (.int .i32 1)), none, 0⟩, ⟨.loc, .bin .and (.loc 0) (.cst (.int .i32 1)), none, 0⟩, ⟨(.var 3), .bin .eql (.loc 0) (.cst (.int .i32 0)), none, 0⟩])
 (.cond (.var 3) (.region [⟨.loc, .call (.cst (.func (.func 350) [] [])) [(.cst (.str [115, 121, 110, 99, 58, 32, 117, 110, 108, 111, 99, 107, 32, 111, 102, 32, 117, 110, 108, 111, 99, 107, 101, 100, 32, 109, 117, 116, 101, 120]))], none, 0⟩]) .skip))
 (.seq (.region [⟨.loc, .mv (.var 1), none, 0⟩, ⟨.loc, .bin .and (.loc 0) (.cst (.int .i32 4)), none, 0⟩, ⟨(.var 4), .bin .eql (.loc 0) (.cst (.int .i32 0)), none, 0⟩])
 (.cond (.var 4) (.seq (.region [⟨.loc, .mv (.var 1), none, 0⟩, ⟨(.var 2), .mv (.loc 0), none, 0⟩])
 (.block 0 (.loop (.block 1 (.seq (.seq (.region [⟨.loc, .mv (.var 2), none, 0⟩, ⟨.loc, .bin .shr (.loc 0) (.cst (.int .u64 3)), none, 0⟩, ⟨.loc, .bin .eql (.loc 0) (.cst (.int .i32 0)), none, 0⟩, ⟨.loc, .mv (.loc 0), none, 0⟩, ⟨.loc, .mv (.var 2), (some ((.loc 0), false)), 0⟩, ⟨.loc, .bin .and (.loc 0) (.cst (.int .i32 7)), (some ((.loc 1), false)), 0⟩, ⟨.loc, .bin .neq (.loc 0) (.cst (.int .i32 0)), (some ((.loc 2), false)), 0⟩, ⟨(.var 5), .pick (.loc 3) (.cst (.bool true)) (.loc 0), none, 0⟩])
 (.cond (.var 5) .ret .skip))
 (.seq (.region [⟨.loc, .mv (.var 2), none, 0⟩, ⟨.loc, .bin .sub (.loc 0) (.cst (.int .i32 8)), none, 0⟩, ⟨.loc, .bin .or (.loc 0) (.cst (.int .i32 2)), none, 0⟩, ⟨(.var 1), .mv (.loc 0), none, 0⟩])
 (.seq (.seq (.region [⟨.loc, .mv (.var 0), none, 0⟩, ⟨.loc, .nilchk (.loc 0), none, 0⟩, ⟨.loc, .fld 0 (.loc 0), none, 0⟩, ⟨.loc, .mv (.var 2), none, 0⟩, ⟨.loc, .mv (.var 1), none, 0⟩, ⟨(.var 6), .call (.cst (.func (.func 338) [] [])) [(.loc 2), (.loc 1), (.loc 0)], none, 0⟩])
 (.cond (.var 6) (.seq (.region [⟨.loc, .mv (.var 0), none, 0⟩, ⟨.loc, .nilchk (.loc 0), none, 0⟩, ⟨.loc, .fld 1 (.loc 0), none, 0⟩, ⟨.loc, .call (.cst (.func (.func 351) [] [])) [(.loc 0), (.cst (.bool false)), (.cst (.int .i64 2))], none, 0⟩])
 .ret) .skip))
 (.region [⟨.loc, .mv (.var 0), none, 0⟩, ⟨.loc, .nilchk (.loc 0), none, 0⟩, ⟨.loc, .fld 0 (.loc 0), none, 0⟩, ⟨.loc, .ld (.loc 0), none, 0⟩, ⟨(.var 2), .mv (.loc 0), none, 0⟩])))))))) (.region [⟨.loc, .mv (.var 0), none, 0⟩, ⟨.loc, .nilchk (.loc 0), none, 0⟩, ⟨.loc, .fld 1 (.loc 0), none, 0⟩, ⟨.loc, .call (.cst (.func (.func 351) [] [])) [(.loc 0), (.cst (.bool true)), (.cst (.int .i64 2))], none, 0⟩])))),
 []⟩
def tab : FT := (.node (.node (.node (.node (.node (.node (.node (.node (.node .leaf (some e255) .leaf) (some e127) .leaf) none (.node (.node .leaf (some e319) .leaf) (some e191) .leaf)) none (.node (.node (.node .leaf (some e287) .leaf) none .leaf) (some e95) .leaf)) none (.node (.node .leaf none (.node (.node .leaf (some e335) .leaf) none .leaf)) none (.node .leaf (some e111) .leaf))) none (.node (.node (.node (.node (.node .leaf (some e263) .leaf) (some e135) .leaf) none (.node (.node .leaf (some e327) .leaf) none .leaf)) (some e39) (.node (.node (.node .leaf (some e295) .leaf) none .leaf) (some e103) .leaf)) none (.node .leaf (some e55) (.node (.node (.node .leaf (some e311) .leaf) none .leaf) none (.node .leaf (some e247) .leaf))))) none (.node (.node (.node (.node (.node (.node .leaf (some e259) .leaf) (some e131) .leaf) none (.node (.node .leaf (some e323) .leaf) (some e195) .leaf)) none (.node (.node (.node .leaf (some e291) .leaf) none .leaf) none .leaf)) none (.node .leaf (some e51) .leaf)) none (.node (.node (.node (.node (.node .leaf (some e267) .leaf) (some e139) .leaf) none (.node (.node .leaf (some e331) .leaf) (some e203) .leaf)) none (.node (.node (.node .leaf (some e299) .leaf) (some e171) .leaf) (some e107) .leaf)) none (.node .leaf none (.node (.node (.node .leaf (some e315) .leaf) none .leaf) none (.node .leaf (some e251) .leaf)))))) none (.node (.node (.node (.node (.node (.node (.node .leaf (some e257) .leaf) (some e129) .leaf) none (.node (.node .leaf (some e321) .leaf) (some e193) .leaf)) none (.node (.node (.node .leaf (some e289) .leaf) none .leaf) none .leaf)) none (.node .leaf none (.node .leaf (some e113) .leaf))) (some e9) (.node (.node (.node (.node (.node .leaf (some e265) .leaf) (some e137) .leaf) none (.node (.node .leaf (some e329) .leaf) (some e201) .leaf)) (some e41) (.node (.node (.node .leaf (some e297) .leaf) none .leaf) (some e105) .leaf)) none (.node .leaf none (.node (.node (.node .leaf (some e313) .leaf) none .leaf) none (.node .leaf (some e249) .leaf))))) none (.node (.node (.node (.node (.node (.node .leaf (some e261) .leaf) (some e133) .leaf) none (.node .leaf (some e197) .leaf)) none (.node (.node (.node .leaf (some e293) .leaf) none .leaf) (some e101) .leaf)) none (.node (.node .leaf none (.node (.node .leaf (some e341) .leaf) none .leaf)) (some e53) (.node (.node (.node .leaf (some e309) .leaf) none .leaf) none .leaf))) (some e13) (.node (.node (.node (.node (.node .leaf (some e269) .leaf) (some e141) .leaf) none (.node (.node .leaf (some e333) .leaf) (some e205) .leaf)) none (.node .leaf (some e109) .leaf)) none (.node .leaf none (.node (.node .leaf (some e189) .leaf) none (.node .leaf (some e253) .leaf))))))) none (.node (.node (.node (.node (.node (.node (.node (.node .leaf (some e256) .leaf) (some e128) .leaf) none (.node (.node .leaf (some e320) .leaf) (some e192) .leaf)) none (.node (.node (.node .leaf (some e288) .leaf) none .leaf) (some e96) .leaf)) none (.node (.node .leaf none (.node (.node .leaf (some e336) .leaf) none .leaf)) none (.node .leaf (some e112) .leaf))) none (.node (.node (.node (.node (.node .leaf (some e264) .leaf) (some e136) .leaf) none (.node (.node .leaf (some e328) .leaf) (some e200) .leaf)) (some e40) (.node (.node (.node .leaf (some e296) .leaf) (some e168) .leaf) (some e104) .leaf)) none (.node (.node .leaf none (.node (.node .leaf (some e344) .leaf) (some e216) .leaf)) none (.node (.node (.node .leaf (some e312) .leaf) none .leaf) (some e120) (.node .leaf (some e248) .leaf))))) none (.node (.node (.node (.node (.node (.node .leaf (some e260) .leaf) (some e132) .leaf) none (.node (.node .leaf (some e324) .leaf) (some e196) .leaf)) none (.node (.node (.node .leaf (some e292) .leaf) none .leaf) (some e100) .leaf)) none (.node .leaf (some e52) (.node (.node (.node .leaf (some e308) .leaf) none .leaf) none .leaf))) none (.node (.node (.node (.node (.node .leaf (some e268) .leaf) none .leaf) none (.node (.node .leaf (some e332) .leaf) (some e204) .leaf)) none (.node (.node (.node .leaf (some e300) .leaf) none .leaf) (some e108) .leaf)) none (.node .leaf none (.node (.node (.node .leaf (some e316) .leaf) (some e188) .leaf) none (.node .leaf (some e252) .leaf)))))) none (.node (.node (.node (.node (.node (.node (.node .leaf (some e258) .leaf) (some e130) .leaf) none (.node (.node .leaf (some e322) .leaf) (some e194) .leaf)) none (.node (.node (.node .leaf (some e290) .leaf) none .leaf) none .leaf)) none (.node .leaf (some e50) (.node .leaf (some e114) .leaf))) none (.node (.node (.node (.node (.node .leaf (some e266) .leaf) (some e138) .leaf) none (.node (.node .leaf (some e330) .leaf) (some e202) .leaf)) none (.node (.node (.node .leaf (some e298) .leaf) none .leaf) (some e106) .leaf)) none (.node .leaf (some e58) (.node (.node (.node .leaf (some e314) .leaf) none .leaf) none (.node .leaf (some e250) .leaf))))) none (.node (.node (.node (.node (.node (.node .leaf (some e262) .leaf) (some e134) .leaf) none (.node (.node .leaf (some e326) .leaf) none .leaf)) none (.node (.node (.node .leaf (some e294) .leaf) none .leaf) (some e102) .leaf)) none (.node .leaf (some e54) (.node (.node (.node .leaf (some e310) .leaf) none .leaf) (some e118) (.node .leaf (some e246) .leaf)))) none (.node (.node (.node .leaf none (.node .leaf (some e206) .leaf)) none (.node .leaf (some e110) .leaf)) none (.node (.node (.node (.node .leaf (some e286) .leaf) none .leaf) none .leaf) none (.node (.node .leaf (some e190) .leaf) (some e126) (.node .leaf (some e254) .leaf))))))))
def T (n : FuncId) : Option EFunc := tab.get n
def c0 : List (Nat × EFunc) := [(127, e127), (255, e255), (191, e191), (319, e319), (95, e95), (287, e287), (335, e335), (111, e111)]
def c1 : List (Nat × EFunc) := [(39, e39), (135, e135), (263, e263), (327, e327), (103, e103), (295, e295), (55, e55), (311, e311)]
def c2 : List (Nat × EFunc) := [(247, e247), (131, e131), (259, e259), (195, e195), (323, e323), (291, e291), (51, e51), (139, e139)]
def c3 : List (Nat × EFunc) := [(267, e267), (203, e203), (331, e331), (107, e107), (171, e171), (299, e299), (315, e315), (251, e251)]
def c4 : List (Nat × EFunc) := [(9, e9), (129, e129), (257, e257), (193, e193), (321, e321), (289, e289), (113, e113), (41, e41)]
def c5 : List (Nat × EFunc) := [(137, e137), (265, e265), (201, e201), (329, e329), (105, e105), (297, e297), (313, e313), (249, e249)]
def c6 : List (Nat × EFunc) := [(13, e13), (133, e133), (261, e261), (197, e197), (101, e101), (293, e293), (53, e53), (341, e341)]
def c7 : List (Nat × EFunc) := [(309, e309), (141, e141), (269, e269), (205, e205), (333, e333), (109, e109), (189, e189), (253, e253)]
def c8 : List (Nat × EFunc) := [(128, e128), (256, e256), (192, e192), (320, e320), (96, e96), (288, e288), (336, e336), (112, e112)]
def c9 : List (Nat × EFunc) := [(40, e40), (136, e136), (264, e264), (200, e200), (328, e328), (104, e104), (168, e168), (296, e296)]
def c10 : List (Nat × EFunc) := [(216, e216), (344, e344), (120, e120), (312, e312), (248, e248), (132, e132), (260, e260), (196, e196)]
def c11 : List (Nat × EFunc) := [(324, e324), (100, e100), (292, e292), (52, e52), (308, e308), (268, e268), (204, e204), (332, e332)]
def c12 : List (Nat × EFunc) := [(108, e108), (300, e300), (188, e188), (316, e316), (252, e252), (130, e130), (258, e258), (194, e194)]
def c13 : List (Nat × EFunc) := [(322, e322), (290, e290), (50, e50), (114, e114), (138, e138), (266, e266), (202, e202), (330, e330)]
def c14 : List (Nat × EFunc) := [(106, e106), (298, e298), (58, e58), (314, e314), (250, e250), (134, e134), (262, e262), (326, e326)]
def c15 : List (Nat × EFunc) := [(102, e102), (294, e294), (54, e54), (118, e118), (310, e310), (246, e246), (206, e206), (110, e110)]
def c16 : List (Nat × EFunc) := [(286, e286), (126, e126), (190, e190), (254, e254)]
/-- All of them: 17 lists. -/
def cs : List (Nat × EFunc) := c0 ++ (c1 ++ (c2 ++ (c3 ++ (c4 ++ (c5 ++ (c6 ++ (c7 ++ (c8 ++ (c9 ++ (c10 ++ (c11 ++ (c12 ++ (c13 ++ (c14 ++ (c15 ++ (c16))))))))))))))))
def X (n : FuncId) : Option Ext := bif Nat.beq n 325 then some (.load .u32) else bif Nat.beq n 334 then some (.store) else bif Nat.beq n 337 then some (.mark0) else bif Nat.beq n 338 then some (.cas .i32) else bif Nat.beq n 339 then some (.mark0) else bif Nat.beq n 340 then some (.marked) else bif Nat.beq n 342 then some (.marked) else bif Nat.beq n 343 then some (.add .i32) else none
end Go.Zy.S
