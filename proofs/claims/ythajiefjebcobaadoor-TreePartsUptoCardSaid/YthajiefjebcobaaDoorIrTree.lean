/-
  The code of the functions, as the small machine has it.
-/
import Derived.Test.YthajiefjebcobaaDoorEvRules
set_option linter.all false
set_option maxRecDepth 100000
namespace Go.Ev
open Go
/- changeling/changelinglaw3.TreeParts -/
def f0_b : IC := (.kill (rl [(4, 57)]) (.seq (.reg [⟨some 4, .box 8 (.t 0), none⟩, ⟨some 5, .box 8 (.t 1), none⟩, ⟨some 8, .mov (.c (.bool false)), none⟩])
 (.kill [0, 1, 8] (.seq (.seq (.reg [⟨some 9, .load true 8 (.t 4), none⟩, ⟨some 10, .call false false (.f 2) [(.t 9)], none⟩, ⟨some 11, .un .not (.t 10), none⟩, ⟨some 12, .mov (.t 11), none⟩, ⟨some 13, .load true 8 (.t 5), some (12, false)⟩, ⟨some 14, .call false false (.f 2) [(.t 13)], some (12, false)⟩, ⟨some 15, .un .not (.t 14), some (12, false)⟩, ⟨some 16, .pick (.t 12) (.c (.bool true)) (.t 15), none⟩, ⟨some 17, .mov (.t 16), none⟩, ⟨some 18, .mov (.t 2), some (17, false)⟩, ⟨some 19, .call false false (.f 3) [(.t 18)], some (17, false)⟩, ⟨some 20, .un .not (.t 19), some (17, false)⟩, ⟨some 21, .pick (.t 17) (.c (.bool true)) (.t 20), none⟩, ⟨some 22, .mov (.t 21), none⟩, ⟨some 23, .mov (.t 3), some (22, false)⟩, ⟨some 24, .call false false (.f 3) [(.t 23)], some (22, false)⟩, ⟨some 25, .un .not (.t 24), some (22, false)⟩, ⟨some 26, .pick (.t 22) (.c (.bool true)) (.t 25), none⟩])
 (.kill (rl [(9, 17)]) (.cond (.t 26) (.seq (.reg [⟨some 27, .call false false (.f 4) [], none⟩, ⟨some 8, .mov (.t 27), none⟩])
 (.kill (rl [(2, 4), (26, 2)]) .ret)) .skip)))
 (.kill [26] (.seq (.dreg 0 [(⟨some 28, .call false false (.f 4) [], none⟩, ⟨[], [], none⟩), (⟨some 29, .mov (.t 28), none⟩, ⟨[0], [], none⟩), (⟨some 30, .load true 8 (.t 4), some (29, true)⟩, ⟨[0, 1], [], none⟩), (⟨some 31, .call false false (.f 5) [(.t 30)], some (29, true)⟩, ⟨[0, 1, 2], [4], none⟩), (⟨some 32, .load true 8 (.t 4), some (29, true)⟩, ⟨[0, 1], [3], none⟩), (⟨some 33, .call false false (.f 6) [(.t 32)], some (29, true)⟩, ⟨(rl [(0, 5)]), [], none⟩), (⟨some 34, .ari .eql (.t 31) (.t 33), some (29, true)⟩, ⟨(rl [(0, 6)]), [], none⟩), (⟨some 35, .pick (.t 29) (.t 34) (.c (.bool false)), none⟩, ⟨(rl [(0, 7)]), [], none⟩), (⟨some 36, .mov (.t 35), none⟩, ⟨(rl [(0, 8)]), [], none⟩), (⟨some 37, .mov (.t 2), some (36, true)⟩, ⟨(rl [(0, 9)]), [], none⟩), (⟨some 38, .call false false (.f 7) [(.t 37)], some (36, true)⟩, ⟨(rl [(0, 10)]), [], none⟩), (⟨some 39, .mov (.t 2), some (36, true)⟩, ⟨(rl [(0, 9)]), [], none⟩), (⟨some 40, .call false false (.f 8) [(.t 39)], some (36, true)⟩, ⟨(rl [(0, 12)]), [], none⟩), (⟨some 41, .ari .eql (.t 38) (.t 40), some (36, true)⟩, ⟨(rl [(0, 13)]), [], none⟩), (⟨some 42, .pick (.t 36) (.t 41) (.c (.bool false)), none⟩, ⟨(rl [(0, 14)]), [], none⟩), (⟨some 43, .mov (.t 42), none⟩, ⟨(rl [(0, 15)]), [], none⟩), (⟨some 44, .load true 8 (.t 4), some (43, true)⟩, ⟨(rl [(0, 16)]), [], none⟩), (⟨some 45, .load true 8 (.t 5), some (43, true)⟩, ⟨(rl [(0, 16)]), [], none⟩), (⟨some 46, .call false false (.f 9) [(.t 44), (.t 45)], some (43, true)⟩, ⟨(rl [(0, 18)]), [19, 20], none⟩), (⟨some 47, .load true 8 (.t 4), some (43, true)⟩, ⟨(rl [(0, 16)]), [18], none⟩), (⟨some 48, .load true 8 (.t 5), some (43, true)⟩, ⟨(rl [(0, 16)]), [18], none⟩), (⟨some 49, .call false false (.f 10) [(.t 47), (.t 48)], some (43, true)⟩, ⟨(rl [(0, 21)]), [], none⟩), (⟨some 50, .eq false .bool (.t 46) (.t 49), some (43, true)⟩, ⟨(rl [(0, 22)]), [], none⟩), (⟨some 51, .pick (.t 43) (.t 50) (.c (.bool false)), none⟩, ⟨(rl [(0, 23)]), [], none⟩), (⟨some 52, .mov (.t 51), none⟩, ⟨(rl [(0, 24)]), [], none⟩), (⟨some 53, .mov (.t 2), some (52, true)⟩, ⟨(rl [(0, 25)]), [], none⟩), (⟨some 54, .mov (.t 3), some (52, true)⟩, ⟨(rl [(0, 25)]), [], none⟩), (⟨some 55, .call false false (.f 11) [(.t 53), (.t 54)], some (52, true)⟩, ⟨(rl [(0, 27)]), [], none⟩), (⟨some 56, .mov (.t 2), some (52, true)⟩, ⟨(rl [(0, 25)]), [], none⟩), (⟨some 57, .mov (.t 3), some (52, true)⟩, ⟨(rl [(0, 25)]), [], none⟩), (⟨some 58, .call false false (.f 12) [(.t 56), (.t 57)], some (52, true)⟩, ⟨(rl [(0, 30)]), [], none⟩), (⟨some 59, .eq false .bool (.t 55) (.t 58), some (52, true)⟩, ⟨(rl [(0, 31)]), [], none⟩), (⟨some 60, .pick (.t 52) (.t 59) (.c (.bool false)), none⟩, ⟨(rl [(0, 32)]), [], none⟩), (⟨some 8, .mov (.t 60), none⟩, ⟨(rl [(0, 33)]), [], none⟩)])
 (.kill (rl [(2, 4), (28, 33)]) .ret)))))))
def f0 : IFun := ⟨61, [.t 8], f0_b, false, false⟩
/- changeling/changelinglaw3.TreeBare -/
def f1_l2 : IC := (.seq (.seq (.reg [⟨some 79, .mov (.t 8), none⟩, ⟨some 80, .mov (.t 7), none⟩, ⟨some 81, .len false (.t 80), none⟩, ⟨some 82, .ari .lss (.t 79) (.t 81), none⟩])
 (.kill [79, 80, 81] (.cond (.t 82) .skip (.kill [7, 8, 82] (.exit 4)))))
 (.kill [82] (.seq (.block 5 (.seq (.reg [⟨some 85, .mov (.t 7), none⟩, ⟨some 86, .mov (.t 8), none⟩, ⟨some 87, .iaddr 8 (.t 85) (.t 86), none⟩, ⟨some 88, .faddr 6 (.t 87), none⟩, ⟨some 89, .load false 1 (.t 88), none⟩, ⟨some 90, .ari .neq (.t 89) (.c (.str [])), none⟩, ⟨some 91, .mov (.t 90), none⟩, ⟨some 92, .mov (.t 7), some (91, false)⟩, ⟨some 93, .mov (.t 8), some (91, false)⟩, ⟨some 94, .iaddr 8 (.t 92) (.t 93), some (91, false)⟩, ⟨some 95, .faddr 7 (.t 94), some (91, false)⟩, ⟨some 96, .load false 1 (.t 95), some (91, false)⟩, ⟨some 97, .ari .neq (.t 96) (.c (.int .i64 0)), some (91, false)⟩, ⟨some 98, .pick (.t 91) (.c (.bool true)) (.t 97), none⟩])
 (.kill (rl [(85, 13)]) (.cond (.t 98) (.seq (.reg [⟨some 2, .mov (.c (.bool false)), none⟩])
 (.kill (rl [(4, 5), (98, 1)]) .ret)) .skip))))
 (.kill [98] (.reg [⟨some 83, .mov (.t 8), none⟩, ⟨some 84, .ari .add (.t 83) (.c (.int .i64 1)), none⟩, ⟨some 8, .mov (.t 84), none⟩])))))
def f1_l1 : IC := (.seq (.seq (.reg [⟨some 57, .mov (.t 6), none⟩, ⟨some 58, .faddr 0 (.t 4), none⟩, ⟨some 59, .load false 1 (.t 58), none⟩, ⟨some 60, .mov (.t 5), none⟩, ⟨some 61, .iaddr 4 (.t 59) (.t 60), none⟩, ⟨some 62, .faddr 3 (.t 61), none⟩, ⟨some 63, .load false 1 (.t 62), none⟩, ⟨some 64, .len false (.t 63), none⟩, ⟨some 65, .ari .lss (.t 57) (.t 64), none⟩])
 (.kill (rl [(57, 8)]) (.cond (.t 65) .skip (.kill [6, 65] (.exit 2)))))
 (.kill [65] (.seq (.block 3 (.seq (.reg [⟨some 68, .faddr 0 (.t 4), none⟩, ⟨some 69, .load false 1 (.t 68), none⟩, ⟨some 70, .mov (.t 5), none⟩, ⟨some 71, .iaddr 4 (.t 69) (.t 70), none⟩, ⟨some 72, .faddr 3 (.t 71), none⟩, ⟨some 73, .load false 1 (.t 72), none⟩, ⟨some 74, .mov (.t 6), none⟩, ⟨some 75, .iaddr 6 (.t 73) (.t 74), none⟩, ⟨some 76, .faddr 5 (.t 75), none⟩, ⟨some 77, .load false 1 (.t 76), none⟩, ⟨some 78, .call false false (.f 20) [(.t 77)], none⟩, ⟨some 7, .mov (.t 78), none⟩])
 (.kill (rl [(68, 11)]) (.seq (.reg [⟨some 8, .mov (.c (.int .i64 0)), none⟩])
 (.block 4 (.loop [4, 5, 6, 7, 8] f1_l2))))))
 (.reg [⟨some 66, .mov (.t 6), none⟩, ⟨some 67, .ari .add (.t 66) (.c (.int .i64 1)), none⟩, ⟨some 6, .mov (.t 67), none⟩]))))
def f1_l0 : IC := (.seq (.seq (.reg [⟨some 50, .mov (.t 5), none⟩, ⟨some 51, .faddr 0 (.t 4), none⟩, ⟨some 52, .load false 1 (.t 51), none⟩, ⟨some 53, .len false (.t 52), none⟩, ⟨some 54, .ari .lss (.t 50) (.t 53), none⟩])
 (.kill (rl [(50, 4)]) (.cond (.t 54) .skip (.kill [4, 5, 54] (.exit 0)))))
 (.kill [54] (.seq (.block 1 (.seq (.reg [⟨some 6, .mov (.c (.int .i64 0)), none⟩])
 (.block 2 (.loop [4, 5, 6] f1_l1))))
 (.reg [⟨some 55, .mov (.t 5), none⟩, ⟨some 56, .ari .add (.t 55) (.c (.int .i64 1)), none⟩, ⟨some 5, .mov (.t 56), none⟩]))))
def f1_b : IC := (.kill (rl [(1, 99)]) (.seq (.reg [⟨some 1, .box 1 (.t 0), none⟩, ⟨some 2, .mov (.c (.bool false)), none⟩])
 (.kill [0, 2] (.seq (.seq (.reg [⟨some 9, .load true 1 (.t 1), none⟩, ⟨some 10, .call false false (.f 13) [(.t 9)], none⟩, ⟨some 11, .un .not (.t 10), none⟩])
 (.kill [9, 10] (.cond (.t 11) (.seq (.reg [⟨some 12, .call false false (.f 4) [], none⟩, ⟨some 2, .mov (.t 12), none⟩])
 (.kill [1, 11, 12] .ret)) .skip)))
 (.kill [11] (.seq (.reg [⟨some 13, .load true 1 (.t 1), none⟩, ⟨some 14, .call false false (.f 14) [(.t 13)], none⟩, ⟨some 3, .alloc [.sl .nil []], none⟩, ⟨none, .store 1 (.t 3) (.t 14), none⟩])
 (.kill [13, 14] (.seq (.reg [⟨some 15, .load true 1 (.t 1), none⟩, ⟨some 16, .call false false (.f 15) [(.t 15)], none⟩, ⟨some 4, .alloc [.sl .nil []], none⟩, ⟨none, .store 1 (.t 4) (.t 16), none⟩])
 (.kill [15, 16] (.seq (.seq (.dreg 0 [(⟨some 17, .load true 1 (.t 3), none⟩, ⟨[], [], none⟩), (⟨some 18, .load true 1 (.t 1), none⟩, ⟨[], [], none⟩), (⟨some 19, .call false false (.f 16) [(.t 17), (.t 18)], none⟩, ⟨[0, 1], [], none⟩), (⟨some 20, .un .not (.t 19), none⟩, ⟨[0, 1, 2], [], none⟩), (⟨some 21, .mov (.t 20), none⟩, ⟨(rl [(0, 4)]), [], none⟩), (⟨some 22, .load true 1 (.t 4), some (21, false)⟩, ⟨(rl [(0, 5)]), [], none⟩), (⟨some 23, .load true 1 (.t 1), some (21, false)⟩, ⟨(rl [(0, 5)]), [], none⟩), (⟨some 24, .call false false (.f 17) [(.t 22), (.t 23)], some (21, false)⟩, ⟨(rl [(0, 7)]), [], none⟩), (⟨some 25, .un .not (.t 24), some (21, false)⟩, ⟨(rl [(0, 8)]), [], none⟩), (⟨some 26, .pick (.t 21) (.c (.bool true)) (.t 25), none⟩, ⟨(rl [(0, 9)]), [], none⟩), (⟨some 27, .mov (.t 26), none⟩, ⟨(rl [(0, 10)]), [], none⟩), (⟨some 28, .load true 1 (.t 4), some (27, false)⟩, ⟨(rl [(0, 11)]), [], none⟩), (⟨some 29, .call false false (.f 18) [(.t 28)], some (27, false)⟩, ⟨(rl [(0, 12)]), [13], none⟩), (⟨some 30, .load true 1 (.t 1), some (27, false)⟩, ⟨(rl [(0, 11)]), [12], none⟩), (⟨some 31, .call false false (.f 18) [(.t 30)], some (27, false)⟩, ⟨(rl [(0, 14)]), [], none⟩), (⟨some 32, .ari .neq (.t 29) (.t 31), some (27, false)⟩, ⟨(rl [(0, 15)]), [], none⟩), (⟨some 33, .pick (.t 27) (.c (.bool true)) (.t 32), none⟩, ⟨(rl [(0, 16)]), [], none⟩), (⟨some 34, .mov (.t 33), none⟩, ⟨(rl [(0, 17)]), [], none⟩), (⟨some 35, .load true 1 (.t 4), some (34, false)⟩, ⟨(rl [(0, 18)]), [], none⟩), (⟨some 36, .call false false (.f 19) [(.t 35)], some (34, false)⟩, ⟨(rl [(0, 19)]), [20], none⟩), (⟨some 37, .load true 1 (.t 1), some (34, false)⟩, ⟨(rl [(0, 18)]), [19], none⟩), (⟨some 38, .call false false (.f 19) [(.t 37)], some (34, false)⟩, ⟨(rl [(0, 21)]), [], none⟩), (⟨some 39, .eq true .bool (.t 36) (.t 38), some (34, false)⟩, ⟨(rl [(0, 22)]), [], none⟩), (⟨some 40, .pick (.t 34) (.c (.bool true)) (.t 39), none⟩, ⟨(rl [(0, 23)]), [], none⟩), (⟨some 41, .mov (.t 40), none⟩, ⟨(rl [(0, 24)]), [], none⟩), (⟨some 42, .faddr 0 (.t 4), some (41, false)⟩, ⟨(rl [(0, 25)]), [], none⟩), (⟨some 43, .load false 1 (.t 42), some (41, false)⟩, ⟨(rl [(0, 26)]), [], none⟩), (⟨some 44, .len false (.t 43), some (41, false)⟩, ⟨(rl [(0, 27)]), [], none⟩), (⟨some 45, .faddr 0 (.t 1), some (41, false)⟩, ⟨(rl [(0, 25)]), [], none⟩), (⟨some 46, .load false 1 (.t 45), some (41, false)⟩, ⟨(rl [(0, 25), (28, 1)]), [], none⟩), (⟨some 47, .len false (.t 46), some (41, false)⟩, ⟨(rl [(0, 25), (28, 2)]), [], none⟩), (⟨some 48, .ari .neq (.t 44) (.t 47), some (41, false)⟩, ⟨(rl [(0, 31)]), [], none⟩), (⟨some 49, .pick (.t 41) (.c (.bool true)) (.t 48), none⟩, ⟨(rl [(0, 32)]), [], none⟩)])
 (.kill (rl [(1, 1), (3, 1), (17, 32)]) (.cond (.t 49) (.seq (.reg [⟨some 2, .mov (.c (.bool false)), none⟩])
 (.kill [4, 49] .ret)) .skip)))
 (.kill [49] (.seq (.seq (.reg [⟨some 5, .mov (.c (.int .i64 0)), none⟩])
 (.block 0 (.loop [4, 5] f1_l0)))
 (.seq (.reg [⟨some 99, .call false false (.f 4) [], none⟩, ⟨some 2, .mov (.t 99), none⟩])
 (.kill [99] .ret))))))))))))))
def f1 : IFun := ⟨100, [.t 2], f1_b, false, false⟩
/- changeling/changelinglaw3.FewExpr -/
def f2_b : IC := (.kill (rl [(1, 6)]) (.seq (.reg [⟨some 1, .box 8 (.t 0), none⟩, ⟨some 2, .mov (.c (.bool false)), none⟩])
 (.kill [0, 2] (.seq (.reg [⟨some 3, .load true 8 (.t 1), none⟩, ⟨some 4, .bslice false 1 8 true [.int .i64 0, .int .i32 0, .str [], .str [], .str [], .sl .nil [], .str [], .int .i64 0] [(0, (.t 3))], none⟩, ⟨some 5, .call false false (.f 21) [(.t 4), (.c (.int .i64 0))], none⟩, ⟨some 6, .ari .leq (.t 5) (.c (.int .i64 400)), none⟩, ⟨some 2, .mov (.t 6), none⟩])
 (.kill (rl [(1, 1), (3, 4)]) .ret)))))
def f2 : IFun := ⟨7, [.t 2], f2_b, false, false⟩
/- changeling/changelinglaw3.FewStmts -/
def f3_b : IC := (.kill (rl [(1, 5)]) (.seq (.reg [⟨some 2, .mov (.c (.bool false)), none⟩])
 (.kill [2] (.seq (.reg [⟨some 3, .mov (.t 0), none⟩, ⟨some 4, .call false false (.f 22) [(.t 3), (.c (.int .i64 0))], none⟩, ⟨some 5, .ari .leq (.t 4) (.c (.int .i64 400)), none⟩, ⟨some 2, .mov (.t 5), none⟩])
 (.kill (rl [(0, 1), (3, 3)]) .ret)))))
def f3 : IFun := ⟨6, [.t 2], f3_b, false, false⟩
/- changeling/changelinglaw3.told -/
def f4_b : IC := (.kill (rl [(0, 94)]) (.seq (.reg [⟨some 0, .mov (.c (.bool false)), none⟩])
 (.kill [0] (.seq (.reg [⟨some 6, .build [.int .i64 0, .int .i32 0, .str [], .str [], .str [], .sl .nil [], .str [], .int .i64 0] [(0, 1, (.c (.int .i64 1))), (1, 1, (.c (.int .i32 1)))], none⟩, ⟨some 1, .alloc [.int .i64 0, .int .i32 0, .str [], .str [], .str [], .sl .nil [], .str [], .int .i64 0], none⟩, ⟨none, .store 8 (.t 1) (.t 6), none⟩])
 (.kill [6] (.seq (.reg [⟨some 7, .load true 8 (.t 1), none⟩, ⟨some 8, .load true 8 (.t 1), none⟩, ⟨some 9, .bslice false 2 8 true [.int .i64 0, .int .i32 0, .str [], .str [], .str [], .sl .nil [], .str [], .int .i64 0] [(0, (.t 7)), (1, (.t 8))], none⟩, ⟨some 10, .build [.int .i64 0, .int .i32 0, .str [], .str [], .str [], .sl .nil [], .str [], .int .i64 0] [(0, 1, (.c (.int .i64 17))), (3, 1, (.c (.str [43]))), (5, 1, (.t 9))], none⟩, ⟨some 2, .alloc [.int .i64 0, .int .i32 0, .str [], .str [], .str [], .sl .nil [], .str [], .int .i64 0], none⟩, ⟨none, .store 8 (.t 2) (.t 10), none⟩])
 (.kill (rl [(7, 4)]) (.seq (.reg [⟨some 11, .load true 8 (.t 2), none⟩, ⟨some 12, .bslice false 1 8 true [.int .i64 0, .int .i32 0, .str [], .str [], .str [], .sl .nil [], .str [], .int .i64 0] [(0, (.t 11))], none⟩, ⟨some 13, .build [.bool false, .str [], .str [], .sl .nil []] [(1, 1, (.c (.str [105, 110, 116]))), (2, 1, (.c (.str [120]))), (3, 1, (.t 12))], none⟩, ⟨some 14, .bslice false 1 4 true [.bool false, .str [], .str [], .sl .nil []] [(0, (.t 13))], none⟩, ⟨some 15, .load true 8 (.t 1), none⟩, ⟨some 16, .bslice false 1 8 true [.int .i64 0, .int .i32 0, .str [], .str [], .str [], .sl .nil [], .str [], .int .i64 0] [(0, (.t 15))], none⟩, ⟨some 17, .build [.int .i64 0, .int .i32 0, .str [], .str [], .sl .nil [], .sl .nil [], .sl .nil [], .sl .nil [], .int .i64 0] [(0, 1, (.c (.int .i64 6))), (4, 1, (.t 16))], none⟩, ⟨some 18, .bslice false 1 9 true [.int .i64 0, .int .i32 0, .str [], .str [], .sl .nil [], .sl .nil [], .sl .nil [], .sl .nil [], .int .i64 0] [(0, (.t 17))], none⟩, ⟨some 19, .build [.bool false, .bool false, .str [], .str [], .sl .nil [], .sl .nil []] [(2, 1, (.c (.str [105, 110, 116]))), (3, 1, (.c (.str [102]))), (5, 1, (.t 18))], none⟩, ⟨some 20, .bslice false 1 6 true [.bool false, .bool false, .str [], .str [], .sl .nil [], .sl .nil []] [(0, (.t 19))], none⟩, ⟨some 21, .build [.str [], .str [], .sl .nil [], .sl .nil []] [(0, 1, (.c (.str [65]))), (2, 1, (.t 14)), (3, 1, (.t 20))], none⟩, ⟨some 22, .bslice false 1 4 true [.str [], .str [], .sl .nil [], .sl .nil []] [(0, (.t 21))], none⟩, ⟨some 23, .build [.sl .nil []] [(0, 1, (.t 22))], none⟩, ⟨some 3, .alloc [.sl .nil []], none⟩, ⟨none, .store 1 (.t 3) (.t 23), none⟩])
 (.kill (rl [(11, 13)]) (.seq (.reg [⟨some 24, .load true 1 (.t 3), none⟩, ⟨some 4, .alloc [.sl .nil []], none⟩, ⟨none, .store 1 (.t 4) (.t 24), none⟩])
 (.kill [24] (.seq (.reg [⟨some 25, .build [.str [], .str [], .sl .nil [], .sl .nil []] [(0, 1, (.c (.str [97])))], none⟩, ⟨some 26, .bslice false 1 4 true [.str [], .str [], .sl .nil [], .sl .nil []] [(0, (.t 25))], none⟩, ⟨some 27, .faddr 0 (.t 4), none⟩, ⟨none, .store 1 (.t 27) (.t 26), none⟩])
 (.kill [25, 26, 27] (.seq (.reg [⟨some 28, .load true 8 (.t 2), none⟩, ⟨some 5, .alloc [.int .i64 0, .int .i32 0, .str [], .str [], .str [], .sl .nil [], .str [], .int .i64 0], none⟩, ⟨none, .store 8 (.t 5) (.t 28), none⟩])
 (.kill [28] (.seq (.reg [⟨some 29, .faddr 6 (.t 5), none⟩, ⟨none, .store 1 (.t 29) (.c (.str [90])), none⟩])
 (.kill [29] (.seq (.dreg 0 [(⟨some 30, .load true 8 (.t 2), none⟩, ⟨[], [], none⟩), (⟨some 31, .call false false (.f 5) [(.t 30)], none⟩, ⟨[0], [], none⟩), (⟨some 32, .ari .eql (.t 31) (.c (.int .i64 3)), none⟩, ⟨[0, 1], [], none⟩), (⟨some 33, .mov (.t 32), none⟩, ⟨[0, 1, 2], [], none⟩), (⟨some 34, .load true 1 (.t 3), some (33, true)⟩, ⟨(rl [(0, 4)]), [], none⟩), (⟨some 35, .call false false (.f 18) [(.t 34)], some (33, true)⟩, ⟨(rl [(0, 5)]), [], none⟩), (⟨some 36, .ari .eql (.t 35) (.c (.int .i64 8)), some (33, true)⟩, ⟨(rl [(0, 6)]), [], none⟩), (⟨some 37, .pick (.t 33) (.t 36) (.c (.bool false)), none⟩, ⟨(rl [(0, 7)]), [], none⟩), (⟨some 38, .mov (.t 37), none⟩, ⟨(rl [(0, 8)]), [], none⟩), (⟨some 39, .faddr 0 (.t 3), some (38, true)⟩, ⟨(rl [(0, 9)]), [], none⟩), (⟨some 40, .load false 1 (.t 39), some (38, true)⟩, ⟨(rl [(0, 10)]), [], none⟩), (⟨some 41, .iaddr 4 (.t 40) (.c (.int .i64 0)), some (38, true)⟩, ⟨(rl [(0, 11)]), [], none⟩), (⟨some 42, .faddr 3 (.t 41), some (38, true)⟩, ⟨(rl [(0, 12)]), [], none⟩), (⟨some 43, .load false 1 (.t 42), some (38, true)⟩, ⟨(rl [(0, 13)]), [], none⟩), (⟨some 44, .iaddr 6 (.t 43) (.c (.int .i64 0)), some (38, true)⟩, ⟨(rl [(0, 14)]), [], none⟩), (⟨some 45, .faddr 5 (.t 44), some (38, true)⟩, ⟨(rl [(0, 15)]), [], none⟩), (⟨some 46, .load false 1 (.t 45), some (38, true)⟩, ⟨(rl [(0, 16)]), [], none⟩), (⟨some 47, .call false false (.f 7) [(.t 46)], some (38, true)⟩, ⟨(rl [(0, 17)]), [], none⟩), (⟨some 48, .ari .eql (.t 47) (.c (.int .i64 2)), some (38, true)⟩, ⟨(rl [(0, 18)]), [], none⟩), (⟨some 49, .pick (.t 38) (.t 48) (.c (.bool false)), none⟩, ⟨(rl [(0, 19)]), [], none⟩), (⟨some 50, .mov (.t 49), none⟩, ⟨(rl [(0, 20)]), [], none⟩), (⟨some 51, .load true 1 (.t 3), some (50, true)⟩, ⟨(rl [(0, 21)]), [], none⟩), (⟨some 52, .call false false (.f 19) [(.t 51)], some (50, true)⟩, ⟨(rl [(0, 22)]), [], none⟩), (⟨some 53, .pick (.t 50) (.t 52) (.c (.bool false)), none⟩, ⟨(rl [(0, 23)]), [], none⟩), (⟨some 54, .mov (.t 53), none⟩, ⟨(rl [(0, 24)]), [], none⟩), (⟨some 55, .load true 1 (.t 4), some (54, true)⟩, ⟨(rl [(0, 25)]), [], none⟩), (⟨some 56, .call false false (.f 19) [(.t 55)], some (54, true)⟩, ⟨(rl [(0, 26)]), [], none⟩), (⟨some 57, .un .not (.t 56), some (54, true)⟩, ⟨(rl [(0, 27)]), [], none⟩), (⟨some 58, .pick (.t 54) (.t 57) (.c (.bool false)), none⟩, ⟨(rl [(0, 28)]), [], none⟩), (⟨some 59, .mov (.t 58), none⟩, ⟨(rl [(0, 29)]), [], none⟩), (⟨some 60, .build [.sl .nil []] [], some (59, true)⟩, ⟨(rl [(0, 30)]), [], none⟩), (⟨some 61, .call false false (.f 19) [(.t 60)], some (59, true)⟩, ⟨(rl [(0, 31)]), [], none⟩), (⟨some 62, .pick (.t 59) (.t 61) (.c (.bool false)), none⟩, ⟨(rl [(0, 32)]), [], none⟩), (⟨some 63, .mov (.t 62), none⟩, ⟨(rl [(0, 33)]), [], none⟩), (⟨some 64, .load true 1 (.t 3), some (63, true)⟩, ⟨(rl [(0, 34)]), [], none⟩), (⟨some 65, .load true 1 (.t 3), some (63, true)⟩, ⟨(rl [(0, 34)]), [], none⟩), (⟨some 66, .call false false (.f 17) [(.t 64), (.t 65)], some (63, true)⟩, ⟨(rl [(0, 36)]), [], none⟩), (⟨some 67, .pick (.t 63) (.t 66) (.c (.bool false)), none⟩, ⟨(rl [(0, 37)]), [], none⟩), (⟨some 68, .mov (.t 67), none⟩, ⟨(rl [(0, 38)]), [], none⟩), (⟨some 69, .load true 1 (.t 3), some (68, true)⟩, ⟨(rl [(0, 39)]), [], none⟩), (⟨some 70, .load true 1 (.t 4), some (68, true)⟩, ⟨(rl [(0, 39)]), [], none⟩), (⟨some 71, .call false false (.f 17) [(.t 69), (.t 70)], some (68, true)⟩, ⟨(rl [(0, 41)]), [], none⟩), (⟨some 72, .un .not (.t 71), some (68, true)⟩, ⟨(rl [(0, 42)]), [], none⟩), (⟨some 73, .pick (.t 68) (.t 72) (.c (.bool false)), none⟩, ⟨(rl [(0, 43)]), [], none⟩), (⟨some 74, .mov (.t 73), none⟩, ⟨(rl [(0, 44)]), [], none⟩), (⟨some 75, .load true 8 (.t 2), some (74, true)⟩, ⟨(rl [(0, 45)]), [], none⟩), (⟨some 76, .load true 8 (.t 5), some (74, true)⟩, ⟨(rl [(0, 45)]), [], none⟩), (⟨some 77, .call false false (.f 9) [(.t 75), (.t 76)], some (74, true)⟩, ⟨(rl [(0, 47)]), [], none⟩), (⟨some 78, .pick (.t 74) (.t 77) (.c (.bool false)), none⟩, ⟨(rl [(0, 48)]), [], none⟩), (⟨some 79, .mov (.t 78), none⟩, ⟨(rl [(0, 49)]), [], none⟩), (⟨some 80, .load true 8 (.t 2), some (79, true)⟩, ⟨(rl [(0, 50)]), [], none⟩), (⟨some 81, .load true 8 (.t 1), some (79, true)⟩, ⟨(rl [(0, 50)]), [], none⟩), (⟨some 82, .call false false (.f 9) [(.t 80), (.t 81)], some (79, true)⟩, ⟨(rl [(0, 52)]), [], none⟩), (⟨some 83, .un .not (.t 82), some (79, true)⟩, ⟨(rl [(0, 53)]), [], none⟩), (⟨some 84, .pick (.t 79) (.t 83) (.c (.bool false)), none⟩, ⟨(rl [(0, 54)]), [], none⟩), (⟨some 85, .mov (.t 84), none⟩, ⟨(rl [(0, 55)]), [], none⟩), (⟨some 86, .call false false (.f 11) [(.c (.sl .nil [])), (.c (.sl .nil []))], some (85, true)⟩, ⟨(rl [(0, 56)]), [], none⟩), (⟨some 87, .pick (.t 85) (.t 86) (.c (.bool false)), none⟩, ⟨(rl [(0, 57)]), [], none⟩), (⟨some 88, .mov (.t 87), none⟩, ⟨(rl [(0, 58)]), [], none⟩), (⟨some 89, .load true 1 (.t 3), some (88, true)⟩, ⟨(rl [(0, 59)]), [], none⟩), (⟨some 90, .call false false (.f 15) [(.t 89)], some (88, true)⟩, ⟨(rl [(0, 60)]), [61], none⟩), (⟨some 91, .load true 1 (.t 3), some (88, true)⟩, ⟨(rl [(0, 59)]), [60], none⟩), (⟨some 92, .call false false (.f 17) [(.t 90), (.t 91)], some (88, true)⟩, ⟨(rl [(0, 62)]), [], none⟩), (⟨some 93, .pick (.t 88) (.t 92) (.c (.bool false)), none⟩, ⟨(rl [(0, 63)]), [], none⟩), (⟨some 0, .mov (.t 93), none⟩, ⟨(rl [(0, 64)]), [], none⟩)])
 (.kill (rl [(1, 5), (30, 64)]) .ret)))))))))))))))))))
def f4 : IFun := ⟨94, [.t 0], f4_b, false, false⟩
/- changeling/tree.Expr -/
def f5_l0 : IC := (.seq (.reg [⟨some 10, .ari .lss (.t 9) (.t 8), none⟩])
 (.seq (.cond (.t 10) .skip (.kill (rl [(7, 4)]) (.exit 0)))
 (.kill [10] (.seq (.block 1 (.seq (.reg [⟨some 11, .iaddr 8 (.t 7) (.t 9), none⟩, ⟨some 12, .load true 8 (.t 11), none⟩, ⟨some 5, .alloc [.int .i64 0, .int .i32 0, .str [], .str [], .str [], .sl .nil [], .str [], .int .i64 0], none⟩, ⟨none, .store 8 (.t 5) (.t 12), none⟩])
 (.kill [11, 12] (.reg [⟨some 13, .mov (.t 3), none⟩, ⟨some 14, .load true 8 (.t 5), none⟩, ⟨some 15, .call false false (.f 5) [(.t 14)], none⟩, ⟨some 16, .ari .add (.t 13) (.t 15), none⟩, ⟨some 3, .mov (.t 16), none⟩]))))
 (.kill (rl [(5, 1), (13, 4)]) (.reg [⟨some 17, .ari .add (.t 9) (.c (.int .i64 1)), none⟩, ⟨some 9, .mov (.t 17), none⟩]))))))
def f5_b : IC := (.kill (rl [(1, 18)]) (.seq (.reg [⟨some 1, .box 8 (.t 0), none⟩, ⟨some 2, .mov (.c (.int .i64 0)), none⟩])
 (.kill [0, 2] (.seq (.reg [⟨some 3, .mov (.c (.int .i64 1)), none⟩])
 (.seq (.seq (.reg [⟨some 6, .faddr 5 (.t 1), none⟩, ⟨some 7, .load false 1 (.t 6), none⟩, ⟨some 8, .len false (.t 7), none⟩, ⟨some 9, .mov (.c (.int .i64 0)), none⟩])
 (.kill [1, 6] (.block 0 (.loop [3, 7, 8, 9] f5_l0))))
 (.seq (.reg [⟨some 18, .mov (.t 3), none⟩, ⟨some 2, .mov (.t 18), none⟩])
 (.kill [3, 18] .ret)))))))
def f5 : IFun := ⟨19, [.t 2], f5_b, false, false⟩
/- changeling/changelingref1.Expr -/
def f6_b : IC := (.kill (rl [(1, 6)]) (.seq (.reg [⟨some 1, .box 8 (.t 0), none⟩, ⟨some 2, .mov (.c (.int .i64 0)), none⟩])
 (.kill [0, 2] (.seq (.reg [⟨some 3, .faddr 5 (.t 1), none⟩, ⟨some 4, .load false 1 (.t 3), none⟩, ⟨some 5, .call false false (.f 23) [(.t 4)], none⟩, ⟨some 6, .ari .add (.c (.int .i64 1)) (.t 5), none⟩, ⟨some 2, .mov (.t 6), none⟩])
 (.kill (rl [(1, 1), (3, 4)]) .ret)))))
def f6 : IFun := ⟨7, [.t 2], f6_b, false, false⟩
/- changeling/tree.Stmts -/
def f7_l0 : IC := (.seq (.reg [⟨some 9, .ari .lss (.t 8) (.t 7), none⟩])
 (.seq (.cond (.t 9) .skip (.kill (rl [(6, 4)]) (.exit 0)))
 (.kill [9] (.seq (.block 1 (.seq (.reg [⟨some 10, .iaddr 9 (.t 6) (.t 8), none⟩, ⟨some 11, .load true 9 (.t 10), none⟩, ⟨some 5, .alloc [.int .i64 0, .int .i32 0, .str [], .str [], .sl .nil [], .sl .nil [], .sl .nil [], .sl .nil [], .int .i64 0], none⟩, ⟨none, .store 9 (.t 5) (.t 11), none⟩])
 (.kill [10, 11] (.dreg 0 [(⟨some 12, .mov (.t 3), none⟩, ⟨[], [], none⟩), (⟨some 13, .ari .add (.t 12) (.c (.int .i64 1)), none⟩, ⟨[0], [], none⟩), (⟨some 14, .faddr 4 (.t 5), none⟩, ⟨[], [], none⟩), (⟨some 15, .load false 1 (.t 14), none⟩, ⟨[2], [], none⟩), (⟨some 16, .call false false (.f 24) [(.t 15)], none⟩, ⟨[2, 3], [7, 11, 15], none⟩), (⟨some 17, .ari .add (.t 13) (.t 16), none⟩, ⟨(rl [(0, 5)]), [], none⟩), (⟨some 18, .faddr 5 (.t 5), none⟩, ⟨[], [], none⟩), (⟨some 19, .load false 1 (.t 18), none⟩, ⟨[6], [4], none⟩), (⟨some 20, .call false false (.f 7) [(.t 19)], none⟩, ⟨(rl [(2, 3), (6, 2)]), [11, 15], none⟩), (⟨some 21, .ari .add (.t 17) (.t 20), none⟩, ⟨(rl [(0, 9)]), [], none⟩), (⟨some 22, .faddr 6 (.t 5), none⟩, ⟨[], [], none⟩), (⟨some 23, .load false 1 (.t 22), none⟩, ⟨[10], [4, 8], none⟩), (⟨some 24, .call false false (.f 7) [(.t 23)], none⟩, ⟨(rl [(2, 3), (6, 3), (10, 2)]), [15], none⟩), (⟨some 25, .ari .add (.t 21) (.t 24), none⟩, ⟨(rl [(0, 13)]), [], none⟩), (⟨some 26, .faddr 7 (.t 5), none⟩, ⟨[], [], none⟩), (⟨some 27, .load false 1 (.t 26), none⟩, ⟨[14], [4, 8, 12], none⟩), (⟨some 28, .call false false (.f 7) [(.t 27)], none⟩, ⟨(rl [(2, 3), (6, 3), (10, 3), (14, 2)]), [], none⟩), (⟨some 29, .ari .add (.t 25) (.t 28), none⟩, ⟨(rl [(0, 17)]), [], none⟩), (⟨some 3, .mov (.t 29), none⟩, ⟨(rl [(0, 18)]), [], none⟩)]))))
 (.kill (rl [(5, 1), (12, 18)]) (.reg [⟨some 30, .ari .add (.t 8) (.c (.int .i64 1)), none⟩, ⟨some 8, .mov (.t 30), none⟩]))))))
def f7_b : IC := (.kill (rl [(1, 31)]) (.seq (.reg [⟨some 2, .mov (.c (.int .i64 0)), none⟩])
 (.kill [2] (.seq (.reg [⟨some 3, .mov (.c (.int .i64 0)), none⟩])
 (.seq (.seq (.reg [⟨some 6, .mov (.t 0), none⟩, ⟨some 7, .len false (.t 6), none⟩, ⟨some 8, .mov (.c (.int .i64 0)), none⟩])
 (.kill [0] (.block 0 (.loop [3, 6, 7, 8] f7_l0))))
 (.seq (.reg [⟨some 31, .mov (.t 3), none⟩, ⟨some 2, .mov (.t 31), none⟩])
 (.kill [3, 31] .ret)))))))
def f7 : IFun := ⟨32, [.t 2], f7_b, false, false⟩
/- changeling/changelingref1.Stmts -/
def f8_l0 : IC := (.seq (.seq (.reg [⟨some 5, .mov (.t 4), none⟩, ⟨some 6, .mov (.t 0), none⟩, ⟨some 7, .len false (.t 6), none⟩, ⟨some 8, .ari .lss (.t 5) (.t 7), none⟩])
 (.kill [5, 6, 7] (.cond (.t 8) .skip (.kill [0, 4, 8] (.exit 0)))))
 (.kill [8] (.seq (.block 1 (.dreg 0 [(⟨some 11, .mov (.t 3), none⟩, ⟨[], [], none⟩), (⟨some 12, .ari .add (.t 11) (.c (.int .i64 1)), none⟩, ⟨[0], [], none⟩), (⟨some 13, .mov (.t 0), none⟩, ⟨[], [], none⟩), (⟨some 14, .mov (.t 4), none⟩, ⟨[], [], none⟩), (⟨some 15, .iaddr 9 (.t 13) (.t 14), none⟩, ⟨[2, 3], [], none⟩), (⟨some 16, .faddr 4 (.t 15), none⟩, ⟨[2, 3, 4], [], none⟩), (⟨some 17, .load false 1 (.t 16), none⟩, ⟨(rl [(2, 4)]), [], none⟩), (⟨some 18, .call false false (.f 23) [(.t 17)], none⟩, ⟨(rl [(2, 5)]), [11, 13, 18, 20, 25, 27], none⟩), (⟨some 19, .ari .add (.t 12) (.t 18), none⟩, ⟨(rl [(0, 8)]), [], none⟩), (⟨some 20, .mov (.t 0), none⟩, ⟨[], [], none⟩), (⟨some 21, .mov (.t 4), none⟩, ⟨[], [], none⟩), (⟨some 22, .iaddr 9 (.t 20) (.t 21), none⟩, ⟨[9, 10], [7], none⟩), (⟨some 23, .faddr 5 (.t 22), none⟩, ⟨[9, 10, 11], [], none⟩), (⟨some 24, .load false 1 (.t 23), none⟩, ⟨(rl [(9, 4)]), [7], none⟩), (⟨some 25, .call false false (.f 8) [(.t 24)], none⟩, ⟨(rl [(2, 6), (9, 5)]), [18, 20, 25, 27], none⟩), (⟨some 26, .ari .add (.t 19) (.t 25), none⟩, ⟨(rl [(0, 15)]), [], none⟩), (⟨some 27, .mov (.t 0), none⟩, ⟨[], [], none⟩), (⟨some 28, .mov (.t 4), none⟩, ⟨[], [], none⟩), (⟨some 29, .iaddr 9 (.t 27) (.t 28), none⟩, ⟨[16, 17], [7, 14], none⟩), (⟨some 30, .faddr 6 (.t 29), none⟩, ⟨[16, 17, 18], [], none⟩), (⟨some 31, .load false 1 (.t 30), none⟩, ⟨(rl [(16, 4)]), [7, 14], none⟩), (⟨some 32, .call false false (.f 8) [(.t 31)], none⟩, ⟨(rl [(2, 6), (9, 6), (16, 5)]), [25, 27], none⟩), (⟨some 33, .ari .add (.t 26) (.t 32), none⟩, ⟨(rl [(0, 22)]), [], none⟩), (⟨some 34, .mov (.t 0), none⟩, ⟨[], [], none⟩), (⟨some 35, .mov (.t 4), none⟩, ⟨[], [], none⟩), (⟨some 36, .iaddr 9 (.t 34) (.t 35), none⟩, ⟨[23, 24], [7, 14, 21], none⟩), (⟨some 37, .faddr 7 (.t 36), none⟩, ⟨[23, 24, 25], [], none⟩), (⟨some 38, .load false 1 (.t 37), none⟩, ⟨(rl [(23, 4)]), [7, 14, 21], none⟩), (⟨some 39, .call false false (.f 8) [(.t 38)], none⟩, ⟨(rl [(2, 6), (9, 6), (16, 6), (23, 5)]), [], none⟩), (⟨some 40, .ari .add (.t 33) (.t 39), none⟩, ⟨(rl [(0, 29)]), [], none⟩), (⟨some 3, .mov (.t 40), none⟩, ⟨(rl [(0, 30)]), [], none⟩)]))
 (.kill (rl [(11, 30)]) (.reg [⟨some 9, .mov (.t 4), none⟩, ⟨some 10, .ari .add (.t 9) (.c (.int .i64 1)), none⟩, ⟨some 4, .mov (.t 10), none⟩])))))
def f8_b : IC := (.kill (rl [(1, 41)]) (.seq (.reg [⟨some 2, .mov (.c (.int .i64 0)), none⟩])
 (.kill [2] (.seq (.reg [⟨some 3, .mov (.c (.int .i64 0)), none⟩])
 (.seq (.seq (.reg [⟨some 4, .mov (.c (.int .i64 0)), none⟩])
 (.block 0 (.loop [0, 3, 4] f8_l0)))
 (.seq (.reg [⟨some 41, .mov (.t 3), none⟩, ⟨some 2, .mov (.t 41), none⟩])
 (.kill [3, 41] .ret)))))))
def f8 : IFun := ⟨42, [.t 2], f8_b, false, false⟩
/- changeling/tree.SameExpr -/
def f9_b : IC := (.kill (rl [(2, 15)]) (.seq (.reg [⟨some 2, .box 8 (.t 0), none⟩, ⟨some 3, .box 8 (.t 1), none⟩, ⟨some 4, .mov (.c (.bool false)), none⟩])
 (.kill [0, 1, 4] (.seq (.dreg 0 [(⟨some 5, .load true 8 (.t 2), none⟩, ⟨[], [], none⟩), (⟨some 6, .call false false (.f 25) [(.t 5)], none⟩, ⟨[0], [2], none⟩), (⟨some 7, .load true 8 (.t 3), none⟩, ⟨[], [1], none⟩), (⟨some 8, .call false false (.f 25) [(.t 7)], none⟩, ⟨[0, 1, 2], [], none⟩), (⟨some 9, .eq false (.cells [.int, .int, .str, .str, .str]) (.t 6) (.t 8), none⟩, ⟨(rl [(0, 4)]), [], none⟩), (⟨some 10, .mov (.t 9), none⟩, ⟨(rl [(0, 5)]), [], none⟩), (⟨some 11, .faddr 5 (.t 2), some (10, true)⟩, ⟨(rl [(0, 6)]), [], none⟩), (⟨some 12, .load false 1 (.t 11), some (10, true)⟩, ⟨(rl [(0, 7)]), [], none⟩), (⟨some 13, .faddr 5 (.t 3), some (10, true)⟩, ⟨(rl [(0, 6)]), [], none⟩), (⟨some 14, .load false 1 (.t 13), some (10, true)⟩, ⟨(rl [(0, 6), (8, 1)]), [], none⟩), (⟨some 15, .call true false (.f 26) [(.t 12), (.t 14), (.f 9)], some (10, true)⟩, ⟨(rl [(0, 10)]), [], none⟩), (⟨some 16, .pick (.t 10) (.t 15) (.c (.bool false)), none⟩, ⟨(rl [(0, 11)]), [], none⟩), (⟨some 4, .mov (.t 16), none⟩, ⟨(rl [(0, 12)]), [], none⟩)])
 (.kill (rl [(2, 2), (5, 12)]) .ret)))))
def f9 : IFun := ⟨17, [.t 4], f9_b, false, false⟩
/- changeling/changelingref1.SameExpr -/
def f10_b : IC := (.kill (rl [(2, 43)]) (.seq (.reg [⟨some 2, .box 8 (.t 0), none⟩, ⟨some 3, .box 8 (.t 1), none⟩, ⟨some 4, .mov (.c (.bool false)), none⟩])
 (.kill [0, 1, 4] (.seq (.reg [⟨some 5, .faddr 0 (.t 2), none⟩, ⟨some 6, .load false 1 (.t 5), none⟩, ⟨some 7, .faddr 0 (.t 3), none⟩, ⟨some 8, .load false 1 (.t 7), none⟩, ⟨some 9, .ari .eql (.t 6) (.t 8), none⟩, ⟨some 10, .mov (.t 9), none⟩, ⟨some 11, .faddr 1 (.t 2), some (10, true)⟩, ⟨some 12, .load false 1 (.t 11), some (10, true)⟩, ⟨some 13, .faddr 1 (.t 3), some (10, true)⟩, ⟨some 14, .load false 1 (.t 13), some (10, true)⟩, ⟨some 15, .ari .eql (.t 12) (.t 14), some (10, true)⟩, ⟨some 16, .pick (.t 10) (.t 15) (.c (.bool false)), none⟩, ⟨some 17, .mov (.t 16), none⟩, ⟨some 18, .faddr 2 (.t 2), some (17, true)⟩, ⟨some 19, .load false 1 (.t 18), some (17, true)⟩, ⟨some 20, .faddr 2 (.t 3), some (17, true)⟩, ⟨some 21, .load false 1 (.t 20), some (17, true)⟩, ⟨some 22, .ari .eql (.t 19) (.t 21), some (17, true)⟩, ⟨some 23, .pick (.t 17) (.t 22) (.c (.bool false)), none⟩, ⟨some 24, .mov (.t 23), none⟩, ⟨some 25, .faddr 3 (.t 2), some (24, true)⟩, ⟨some 26, .load false 1 (.t 25), some (24, true)⟩, ⟨some 27, .faddr 3 (.t 3), some (24, true)⟩, ⟨some 28, .load false 1 (.t 27), some (24, true)⟩, ⟨some 29, .ari .eql (.t 26) (.t 28), some (24, true)⟩, ⟨some 30, .pick (.t 24) (.t 29) (.c (.bool false)), none⟩, ⟨some 31, .mov (.t 30), none⟩, ⟨some 32, .faddr 4 (.t 2), some (31, true)⟩, ⟨some 33, .load false 1 (.t 32), some (31, true)⟩, ⟨some 34, .faddr 4 (.t 3), some (31, true)⟩, ⟨some 35, .load false 1 (.t 34), some (31, true)⟩, ⟨some 36, .ari .eql (.t 33) (.t 35), some (31, true)⟩, ⟨some 37, .pick (.t 31) (.t 36) (.c (.bool false)), none⟩, ⟨some 38, .mov (.t 37), none⟩, ⟨some 39, .faddr 5 (.t 2), some (38, true)⟩, ⟨some 40, .load false 1 (.t 39), some (38, true)⟩, ⟨some 41, .faddr 5 (.t 3), some (38, true)⟩, ⟨some 42, .load false 1 (.t 41), some (38, true)⟩, ⟨some 43, .call false false (.f 27) [(.t 40), (.t 42)], some (38, true)⟩, ⟨some 44, .pick (.t 38) (.t 43) (.c (.bool false)), none⟩, ⟨some 4, .mov (.t 44), none⟩])
 (.kill (rl [(2, 2), (5, 40)]) .ret)))))
def f10 : IFun := ⟨45, [.t 4], f10_b, false, false⟩
/- changeling/tree.SameStmts -/
def f11_b : IC := (.kill (rl [(2, 6)]) (.seq (.reg [⟨some 4, .mov (.c (.bool false)), none⟩])
 (.kill [4] (.seq (.reg [⟨some 5, .mov (.t 0), none⟩, ⟨some 6, .mov (.t 1), none⟩, ⟨some 7, .call true false (.f 28) [(.t 5), (.t 6), (.f 29)], none⟩, ⟨some 4, .mov (.t 7), none⟩])
 (.kill (rl [(0, 2), (5, 3)]) .ret)))))
def f11 : IFun := ⟨8, [.t 4], f11_b, false, false⟩
/- changeling/changelingref1.SameStmts -/
def f12_l0 : IC := (.seq (.seq (.reg [⟨some 13, .mov (.t 5), none⟩, ⟨some 14, .mov (.t 0), none⟩, ⟨some 15, .len false (.t 14), none⟩, ⟨some 16, .ari .lss (.t 13) (.t 15), none⟩])
 (.kill [13, 14, 15] (.cond (.t 16) .skip (.kill (rl [(0, 2), (5, 1), (16, 1)]) (.exit 0)))))
 (.kill [16] (.seq (.block 1 (.seq (.dreg 2 [(⟨some 19, .mov (.t 0), none⟩, ⟨[], [], none⟩), (⟨some 20, .mov (.t 5), none⟩, ⟨[], [], none⟩), (⟨some 21, .iaddr 9 (.t 19) (.t 20), none⟩, ⟨[0, 1], [8, 9], none⟩), (⟨some 22, .load true 9 (.t 21), none⟩, ⟨[0, 1, 2], [8, 9], none⟩), (⟨some 23, .mov (.t 1), none⟩, ⟨[], [], none⟩), (⟨some 24, .mov (.t 5), none⟩, ⟨[], [], none⟩), (⟨some 25, .iaddr 9 (.t 23) (.t 24), none⟩, ⟨[4, 5], [8, 9, 10], none⟩), (⟨some 26, .load true 9 (.t 25), none⟩, ⟨[4, 5, 6], [8, 9, 10], none⟩), (⟨some 6, .alloc [.int .i64 0, .int .i32 0, .str [], .str [], .sl .nil [], .sl .nil [], .sl .nil [], .sl .nil [], .int .i64 0], none⟩, ⟨[], [2, 3, 6, 7, 9], some 0⟩), (⟨some 7, .alloc [.int .i64 0, .int .i32 0, .str [], .str [], .sl .nil [], .sl .nil [], .sl .nil [], .sl .nil [], .int .i64 0], none⟩, ⟨[], [2, 3, 6, 7, 8], some 1⟩), (⟨none, .store 9 (.t 6) (.t 22), none⟩, ⟨(rl [(0, 4), (8, 2)]), [6, 7], none⟩), (⟨none, .store 9 (.t 7) (.t 26), none⟩, ⟨(rl [(0, 11)]), [], none⟩)])
 (.kill (rl [(19, 8)]) (.seq (.reg [⟨some 27, .faddr 0 (.t 6), none⟩, ⟨some 28, .load false 1 (.t 27), none⟩, ⟨some 29, .faddr 0 (.t 7), none⟩, ⟨some 30, .load false 1 (.t 29), none⟩, ⟨some 31, .ari .neq (.t 28) (.t 30), none⟩, ⟨some 32, .mov (.t 31), none⟩, ⟨some 33, .faddr 1 (.t 6), some (32, false)⟩, ⟨some 34, .load false 1 (.t 33), some (32, false)⟩, ⟨some 35, .faddr 1 (.t 7), some (32, false)⟩, ⟨some 36, .load false 1 (.t 35), some (32, false)⟩, ⟨some 37, .ari .neq (.t 34) (.t 36), some (32, false)⟩, ⟨some 38, .pick (.t 32) (.c (.bool true)) (.t 37), none⟩, ⟨some 39, .mov (.t 38), none⟩, ⟨some 40, .faddr 2 (.t 6), some (39, false)⟩, ⟨some 41, .load false 1 (.t 40), some (39, false)⟩, ⟨some 42, .faddr 2 (.t 7), some (39, false)⟩, ⟨some 43, .load false 1 (.t 42), some (39, false)⟩, ⟨some 44, .ari .neq (.t 41) (.t 43), some (39, false)⟩, ⟨some 45, .pick (.t 39) (.c (.bool true)) (.t 44), none⟩, ⟨some 46, .mov (.t 45), none⟩, ⟨some 47, .faddr 3 (.t 6), some (46, false)⟩, ⟨some 48, .load false 1 (.t 47), some (46, false)⟩, ⟨some 49, .faddr 3 (.t 7), some (46, false)⟩, ⟨some 50, .load false 1 (.t 49), some (46, false)⟩, ⟨some 51, .ari .neq (.t 48) (.t 50), some (46, false)⟩, ⟨some 52, .pick (.t 46) (.c (.bool true)) (.t 51), none⟩, ⟨some 53, .mov (.t 52), none⟩, ⟨some 54, .faddr 4 (.t 6), some (53, false)⟩, ⟨some 55, .load false 1 (.t 54), some (53, false)⟩, ⟨some 56, .faddr 4 (.t 7), some (53, false)⟩, ⟨some 57, .load false 1 (.t 56), some (53, false)⟩, ⟨some 58, .call false false (.f 27) [(.t 55), (.t 57)], some (53, false)⟩, ⟨some 59, .un .not (.t 58), some (53, false)⟩, ⟨some 60, .pick (.t 53) (.c (.bool true)) (.t 59), none⟩, ⟨some 61, .mov (.t 60), none⟩, ⟨some 62, .faddr 5 (.t 6), some (61, false)⟩, ⟨some 63, .load false 1 (.t 62), some (61, false)⟩, ⟨some 64, .faddr 5 (.t 7), some (61, false)⟩, ⟨some 65, .load false 1 (.t 64), some (61, false)⟩, ⟨some 66, .call false false (.f 12) [(.t 63), (.t 65)], some (61, false)⟩, ⟨some 67, .un .not (.t 66), some (61, false)⟩, ⟨some 68, .pick (.t 61) (.c (.bool true)) (.t 67), none⟩, ⟨some 69, .mov (.t 68), none⟩, ⟨some 70, .faddr 6 (.t 6), some (69, false)⟩, ⟨some 71, .load false 1 (.t 70), some (69, false)⟩, ⟨some 72, .faddr 6 (.t 7), some (69, false)⟩, ⟨some 73, .load false 1 (.t 72), some (69, false)⟩, ⟨some 74, .call false false (.f 12) [(.t 71), (.t 73)], some (69, false)⟩, ⟨some 75, .un .not (.t 74), some (69, false)⟩, ⟨some 76, .pick (.t 69) (.c (.bool true)) (.t 75), none⟩, ⟨some 77, .mov (.t 76), none⟩, ⟨some 78, .faddr 7 (.t 6), some (77, false)⟩, ⟨some 79, .load false 1 (.t 78), some (77, false)⟩, ⟨some 80, .faddr 7 (.t 7), some (77, false)⟩, ⟨some 81, .load false 1 (.t 80), some (77, false)⟩, ⟨some 82, .call false false (.f 12) [(.t 79), (.t 81)], some (77, false)⟩, ⟨some 83, .un .not (.t 82), some (77, false)⟩, ⟨some 84, .pick (.t 77) (.c (.bool true)) (.t 83), none⟩])
 (.kill (rl [(6, 2), (27, 57)]) (.cond (.t 84) (.seq (.reg [⟨some 4, .mov (.c (.bool false)), none⟩])
 (.kill (rl [(0, 2), (5, 1), (84, 1)]) .ret)) .skip))))))
 (.kill [84] (.reg [⟨some 17, .mov (.t 5), none⟩, ⟨some 18, .ari .add (.t 17) (.c (.int .i64 1)), none⟩, ⟨some 5, .mov (.t 18), none⟩])))))
def f12_b : IC := (.kill (rl [(2, 83)]) (.seq (.reg [⟨some 4, .mov (.c (.bool false)), none⟩])
 (.kill [4] (.seq (.seq (.reg [⟨some 8, .mov (.t 0), none⟩, ⟨some 9, .len false (.t 8), none⟩, ⟨some 10, .mov (.t 1), none⟩, ⟨some 11, .len false (.t 10), none⟩, ⟨some 12, .ari .neq (.t 9) (.t 11), none⟩])
 (.kill (rl [(8, 4)]) (.cond (.t 12) (.seq (.reg [⟨some 4, .mov (.c (.bool false)), none⟩])
 (.kill [0, 1, 12] .ret)) .skip)))
 (.kill [12] (.seq (.seq (.reg [⟨some 5, .mov (.c (.int .i64 0)), none⟩])
 (.block 0 (.loop [0, 1, 5] f12_l0)))
 (.seq (.reg [⟨some 4, .mov (.c (.bool true)), none⟩])
 .ret)))))))
def f12 : IFun := ⟨85, [.t 4], f12_b, false, false⟩
/- changeling/changelinglaw3.Few -/
def f13_l1 : IC := (.seq (.seq (.reg [⟨some 46, .mov (.t 6), none⟩, ⟨some 47, .faddr 2 (.t 5), none⟩, ⟨some 48, .load false 1 (.t 47), none⟩, ⟨some 49, .len false (.t 48), none⟩, ⟨some 50, .ari .lss (.t 46) (.t 49), none⟩])
 (.kill (rl [(46, 4)]) (.cond (.t 50) .skip (.kill [6, 50] (.exit 2)))))
 (.kill [50] (.seq (.block 3 (.seq (.reg [⟨some 53, .mov (.t 3), none⟩, ⟨some 54, .ari .add (.t 53) (.c (.int .i64 1)), none⟩, ⟨some 55, .faddr 2 (.t 5), none⟩, ⟨some 56, .load false 1 (.t 55), none⟩, ⟨some 57, .mov (.t 6), none⟩, ⟨some 58, .iaddr 4 (.t 56) (.t 57), none⟩, ⟨some 59, .faddr 3 (.t 58), none⟩, ⟨some 60, .load false 1 (.t 59), none⟩, ⟨some 61, .call false false (.f 21) [(.t 60), (.c (.int .i64 0))], none⟩, ⟨some 62, .ari .add (.t 54) (.t 61), none⟩, ⟨some 3, .mov (.t 62), none⟩])
 (.kill (rl [(53, 10)]) (.seq (.reg [⟨some 63, .mov (.t 3), none⟩, ⟨some 64, .ari .gtr (.t 63) (.c (.int .i64 400)), none⟩, ⟨some 65, .mov (.t 64), none⟩, ⟨some 66, .faddr 2 (.t 5), some (65, false)⟩, ⟨some 67, .load false 1 (.t 66), some (65, false)⟩, ⟨some 68, .mov (.t 6), some (65, false)⟩, ⟨some 69, .iaddr 4 (.t 67) (.t 68), some (65, false)⟩, ⟨some 70, .faddr 2 (.t 69), some (65, false)⟩, ⟨some 71, .load false 1 (.t 70), some (65, false)⟩, ⟨some 72, .len true (.t 71), some (65, false)⟩, ⟨some 73, .ari .gtr (.t 72) (.c (.int .i64 100)), some (65, false)⟩, ⟨some 74, .pick (.t 65) (.c (.bool true)) (.t 73), none⟩, ⟨some 75, .mov (.t 74), none⟩, ⟨some 76, .faddr 2 (.t 5), some (75, false)⟩, ⟨some 77, .load false 1 (.t 76), some (75, false)⟩, ⟨some 78, .mov (.t 6), some (75, false)⟩, ⟨some 79, .iaddr 4 (.t 77) (.t 78), some (75, false)⟩, ⟨some 80, .faddr 1 (.t 79), some (75, false)⟩, ⟨some 81, .load false 1 (.t 80), some (75, false)⟩, ⟨some 82, .len true (.t 81), some (75, false)⟩, ⟨some 83, .ari .gtr (.t 82) (.c (.int .i64 100)), some (75, false)⟩, ⟨some 84, .pick (.t 75) (.c (.bool true)) (.t 83), none⟩])
 (.kill (rl [(63, 21)]) (.cond (.t 84) (.seq (.reg [⟨some 2, .mov (.c (.bool false)), none⟩])
 (.kill (rl [(1, 1), (3, 4), (84, 1)]) .ret)) .skip))))))
 (.kill [84] (.reg [⟨some 51, .mov (.t 6), none⟩, ⟨some 52, .ari .add (.t 51) (.c (.int .i64 1)), none⟩, ⟨some 6, .mov (.t 52), none⟩])))))
def f13_l2 : IC := (.seq (.seq (.reg [⟨some 85, .mov (.t 7), none⟩, ⟨some 86, .faddr 3 (.t 5), none⟩, ⟨some 87, .load false 1 (.t 86), none⟩, ⟨some 88, .len false (.t 87), none⟩, ⟨some 89, .ari .lss (.t 85) (.t 88), none⟩])
 (.kill (rl [(85, 4)]) (.cond (.t 89) .skip (.kill [5, 7, 89] (.exit 4)))))
 (.kill [89] (.seq (.block 5 (.seq (.reg [⟨some 92, .mov (.t 3), none⟩, ⟨some 93, .ari .add (.t 92) (.c (.int .i64 1)), none⟩, ⟨some 94, .faddr 3 (.t 5), none⟩, ⟨some 95, .load false 1 (.t 94), none⟩, ⟨some 96, .mov (.t 7), none⟩, ⟨some 97, .iaddr 6 (.t 95) (.t 96), none⟩, ⟨some 98, .faddr 5 (.t 97), none⟩, ⟨some 99, .load false 1 (.t 98), none⟩, ⟨some 100, .call false false (.f 22) [(.t 99), (.c (.int .i64 0))], none⟩, ⟨some 101, .ari .add (.t 93) (.t 100), none⟩, ⟨some 3, .mov (.t 101), none⟩])
 (.kill (rl [(92, 10)]) (.seq (.reg [⟨some 102, .mov (.t 3), none⟩, ⟨some 103, .ari .gtr (.t 102) (.c (.int .i64 400)), none⟩, ⟨some 104, .mov (.t 103), none⟩, ⟨some 105, .faddr 3 (.t 5), some (104, false)⟩, ⟨some 106, .load false 1 (.t 105), some (104, false)⟩, ⟨some 107, .mov (.t 7), some (104, false)⟩, ⟨some 108, .iaddr 6 (.t 106) (.t 107), some (104, false)⟩, ⟨some 109, .faddr 4 (.t 108), some (104, false)⟩, ⟨some 110, .load false 1 (.t 109), some (104, false)⟩, ⟨some 111, .len false (.t 110), some (104, false)⟩, ⟨some 112, .ari .gtr (.t 111) (.c (.int .i64 20)), some (104, false)⟩, ⟨some 113, .pick (.t 104) (.c (.bool true)) (.t 112), none⟩, ⟨some 114, .mov (.t 113), none⟩, ⟨some 115, .faddr 3 (.t 5), some (114, false)⟩, ⟨some 116, .load false 1 (.t 115), some (114, false)⟩, ⟨some 117, .mov (.t 7), some (114, false)⟩, ⟨some 118, .iaddr 6 (.t 116) (.t 117), some (114, false)⟩, ⟨some 119, .faddr 3 (.t 118), some (114, false)⟩, ⟨some 120, .load false 1 (.t 119), some (114, false)⟩, ⟨some 121, .len true (.t 120), some (114, false)⟩, ⟨some 122, .ari .gtr (.t 121) (.c (.int .i64 100)), some (114, false)⟩, ⟨some 123, .pick (.t 114) (.c (.bool true)) (.t 122), none⟩, ⟨some 124, .mov (.t 123), none⟩, ⟨some 125, .faddr 3 (.t 5), some (124, false)⟩, ⟨some 126, .load false 1 (.t 125), some (124, false)⟩, ⟨some 127, .mov (.t 7), some (124, false)⟩, ⟨some 128, .iaddr 6 (.t 126) (.t 127), some (124, false)⟩, ⟨some 129, .faddr 2 (.t 128), some (124, false)⟩, ⟨some 130, .load false 1 (.t 129), some (124, false)⟩, ⟨some 131, .len true (.t 130), some (124, false)⟩, ⟨some 132, .ari .gtr (.t 131) (.c (.int .i64 100)), some (124, false)⟩, ⟨some 133, .pick (.t 124) (.c (.bool true)) (.t 132), none⟩])
 (.kill (rl [(102, 31)]) (.cond (.t 133) (.seq (.reg [⟨some 2, .mov (.c (.bool false)), none⟩])
 (.kill (rl [(1, 1), (3, 3), (7, 1), (133, 1)]) .ret)) .skip))))))
 (.kill [133] (.reg [⟨some 90, .mov (.t 7), none⟩, ⟨some 91, .ari .add (.t 90) (.c (.int .i64 1)), none⟩, ⟨some 7, .mov (.t 91), none⟩])))))
def f13_l0 : IC := (.seq (.seq (.reg [⟨some 12, .mov (.t 4), none⟩, ⟨some 13, .faddr 0 (.t 1), none⟩, ⟨some 14, .load false 1 (.t 13), none⟩, ⟨some 15, .len false (.t 14), none⟩, ⟨some 16, .ari .lss (.t 12) (.t 15), none⟩])
 (.kill (rl [(12, 4)]) (.cond (.t 16) .skip (.kill (rl [(1, 1), (3, 2), (16, 1)]) (.exit 0)))))
 (.kill [16] (.seq (.block 1 (.seq (.reg [⟨some 19, .faddr 0 (.t 1), none⟩, ⟨some 20, .load false 1 (.t 19), none⟩, ⟨some 21, .mov (.t 4), none⟩, ⟨some 22, .iaddr 4 (.t 20) (.t 21), none⟩, ⟨some 23, .load true 4 (.t 22), none⟩, ⟨some 5, .alloc [.str [], .str [], .sl .nil [], .sl .nil []], none⟩, ⟨none, .store 4 (.t 5) (.t 23), none⟩])
 (.kill (rl [(19, 5)]) (.seq (.seq (.reg [⟨some 24, .faddr 2 (.t 5), none⟩, ⟨some 25, .load false 1 (.t 24), none⟩, ⟨some 26, .len false (.t 25), none⟩, ⟨some 27, .ari .gtr (.t 26) (.c (.int .i64 40)), none⟩, ⟨some 28, .mov (.t 27), none⟩, ⟨some 29, .faddr 3 (.t 5), some (28, false)⟩, ⟨some 30, .load false 1 (.t 29), some (28, false)⟩, ⟨some 31, .len false (.t 30), some (28, false)⟩, ⟨some 32, .ari .gtr (.t 31) (.c (.int .i64 40)), some (28, false)⟩, ⟨some 33, .pick (.t 28) (.c (.bool true)) (.t 32), none⟩, ⟨some 34, .mov (.t 33), none⟩, ⟨some 35, .faddr 0 (.t 5), some (34, false)⟩, ⟨some 36, .load false 1 (.t 35), some (34, false)⟩, ⟨some 37, .len true (.t 36), some (34, false)⟩, ⟨some 38, .ari .gtr (.t 37) (.c (.int .i64 100)), some (34, false)⟩, ⟨some 39, .pick (.t 34) (.c (.bool true)) (.t 38), none⟩, ⟨some 40, .mov (.t 39), none⟩, ⟨some 41, .faddr 1 (.t 5), some (40, false)⟩, ⟨some 42, .load false 1 (.t 41), some (40, false)⟩, ⟨some 43, .len true (.t 42), some (40, false)⟩, ⟨some 44, .ari .gtr (.t 43) (.c (.int .i64 100)), some (40, false)⟩, ⟨some 45, .pick (.t 40) (.c (.bool true)) (.t 44), none⟩])
 (.kill (rl [(24, 21)]) (.cond (.t 45) (.seq (.reg [⟨some 2, .mov (.c (.bool false)), none⟩])
 (.kill (rl [(1, 1), (3, 3), (45, 1)]) .ret)) .skip)))
 (.kill [45] (.seq (.seq (.reg [⟨some 6, .mov (.c (.int .i64 0)), none⟩])
 (.block 2 (.loop [1, 3, 4, 5, 6] f13_l1)))
 (.seq (.reg [⟨some 7, .mov (.c (.int .i64 0)), none⟩])
 (.block 4 (.loop [1, 3, 4, 5, 7] f13_l2)))))))))
 (.reg [⟨some 17, .mov (.t 4), none⟩, ⟨some 18, .ari .add (.t 17) (.c (.int .i64 1)), none⟩, ⟨some 4, .mov (.t 18), none⟩]))))
def f13_b : IC := (.kill (rl [(1, 133)]) (.seq (.reg [⟨some 1, .box 1 (.t 0), none⟩, ⟨some 2, .mov (.c (.bool false)), none⟩])
 (.kill [0, 2] (.seq (.reg [⟨some 3, .mov (.c (.int .i64 0)), none⟩])
 (.seq (.seq (.reg [⟨some 8, .faddr 0 (.t 1), none⟩, ⟨some 9, .load false 1 (.t 8), none⟩, ⟨some 10, .len false (.t 9), none⟩, ⟨some 11, .ari .gtr (.t 10) (.c (.int .i64 25)), none⟩])
 (.kill [8, 9, 10] (.cond (.t 11) (.seq (.reg [⟨some 2, .mov (.c (.bool false)), none⟩])
 (.kill [1, 3, 11] .ret)) .skip)))
 (.kill [11] (.seq (.seq (.reg [⟨some 4, .mov (.c (.int .i64 0)), none⟩])
 (.block 0 (.loop [1, 3, 4] f13_l0)))
 (.seq (.reg [⟨some 2, .mov (.c (.bool true)), none⟩])
 .ret))))))))
def f13 : IFun := ⟨134, [.t 2], f13_b, false, false⟩
/- changeling/changelingref17.Copy -/
def f14_l1 : IC := (.seq (.seq (.reg [⟨some 28, .mov (.t 6), none⟩, ⟨some 29, .faddr 0 (.t 1), none⟩, ⟨some 30, .load false 1 (.t 29), none⟩, ⟨some 31, .mov (.t 4), none⟩, ⟨some 32, .iaddr 4 (.t 30) (.t 31), none⟩, ⟨some 33, .faddr 2 (.t 32), none⟩, ⟨some 34, .load false 1 (.t 33), none⟩, ⟨some 35, .len false (.t 34), none⟩, ⟨some 36, .ari .lss (.t 28) (.t 35), none⟩])
 (.kill (rl [(28, 8)]) (.cond (.t 36) .skip (.kill [6, 36] (.exit 2)))))
 (.kill [36] (.seq (.block 3 (.dreg 1 [(⟨some 39, .faddr 2 (.t 5), none⟩, ⟨[], [], none⟩), (⟨some 40, .load false 1 (.t 39), none⟩, ⟨[0], [11, 12], none⟩), (⟨some 41, .faddr 0 (.t 1), none⟩, ⟨[], [], none⟩), (⟨some 42, .load false 1 (.t 41), none⟩, ⟨[2], [], none⟩), (⟨some 43, .mov (.t 4), none⟩, ⟨[], [], none⟩), (⟨some 44, .iaddr 4 (.t 42) (.t 43), none⟩, ⟨[2, 3, 4], [], none⟩), (⟨some 45, .faddr 2 (.t 44), none⟩, ⟨(rl [(2, 4)]), [], none⟩), (⟨some 46, .load false 1 (.t 45), none⟩, ⟨(rl [(2, 5)]), [], none⟩), (⟨some 47, .mov (.t 6), none⟩, ⟨[], [], none⟩), (⟨some 48, .iaddr 4 (.t 46) (.t 47), none⟩, ⟨(rl [(2, 7)]), [], none⟩), (⟨some 49, .load true 4 (.t 48), none⟩, ⟨(rl [(2, 8)]), [], none⟩), (⟨some 50, .call false false (.f 30) [(.t 49)], none⟩, ⟨(rl [(2, 9)]), [1], none⟩), (⟨some 51, .bslice false 1 4 true [.bool false, .str [], .str [], .sl .nil []] [(0, (.t 50))], none⟩, ⟨(rl [(2, 10)]), [1], none⟩), (⟨some 52, .app 4 64 (.t 40) (.t 51), none⟩, ⟨(rl [(0, 13)]), [], some 0⟩), (⟨some 53, .faddr 2 (.t 5), none⟩, ⟨(rl [(0, 14)]), [], none⟩), (⟨none, .store 1 (.t 53) (.t 52), none⟩, ⟨(rl [(0, 15)]), [], none⟩)]))
 (.kill (rl [(39, 15)]) (.reg [⟨some 37, .mov (.t 6), none⟩, ⟨some 38, .ari .add (.t 37) (.c (.int .i64 1)), none⟩, ⟨some 6, .mov (.t 38), none⟩])))))
def f14_l2 : IC := (.seq (.seq (.reg [⟨some 54, .mov (.t 7), none⟩, ⟨some 55, .faddr 0 (.t 1), none⟩, ⟨some 56, .load false 1 (.t 55), none⟩, ⟨some 57, .mov (.t 4), none⟩, ⟨some 58, .iaddr 4 (.t 56) (.t 57), none⟩, ⟨some 59, .faddr 3 (.t 58), none⟩, ⟨some 60, .load false 1 (.t 59), none⟩, ⟨some 61, .len false (.t 60), none⟩, ⟨some 62, .ari .lss (.t 54) (.t 61), none⟩])
 (.kill (rl [(54, 8)]) (.cond (.t 62) .skip (.kill [7, 62] (.exit 4)))))
 (.kill [62] (.seq (.block 5 (.dreg 1 [(⟨some 65, .faddr 3 (.t 5), none⟩, ⟨[], [], none⟩), (⟨some 66, .load false 1 (.t 65), none⟩, ⟨[0], [11, 12], none⟩), (⟨some 67, .faddr 0 (.t 1), none⟩, ⟨[], [], none⟩), (⟨some 68, .load false 1 (.t 67), none⟩, ⟨[2], [], none⟩), (⟨some 69, .mov (.t 4), none⟩, ⟨[], [], none⟩), (⟨some 70, .iaddr 4 (.t 68) (.t 69), none⟩, ⟨[2, 3, 4], [], none⟩), (⟨some 71, .faddr 3 (.t 70), none⟩, ⟨(rl [(2, 4)]), [], none⟩), (⟨some 72, .load false 1 (.t 71), none⟩, ⟨(rl [(2, 5)]), [], none⟩), (⟨some 73, .mov (.t 7), none⟩, ⟨[], [], none⟩), (⟨some 74, .iaddr 6 (.t 72) (.t 73), none⟩, ⟨(rl [(2, 7)]), [], none⟩), (⟨some 75, .load true 6 (.t 74), none⟩, ⟨(rl [(2, 8)]), [], none⟩), (⟨some 76, .call false false (.f 31) [(.t 75)], none⟩, ⟨(rl [(2, 9)]), [1], none⟩), (⟨some 77, .bslice false 1 6 true [.bool false, .bool false, .str [], .str [], .sl .nil [], .sl .nil []] [(0, (.t 76))], none⟩, ⟨(rl [(2, 10)]), [1], none⟩), (⟨some 78, .app 6 88 (.t 66) (.t 77), none⟩, ⟨(rl [(0, 13)]), [], some 0⟩), (⟨some 79, .faddr 3 (.t 5), none⟩, ⟨(rl [(0, 14)]), [], none⟩), (⟨none, .store 1 (.t 79) (.t 78), none⟩, ⟨(rl [(0, 15)]), [], none⟩)]))
 (.kill (rl [(65, 15)]) (.reg [⟨some 63, .mov (.t 7), none⟩, ⟨some 64, .ari .add (.t 63) (.c (.int .i64 1)), none⟩, ⟨some 7, .mov (.t 64), none⟩])))))
def f14_l0 : IC := (.seq (.seq (.reg [⟨some 8, .mov (.t 4), none⟩, ⟨some 9, .faddr 0 (.t 1), none⟩, ⟨some 10, .load false 1 (.t 9), none⟩, ⟨some 11, .len false (.t 10), none⟩, ⟨some 12, .ari .lss (.t 8) (.t 11), none⟩])
 (.kill (rl [(8, 4)]) (.cond (.t 12) .skip (.kill [1, 4, 12] (.exit 0)))))
 (.kill [12] (.seq (.block 1 (.seq (.dreg 1 [(⟨some 15, .faddr 0 (.t 1), none⟩, ⟨[], [], none⟩), (⟨some 16, .load false 1 (.t 15), none⟩, ⟨[0], [13], none⟩), (⟨some 17, .mov (.t 4), none⟩, ⟨[], [], none⟩), (⟨some 18, .iaddr 4 (.t 16) (.t 17), none⟩, ⟨[0, 1, 2], [13], none⟩), (⟨some 19, .faddr 0 (.t 18), none⟩, ⟨(rl [(0, 4)]), [], none⟩), (⟨some 20, .load false 1 (.t 19), none⟩, ⟨(rl [(0, 5)]), [13], none⟩), (⟨some 21, .faddr 0 (.t 1), none⟩, ⟨[], [], none⟩), (⟨some 22, .load false 1 (.t 21), none⟩, ⟨[6], [13], none⟩), (⟨some 23, .mov (.t 4), none⟩, ⟨[], [], none⟩), (⟨some 24, .iaddr 4 (.t 22) (.t 23), none⟩, ⟨[6, 7, 8], [13], none⟩), (⟨some 25, .faddr 1 (.t 24), none⟩, ⟨(rl [(6, 4)]), [], none⟩), (⟨some 26, .load false 1 (.t 25), none⟩, ⟨(rl [(6, 5)]), [13], none⟩), (⟨some 27, .build [.str [], .str [], .sl .nil [], .sl .nil []] [(0, 1, (.t 20)), (1, 1, (.t 26))], none⟩, ⟨(rl [(0, 12)]), [], none⟩), (⟨some 5, .alloc [.str [], .str [], .sl .nil [], .sl .nil []], none⟩, ⟨[], [1, 3, 5, 7, 9, 11], some 0⟩), (⟨none, .store 4 (.t 5) (.t 27), none⟩, ⟨(rl [(0, 14)]), [], none⟩)])
 (.kill (rl [(15, 13)]) (.seq (.seq (.reg [⟨some 6, .mov (.c (.int .i64 0)), none⟩])
 (.block 2 (.loop [1, 2, 3, 4, 5, 6] f14_l1)))
 (.seq (.seq (.reg [⟨some 7, .mov (.c (.int .i64 0)), none⟩])
 (.block 4 (.loop [1, 2, 3, 4, 5, 7] f14_l2)))
 (.reg [⟨some 80, .faddr 0 (.t 3), none⟩, ⟨some 81, .load false 1 (.t 80), none⟩, ⟨some 82, .load true 4 (.t 5), none⟩, ⟨some 83, .bslice false 1 4 true [.str [], .str [], .sl .nil [], .sl .nil []] [(0, (.t 82))], none⟩, ⟨some 84, .app 4 80 (.t 81) (.t 83), none⟩, ⟨some 85, .faddr 0 (.t 3), none⟩, ⟨none, .store 1 (.t 85) (.t 84), none⟩]))))))
 (.kill (rl [(5, 1), (80, 6)]) (.reg [⟨some 13, .mov (.t 4), none⟩, ⟨some 14, .ari .add (.t 13) (.c (.int .i64 1)), none⟩, ⟨some 4, .mov (.t 14), none⟩])))))
def f14_b : IC := (.kill (rl [(1, 86)]) (.seq (.reg [⟨some 1, .box 1 (.t 0), none⟩, ⟨some 2, .alloc [.sl .nil []], none⟩])
 (.kill [0] (.seq (.reg [⟨some 3, .alloc [.sl .nil []], none⟩])
 (.seq (.seq (.reg [⟨some 4, .mov (.c (.int .i64 0)), none⟩])
 (.block 0 (.loop [1, 2, 3, 4] f14_l0)))
 (.seq (.reg [⟨some 86, .load true 1 (.t 3), none⟩, ⟨none, .store 1 (.t 2) (.t 86), none⟩])
 (.kill [3, 86] .ret)))))))
def f14 : IFun := ⟨87, [.cell 2 true 1], f14_b, false, false⟩
/- changeling/tree.Bare -/
def f15_b : IC := (.kill (rl [(1, 4)]) (.seq (.reg [⟨some 1, .box 1 (.t 0), none⟩, ⟨some 2, .alloc [.sl .nil []], none⟩])
 (.kill [0] (.seq (.reg [⟨some 3, .load true 1 (.t 1), none⟩, ⟨some 4, .call true false (.f 32) [(.t 3), (.f 33), (.f 34)], none⟩, ⟨none, .store 1 (.t 2) (.t 4), none⟩])
 (.kill [1, 3, 4] .ret)))))
def f15 : IFun := ⟨5, [.cell 2 true 1], f15_b, false, false⟩
/- changeling/changelingref1.Same -/
def f16_l0 : IC := (.seq (.seq (.reg [⟨some 13, .mov (.t 5), none⟩, ⟨some 14, .faddr 0 (.t 2), none⟩, ⟨some 15, .load false 1 (.t 14), none⟩, ⟨some 16, .len false (.t 15), none⟩, ⟨some 17, .ari .lss (.t 13) (.t 16), none⟩])
 (.kill (rl [(13, 4)]) (.cond (.t 17) .skip (.kill (rl [(2, 2), (5, 1), (17, 1)]) (.exit 0)))))
 (.kill [17] (.seq (.block 1 (.seq (.dreg 0 [(⟨some 20, .faddr 0 (.t 2), none⟩, ⟨[], [], none⟩), (⟨some 21, .load false 1 (.t 20), none⟩, ⟨[0], [], none⟩), (⟨some 22, .mov (.t 5), none⟩, ⟨[], [], none⟩), (⟨some 23, .iaddr 4 (.t 21) (.t 22), none⟩, ⟨[0, 1, 2], [], none⟩), (⟨some 24, .load true 4 (.t 23), none⟩, ⟨(rl [(0, 4)]), [], none⟩), (⟨some 25, .faddr 0 (.t 3), none⟩, ⟨[], [], none⟩), (⟨some 26, .load false 1 (.t 25), none⟩, ⟨[5], [], none⟩), (⟨some 27, .mov (.t 5), none⟩, ⟨[], [], none⟩), (⟨some 28, .iaddr 4 (.t 26) (.t 27), none⟩, ⟨[5, 6, 7], [], none⟩), (⟨some 29, .load true 4 (.t 28), none⟩, ⟨(rl [(5, 4)]), [], none⟩), (⟨some 30, .call false false (.f 35) [(.t 24), (.t 29)], none⟩, ⟨(rl [(0, 10)]), [], none⟩), (⟨some 31, .un .not (.t 30), none⟩, ⟨(rl [(0, 11)]), [], none⟩)])
 (.kill (rl [(20, 11)]) (.cond (.t 31) (.seq (.reg [⟨some 4, .mov (.c (.bool false)), none⟩])
 (.kill (rl [(2, 2), (5, 1), (31, 1)]) .ret)) .skip))))
 (.kill [31] (.reg [⟨some 18, .mov (.t 5), none⟩, ⟨some 19, .ari .add (.t 18) (.c (.int .i64 1)), none⟩, ⟨some 5, .mov (.t 19), none⟩])))))
def f16_b : IC := (.kill (rl [(2, 30)]) (.seq (.reg [⟨some 2, .box 1 (.t 0), none⟩, ⟨some 3, .box 1 (.t 1), none⟩, ⟨some 4, .mov (.c (.bool false)), none⟩])
 (.kill [0, 1, 4] (.seq (.seq (.reg [⟨some 6, .faddr 0 (.t 2), none⟩, ⟨some 7, .load false 1 (.t 6), none⟩, ⟨some 8, .len false (.t 7), none⟩, ⟨some 9, .faddr 0 (.t 3), none⟩, ⟨some 10, .load false 1 (.t 9), none⟩, ⟨some 11, .len false (.t 10), none⟩, ⟨some 12, .ari .neq (.t 8) (.t 11), none⟩])
 (.kill (rl [(6, 6)]) (.cond (.t 12) (.seq (.reg [⟨some 4, .mov (.c (.bool false)), none⟩])
 (.kill [2, 3, 12] .ret)) .skip)))
 (.kill [12] (.seq (.seq (.reg [⟨some 5, .mov (.c (.int .i64 0)), none⟩])
 (.block 0 (.loop [2, 3, 5] f16_l0)))
 (.seq (.reg [⟨some 4, .mov (.c (.bool true)), none⟩])
 .ret)))))))
def f16 : IFun := ⟨32, [.t 4], f16_b, false, false⟩
/- changeling/tree.Same -/
def f17_b : IC := (.kill (rl [(2, 8)]) (.seq (.reg [⟨some 2, .box 1 (.t 0), none⟩, ⟨some 3, .box 1 (.t 1), none⟩, ⟨some 4, .mov (.c (.bool false)), none⟩])
 (.kill [0, 1, 4] (.seq (.reg [⟨some 5, .faddr 0 (.t 2), none⟩, ⟨some 6, .load false 1 (.t 5), none⟩, ⟨some 7, .faddr 0 (.t 3), none⟩, ⟨some 8, .load false 1 (.t 7), none⟩, ⟨some 9, .call true false (.f 36) [(.t 6), (.t 8), (.f 37)], none⟩, ⟨some 4, .mov (.t 9), none⟩])
 (.kill (rl [(2, 2), (5, 5)]) .ret)))))
def f17 : IFun := ⟨10, [.t 4], f17_b, false, false⟩
/- changeling/tree.Nodes -/
def f18_l1 : IC := (.seq (.reg [⟨some 23, .ari .lss (.t 22) (.t 21), none⟩])
 (.seq (.cond (.t 23) .skip (.kill (rl [(20, 4)]) (.exit 2)))
 (.kill [23] (.seq (.block 3 (.seq (.reg [⟨some 24, .iaddr 4 (.t 20) (.t 22), none⟩, ⟨some 25, .load true 4 (.t 24), none⟩, ⟨some 7, .alloc [.bool false, .str [], .str [], .sl .nil []], none⟩, ⟨none, .store 4 (.t 7) (.t 25), none⟩])
 (.kill [24, 25] (.reg [⟨some 26, .mov (.t 3), none⟩, ⟨some 27, .ari .add (.t 26) (.c (.int .i64 1)), none⟩, ⟨some 28, .faddr 3 (.t 7), none⟩, ⟨some 29, .load false 1 (.t 28), none⟩, ⟨some 30, .call false false (.f 24) [(.t 29)], none⟩, ⟨some 31, .ari .add (.t 27) (.t 30), none⟩, ⟨some 3, .mov (.t 31), none⟩]))))
 (.kill (rl [(7, 1), (26, 6)]) (.reg [⟨some 32, .ari .add (.t 22) (.c (.int .i64 1)), none⟩, ⟨some 22, .mov (.t 32), none⟩]))))))
def f18_l2 : IC := (.seq (.reg [⟨some 37, .ari .lss (.t 36) (.t 35), none⟩])
 (.seq (.cond (.t 37) .skip (.kill (rl [(34, 4)]) (.exit 4)))
 (.kill [37] (.seq (.block 5 (.seq (.reg [⟨some 38, .iaddr 6 (.t 34) (.t 36), none⟩, ⟨some 39, .load true 6 (.t 38), none⟩, ⟨some 9, .alloc [.bool false, .bool false, .str [], .str [], .sl .nil [], .sl .nil []], none⟩, ⟨none, .store 6 (.t 9) (.t 39), none⟩])
 (.kill [38, 39] (.reg [⟨some 40, .mov (.t 3), none⟩, ⟨some 41, .ari .add (.t 40) (.c (.int .i64 1)), none⟩, ⟨some 42, .faddr 5 (.t 9), none⟩, ⟨some 43, .load false 1 (.t 42), none⟩, ⟨some 44, .call false false (.f 7) [(.t 43)], none⟩, ⟨some 45, .ari .add (.t 41) (.t 44), none⟩, ⟨some 3, .mov (.t 45), none⟩]))))
 (.kill (rl [(9, 1), (40, 6)]) (.reg [⟨some 46, .ari .add (.t 36) (.c (.int .i64 1)), none⟩, ⟨some 36, .mov (.t 46), none⟩]))))))
def f18_l0 : IC := (.seq (.reg [⟨some 14, .ari .lss (.t 13) (.t 12), none⟩])
 (.seq (.cond (.t 14) .skip (.kill (rl [(11, 4)]) (.exit 0)))
 (.kill [14] (.seq (.block 1 (.seq (.reg [⟨some 15, .iaddr 4 (.t 11) (.t 13), none⟩, ⟨some 16, .load true 4 (.t 15), none⟩, ⟨some 5, .alloc [.str [], .str [], .sl .nil [], .sl .nil []], none⟩, ⟨none, .store 4 (.t 5) (.t 16), none⟩])
 (.kill [15, 16] (.seq (.reg [⟨some 17, .mov (.t 3), none⟩, ⟨some 18, .ari .add (.t 17) (.c (.int .i64 1)), none⟩, ⟨some 3, .mov (.t 18), none⟩])
 (.kill [17, 18] (.seq (.seq (.reg [⟨some 19, .faddr 2 (.t 5), none⟩, ⟨some 20, .load false 1 (.t 19), none⟩, ⟨some 21, .len false (.t 20), none⟩, ⟨some 22, .mov (.c (.int .i64 0)), none⟩])
 (.kill [19] (.block 2 (.loop [3, 5, 11, 12, 13, 20, 21, 22] f18_l1))))
 (.seq (.reg [⟨some 33, .faddr 3 (.t 5), none⟩, ⟨some 34, .load false 1 (.t 33), none⟩, ⟨some 35, .len false (.t 34), none⟩, ⟨some 36, .mov (.c (.int .i64 0)), none⟩])
 (.kill [5, 33] (.block 4 (.loop [3, 11, 12, 13, 34, 35, 36] f18_l2))))))))))
 (.reg [⟨some 47, .ari .add (.t 13) (.c (.int .i64 1)), none⟩, ⟨some 13, .mov (.t 47), none⟩])))))
def f18_b : IC := (.kill (rl [(1, 48)]) (.seq (.reg [⟨some 1, .box 1 (.t 0), none⟩, ⟨some 2, .mov (.c (.int .i64 0)), none⟩])
 (.kill [0, 2] (.seq (.reg [⟨some 3, .mov (.c (.int .i64 0)), none⟩])
 (.seq (.seq (.reg [⟨some 10, .faddr 0 (.t 1), none⟩, ⟨some 11, .load false 1 (.t 10), none⟩, ⟨some 12, .len false (.t 11), none⟩, ⟨some 13, .mov (.c (.int .i64 0)), none⟩])
 (.kill [1, 10] (.block 0 (.loop [3, 11, 12, 13] f18_l0))))
 (.seq (.reg [⟨some 48, .mov (.t 3), none⟩, ⟨some 2, .mov (.t 48), none⟩])
 (.kill [3, 48] .ret)))))))
def f18 : IFun := ⟨49, [.t 2], f18_b, false, false⟩
/- changeling/tree.May -/
def f19_l1 : IC := (.seq (.reg [⟨some 28, .ari .lss (.t 27) (.t 26), none⟩])
 (.seq (.cond (.t 28) .skip (.kill (rl [(25, 4)]) (.exit 2)))
 (.kill [28] (.seq (.block 3 (.seq (.reg [⟨some 29, .iaddr 4 (.t 25) (.t 27), none⟩, ⟨some 30, .load true 4 (.t 29), none⟩, ⟨some 6, .alloc [.bool false, .str [], .str [], .sl .nil []], none⟩, ⟨none, .store 4 (.t 6) (.t 30), none⟩])
 (.kill [29, 30] (.seq (.reg [⟨some 31, .load true 4 (.t 6), none⟩, ⟨some 32, .mki 3 (.t 31), none⟩, ⟨some 33, .call true false (.f 43) [(.t 32)], none⟩, ⟨some 34, .un .not (.t 33), none⟩])
 (.kill (rl [(6, 1), (31, 3)]) (.cond (.t 34) (.seq (.reg [⟨some 2, .mov (.c (.bool false)), none⟩])
 (.kill (rl [(1, 1), (4, 1), (14, 3), (25, 3), (34, 1)]) .ret)) .skip))))))
 (.kill [34] (.reg [⟨some 35, .ari .add (.t 27) (.c (.int .i64 1)), none⟩, ⟨some 27, .mov (.t 35), none⟩]))))))
def f19_l2 : IC := (.seq (.reg [⟨some 40, .ari .lss (.t 39) (.t 38), none⟩])
 (.seq (.cond (.t 40) .skip (.kill (rl [(37, 4)]) (.exit 4)))
 (.kill [40] (.seq (.block 5 (.seq (.reg [⟨some 41, .iaddr 6 (.t 37) (.t 39), none⟩, ⟨some 42, .load true 6 (.t 41), none⟩, ⟨some 8, .alloc [.bool false, .bool false, .str [], .str [], .sl .nil [], .sl .nil []], none⟩, ⟨none, .store 6 (.t 8) (.t 42), none⟩])
 (.kill [41, 42] (.seq (.reg [⟨some 43, .load true 6 (.t 8), none⟩, ⟨some 44, .mki 4 (.t 43), none⟩, ⟨some 45, .call true false (.f 43) [(.t 44)], none⟩, ⟨some 46, .un .not (.t 45), none⟩])
 (.kill (rl [(8, 1), (43, 3)]) (.cond (.t 46) (.seq (.reg [⟨some 2, .mov (.c (.bool false)), none⟩])
 (.kill (rl [(1, 1), (14, 3), (37, 3), (46, 1)]) .ret)) .skip))))))
 (.kill [46] (.reg [⟨some 47, .ari .add (.t 39) (.c (.int .i64 1)), none⟩, ⟨some 39, .mov (.t 47), none⟩]))))))
def f19_l0 : IC := (.seq (.reg [⟨some 17, .ari .lss (.t 16) (.t 15), none⟩])
 (.seq (.cond (.t 17) .skip (.kill (rl [(14, 4)]) (.exit 0)))
 (.kill [17] (.seq (.block 1 (.seq (.reg [⟨some 18, .iaddr 4 (.t 14) (.t 16), none⟩, ⟨some 19, .load true 4 (.t 18), none⟩, ⟨some 4, .alloc [.str [], .str [], .sl .nil [], .sl .nil []], none⟩, ⟨none, .store 4 (.t 4) (.t 19), none⟩])
 (.kill [18, 19] (.seq (.seq (.reg [⟨some 20, .load true 4 (.t 4), none⟩, ⟨some 21, .mki 0 (.t 20), none⟩, ⟨some 22, .call true false (.f 43) [(.t 21)], none⟩, ⟨some 23, .un .not (.t 22), none⟩])
 (.kill [20, 21, 22] (.cond (.t 23) (.seq (.reg [⟨some 2, .mov (.c (.bool false)), none⟩])
 (.kill (rl [(1, 1), (4, 1), (14, 3), (23, 1)]) .ret)) .skip)))
 (.kill [23] (.seq (.seq (.reg [⟨some 24, .faddr 2 (.t 4), none⟩, ⟨some 25, .load false 1 (.t 24), none⟩, ⟨some 26, .len false (.t 25), none⟩, ⟨some 27, .mov (.c (.int .i64 0)), none⟩])
 (.kill [24] (.block 2 (.loop [1, 4, 14, 15, 16, 25, 26, 27] f19_l1))))
 (.seq (.reg [⟨some 36, .faddr 3 (.t 4), none⟩, ⟨some 37, .load false 1 (.t 36), none⟩, ⟨some 38, .len false (.t 37), none⟩, ⟨some 39, .mov (.c (.int .i64 0)), none⟩])
 (.kill [4, 36] (.block 4 (.loop [1, 14, 15, 16, 37, 38, 39] f19_l2))))))))))
 (.reg [⟨some 48, .ari .add (.t 16) (.c (.int .i64 1)), none⟩, ⟨some 16, .mov (.t 48), none⟩])))))
def f19_b : IC := (.kill (rl [(1, 51)]) (.seq (.reg [⟨some 1, .box 1 (.t 0), none⟩, ⟨some 2, .mov (.c (.bool false)), none⟩])
 (.kill [0, 2] (.seq (.seq (.reg [⟨some 9, .faddr 0 (.t 1), none⟩, ⟨some 10, .load false 1 (.t 9), none⟩, ⟨some 11, .len false (.t 10), none⟩, ⟨some 12, .ari .gtr (.t 11) (.c (.int .i64 20)), none⟩])
 (.kill [9, 10, 11] (.cond (.t 12) (.seq (.reg [⟨some 2, .mov (.c (.bool false)), none⟩])
 (.kill [1, 12] .ret)) .skip)))
 (.kill [12] (.seq (.seq (.reg [⟨some 13, .faddr 0 (.t 1), none⟩, ⟨some 14, .load false 1 (.t 13), none⟩, ⟨some 15, .len false (.t 14), none⟩, ⟨some 16, .mov (.c (.int .i64 0)), none⟩])
 (.kill [13] (.block 0 (.loop [1, 14, 15, 16] f19_l0))))
 (.seq (.reg [⟨some 49, .load true 1 (.t 1), none⟩, ⟨some 50, .call false false (.f 18) [(.t 49)], none⟩, ⟨some 51, .ari .leq (.t 50) (.c (.int .i64 3000)), none⟩, ⟨some 2, .mov (.t 51), none⟩])
 (.kill (rl [(1, 1), (49, 3)]) .ret))))))))
def f19 : IFun := ⟨52, [.t 2], f19_b, false, false⟩
/- changeling/changelingref17.All -/
def f20_l1 : IC := (.seq (.seq (.reg [⟨some 12, .mov (.t 5), none⟩, ⟨some 13, .mov (.t 0), none⟩, ⟨some 14, .mov (.t 4), none⟩, ⟨some 15, .iaddr 9 (.t 13) (.t 14), none⟩, ⟨some 16, .faddr 4 (.t 15), none⟩, ⟨some 17, .load false 1 (.t 16), none⟩, ⟨some 18, .len false (.t 17), none⟩, ⟨some 19, .ari .lss (.t 12) (.t 18), none⟩])
 (.kill (rl [(12, 7)]) (.cond (.t 19) .skip (.kill [5, 19] (.exit 2)))))
 (.kill [19] (.seq (.block 3 (.reg [⟨some 22, .mov (.t 3), none⟩, ⟨some 23, .mov (.t 0), none⟩, ⟨some 24, .mov (.t 4), none⟩, ⟨some 25, .iaddr 9 (.t 23) (.t 24), none⟩, ⟨some 26, .faddr 4 (.t 25), none⟩, ⟨some 27, .load false 1 (.t 26), none⟩, ⟨some 28, .mov (.t 5), none⟩, ⟨some 29, .iaddr 8 (.t 27) (.t 28), none⟩, ⟨some 30, .load true 8 (.t 29), none⟩, ⟨some 31, .call false false (.f 44) [(.t 30)], none⟩, ⟨some 32, .app 8 112 (.t 22) (.t 31), none⟩, ⟨some 3, .mov (.t 32), none⟩]))
 (.kill (rl [(22, 11)]) (.reg [⟨some 20, .mov (.t 5), none⟩, ⟨some 21, .ari .add (.t 20) (.c (.int .i64 1)), none⟩, ⟨some 5, .mov (.t 21), none⟩])))))
def f20_l0 : IC := (.seq (.seq (.reg [⟨some 6, .mov (.t 4), none⟩, ⟨some 7, .mov (.t 0), none⟩, ⟨some 8, .len false (.t 7), none⟩, ⟨some 9, .ari .lss (.t 6) (.t 8), none⟩])
 (.kill [6, 7, 8] (.cond (.t 9) .skip (.kill [0, 4, 9] (.exit 0)))))
 (.kill [9] (.seq (.block 1 (.seq (.seq (.reg [⟨some 5, .mov (.c (.int .i64 0)), none⟩])
 (.block 2 (.loop [0, 3, 4, 5] f20_l1)))
 (.seq (.reg [⟨some 33, .mov (.t 3), none⟩, ⟨some 34, .mov (.t 0), none⟩, ⟨some 35, .mov (.t 4), none⟩, ⟨some 36, .iaddr 9 (.t 34) (.t 35), none⟩, ⟨some 37, .faddr 5 (.t 36), none⟩, ⟨some 38, .load false 1 (.t 37), none⟩, ⟨some 39, .call false false (.f 20) [(.t 38)], none⟩, ⟨some 40, .app 8 112 (.t 33) (.t 39), none⟩, ⟨some 3, .mov (.t 40), none⟩])
 (.kill (rl [(33, 8)]) (.seq (.reg [⟨some 41, .mov (.t 3), none⟩, ⟨some 42, .mov (.t 0), none⟩, ⟨some 43, .mov (.t 4), none⟩, ⟨some 44, .iaddr 9 (.t 42) (.t 43), none⟩, ⟨some 45, .faddr 6 (.t 44), none⟩, ⟨some 46, .load false 1 (.t 45), none⟩, ⟨some 47, .call false false (.f 20) [(.t 46)], none⟩, ⟨some 48, .app 8 112 (.t 41) (.t 47), none⟩, ⟨some 3, .mov (.t 48), none⟩])
 (.kill (rl [(41, 8)]) (.reg [⟨some 49, .mov (.t 3), none⟩, ⟨some 50, .mov (.t 0), none⟩, ⟨some 51, .mov (.t 4), none⟩, ⟨some 52, .iaddr 9 (.t 50) (.t 51), none⟩, ⟨some 53, .faddr 7 (.t 52), none⟩, ⟨some 54, .load false 1 (.t 53), none⟩, ⟨some 55, .call false false (.f 20) [(.t 54)], none⟩, ⟨some 56, .app 8 112 (.t 49) (.t 55), none⟩, ⟨some 3, .mov (.t 56), none⟩])))))))
 (.kill (rl [(49, 8)]) (.reg [⟨some 10, .mov (.t 4), none⟩, ⟨some 11, .ari .add (.t 10) (.c (.int .i64 1)), none⟩, ⟨some 4, .mov (.t 11), none⟩])))))
def f20_b : IC := (.kill (rl [(1, 57)]) (.seq (.reg [⟨some 2, .mov (.c (.sl .nil [])), none⟩])
 (.kill [2] (.seq (.reg [⟨some 3, .mov (.c (.sl .nil [])), none⟩])
 (.seq (.seq (.reg [⟨some 4, .mov (.c (.int .i64 0)), none⟩])
 (.block 0 (.loop [0, 3, 4] f20_l0)))
 (.seq (.reg [⟨some 57, .mov (.t 3), none⟩, ⟨some 2, .mov (.t 57), none⟩])
 (.kill [3, 57] .ret)))))))
def f20 : IFun := ⟨58, [.t 2], f20_b, false, false⟩
/- changeling/changelinglaw3.exprs -/
def f21_l0 : IC := (.seq (.seq (.reg [⟨some 7, .mov (.t 6), none⟩, ⟨some 8, .mov (.t 0), none⟩, ⟨some 9, .len false (.t 8), none⟩, ⟨some 10, .ari .lss (.t 7) (.t 9), none⟩, ⟨some 11, .mov (.t 10), none⟩, ⟨some 12, .mov (.t 5), some (11, true)⟩, ⟨some 13, .ari .lss (.t 12) (.c (.int .i64 401)), some (11, true)⟩, ⟨some 14, .pick (.t 11) (.t 13) (.c (.bool false)), none⟩])
 (.kill (rl [(7, 7)]) (.cond (.t 14) .skip (.kill (rl [(0, 2), (6, 1), (14, 1)]) (.exit 0)))))
 (.kill [14] (.seq (.block 1 (.seq (.seq (.reg [⟨some 17, .mov (.t 1), none⟩, ⟨some 18, .ari .gtr (.t 17) (.c (.int .i64 60)), none⟩, ⟨some 19, .mov (.t 18), none⟩, ⟨some 20, .mov (.t 0), some (19, false)⟩, ⟨some 21, .mov (.t 6), some (19, false)⟩, ⟨some 22, .iaddr 8 (.t 20) (.t 21), some (19, false)⟩, ⟨some 23, .faddr 2 (.t 22), some (19, false)⟩, ⟨some 24, .load false 1 (.t 23), some (19, false)⟩, ⟨some 25, .len true (.t 24), some (19, false)⟩, ⟨some 26, .ari .gtr (.t 25) (.c (.int .i64 2000)), some (19, false)⟩, ⟨some 27, .pick (.t 19) (.c (.bool true)) (.t 26), none⟩, ⟨some 28, .mov (.t 27), none⟩, ⟨some 29, .mov (.t 0), some (28, false)⟩, ⟨some 30, .mov (.t 6), some (28, false)⟩, ⟨some 31, .iaddr 8 (.t 29) (.t 30), some (28, false)⟩, ⟨some 32, .faddr 3 (.t 31), some (28, false)⟩, ⟨some 33, .load false 1 (.t 32), some (28, false)⟩, ⟨some 34, .len true (.t 33), some (28, false)⟩, ⟨some 35, .ari .gtr (.t 34) (.c (.int .i64 100)), some (28, false)⟩, ⟨some 36, .pick (.t 28) (.c (.bool true)) (.t 35), none⟩, ⟨some 37, .mov (.t 36), none⟩, ⟨some 38, .mov (.t 0), some (37, false)⟩, ⟨some 39, .mov (.t 6), some (37, false)⟩, ⟨some 40, .iaddr 8 (.t 38) (.t 39), some (37, false)⟩, ⟨some 41, .faddr 4 (.t 40), some (37, false)⟩, ⟨some 42, .load false 1 (.t 41), some (37, false)⟩, ⟨some 43, .len true (.t 42), some (37, false)⟩, ⟨some 44, .ari .gtr (.t 43) (.c (.int .i64 100)), some (37, false)⟩, ⟨some 45, .pick (.t 37) (.c (.bool true)) (.t 44), none⟩])
 (.kill (rl [(17, 28)]) (.cond (.t 45) (.seq (.reg [⟨some 4, .mov (.c (.int .i64 401)), none⟩])
 (.kill (rl [(0, 2), (5, 2), (45, 1)]) .ret)) .skip)))
 (.kill [45] (.reg [⟨some 46, .mov (.t 5), none⟩, ⟨some 47, .ari .add (.t 46) (.c (.int .i64 1)), none⟩, ⟨some 48, .mov (.t 0), none⟩, ⟨some 49, .mov (.t 6), none⟩, ⟨some 50, .iaddr 8 (.t 48) (.t 49), none⟩, ⟨some 51, .faddr 5 (.t 50), none⟩, ⟨some 52, .load false 1 (.t 51), none⟩, ⟨some 53, .mov (.t 1), none⟩, ⟨some 54, .ari .add (.t 53) (.c (.int .i64 1)), none⟩, ⟨some 55, .call false false (.f 21) [(.t 52), (.t 54)], none⟩, ⟨some 56, .ari .add (.t 47) (.t 55), none⟩, ⟨some 5, .mov (.t 56), none⟩]))))
 (.kill (rl [(46, 11)]) (.reg [⟨some 15, .mov (.t 6), none⟩, ⟨some 16, .ari .add (.t 15) (.c (.int .i64 1)), none⟩, ⟨some 6, .mov (.t 16), none⟩])))))
def f21_b : IC := (.kill (rl [(2, 57)]) (.seq (.reg [⟨some 4, .mov (.c (.int .i64 0)), none⟩])
 (.kill [4] (.seq (.reg [⟨some 5, .mov (.c (.int .i64 0)), none⟩])
 (.seq (.seq (.reg [⟨some 6, .mov (.c (.int .i64 0)), none⟩])
 (.block 0 (.loop [0, 1, 5, 6] f21_l0)))
 (.seq (.reg [⟨some 57, .mov (.t 5), none⟩, ⟨some 58, .mn [(.t 57), (.c (.int .i64 401))], none⟩, ⟨some 4, .mov (.t 58), none⟩])
 (.kill [5, 57, 58] .ret)))))))
def f21 : IFun := ⟨59, [.t 4], f21_b, false, false⟩
/- changeling/changelinglaw3.stmts -/
def f22_l0 : IC := (.seq (.seq (.reg [⟨some 7, .mov (.t 6), none⟩, ⟨some 8, .mov (.t 0), none⟩, ⟨some 9, .len false (.t 8), none⟩, ⟨some 10, .ari .lss (.t 7) (.t 9), none⟩, ⟨some 11, .mov (.t 10), none⟩, ⟨some 12, .mov (.t 5), some (11, true)⟩, ⟨some 13, .ari .lss (.t 12) (.c (.int .i64 401)), some (11, true)⟩, ⟨some 14, .pick (.t 11) (.t 13) (.c (.bool false)), none⟩])
 (.kill (rl [(7, 7)]) (.cond (.t 14) .skip (.kill (rl [(0, 2), (6, 1), (14, 1)]) (.exit 0)))))
 (.kill [14] (.seq (.block 1 (.seq (.seq (.reg [⟨some 17, .mov (.t 1), none⟩, ⟨some 18, .ari .gtr (.t 17) (.c (.int .i64 60)), none⟩, ⟨some 19, .mov (.t 18), none⟩, ⟨some 20, .mov (.t 0), some (19, false)⟩, ⟨some 21, .mov (.t 6), some (19, false)⟩, ⟨some 22, .iaddr 9 (.t 20) (.t 21), some (19, false)⟩, ⟨some 23, .faddr 3 (.t 22), some (19, false)⟩, ⟨some 24, .load false 1 (.t 23), some (19, false)⟩, ⟨some 25, .len true (.t 24), some (19, false)⟩, ⟨some 26, .ari .gtr (.t 25) (.c (.int .i64 100)), some (19, false)⟩, ⟨some 27, .pick (.t 19) (.c (.bool true)) (.t 26), none⟩, ⟨some 28, .mov (.t 27), none⟩, ⟨some 29, .mov (.t 0), some (28, false)⟩, ⟨some 30, .mov (.t 6), some (28, false)⟩, ⟨some 31, .iaddr 9 (.t 29) (.t 30), some (28, false)⟩, ⟨some 32, .faddr 2 (.t 31), some (28, false)⟩, ⟨some 33, .load false 1 (.t 32), some (28, false)⟩, ⟨some 34, .len true (.t 33), some (28, false)⟩, ⟨some 35, .ari .gtr (.t 34) (.c (.int .i64 100)), some (28, false)⟩, ⟨some 36, .pick (.t 28) (.c (.bool true)) (.t 35), none⟩])
 (.kill (rl [(17, 19)]) (.cond (.t 36) (.seq (.reg [⟨some 4, .mov (.c (.int .i64 401)), none⟩])
 (.kill (rl [(0, 2), (5, 2), (36, 1)]) .ret)) .skip)))
 (.kill [36] (.dreg 0 [(⟨some 37, .mov (.t 5), none⟩, ⟨[], [], none⟩), (⟨some 38, .ari .add (.t 37) (.c (.int .i64 1)), none⟩, ⟨[0], [], none⟩), (⟨some 39, .mov (.t 0), none⟩, ⟨[], [], none⟩), (⟨some 40, .mov (.t 6), none⟩, ⟨[], [], none⟩), (⟨some 41, .iaddr 9 (.t 39) (.t 40), none⟩, ⟨[2, 3], [], none⟩), (⟨some 42, .faddr 4 (.t 41), none⟩, ⟨[2, 3, 4], [], none⟩), (⟨some 43, .load false 1 (.t 42), none⟩, ⟨(rl [(2, 4)]), [], none⟩), (⟨some 44, .call false false (.f 21) [(.t 43), (.c (.int .i64 0))], none⟩, ⟨(rl [(2, 5)]), [11, 13, 20, 22, 29, 31], none⟩), (⟨some 45, .ari .add (.t 38) (.t 44), none⟩, ⟨(rl [(0, 8)]), [], none⟩), (⟨some 46, .mov (.t 0), none⟩, ⟨[], [], none⟩), (⟨some 47, .mov (.t 6), none⟩, ⟨[], [], none⟩), (⟨some 48, .iaddr 9 (.t 46) (.t 47), none⟩, ⟨[9, 10], [7], none⟩), (⟨some 49, .faddr 5 (.t 48), none⟩, ⟨[9, 10, 11], [], none⟩), (⟨some 50, .load false 1 (.t 49), none⟩, ⟨(rl [(9, 4)]), [7], none⟩), (⟨some 51, .mov (.t 1), none⟩, ⟨[], [], none⟩), (⟨some 52, .ari .add (.t 51) (.c (.int .i64 1)), none⟩, ⟨[14], [], none⟩), (⟨some 53, .call false false (.f 22) [(.t 50), (.t 52)], none⟩, ⟨(rl [(2, 6), (9, 7)]), [20, 22, 29, 31], none⟩), (⟨some 54, .ari .add (.t 45) (.t 53), none⟩, ⟨(rl [(0, 17)]), [], none⟩), (⟨some 55, .mov (.t 0), none⟩, ⟨[], [], none⟩), (⟨some 56, .mov (.t 6), none⟩, ⟨[], [], none⟩), (⟨some 57, .iaddr 9 (.t 55) (.t 56), none⟩, ⟨[18, 19], [7, 16], none⟩), (⟨some 58, .faddr 6 (.t 57), none⟩, ⟨[18, 19, 20], [], none⟩), (⟨some 59, .load false 1 (.t 58), none⟩, ⟨(rl [(18, 4)]), [7, 16], none⟩), (⟨some 60, .mov (.t 1), none⟩, ⟨[], [], none⟩), (⟨some 61, .ari .add (.t 60) (.c (.int .i64 1)), none⟩, ⟨[23], [], none⟩), (⟨some 62, .call false false (.f 22) [(.t 59), (.t 61)], none⟩, ⟨(rl [(2, 6), (9, 8), (18, 7)]), [29, 31], none⟩), (⟨some 63, .ari .add (.t 54) (.t 62), none⟩, ⟨(rl [(0, 26)]), [], none⟩), (⟨some 64, .mov (.t 0), none⟩, ⟨[], [], none⟩), (⟨some 65, .mov (.t 6), none⟩, ⟨[], [], none⟩), (⟨some 66, .iaddr 9 (.t 64) (.t 65), none⟩, ⟨[27, 28], [7, 16, 25], none⟩), (⟨some 67, .faddr 7 (.t 66), none⟩, ⟨[27, 28, 29], [], none⟩), (⟨some 68, .load false 1 (.t 67), none⟩, ⟨(rl [(27, 4)]), [7, 16, 25], none⟩), (⟨some 69, .mov (.t 1), none⟩, ⟨[], [], none⟩), (⟨some 70, .ari .add (.t 69) (.c (.int .i64 1)), none⟩, ⟨[32], [], none⟩), (⟨some 71, .call false false (.f 22) [(.t 68), (.t 70)], none⟩, ⟨(rl [(2, 6), (9, 8), (18, 8), (27, 7)]), [], none⟩), (⟨some 72, .ari .add (.t 63) (.t 71), none⟩, ⟨(rl [(0, 35)]), [], none⟩), (⟨some 5, .mov (.t 72), none⟩, ⟨(rl [(0, 36)]), [], none⟩)]))))
 (.kill (rl [(37, 36)]) (.reg [⟨some 15, .mov (.t 6), none⟩, ⟨some 16, .ari .add (.t 15) (.c (.int .i64 1)), none⟩, ⟨some 6, .mov (.t 16), none⟩])))))
def f22_b : IC := (.kill (rl [(2, 73)]) (.seq (.reg [⟨some 4, .mov (.c (.int .i64 0)), none⟩])
 (.kill [4] (.seq (.reg [⟨some 5, .mov (.c (.int .i64 0)), none⟩])
 (.seq (.seq (.reg [⟨some 6, .mov (.c (.int .i64 0)), none⟩])
 (.block 0 (.loop [0, 1, 5, 6] f22_l0)))
 (.seq (.reg [⟨some 73, .mov (.t 5), none⟩, ⟨some 74, .mn [(.t 73), (.c (.int .i64 401))], none⟩, ⟨some 4, .mov (.t 74), none⟩])
 (.kill [5, 73, 74] .ret)))))))
def f22 : IFun := ⟨75, [.t 4], f22_b, false, false⟩
/- changeling/changelingref1.exprs -/
def f23_l0 : IC := (.seq (.seq (.reg [⟨some 5, .mov (.t 4), none⟩, ⟨some 6, .mov (.t 0), none⟩, ⟨some 7, .len false (.t 6), none⟩, ⟨some 8, .ari .lss (.t 5) (.t 7), none⟩])
 (.kill [5, 6, 7] (.cond (.t 8) .skip (.kill [0, 4, 8] (.exit 0)))))
 (.kill [8] (.seq (.block 1 (.reg [⟨some 11, .mov (.t 3), none⟩, ⟨some 12, .mov (.t 0), none⟩, ⟨some 13, .mov (.t 4), none⟩, ⟨some 14, .iaddr 8 (.t 12) (.t 13), none⟩, ⟨some 15, .load true 8 (.t 14), none⟩, ⟨some 16, .call false false (.f 6) [(.t 15)], none⟩, ⟨some 17, .ari .add (.t 11) (.t 16), none⟩, ⟨some 3, .mov (.t 17), none⟩]))
 (.kill (rl [(11, 7)]) (.reg [⟨some 9, .mov (.t 4), none⟩, ⟨some 10, .ari .add (.t 9) (.c (.int .i64 1)), none⟩, ⟨some 4, .mov (.t 10), none⟩])))))
def f23_b : IC := (.kill (rl [(1, 18)]) (.seq (.reg [⟨some 2, .mov (.c (.int .i64 0)), none⟩])
 (.kill [2] (.seq (.reg [⟨some 3, .mov (.c (.int .i64 0)), none⟩])
 (.seq (.seq (.reg [⟨some 4, .mov (.c (.int .i64 0)), none⟩])
 (.block 0 (.loop [0, 3, 4] f23_l0)))
 (.seq (.reg [⟨some 18, .mov (.t 3), none⟩, ⟨some 2, .mov (.t 18), none⟩])
 (.kill [3, 18] .ret)))))))
def f23 : IFun := ⟨19, [.t 2], f23_b, false, false⟩
/- changeling/tree.exprs -/
def f24_l0 : IC := (.seq (.reg [⟨some 9, .ari .lss (.t 8) (.t 7), none⟩])
 (.seq (.cond (.t 9) .skip (.kill (rl [(6, 4)]) (.exit 0)))
 (.kill [9] (.seq (.block 1 (.seq (.reg [⟨some 10, .iaddr 8 (.t 6) (.t 8), none⟩, ⟨some 11, .load true 8 (.t 10), none⟩, ⟨some 5, .alloc [.int .i64 0, .int .i32 0, .str [], .str [], .str [], .sl .nil [], .str [], .int .i64 0], none⟩, ⟨none, .store 8 (.t 5) (.t 11), none⟩])
 (.kill [10, 11] (.reg [⟨some 12, .mov (.t 3), none⟩, ⟨some 13, .load true 8 (.t 5), none⟩, ⟨some 14, .call false false (.f 5) [(.t 13)], none⟩, ⟨some 15, .ari .add (.t 12) (.t 14), none⟩, ⟨some 3, .mov (.t 15), none⟩]))))
 (.kill (rl [(5, 1), (12, 4)]) (.reg [⟨some 16, .ari .add (.t 8) (.c (.int .i64 1)), none⟩, ⟨some 8, .mov (.t 16), none⟩]))))))
def f24_b : IC := (.kill (rl [(1, 17)]) (.seq (.reg [⟨some 2, .mov (.c (.int .i64 0)), none⟩])
 (.kill [2] (.seq (.reg [⟨some 3, .mov (.c (.int .i64 0)), none⟩])
 (.seq (.seq (.reg [⟨some 6, .mov (.t 0), none⟩, ⟨some 7, .len false (.t 6), none⟩, ⟨some 8, .mov (.c (.int .i64 0)), none⟩])
 (.kill [0] (.block 0 (.loop [3, 6, 7, 8] f24_l0))))
 (.seq (.reg [⟨some 17, .mov (.t 3), none⟩, ⟨some 2, .mov (.t 17), none⟩])
 (.kill [3, 17] .ret)))))))
def f24 : IFun := ⟨18, [.t 2], f24_b, false, false⟩
/- changeling/tree.parts -/
def f25_b : IC := (.kill (rl [(1, 13)]) (.seq (.reg [⟨some 1, .box 8 (.t 0), none⟩, ⟨some 2, .alloc [.int .i64 0, .int .i32 0, .str [], .str [], .str []], none⟩])
 (.kill [0] (.seq (.reg [⟨some 3, .faddr 0 (.t 1), none⟩, ⟨some 4, .load false 1 (.t 3), none⟩, ⟨some 5, .faddr 1 (.t 1), none⟩, ⟨some 6, .load false 1 (.t 5), none⟩, ⟨some 7, .faddr 2 (.t 1), none⟩, ⟨some 8, .load false 1 (.t 7), none⟩, ⟨some 9, .faddr 3 (.t 1), none⟩, ⟨some 10, .load false 1 (.t 9), none⟩, ⟨some 11, .faddr 4 (.t 1), none⟩, ⟨some 12, .load false 1 (.t 11), none⟩, ⟨some 13, .build [.int .i64 0, .int .i32 0, .str [], .str [], .str []] [(0, 1, (.t 4)), (1, 1, (.t 6)), (2, 1, (.t 8)), (3, 1, (.t 10)), (4, 1, (.t 12))], none⟩, ⟨none, .store 5 (.t 2) (.t 13), none⟩])
 (.kill (rl [(1, 1), (3, 11)]) .ret)))))
def f25 : IFun := ⟨14, [.cell 2 true 5], f25_b, false, false⟩
/- slices.EqualFunc[[]changeling/api.Expr,[]changeling/api.Expr,changeling/api.Expr,changeling/api.Expr] -/
def f26_l0 : IC := (.seq (.reg [⟨some 18, .ari .lss (.t 17) (.t 16), none⟩])
 (.seq (.cond (.t 18) .skip (.kill (rl [(1, 2), (15, 4)]) (.exit 0)))
 (.kill [18] (.seq (.block 1 (.seq (.reg [⟨some 19, .mov (.t 17), none⟩, ⟨some 20, .iaddr 8 (.t 15) (.t 17), none⟩, ⟨some 21, .load true 8 (.t 20), none⟩, ⟨some 8, .alloc [.int .i64 0, .int .i32 0, .str [], .str [], .str [], .sl .nil [], .str [], .int .i64 0], none⟩, ⟨some 7, .mov (.t 19), none⟩, ⟨none, .store 8 (.t 8) (.t 21), none⟩])
 (.kill [19, 20, 21] (.seq (.reg [⟨some 22, .mov (.t 1), none⟩, ⟨some 23, .mov (.t 7), none⟩, ⟨some 24, .iaddr 8 (.t 22) (.t 23), none⟩, ⟨some 25, .load true 8 (.t 24), none⟩, ⟨some 9, .alloc [.int .i64 0, .int .i32 0, .str [], .str [], .str [], .sl .nil [], .str [], .int .i64 0], none⟩, ⟨none, .store 8 (.t 9) (.t 25), none⟩])
 (.kill (rl [(7, 1), (22, 4)]) (.seq (.reg [⟨some 26, .mov (.t 2), none⟩, ⟨some 27, .load true 8 (.t 8), none⟩, ⟨some 28, .load true 8 (.t 9), none⟩, ⟨some 29, .call true false (.t 26) [(.t 27), (.t 28)], none⟩, ⟨some 30, .un .not (.t 29), none⟩])
 (.kill (rl [(8, 2), (26, 4)]) (.cond (.t 30) (.seq (.reg [⟨some 6, .mov (.c (.bool false)), none⟩])
 (.kill (rl [(1, 2), (15, 3), (30, 1)]) .ret)) .skip))))))))
 (.kill [30] (.reg [⟨some 31, .ari .add (.t 17) (.c (.int .i64 1)), none⟩, ⟨some 17, .mov (.t 31), none⟩]))))))
def f26_b : IC := (.kill (rl [(3, 29)]) (.seq (.reg [⟨some 6, .mov (.c (.bool false)), none⟩])
 (.kill [6] (.seq (.seq (.reg [⟨some 10, .mov (.t 0), none⟩, ⟨some 11, .len false (.t 10), none⟩, ⟨some 12, .mov (.t 1), none⟩, ⟨some 13, .len false (.t 12), none⟩, ⟨some 14, .ari .neq (.t 11) (.t 13), none⟩])
 (.kill (rl [(10, 4)]) (.cond (.t 14) (.seq (.reg [⟨some 6, .mov (.c (.bool false)), none⟩])
 (.kill (rl [(0, 3), (14, 1)]) .ret)) .skip)))
 (.kill [14] (.seq (.seq (.reg [⟨some 15, .mov (.t 0), none⟩, ⟨some 16, .len false (.t 15), none⟩, ⟨some 17, .mov (.c (.int .i64 0)), none⟩])
 (.kill [0] (.block 0 (.loop [1, 2, 15, 16, 17] f26_l0))))
 (.seq (.reg [⟨some 6, .mov (.c (.bool true)), none⟩])
 .ret)))))))
def f26 : IFun := ⟨32, [.t 6], f26_b, false, false⟩
/- changeling/changelingref1.SameExprs -/
def f27_l0 : IC := (.seq (.seq (.reg [⟨some 11, .mov (.t 5), none⟩, ⟨some 12, .mov (.t 0), none⟩, ⟨some 13, .len false (.t 12), none⟩, ⟨some 14, .ari .lss (.t 11) (.t 13), none⟩])
 (.kill [11, 12, 13] (.cond (.t 14) .skip (.kill (rl [(0, 2), (5, 1), (14, 1)]) (.exit 0)))))
 (.kill [14] (.seq (.block 1 (.seq (.dreg 0 [(⟨some 17, .mov (.t 0), none⟩, ⟨[], [], none⟩), (⟨some 18, .mov (.t 5), none⟩, ⟨[], [], none⟩), (⟨some 19, .iaddr 8 (.t 17) (.t 18), none⟩, ⟨[0, 1], [], none⟩), (⟨some 20, .load true 8 (.t 19), none⟩, ⟨[0, 1, 2], [], none⟩), (⟨some 21, .mov (.t 1), none⟩, ⟨[], [], none⟩), (⟨some 22, .mov (.t 5), none⟩, ⟨[], [], none⟩), (⟨some 23, .iaddr 8 (.t 21) (.t 22), none⟩, ⟨[4, 5], [], none⟩), (⟨some 24, .load true 8 (.t 23), none⟩, ⟨[4, 5, 6], [], none⟩), (⟨some 25, .call false false (.f 10) [(.t 20), (.t 24)], none⟩, ⟨(rl [(0, 8)]), [], none⟩), (⟨some 26, .un .not (.t 25), none⟩, ⟨(rl [(0, 9)]), [], none⟩)])
 (.kill (rl [(17, 9)]) (.cond (.t 26) (.seq (.reg [⟨some 4, .mov (.c (.bool false)), none⟩])
 (.kill (rl [(0, 2), (5, 1), (26, 1)]) .ret)) .skip))))
 (.kill [26] (.reg [⟨some 15, .mov (.t 5), none⟩, ⟨some 16, .ari .add (.t 15) (.c (.int .i64 1)), none⟩, ⟨some 5, .mov (.t 16), none⟩])))))
def f27_b : IC := (.kill (rl [(2, 25)]) (.seq (.reg [⟨some 4, .mov (.c (.bool false)), none⟩])
 (.kill [4] (.seq (.seq (.reg [⟨some 6, .mov (.t 0), none⟩, ⟨some 7, .len false (.t 6), none⟩, ⟨some 8, .mov (.t 1), none⟩, ⟨some 9, .len false (.t 8), none⟩, ⟨some 10, .ari .neq (.t 7) (.t 9), none⟩])
 (.kill (rl [(6, 4)]) (.cond (.t 10) (.seq (.reg [⟨some 4, .mov (.c (.bool false)), none⟩])
 (.kill [0, 1, 10] .ret)) .skip)))
 (.kill [10] (.seq (.seq (.reg [⟨some 5, .mov (.c (.int .i64 0)), none⟩])
 (.block 0 (.loop [0, 1, 5] f27_l0)))
 (.seq (.reg [⟨some 4, .mov (.c (.bool true)), none⟩])
 .ret)))))))
def f27 : IFun := ⟨27, [.t 4], f27_b, false, false⟩
/- slices.EqualFunc[[]changeling/api.Stmt,[]changeling/api.Stmt,changeling/api.Stmt,changeling/api.Stmt] -/
def f28_l0 : IC := (.seq (.reg [⟨some 18, .ari .lss (.t 17) (.t 16), none⟩])
 (.seq (.cond (.t 18) .skip (.kill (rl [(1, 2), (15, 4)]) (.exit 0)))
 (.kill [18] (.seq (.block 1 (.seq (.reg [⟨some 19, .mov (.t 17), none⟩, ⟨some 20, .iaddr 9 (.t 15) (.t 17), none⟩, ⟨some 21, .load true 9 (.t 20), none⟩, ⟨some 8, .alloc [.int .i64 0, .int .i32 0, .str [], .str [], .sl .nil [], .sl .nil [], .sl .nil [], .sl .nil [], .int .i64 0], none⟩, ⟨some 7, .mov (.t 19), none⟩, ⟨none, .store 9 (.t 8) (.t 21), none⟩])
 (.kill [19, 20, 21] (.seq (.reg [⟨some 22, .mov (.t 1), none⟩, ⟨some 23, .mov (.t 7), none⟩, ⟨some 24, .iaddr 9 (.t 22) (.t 23), none⟩, ⟨some 25, .load true 9 (.t 24), none⟩, ⟨some 9, .alloc [.int .i64 0, .int .i32 0, .str [], .str [], .sl .nil [], .sl .nil [], .sl .nil [], .sl .nil [], .int .i64 0], none⟩, ⟨none, .store 9 (.t 9) (.t 25), none⟩])
 (.kill (rl [(7, 1), (22, 4)]) (.seq (.reg [⟨some 26, .mov (.t 2), none⟩, ⟨some 27, .load true 9 (.t 8), none⟩, ⟨some 28, .load true 9 (.t 9), none⟩, ⟨some 29, .call true false (.t 26) [(.t 27), (.t 28)], none⟩, ⟨some 30, .un .not (.t 29), none⟩])
 (.kill (rl [(8, 2), (26, 4)]) (.cond (.t 30) (.seq (.reg [⟨some 6, .mov (.c (.bool false)), none⟩])
 (.kill (rl [(1, 2), (15, 3), (30, 1)]) .ret)) .skip))))))))
 (.kill [30] (.reg [⟨some 31, .ari .add (.t 17) (.c (.int .i64 1)), none⟩, ⟨some 17, .mov (.t 31), none⟩]))))))
def f28_b : IC := (.kill (rl [(3, 29)]) (.seq (.reg [⟨some 6, .mov (.c (.bool false)), none⟩])
 (.kill [6] (.seq (.seq (.reg [⟨some 10, .mov (.t 0), none⟩, ⟨some 11, .len false (.t 10), none⟩, ⟨some 12, .mov (.t 1), none⟩, ⟨some 13, .len false (.t 12), none⟩, ⟨some 14, .ari .neq (.t 11) (.t 13), none⟩])
 (.kill (rl [(10, 4)]) (.cond (.t 14) (.seq (.reg [⟨some 6, .mov (.c (.bool false)), none⟩])
 (.kill (rl [(0, 3), (14, 1)]) .ret)) .skip)))
 (.kill [14] (.seq (.seq (.reg [⟨some 15, .mov (.t 0), none⟩, ⟨some 16, .len false (.t 15), none⟩, ⟨some 17, .mov (.c (.int .i64 0)), none⟩])
 (.kill [0] (.block 0 (.loop [1, 2, 15, 16, 17] f28_l0))))
 (.seq (.reg [⟨some 6, .mov (.c (.bool true)), none⟩])
 .ret)))))))
def f28 : IFun := ⟨32, [.t 6], f28_b, false, false⟩
/- changeling/tree.sameStmt -/
def f29_b : IC := (.kill (rl [(2, 57)]) (.seq (.reg [⟨some 2, .box 9 (.t 0), none⟩, ⟨some 3, .box 9 (.t 1), none⟩, ⟨some 4, .mov (.c (.bool false)), none⟩])
 (.kill [0, 1, 4] (.seq (.reg [⟨some 5, .faddr 0 (.t 2), none⟩, ⟨some 6, .load false 1 (.t 5), none⟩, ⟨some 7, .faddr 0 (.t 3), none⟩, ⟨some 8, .load false 1 (.t 7), none⟩, ⟨some 9, .ari .eql (.t 6) (.t 8), none⟩, ⟨some 10, .mov (.t 9), none⟩, ⟨some 11, .faddr 1 (.t 2), some (10, true)⟩, ⟨some 12, .load false 1 (.t 11), some (10, true)⟩, ⟨some 13, .faddr 1 (.t 3), some (10, true)⟩, ⟨some 14, .load false 1 (.t 13), some (10, true)⟩, ⟨some 15, .ari .eql (.t 12) (.t 14), some (10, true)⟩, ⟨some 16, .pick (.t 10) (.t 15) (.c (.bool false)), none⟩, ⟨some 17, .mov (.t 16), none⟩, ⟨some 18, .faddr 2 (.t 2), some (17, true)⟩, ⟨some 19, .load false 1 (.t 18), some (17, true)⟩, ⟨some 20, .faddr 2 (.t 3), some (17, true)⟩, ⟨some 21, .load false 1 (.t 20), some (17, true)⟩, ⟨some 22, .ari .eql (.t 19) (.t 21), some (17, true)⟩, ⟨some 23, .pick (.t 17) (.t 22) (.c (.bool false)), none⟩, ⟨some 24, .mov (.t 23), none⟩, ⟨some 25, .faddr 3 (.t 2), some (24, true)⟩, ⟨some 26, .load false 1 (.t 25), some (24, true)⟩, ⟨some 27, .faddr 3 (.t 3), some (24, true)⟩, ⟨some 28, .load false 1 (.t 27), some (24, true)⟩, ⟨some 29, .ari .eql (.t 26) (.t 28), some (24, true)⟩, ⟨some 30, .pick (.t 24) (.t 29) (.c (.bool false)), none⟩, ⟨some 31, .mov (.t 30), none⟩, ⟨some 32, .faddr 4 (.t 2), some (31, true)⟩, ⟨some 33, .load false 1 (.t 32), some (31, true)⟩, ⟨some 34, .faddr 4 (.t 3), some (31, true)⟩, ⟨some 35, .load false 1 (.t 34), some (31, true)⟩, ⟨some 36, .call true false (.f 26) [(.t 33), (.t 35), (.f 9)], some (31, true)⟩, ⟨some 37, .pick (.t 31) (.t 36) (.c (.bool false)), none⟩, ⟨some 38, .mov (.t 37), none⟩, ⟨some 39, .faddr 5 (.t 2), some (38, true)⟩, ⟨some 40, .load false 1 (.t 39), some (38, true)⟩, ⟨some 41, .faddr 5 (.t 3), some (38, true)⟩, ⟨some 42, .load false 1 (.t 41), some (38, true)⟩, ⟨some 43, .call false false (.f 11) [(.t 40), (.t 42)], some (38, true)⟩, ⟨some 44, .pick (.t 38) (.t 43) (.c (.bool false)), none⟩, ⟨some 45, .mov (.t 44), none⟩, ⟨some 46, .faddr 6 (.t 2), some (45, true)⟩, ⟨some 47, .load false 1 (.t 46), some (45, true)⟩, ⟨some 48, .faddr 6 (.t 3), some (45, true)⟩, ⟨some 49, .load false 1 (.t 48), some (45, true)⟩, ⟨some 50, .call false false (.f 11) [(.t 47), (.t 49)], some (45, true)⟩, ⟨some 51, .pick (.t 45) (.t 50) (.c (.bool false)), none⟩, ⟨some 52, .mov (.t 51), none⟩, ⟨some 53, .faddr 7 (.t 2), some (52, true)⟩, ⟨some 54, .load false 1 (.t 53), some (52, true)⟩, ⟨some 55, .faddr 7 (.t 3), some (52, true)⟩, ⟨some 56, .load false 1 (.t 55), some (52, true)⟩, ⟨some 57, .call false false (.f 11) [(.t 54), (.t 56)], some (52, true)⟩, ⟨some 58, .pick (.t 52) (.t 57) (.c (.bool false)), none⟩, ⟨some 4, .mov (.t 58), none⟩])
 (.kill (rl [(2, 2), (5, 54)]) .ret)))))
def f29 : IFun := ⟨59, [.t 4], f29_b, false, false⟩
/- changeling/changelingref17.copyField -/
def f30_b : IC := (.kill (rl [(1, 7)]) (.seq (.reg [⟨some 1, .box 4 (.t 0), none⟩, ⟨some 2, .alloc [.bool false, .str [], .str [], .sl .nil []], none⟩])
 (.kill [0] (.seq (.reg [⟨some 3, .faddr 3 (.t 1), none⟩, ⟨some 4, .load false 1 (.t 3), none⟩, ⟨some 5, .call false false (.f 45) [(.t 4)], none⟩, ⟨some 6, .faddr 3 (.t 1), none⟩, ⟨none, .store 1 (.t 6) (.t 5), none⟩])
 (.kill (rl [(3, 4)]) (.seq (.reg [⟨some 7, .load true 4 (.t 1), none⟩, ⟨none, .store 4 (.t 2) (.t 7), none⟩])
 (.kill [1, 7] .ret)))))))
def f30 : IFun := ⟨8, [.cell 2 true 4], f30_b, false, false⟩
/- changeling/changelingref17.copyMethod -/
def f31_b : IC := (.kill (rl [(1, 12)]) (.seq (.reg [⟨some 1, .box 6 (.t 0), none⟩, ⟨some 2, .alloc [.bool false, .bool false, .str [], .str [], .sl .nil [], .sl .nil []], none⟩])
 (.kill [0] (.seq (.reg [⟨some 3, .bslice false 0 2 true [.str [], .str []] [], none⟩, ⟨some 4, .faddr 4 (.t 1), none⟩, ⟨some 5, .load false 1 (.t 4), none⟩, ⟨some 6, .app 2 32 (.t 3) (.t 5), none⟩, ⟨some 7, .faddr 4 (.t 1), none⟩, ⟨none, .store 1 (.t 7) (.t 6), none⟩])
 (.kill (rl [(3, 5)]) (.seq (.reg [⟨some 8, .faddr 5 (.t 1), none⟩, ⟨some 9, .load false 1 (.t 8), none⟩, ⟨some 10, .call false false (.f 46) [(.t 9)], none⟩, ⟨some 11, .faddr 5 (.t 1), none⟩, ⟨none, .store 1 (.t 11) (.t 10), none⟩])
 (.kill (rl [(8, 4)]) (.seq (.reg [⟨some 12, .load true 6 (.t 1), none⟩, ⟨none, .store 6 (.t 2) (.t 12), none⟩])
 (.kill [1, 12] .ret)))))))))
def f31 : IFun := ⟨13, [.cell 2 true 6], f31_b, false, false⟩
/- changeling/tree.Map -/
def f32_l1 : IC := (.seq (.reg [⟨some 27, .ari .lss (.t 26) (.t 25), none⟩])
 (.seq (.cond (.t 27) .skip (.kill [25, 26, 27] (.exit 2)))
 (.kill [27] (.seq (.block 3 (.seq (.reg [⟨some 28, .mov (.t 26), none⟩, ⟨some 11, .mov (.t 28), none⟩])
 (.kill [28] (.reg [⟨some 29, .mov (.t 10), none⟩, ⟨some 30, .mov (.t 11), none⟩, ⟨some 31, .mov (.t 10), none⟩, ⟨some 32, .mov (.t 11), none⟩, ⟨some 33, .iaddr 4 (.t 31) (.t 32), none⟩, ⟨some 34, .faddr 3 (.t 33), none⟩, ⟨some 35, .load false 1 (.t 34), none⟩, ⟨some 36, .mov (.t 1), none⟩, ⟨some 37, .call true false (.f 48) [(.t 35), (.t 36)], none⟩, ⟨some 38, .iaddr 4 (.t 29) (.t 30), none⟩, ⟨some 39, .faddr 3 (.t 38), none⟩, ⟨none, .store 1 (.t 39) (.t 37), none⟩]))))
 (.kill (rl [(11, 1), (29, 11)]) (.reg [⟨some 40, .ari .add (.t 26) (.c (.int .i64 1)), none⟩, ⟨some 26, .mov (.t 40), none⟩]))))))
def f32_l2 : IC := (.seq (.reg [⟨some 47, .ari .lss (.t 46) (.t 45), none⟩])
 (.seq (.cond (.t 47) .skip (.kill [45, 46, 47] (.exit 4)))
 (.kill [47] (.seq (.block 5 (.seq (.reg [⟨some 48, .mov (.t 46), none⟩, ⟨some 13, .mov (.t 48), none⟩])
 (.kill [48] (.seq (.reg [⟨some 49, .mov (.t 12), none⟩, ⟨some 50, .mov (.t 13), none⟩, ⟨some 51, .mov (.t 12), none⟩, ⟨some 52, .mov (.t 13), none⟩, ⟨some 53, .iaddr 6 (.t 51) (.t 52), none⟩, ⟨some 54, .faddr 4 (.t 53), none⟩, ⟨some 55, .load false 1 (.t 54), none⟩, ⟨some 56, .call false false (.f 50) [(.t 55)], none⟩, ⟨some 57, .iaddr 6 (.t 49) (.t 50), none⟩, ⟨some 58, .faddr 4 (.t 57), none⟩, ⟨none, .store 1 (.t 58) (.t 56), none⟩])
 (.kill (rl [(49, 10)]) (.reg [⟨some 59, .mov (.t 12), none⟩, ⟨some 60, .mov (.t 13), none⟩, ⟨some 61, .mov (.t 12), none⟩, ⟨some 62, .mov (.t 13), none⟩, ⟨some 63, .iaddr 6 (.t 61) (.t 62), none⟩, ⟨some 64, .faddr 5 (.t 63), none⟩, ⟨some 65, .load false 1 (.t 64), none⟩, ⟨some 66, .mov (.t 1), none⟩, ⟨some 67, .mov (.t 2), none⟩, ⟨some 68, .call true false (.f 51) [(.t 65), (.t 66), (.t 67)], none⟩, ⟨some 69, .iaddr 6 (.t 59) (.t 60), none⟩, ⟨some 70, .faddr 5 (.t 69), none⟩, ⟨none, .store 1 (.t 70) (.t 68), none⟩]))))))
 (.kill (rl [(13, 1), (59, 12)]) (.reg [⟨some 71, .ari .add (.t 46) (.c (.int .i64 1)), none⟩, ⟨some 46, .mov (.t 71), none⟩]))))))
def f32_l0 : IC := (.seq (.reg [⟨some 18, .ari .lss (.t 17) (.t 16), none⟩])
 (.seq (.cond (.t 18) .skip (.kill (rl [(1, 2), (15, 4)]) (.exit 0)))
 (.kill [18] (.seq (.block 1 (.seq (.reg [⟨some 19, .iaddr 4 (.t 15) (.t 17), none⟩, ⟨some 20, .load true 4 (.t 19), none⟩, ⟨some 9, .alloc [.str [], .str [], .sl .nil [], .sl .nil []], none⟩, ⟨none, .store 4 (.t 9) (.t 20), none⟩])
 (.kill [19, 20] (.seq (.reg [⟨some 21, .faddr 2 (.t 9), none⟩, ⟨some 22, .load false 1 (.t 21), none⟩, ⟨some 23, .call true true (.f 47) [(.t 22)], none⟩, ⟨some 10, .mov (.t 23), none⟩])
 (.kill [21, 22, 23] (.seq (.seq (.reg [⟨some 24, .mov (.t 10), none⟩, ⟨some 25, .len false (.t 24), none⟩, ⟨some 26, .mov (.c (.int .i64 0)), none⟩])
 (.kill [24] (.block 2 (.loop [1, 2, 6, 7, 9, 10, 15, 16, 17, 25, 26] f32_l1))))
 (.seq (.reg [⟨some 41, .faddr 3 (.t 9), none⟩, ⟨some 42, .load false 1 (.t 41), none⟩, ⟨some 43, .call true true (.f 49) [(.t 42)], none⟩, ⟨some 12, .mov (.t 43), none⟩])
 (.kill [41, 42, 43] (.seq (.seq (.reg [⟨some 44, .mov (.t 12), none⟩, ⟨some 45, .len false (.t 44), none⟩, ⟨some 46, .mov (.c (.int .i64 0)), none⟩])
 (.kill [44] (.block 4 (.loop [1, 2, 6, 7, 9, 10, 12, 15, 16, 17, 45, 46] f32_l2))))
 (.seq (.reg [⟨some 72, .mov (.t 10), none⟩, ⟨some 73, .mov (.t 12), none⟩, ⟨some 74, .faddr 2 (.t 9), none⟩, ⟨none, .store 1 (.t 74) (.t 72), none⟩, ⟨some 75, .faddr 3 (.t 9), none⟩, ⟨none, .store 1 (.t 75) (.t 73), none⟩])
 (.kill (rl [(10, 1), (12, 1), (72, 4)]) (.reg [⟨some 76, .faddr 0 (.t 7), none⟩, ⟨some 77, .load false 1 (.t 76), none⟩, ⟨some 78, .load true 4 (.t 9), none⟩, ⟨some 79, .bslice false 1 4 true [.str [], .str [], .sl .nil [], .sl .nil []] [(0, (.t 78))], none⟩, ⟨some 80, .app 4 80 (.t 77) (.t 79), none⟩, ⟨some 81, .faddr 0 (.t 7), none⟩, ⟨none, .store 1 (.t 81) (.t 80), none⟩]))))))))))))
 (.kill (rl [(9, 1), (76, 6)]) (.reg [⟨some 82, .ari .add (.t 17) (.c (.int .i64 1)), none⟩, ⟨some 17, .mov (.t 82), none⟩]))))))
def f32_b : IC := (.kill (rl [(3, 81)]) (.seq (.reg [⟨some 3, .box 1 (.t 0), none⟩, ⟨some 6, .alloc [.sl .nil []], none⟩])
 (.kill [0] (.seq (.reg [⟨some 7, .alloc [.sl .nil []], none⟩])
 (.seq (.seq (.reg [⟨some 14, .faddr 0 (.t 3), none⟩, ⟨some 15, .load false 1 (.t 14), none⟩, ⟨some 16, .len false (.t 15), none⟩, ⟨some 17, .mov (.c (.int .i64 0)), none⟩])
 (.kill [3, 14] (.block 0 (.loop [1, 2, 6, 7, 15, 16, 17] f32_l0))))
 (.seq (.reg [⟨some 83, .load true 1 (.t 7), none⟩, ⟨none, .store 1 (.t 6) (.t 83), none⟩])
 (.kill [7, 83] .ret)))))))
def f32 : IFun := ⟨84, [.cell 6 true 1], f32_b, false, false⟩
/- changeling/tree.Bare$1 -/
def f33_b : IC := (.kill (rl [(1, 5)]) (.seq (.reg [⟨some 1, .box 8 (.t 0), none⟩, ⟨some 2, .alloc [.int .i64 0, .int .i32 0, .str [], .str [], .str [], .sl .nil [], .str [], .int .i64 0], none⟩])
 (.kill [0] (.seq (.reg [⟨some 3, .faddr 6 (.t 1), none⟩, ⟨none, .store 1 (.t 3) (.c (.str [])), none⟩, ⟨some 4, .faddr 7 (.t 1), none⟩, ⟨none, .store 1 (.t 4) (.c (.int .i64 0)), none⟩])
 (.kill [3, 4] (.seq (.reg [⟨some 5, .load true 8 (.t 1), none⟩, ⟨none, .store 8 (.t 2) (.t 5), none⟩])
 (.kill [1, 5] .ret)))))))
def f33 : IFun := ⟨6, [.cell 2 true 8], f33_b, false, false⟩
/- changeling/tree.Bare$2 -/
def f34_b : IC := (.kill (rl [(1, 4)]) (.seq (.reg [⟨some 1, .box 9 (.t 0), none⟩, ⟨some 2, .alloc [.int .i64 0, .int .i32 0, .str [], .str [], .sl .nil [], .sl .nil [], .sl .nil [], .sl .nil [], .int .i64 0], none⟩])
 (.kill [0] (.seq (.reg [⟨some 3, .faddr 8 (.t 1), none⟩, ⟨none, .store 1 (.t 3) (.c (.int .i64 0)), none⟩])
 (.kill [3] (.seq (.reg [⟨some 4, .load true 9 (.t 1), none⟩, ⟨none, .store 9 (.t 2) (.t 4), none⟩])
 (.kill [1, 4] .ret)))))))
def f34 : IFun := ⟨5, [.cell 2 true 9], f34_b, false, false⟩
/- changeling/changelingref1.SameClass -/
def f35_l0 : IC := (.seq (.seq (.reg [⟨some 37, .mov (.t 5), none⟩, ⟨some 38, .faddr 2 (.t 2), none⟩, ⟨some 39, .load false 1 (.t 38), none⟩, ⟨some 40, .len false (.t 39), none⟩, ⟨some 41, .ari .lss (.t 37) (.t 40), none⟩])
 (.kill (rl [(37, 4)]) (.cond (.t 41) .skip (.kill [5, 41] (.exit 0)))))
 (.kill [41] (.seq (.block 1 (.seq (.dreg 0 [(⟨some 44, .faddr 2 (.t 2), none⟩, ⟨[], [], none⟩), (⟨some 45, .load false 1 (.t 44), none⟩, ⟨[0], [], none⟩), (⟨some 46, .mov (.t 5), none⟩, ⟨[], [], none⟩), (⟨some 47, .iaddr 4 (.t 45) (.t 46), none⟩, ⟨[0, 1, 2], [], none⟩), (⟨some 48, .load true 4 (.t 47), none⟩, ⟨(rl [(0, 4)]), [], none⟩), (⟨some 49, .faddr 2 (.t 3), none⟩, ⟨[], [], none⟩), (⟨some 50, .load false 1 (.t 49), none⟩, ⟨[5], [], none⟩), (⟨some 51, .mov (.t 5), none⟩, ⟨[], [], none⟩), (⟨some 52, .iaddr 4 (.t 50) (.t 51), none⟩, ⟨[5, 6, 7], [], none⟩), (⟨some 53, .load true 4 (.t 52), none⟩, ⟨(rl [(5, 4)]), [], none⟩), (⟨some 54, .call false false (.f 52) [(.t 48), (.t 53)], none⟩, ⟨(rl [(0, 10)]), [], none⟩), (⟨some 55, .un .not (.t 54), none⟩, ⟨(rl [(0, 11)]), [], none⟩)])
 (.kill (rl [(44, 11)]) (.cond (.t 55) (.seq (.reg [⟨some 4, .mov (.c (.bool false)), none⟩])
 (.kill (rl [(2, 2), (5, 1), (55, 1)]) .ret)) .skip))))
 (.kill [55] (.reg [⟨some 42, .mov (.t 5), none⟩, ⟨some 43, .ari .add (.t 42) (.c (.int .i64 1)), none⟩, ⟨some 5, .mov (.t 43), none⟩])))))
def f35_l1 : IC := (.seq (.seq (.reg [⟨some 56, .mov (.t 6), none⟩, ⟨some 57, .faddr 3 (.t 2), none⟩, ⟨some 58, .load false 1 (.t 57), none⟩, ⟨some 59, .len false (.t 58), none⟩, ⟨some 60, .ari .lss (.t 56) (.t 59), none⟩])
 (.kill (rl [(56, 4)]) (.cond (.t 60) .skip (.kill (rl [(2, 2), (6, 1), (60, 1)]) (.exit 2)))))
 (.kill [60] (.seq (.block 3 (.seq (.dreg 0 [(⟨some 63, .faddr 3 (.t 2), none⟩, ⟨[], [], none⟩), (⟨some 64, .load false 1 (.t 63), none⟩, ⟨[0], [], none⟩), (⟨some 65, .mov (.t 6), none⟩, ⟨[], [], none⟩), (⟨some 66, .iaddr 6 (.t 64) (.t 65), none⟩, ⟨[0, 1, 2], [], none⟩), (⟨some 67, .load true 6 (.t 66), none⟩, ⟨(rl [(0, 4)]), [], none⟩), (⟨some 68, .faddr 3 (.t 3), none⟩, ⟨[], [], none⟩), (⟨some 69, .load false 1 (.t 68), none⟩, ⟨[5], [], none⟩), (⟨some 70, .mov (.t 6), none⟩, ⟨[], [], none⟩), (⟨some 71, .iaddr 6 (.t 69) (.t 70), none⟩, ⟨[5, 6, 7], [], none⟩), (⟨some 72, .load true 6 (.t 71), none⟩, ⟨(rl [(5, 4)]), [], none⟩), (⟨some 73, .call false false (.f 53) [(.t 67), (.t 72)], none⟩, ⟨(rl [(0, 10)]), [], none⟩), (⟨some 74, .un .not (.t 73), none⟩, ⟨(rl [(0, 11)]), [], none⟩)])
 (.kill (rl [(63, 11)]) (.cond (.t 74) (.seq (.reg [⟨some 4, .mov (.c (.bool false)), none⟩])
 (.kill (rl [(2, 2), (6, 1), (74, 1)]) .ret)) .skip))))
 (.kill [74] (.reg [⟨some 61, .mov (.t 6), none⟩, ⟨some 62, .ari .add (.t 61) (.c (.int .i64 1)), none⟩, ⟨some 6, .mov (.t 62), none⟩])))))
def f35_b : IC := (.kill (rl [(2, 73)]) (.seq (.reg [⟨some 2, .box 4 (.t 0), none⟩, ⟨some 3, .box 4 (.t 1), none⟩, ⟨some 4, .mov (.c (.bool false)), none⟩])
 (.kill [0, 1, 4] (.seq (.seq (.reg [⟨some 7, .faddr 0 (.t 2), none⟩, ⟨some 8, .load false 1 (.t 7), none⟩, ⟨some 9, .faddr 0 (.t 3), none⟩, ⟨some 10, .load false 1 (.t 9), none⟩, ⟨some 11, .ari .neq (.t 8) (.t 10), none⟩, ⟨some 12, .mov (.t 11), none⟩, ⟨some 13, .faddr 1 (.t 2), some (12, false)⟩, ⟨some 14, .load false 1 (.t 13), some (12, false)⟩, ⟨some 15, .faddr 1 (.t 3), some (12, false)⟩, ⟨some 16, .load false 1 (.t 15), some (12, false)⟩, ⟨some 17, .ari .neq (.t 14) (.t 16), some (12, false)⟩, ⟨some 18, .pick (.t 12) (.c (.bool true)) (.t 17), none⟩, ⟨some 19, .mov (.t 18), none⟩, ⟨some 20, .faddr 2 (.t 2), some (19, false)⟩, ⟨some 21, .load false 1 (.t 20), some (19, false)⟩, ⟨some 22, .len false (.t 21), some (19, false)⟩, ⟨some 23, .faddr 2 (.t 3), some (19, false)⟩, ⟨some 24, .load false 1 (.t 23), some (19, false)⟩, ⟨some 25, .len false (.t 24), some (19, false)⟩, ⟨some 26, .ari .neq (.t 22) (.t 25), some (19, false)⟩, ⟨some 27, .pick (.t 19) (.c (.bool true)) (.t 26), none⟩, ⟨some 28, .mov (.t 27), none⟩, ⟨some 29, .faddr 3 (.t 2), some (28, false)⟩, ⟨some 30, .load false 1 (.t 29), some (28, false)⟩, ⟨some 31, .len false (.t 30), some (28, false)⟩, ⟨some 32, .faddr 3 (.t 3), some (28, false)⟩, ⟨some 33, .load false 1 (.t 32), some (28, false)⟩, ⟨some 34, .len false (.t 33), some (28, false)⟩, ⟨some 35, .ari .neq (.t 31) (.t 34), some (28, false)⟩, ⟨some 36, .pick (.t 28) (.c (.bool true)) (.t 35), none⟩])
 (.kill (rl [(7, 29)]) (.cond (.t 36) (.seq (.reg [⟨some 4, .mov (.c (.bool false)), none⟩])
 (.kill [2, 3, 36] .ret)) .skip)))
 (.kill [36] (.seq (.seq (.reg [⟨some 5, .mov (.c (.int .i64 0)), none⟩])
 (.block 0 (.loop [2, 3, 5] f35_l0)))
 (.seq (.seq (.reg [⟨some 6, .mov (.c (.int .i64 0)), none⟩])
 (.block 2 (.loop [2, 3, 6] f35_l1)))
 (.seq (.reg [⟨some 4, .mov (.c (.bool true)), none⟩])
 .ret))))))))
def f35 : IFun := ⟨75, [.t 4], f35_b, false, false⟩
/- slices.EqualFunc[[]changeling/api.Class,[]changeling/api.Class,changeling/api.Class,changeling/api.Class] -/
def f36_l0 : IC := (.seq (.reg [⟨some 18, .ari .lss (.t 17) (.t 16), none⟩])
 (.seq (.cond (.t 18) .skip (.kill (rl [(1, 2), (15, 4)]) (.exit 0)))
 (.kill [18] (.seq (.block 1 (.seq (.reg [⟨some 19, .mov (.t 17), none⟩, ⟨some 20, .iaddr 4 (.t 15) (.t 17), none⟩, ⟨some 21, .load true 4 (.t 20), none⟩, ⟨some 8, .alloc [.str [], .str [], .sl .nil [], .sl .nil []], none⟩, ⟨some 7, .mov (.t 19), none⟩, ⟨none, .store 4 (.t 8) (.t 21), none⟩])
 (.kill [19, 20, 21] (.seq (.reg [⟨some 22, .mov (.t 1), none⟩, ⟨some 23, .mov (.t 7), none⟩, ⟨some 24, .iaddr 4 (.t 22) (.t 23), none⟩, ⟨some 25, .load true 4 (.t 24), none⟩, ⟨some 9, .alloc [.str [], .str [], .sl .nil [], .sl .nil []], none⟩, ⟨none, .store 4 (.t 9) (.t 25), none⟩])
 (.kill (rl [(7, 1), (22, 4)]) (.seq (.reg [⟨some 26, .mov (.t 2), none⟩, ⟨some 27, .load true 4 (.t 8), none⟩, ⟨some 28, .load true 4 (.t 9), none⟩, ⟨some 29, .call true false (.t 26) [(.t 27), (.t 28)], none⟩, ⟨some 30, .un .not (.t 29), none⟩])
 (.kill (rl [(8, 2), (26, 4)]) (.cond (.t 30) (.seq (.reg [⟨some 6, .mov (.c (.bool false)), none⟩])
 (.kill (rl [(1, 2), (15, 3), (30, 1)]) .ret)) .skip))))))))
 (.kill [30] (.reg [⟨some 31, .ari .add (.t 17) (.c (.int .i64 1)), none⟩, ⟨some 17, .mov (.t 31), none⟩]))))))
def f36_b : IC := (.kill (rl [(3, 29)]) (.seq (.reg [⟨some 6, .mov (.c (.bool false)), none⟩])
 (.kill [6] (.seq (.seq (.reg [⟨some 10, .mov (.t 0), none⟩, ⟨some 11, .len false (.t 10), none⟩, ⟨some 12, .mov (.t 1), none⟩, ⟨some 13, .len false (.t 12), none⟩, ⟨some 14, .ari .neq (.t 11) (.t 13), none⟩])
 (.kill (rl [(10, 4)]) (.cond (.t 14) (.seq (.reg [⟨some 6, .mov (.c (.bool false)), none⟩])
 (.kill (rl [(0, 3), (14, 1)]) .ret)) .skip)))
 (.kill [14] (.seq (.seq (.reg [⟨some 15, .mov (.t 0), none⟩, ⟨some 16, .len false (.t 15), none⟩, ⟨some 17, .mov (.c (.int .i64 0)), none⟩])
 (.kill [0] (.block 0 (.loop [1, 2, 15, 16, 17] f36_l0))))
 (.seq (.reg [⟨some 6, .mov (.c (.bool true)), none⟩])
 .ret)))))))
def f36 : IFun := ⟨32, [.t 6], f36_b, false, false⟩
/- changeling/tree.Same$1 -/
def f37_b : IC := (.kill (rl [(2, 29)]) (.seq (.reg [⟨some 2, .box 4 (.t 0), none⟩, ⟨some 3, .box 4 (.t 1), none⟩, ⟨some 4, .mov (.c (.bool false)), none⟩])
 (.kill [0, 1, 4] (.seq (.reg [⟨some 5, .faddr 0 (.t 2), none⟩, ⟨some 6, .load false 1 (.t 5), none⟩, ⟨some 7, .faddr 0 (.t 3), none⟩, ⟨some 8, .load false 1 (.t 7), none⟩, ⟨some 9, .ari .eql (.t 6) (.t 8), none⟩, ⟨some 10, .mov (.t 9), none⟩, ⟨some 11, .faddr 1 (.t 2), some (10, true)⟩, ⟨some 12, .load false 1 (.t 11), some (10, true)⟩, ⟨some 13, .faddr 1 (.t 3), some (10, true)⟩, ⟨some 14, .load false 1 (.t 13), some (10, true)⟩, ⟨some 15, .ari .eql (.t 12) (.t 14), some (10, true)⟩, ⟨some 16, .pick (.t 10) (.t 15) (.c (.bool false)), none⟩, ⟨some 17, .mov (.t 16), none⟩, ⟨some 18, .faddr 2 (.t 2), some (17, true)⟩, ⟨some 19, .load false 1 (.t 18), some (17, true)⟩, ⟨some 20, .faddr 2 (.t 3), some (17, true)⟩, ⟨some 21, .load false 1 (.t 20), some (17, true)⟩, ⟨some 22, .call true false (.f 38) [(.t 19), (.t 21), (.f 39)], some (17, true)⟩, ⟨some 23, .pick (.t 17) (.t 22) (.c (.bool false)), none⟩, ⟨some 24, .mov (.t 23), none⟩, ⟨some 25, .faddr 3 (.t 2), some (24, true)⟩, ⟨some 26, .load false 1 (.t 25), some (24, true)⟩, ⟨some 27, .faddr 3 (.t 3), some (24, true)⟩, ⟨some 28, .load false 1 (.t 27), some (24, true)⟩, ⟨some 29, .call true false (.f 40) [(.t 26), (.t 28), (.f 41)], some (24, true)⟩, ⟨some 30, .pick (.t 24) (.t 29) (.c (.bool false)), none⟩, ⟨some 4, .mov (.t 30), none⟩])
 (.kill (rl [(2, 2), (5, 26)]) .ret)))))
def f37 : IFun := ⟨31, [.t 4], f37_b, false, false⟩
/- slices.EqualFunc[[]changeling/api.Field,[]changeling/api.Field,changeling/api.Field,changeling/api.Field] -/
def f38_l0 : IC := (.seq (.reg [⟨some 18, .ari .lss (.t 17) (.t 16), none⟩])
 (.seq (.cond (.t 18) .skip (.kill (rl [(1, 2), (15, 4)]) (.exit 0)))
 (.kill [18] (.seq (.block 1 (.seq (.reg [⟨some 19, .mov (.t 17), none⟩, ⟨some 20, .iaddr 4 (.t 15) (.t 17), none⟩, ⟨some 21, .load true 4 (.t 20), none⟩, ⟨some 8, .alloc [.bool false, .str [], .str [], .sl .nil []], none⟩, ⟨some 7, .mov (.t 19), none⟩, ⟨none, .store 4 (.t 8) (.t 21), none⟩])
 (.kill [19, 20, 21] (.seq (.reg [⟨some 22, .mov (.t 1), none⟩, ⟨some 23, .mov (.t 7), none⟩, ⟨some 24, .iaddr 4 (.t 22) (.t 23), none⟩, ⟨some 25, .load true 4 (.t 24), none⟩, ⟨some 9, .alloc [.bool false, .str [], .str [], .sl .nil []], none⟩, ⟨none, .store 4 (.t 9) (.t 25), none⟩])
 (.kill (rl [(7, 1), (22, 4)]) (.seq (.reg [⟨some 26, .mov (.t 2), none⟩, ⟨some 27, .load true 4 (.t 8), none⟩, ⟨some 28, .load true 4 (.t 9), none⟩, ⟨some 29, .call true false (.t 26) [(.t 27), (.t 28)], none⟩, ⟨some 30, .un .not (.t 29), none⟩])
 (.kill (rl [(8, 2), (26, 4)]) (.cond (.t 30) (.seq (.reg [⟨some 6, .mov (.c (.bool false)), none⟩])
 (.kill (rl [(1, 2), (15, 3), (30, 1)]) .ret)) .skip))))))))
 (.kill [30] (.reg [⟨some 31, .ari .add (.t 17) (.c (.int .i64 1)), none⟩, ⟨some 17, .mov (.t 31), none⟩]))))))
def f38_b : IC := (.kill (rl [(3, 29)]) (.seq (.reg [⟨some 6, .mov (.c (.bool false)), none⟩])
 (.kill [6] (.seq (.seq (.reg [⟨some 10, .mov (.t 0), none⟩, ⟨some 11, .len false (.t 10), none⟩, ⟨some 12, .mov (.t 1), none⟩, ⟨some 13, .len false (.t 12), none⟩, ⟨some 14, .ari .neq (.t 11) (.t 13), none⟩])
 (.kill (rl [(10, 4)]) (.cond (.t 14) (.seq (.reg [⟨some 6, .mov (.c (.bool false)), none⟩])
 (.kill (rl [(0, 3), (14, 1)]) .ret)) .skip)))
 (.kill [14] (.seq (.seq (.reg [⟨some 15, .mov (.t 0), none⟩, ⟨some 16, .len false (.t 15), none⟩, ⟨some 17, .mov (.c (.int .i64 0)), none⟩])
 (.kill [0] (.block 0 (.loop [1, 2, 15, 16, 17] f38_l0))))
 (.seq (.reg [⟨some 6, .mov (.c (.bool true)), none⟩])
 .ret)))))))
def f38 : IFun := ⟨32, [.t 6], f38_b, false, false⟩
/- changeling/tree.Same$1$1 -/
def f39_b : IC := (.kill (rl [(2, 29)]) (.seq (.reg [⟨some 2, .box 4 (.t 0), none⟩, ⟨some 3, .box 4 (.t 1), none⟩, ⟨some 4, .mov (.c (.bool false)), none⟩])
 (.kill [0, 1, 4] (.seq (.reg [⟨some 5, .faddr 0 (.t 2), none⟩, ⟨some 6, .load false 1 (.t 5), none⟩, ⟨some 7, .faddr 0 (.t 3), none⟩, ⟨some 8, .load false 1 (.t 7), none⟩, ⟨some 9, .eq false .bool (.t 6) (.t 8), none⟩, ⟨some 10, .mov (.t 9), none⟩, ⟨some 11, .faddr 1 (.t 2), some (10, true)⟩, ⟨some 12, .load false 1 (.t 11), some (10, true)⟩, ⟨some 13, .faddr 1 (.t 3), some (10, true)⟩, ⟨some 14, .load false 1 (.t 13), some (10, true)⟩, ⟨some 15, .ari .eql (.t 12) (.t 14), some (10, true)⟩, ⟨some 16, .pick (.t 10) (.t 15) (.c (.bool false)), none⟩, ⟨some 17, .mov (.t 16), none⟩, ⟨some 18, .faddr 2 (.t 2), some (17, true)⟩, ⟨some 19, .load false 1 (.t 18), some (17, true)⟩, ⟨some 20, .faddr 2 (.t 3), some (17, true)⟩, ⟨some 21, .load false 1 (.t 20), some (17, true)⟩, ⟨some 22, .ari .eql (.t 19) (.t 21), some (17, true)⟩, ⟨some 23, .pick (.t 17) (.t 22) (.c (.bool false)), none⟩, ⟨some 24, .mov (.t 23), none⟩, ⟨some 25, .faddr 3 (.t 2), some (24, true)⟩, ⟨some 26, .load false 1 (.t 25), some (24, true)⟩, ⟨some 27, .faddr 3 (.t 3), some (24, true)⟩, ⟨some 28, .load false 1 (.t 27), some (24, true)⟩, ⟨some 29, .call true false (.f 26) [(.t 26), (.t 28), (.f 9)], some (24, true)⟩, ⟨some 30, .pick (.t 24) (.t 29) (.c (.bool false)), none⟩, ⟨some 4, .mov (.t 30), none⟩])
 (.kill (rl [(2, 2), (5, 26)]) .ret)))))
def f39 : IFun := ⟨31, [.t 4], f39_b, false, false⟩
/- slices.EqualFunc[[]changeling/api.Method,[]changeling/api.Method,changeling/api.Method,changeling/api.Method] -/
def f40_l0 : IC := (.seq (.reg [⟨some 18, .ari .lss (.t 17) (.t 16), none⟩])
 (.seq (.cond (.t 18) .skip (.kill (rl [(1, 2), (15, 4)]) (.exit 0)))
 (.kill [18] (.seq (.block 1 (.seq (.reg [⟨some 19, .mov (.t 17), none⟩, ⟨some 20, .iaddr 6 (.t 15) (.t 17), none⟩, ⟨some 21, .load true 6 (.t 20), none⟩, ⟨some 8, .alloc [.bool false, .bool false, .str [], .str [], .sl .nil [], .sl .nil []], none⟩, ⟨some 7, .mov (.t 19), none⟩, ⟨none, .store 6 (.t 8) (.t 21), none⟩])
 (.kill [19, 20, 21] (.seq (.reg [⟨some 22, .mov (.t 1), none⟩, ⟨some 23, .mov (.t 7), none⟩, ⟨some 24, .iaddr 6 (.t 22) (.t 23), none⟩, ⟨some 25, .load true 6 (.t 24), none⟩, ⟨some 9, .alloc [.bool false, .bool false, .str [], .str [], .sl .nil [], .sl .nil []], none⟩, ⟨none, .store 6 (.t 9) (.t 25), none⟩])
 (.kill (rl [(7, 1), (22, 4)]) (.seq (.reg [⟨some 26, .mov (.t 2), none⟩, ⟨some 27, .load true 6 (.t 8), none⟩, ⟨some 28, .load true 6 (.t 9), none⟩, ⟨some 29, .call true false (.t 26) [(.t 27), (.t 28)], none⟩, ⟨some 30, .un .not (.t 29), none⟩])
 (.kill (rl [(8, 2), (26, 4)]) (.cond (.t 30) (.seq (.reg [⟨some 6, .mov (.c (.bool false)), none⟩])
 (.kill (rl [(1, 2), (15, 3), (30, 1)]) .ret)) .skip))))))))
 (.kill [30] (.reg [⟨some 31, .ari .add (.t 17) (.c (.int .i64 1)), none⟩, ⟨some 17, .mov (.t 31), none⟩]))))))
def f40_b : IC := (.kill (rl [(3, 29)]) (.seq (.reg [⟨some 6, .mov (.c (.bool false)), none⟩])
 (.kill [6] (.seq (.seq (.reg [⟨some 10, .mov (.t 0), none⟩, ⟨some 11, .len false (.t 10), none⟩, ⟨some 12, .mov (.t 1), none⟩, ⟨some 13, .len false (.t 12), none⟩, ⟨some 14, .ari .neq (.t 11) (.t 13), none⟩])
 (.kill (rl [(10, 4)]) (.cond (.t 14) (.seq (.reg [⟨some 6, .mov (.c (.bool false)), none⟩])
 (.kill (rl [(0, 3), (14, 1)]) .ret)) .skip)))
 (.kill [14] (.seq (.seq (.reg [⟨some 15, .mov (.t 0), none⟩, ⟨some 16, .len false (.t 15), none⟩, ⟨some 17, .mov (.c (.int .i64 0)), none⟩])
 (.kill [0] (.block 0 (.loop [1, 2, 15, 16, 17] f40_l0))))
 (.seq (.reg [⟨some 6, .mov (.c (.bool true)), none⟩])
 .ret)))))))
def f40 : IFun := ⟨32, [.t 6], f40_b, false, false⟩
/- changeling/tree.Same$1$2 -/
def f41_b : IC := (.kill (rl [(2, 43)]) (.seq (.reg [⟨some 2, .box 6 (.t 0), none⟩, ⟨some 3, .box 6 (.t 1), none⟩, ⟨some 4, .mov (.c (.bool false)), none⟩])
 (.kill [0, 1, 4] (.seq (.reg [⟨some 5, .faddr 0 (.t 2), none⟩, ⟨some 6, .load false 1 (.t 5), none⟩, ⟨some 7, .faddr 0 (.t 3), none⟩, ⟨some 8, .load false 1 (.t 7), none⟩, ⟨some 9, .eq false .bool (.t 6) (.t 8), none⟩, ⟨some 10, .mov (.t 9), none⟩, ⟨some 11, .faddr 1 (.t 2), some (10, true)⟩, ⟨some 12, .load false 1 (.t 11), some (10, true)⟩, ⟨some 13, .faddr 1 (.t 3), some (10, true)⟩, ⟨some 14, .load false 1 (.t 13), some (10, true)⟩, ⟨some 15, .eq false .bool (.t 12) (.t 14), some (10, true)⟩, ⟨some 16, .pick (.t 10) (.t 15) (.c (.bool false)), none⟩, ⟨some 17, .mov (.t 16), none⟩, ⟨some 18, .faddr 2 (.t 2), some (17, true)⟩, ⟨some 19, .load false 1 (.t 18), some (17, true)⟩, ⟨some 20, .faddr 2 (.t 3), some (17, true)⟩, ⟨some 21, .load false 1 (.t 20), some (17, true)⟩, ⟨some 22, .ari .eql (.t 19) (.t 21), some (17, true)⟩, ⟨some 23, .pick (.t 17) (.t 22) (.c (.bool false)), none⟩, ⟨some 24, .mov (.t 23), none⟩, ⟨some 25, .faddr 3 (.t 2), some (24, true)⟩, ⟨some 26, .load false 1 (.t 25), some (24, true)⟩, ⟨some 27, .faddr 3 (.t 3), some (24, true)⟩, ⟨some 28, .load false 1 (.t 27), some (24, true)⟩, ⟨some 29, .ari .eql (.t 26) (.t 28), some (24, true)⟩, ⟨some 30, .pick (.t 24) (.t 29) (.c (.bool false)), none⟩, ⟨some 31, .mov (.t 30), none⟩, ⟨some 32, .faddr 4 (.t 2), some (31, true)⟩, ⟨some 33, .load false 1 (.t 32), some (31, true)⟩, ⟨some 34, .faddr 4 (.t 3), some (31, true)⟩, ⟨some 35, .load false 1 (.t 34), some (31, true)⟩, ⟨some 36, .call false false (.f 42) [(.t 33), (.t 35)], some (31, true)⟩, ⟨some 37, .pick (.t 31) (.t 36) (.c (.bool false)), none⟩, ⟨some 38, .mov (.t 37), none⟩, ⟨some 39, .faddr 5 (.t 2), some (38, true)⟩, ⟨some 40, .load false 1 (.t 39), some (38, true)⟩, ⟨some 41, .faddr 5 (.t 3), some (38, true)⟩, ⟨some 42, .load false 1 (.t 41), some (38, true)⟩, ⟨some 43, .call false false (.f 11) [(.t 40), (.t 42)], some (38, true)⟩, ⟨some 44, .pick (.t 38) (.t 43) (.c (.bool false)), none⟩, ⟨some 4, .mov (.t 44), none⟩])
 (.kill (rl [(2, 2), (5, 40)]) .ret)))))
def f41 : IFun := ⟨45, [.t 4], f41_b, false, false⟩
/- slices.Equal[[]changeling/api.Param,changeling/api.Param] -/
def f42_l0 : IC := (.seq (.reg [⟨some 14, .ari .lss (.t 13) (.t 12), none⟩])
 (.seq (.cond (.t 14) .skip (.kill (rl [(0, 2), (12, 3)]) (.exit 0)))
 (.kill [14] (.seq (.block 1 (.seq (.reg [⟨some 15, .mov (.t 13), none⟩, ⟨some 5, .mov (.t 15), none⟩])
 (.kill [15] (.seq (.dreg 0 [(⟨some 16, .mov (.t 0), none⟩, ⟨[], [], none⟩), (⟨some 17, .mov (.t 5), none⟩, ⟨[], [], none⟩), (⟨some 18, .iaddr 2 (.t 16) (.t 17), none⟩, ⟨[0, 1], [], none⟩), (⟨some 19, .load true 2 (.t 18), none⟩, ⟨[0, 1, 2], [], none⟩), (⟨some 20, .mov (.t 1), none⟩, ⟨[], [], none⟩), (⟨some 21, .mov (.t 5), none⟩, ⟨[], [], none⟩), (⟨some 22, .iaddr 2 (.t 20) (.t 21), none⟩, ⟨[4, 5], [], none⟩), (⟨some 23, .load true 2 (.t 22), none⟩, ⟨[4, 5, 6], [], none⟩), (⟨some 24, .eq true (.cells [.str, .str]) (.t 19) (.t 23), none⟩, ⟨(rl [(0, 8)]), [], none⟩)])
 (.kill (rl [(5, 1), (16, 8)]) (.cond (.t 24) (.seq (.reg [⟨some 4, .mov (.c (.bool false)), none⟩])
 (.kill (rl [(0, 2), (12, 2), (24, 1)]) .ret)) .skip))))))
 (.kill [24] (.reg [⟨some 25, .ari .add (.t 13) (.c (.int .i64 1)), none⟩, ⟨some 13, .mov (.t 25), none⟩]))))))
def f42_b : IC := (.kill (rl [(2, 24)]) (.seq (.reg [⟨some 4, .mov (.c (.bool false)), none⟩])
 (.kill [4] (.seq (.seq (.reg [⟨some 6, .mov (.t 0), none⟩, ⟨some 7, .len false (.t 6), none⟩, ⟨some 8, .mov (.t 1), none⟩, ⟨some 9, .len false (.t 8), none⟩, ⟨some 10, .ari .neq (.t 7) (.t 9), none⟩])
 (.kill (rl [(6, 4)]) (.cond (.t 10) (.seq (.reg [⟨some 4, .mov (.c (.bool false)), none⟩])
 (.kill [0, 1, 10] .ret)) .skip)))
 (.kill [10] (.seq (.seq (.reg [⟨some 11, .mov (.t 0), none⟩, ⟨some 12, .len false (.t 11), none⟩, ⟨some 13, .mov (.c (.int .i64 0)), none⟩])
 (.kill [11] (.block 0 (.loop [0, 1, 12, 13] f42_l0))))
 (.seq (.reg [⟨some 4, .mov (.c (.bool true)), none⟩])
 .ret)))))))
def f42 : IFun := ⟨26, [.t 4], f42_b, false, false⟩
/- changeling/tree.member -/
def f43_b : IC := (.kill (rl [(1, 57)]) (.seq (.reg [⟨some 2, .mov (.c (.bool false)), none⟩])
 (.kill [2] (.seq (.seq (.reg [⟨some 10, .mov (.t 0), none⟩, ⟨some 11, .asrt 3 (.agg [.bool false, .str [], .str [], .sl .nil []]) (.t 10), none⟩, ⟨some 9, .mov (.t 11), none⟩, ⟨some 12, .ext (.t 9) 0, none⟩, ⟨some 13, .ext (.t 9) 1, none⟩, ⟨some 3, .alloc [.bool false, .str [], .str [], .sl .nil []], none⟩, ⟨none, .store 4 (.t 3) (.t 12), none⟩, ⟨some 4, .mov (.t 13), none⟩])
 (.kill (rl [(9, 5)]) (.seq (.reg [⟨some 14, .mov (.t 4), none⟩])
 (.kill [4] (.cond (.t 14) (.seq (.reg [⟨some 15, .load true 4 (.t 3), none⟩, ⟨some 16, .call false false (.f 54) [(.t 15)], none⟩, ⟨some 2, .mov (.t 16), none⟩])
 (.kill (rl [(0, 1), (3, 1), (14, 3)]) .ret)) .skip)))))
 (.kill [3, 14] (.seq (.seq (.reg [⟨some 18, .mov (.t 0), none⟩, ⟨some 19, .asrt 4 (.agg [.bool false, .bool false, .str [], .str [], .sl .nil [], .sl .nil []]) (.t 18), none⟩, ⟨some 17, .mov (.t 19), none⟩, ⟨some 20, .ext (.t 17) 0, none⟩, ⟨some 21, .ext (.t 17) 1, none⟩, ⟨some 5, .alloc [.bool false, .bool false, .str [], .str [], .sl .nil [], .sl .nil []], none⟩, ⟨none, .store 6 (.t 5) (.t 20), none⟩, ⟨some 6, .mov (.t 21), none⟩])
 (.kill (rl [(17, 5)]) (.seq (.reg [⟨some 22, .mov (.t 6), none⟩])
 (.kill [6] (.cond (.t 22) (.seq (.reg [⟨some 23, .load true 6 (.t 5), none⟩, ⟨some 24, .call false false (.f 55) [(.t 23)], none⟩, ⟨some 2, .mov (.t 24), none⟩])
 (.kill (rl [(0, 1), (5, 1), (22, 3)]) .ret)) .skip)))))
 (.kill [5, 22] (.seq (.reg [⟨some 26, .mov (.t 0), none⟩, ⟨some 27, .asrt 0 (.agg [.str [], .str [], .sl .nil [], .sl .nil []]) (.t 26), none⟩, ⟨some 25, .mov (.t 27), none⟩, ⟨some 28, .ext (.t 25) 0, none⟩, ⟨some 29, .ext (.t 25) 1, none⟩, ⟨some 7, .alloc [.str [], .str [], .sl .nil [], .sl .nil []], none⟩, ⟨none, .store 4 (.t 7) (.t 28), none⟩, ⟨some 8, .mov (.t 29), none⟩])
 (.kill (rl [(0, 1), (25, 5)]) (.seq (.reg [⟨some 30, .mov (.t 8), none⟩, ⟨some 31, .mov (.t 30), none⟩, ⟨some 32, .faddr 0 (.t 7), some (31, true)⟩, ⟨some 33, .load false 1 (.t 32), some (31, true)⟩, ⟨some 34, .call false false (.f 56) [(.t 33)], some (31, true)⟩, ⟨some 35, .pick (.t 31) (.t 34) (.c (.bool false)), none⟩, ⟨some 36, .mov (.t 35), none⟩, ⟨some 37, .faddr 1 (.t 7), some (36, true)⟩, ⟨some 38, .load false 1 (.t 37), some (36, true)⟩, ⟨some 39, .ari .eql (.t 38) (.c (.str [])), some (36, true)⟩, ⟨some 40, .mov (.t 39), some (36, true)⟩, ⟨some 41, .faddr 1 (.t 7), some (40, false)⟩, ⟨some 42, .load false 1 (.t 41), some (40, false)⟩, ⟨some 43, .call false false (.f 56) [(.t 42)], some (40, false)⟩, ⟨some 44, .pick (.t 40) (.c (.bool true)) (.t 43), some (36, true)⟩, ⟨some 45, .pick (.t 36) (.t 44) (.c (.bool false)), none⟩, ⟨some 46, .mov (.t 45), none⟩, ⟨some 47, .faddr 2 (.t 7), some (46, true)⟩, ⟨some 48, .load false 1 (.t 47), some (46, true)⟩, ⟨some 49, .len false (.t 48), some (46, true)⟩, ⟨some 50, .ari .leq (.t 49) (.c (.int .i64 30)), some (46, true)⟩, ⟨some 51, .pick (.t 46) (.t 50) (.c (.bool false)), none⟩, ⟨some 52, .mov (.t 51), none⟩, ⟨some 53, .faddr 3 (.t 7), some (52, true)⟩, ⟨some 54, .load false 1 (.t 53), some (52, true)⟩, ⟨some 55, .len false (.t 54), some (52, true)⟩, ⟨some 56, .ari .leq (.t 55) (.c (.int .i64 30)), some (52, true)⟩, ⟨some 57, .pick (.t 52) (.t 56) (.c (.bool false)), none⟩, ⟨some 2, .mov (.t 57), none⟩])
 (.kill (rl [(7, 2), (30, 28)]) .ret)))))))))))
def f43 : IFun := ⟨58, [.t 2], f43_b, false, false⟩
/- changeling/changelingref17.Exprs -/
def f44_l0 : IC := (.seq (.seq (.reg [⟨some 7, .mov (.t 4), none⟩, ⟨some 8, .faddr 5 (.t 1), none⟩, ⟨some 9, .load false 1 (.t 8), none⟩, ⟨some 10, .len false (.t 9), none⟩, ⟨some 11, .ari .lss (.t 7) (.t 10), none⟩])
 (.kill (rl [(7, 4)]) (.cond (.t 11) .skip (.kill [1, 4, 11] (.exit 0)))))
 (.kill [11] (.seq (.block 1 (.reg [⟨some 14, .mov (.t 3), none⟩, ⟨some 15, .faddr 5 (.t 1), none⟩, ⟨some 16, .load false 1 (.t 15), none⟩, ⟨some 17, .mov (.t 4), none⟩, ⟨some 18, .iaddr 8 (.t 16) (.t 17), none⟩, ⟨some 19, .load true 8 (.t 18), none⟩, ⟨some 20, .call false false (.f 44) [(.t 19)], none⟩, ⟨some 21, .app 8 112 (.t 14) (.t 20), none⟩, ⟨some 3, .mov (.t 21), none⟩]))
 (.kill (rl [(14, 8)]) (.reg [⟨some 12, .mov (.t 4), none⟩, ⟨some 13, .ari .add (.t 12) (.c (.int .i64 1)), none⟩, ⟨some 4, .mov (.t 13), none⟩])))))
def f44_b : IC := (.kill (rl [(1, 22)]) (.seq (.reg [⟨some 1, .box 8 (.t 0), none⟩, ⟨some 2, .mov (.c (.sl .nil [])), none⟩])
 (.kill [0, 2] (.seq (.reg [⟨some 5, .load true 8 (.t 1), none⟩, ⟨some 6, .bslice false 1 8 true [.int .i64 0, .int .i32 0, .str [], .str [], .str [], .sl .nil [], .str [], .int .i64 0] [(0, (.t 5))], none⟩, ⟨some 3, .mov (.t 6), none⟩])
 (.kill [5, 6] (.seq (.seq (.reg [⟨some 4, .mov (.c (.int .i64 0)), none⟩])
 (.block 0 (.loop [1, 3, 4] f44_l0)))
 (.seq (.reg [⟨some 22, .mov (.t 3), none⟩, ⟨some 2, .mov (.t 22), none⟩])
 (.kill [3, 22] .ret))))))))
def f44 : IFun := ⟨23, [.t 2], f44_b, false, false⟩
/- changeling/changelingref17.CopyExprs -/
def f45_l0 : IC := (.seq (.seq (.reg [⟨some 5, .mov (.t 4), none⟩, ⟨some 6, .mov (.t 0), none⟩, ⟨some 7, .len false (.t 6), none⟩, ⟨some 8, .ari .lss (.t 5) (.t 7), none⟩])
 (.kill [5, 6, 7] (.cond (.t 8) .skip (.kill [0, 4, 8] (.exit 0)))))
 (.kill [8] (.seq (.block 1 (.reg [⟨some 11, .mov (.t 3), none⟩, ⟨some 12, .mov (.t 0), none⟩, ⟨some 13, .mov (.t 4), none⟩, ⟨some 14, .iaddr 8 (.t 12) (.t 13), none⟩, ⟨some 15, .load true 8 (.t 14), none⟩, ⟨some 16, .call false false (.f 57) [(.t 15)], none⟩, ⟨some 17, .bslice false 1 8 true [.int .i64 0, .int .i32 0, .str [], .str [], .str [], .sl .nil [], .str [], .int .i64 0] [(0, (.t 16))], none⟩, ⟨some 18, .app 8 112 (.t 11) (.t 17), none⟩, ⟨some 3, .mov (.t 18), none⟩]))
 (.kill (rl [(11, 8)]) (.reg [⟨some 9, .mov (.t 4), none⟩, ⟨some 10, .ari .add (.t 9) (.c (.int .i64 1)), none⟩, ⟨some 4, .mov (.t 10), none⟩])))))
def f45_b : IC := (.kill (rl [(1, 19)]) (.seq (.reg [⟨some 2, .mov (.c (.sl .nil [])), none⟩])
 (.kill [2] (.seq (.reg [⟨some 3, .mov (.c (.sl .nil [])), none⟩])
 (.seq (.seq (.reg [⟨some 4, .mov (.c (.int .i64 0)), none⟩])
 (.block 0 (.loop [0, 3, 4] f45_l0)))
 (.seq (.reg [⟨some 19, .mov (.t 3), none⟩, ⟨some 2, .mov (.t 19), none⟩])
 (.kill [3, 19] .ret)))))))
def f45 : IFun := ⟨20, [.t 2], f45_b, false, false⟩
/- changeling/changelingref17.CopyStmts -/
def f46_l0 : IC := (.seq (.seq (.reg [⟨some 6, .mov (.t 4), none⟩, ⟨some 7, .mov (.t 0), none⟩, ⟨some 8, .len false (.t 7), none⟩, ⟨some 9, .ari .lss (.t 6) (.t 8), none⟩])
 (.kill [6, 7, 8] (.cond (.t 9) .skip (.kill [0, 4, 9] (.exit 0)))))
 (.kill [9] (.seq (.block 1 (.seq (.reg [⟨some 12, .mov (.t 0), none⟩, ⟨some 13, .mov (.t 4), none⟩, ⟨some 14, .iaddr 9 (.t 12) (.t 13), none⟩, ⟨some 15, .load true 9 (.t 14), none⟩, ⟨some 5, .alloc [.int .i64 0, .int .i32 0, .str [], .str [], .sl .nil [], .sl .nil [], .sl .nil [], .sl .nil [], .int .i64 0], none⟩, ⟨none, .store 9 (.t 5) (.t 15), none⟩])
 (.kill (rl [(12, 4)]) (.seq (.dreg 0 [(⟨some 16, .faddr 4 (.t 5), none⟩, ⟨[], [], none⟩), (⟨some 17, .load false 1 (.t 16), none⟩, ⟨[0], [], none⟩), (⟨some 18, .call false false (.f 45) [(.t 17)], none⟩, ⟨[0, 1], [4, 7, 10], none⟩), (⟨some 19, .faddr 5 (.t 5), none⟩, ⟨[], [], none⟩), (⟨some 20, .load false 1 (.t 19), none⟩, ⟨[3], [2], none⟩), (⟨some 21, .call false false (.f 46) [(.t 20)], none⟩, ⟨(rl [(0, 5)]), [7, 10], none⟩), (⟨some 22, .faddr 6 (.t 5), none⟩, ⟨[], [], none⟩), (⟨some 23, .load false 1 (.t 22), none⟩, ⟨[6], [2, 5], none⟩), (⟨some 24, .call false false (.f 46) [(.t 23)], none⟩, ⟨(rl [(0, 8)]), [10], none⟩), (⟨some 25, .faddr 7 (.t 5), none⟩, ⟨[], [], none⟩), (⟨some 26, .load false 1 (.t 25), none⟩, ⟨[9], [2, 5, 8], none⟩), (⟨some 27, .call false false (.f 46) [(.t 26)], none⟩, ⟨(rl [(0, 11)]), [], none⟩), (⟨some 28, .faddr 4 (.t 5), none⟩, ⟨(rl [(0, 5), (6, 2), (9, 2)]), [], none⟩), (⟨none, .store 1 (.t 28) (.t 18), none⟩, ⟨(rl [(0, 13)]), [], none⟩), (⟨some 29, .faddr 5 (.t 5), none⟩, ⟨(rl [(0, 14)]), [], none⟩), (⟨none, .store 1 (.t 29) (.t 21), none⟩, ⟨(rl [(0, 15)]), [], none⟩), (⟨some 30, .faddr 6 (.t 5), none⟩, ⟨(rl [(0, 16)]), [], none⟩), (⟨none, .store 1 (.t 30) (.t 24), none⟩, ⟨(rl [(0, 17)]), [], none⟩), (⟨some 31, .faddr 7 (.t 5), none⟩, ⟨(rl [(0, 18)]), [], none⟩), (⟨none, .store 1 (.t 31) (.t 27), none⟩, ⟨(rl [(0, 19)]), [], none⟩), (⟨some 32, .faddr 8 (.t 5), none⟩, ⟨(rl [(0, 20)]), [], none⟩), (⟨none, .store 1 (.t 32) (.c (.int .i64 0)), none⟩, ⟨(rl [(0, 21)]), [], none⟩)])
 (.kill (rl [(16, 17)]) (.reg [⟨some 33, .mov (.t 3), none⟩, ⟨some 34, .load true 9 (.t 5), none⟩, ⟨some 35, .bslice false 1 9 true [.int .i64 0, .int .i32 0, .str [], .str [], .sl .nil [], .sl .nil [], .sl .nil [], .sl .nil [], .int .i64 0] [(0, (.t 34))], none⟩, ⟨some 36, .app 9 152 (.t 33) (.t 35), none⟩, ⟨some 3, .mov (.t 36), none⟩]))))))
 (.kill (rl [(5, 1), (33, 4)]) (.reg [⟨some 10, .mov (.t 4), none⟩, ⟨some 11, .ari .add (.t 10) (.c (.int .i64 1)), none⟩, ⟨some 4, .mov (.t 11), none⟩])))))
def f46_b : IC := (.kill (rl [(1, 37)]) (.seq (.reg [⟨some 2, .mov (.c (.sl .nil [])), none⟩])
 (.kill [2] (.seq (.reg [⟨some 3, .mov (.c (.sl .nil [])), none⟩])
 (.seq (.seq (.reg [⟨some 4, .mov (.c (.int .i64 0)), none⟩])
 (.block 0 (.loop [0, 3, 4] f46_l0)))
 (.seq (.reg [⟨some 37, .mov (.t 3), none⟩, ⟨some 2, .mov (.t 37), none⟩])
 (.kill [3, 37] .ret)))))))
def f46 : IFun := ⟨38, [.t 2], f46_b, false, false⟩
/- slices.Clone[[]changeling/api.Field,changeling/api.Field] -/
def f47_b : IC := (.kill (rl [(1, 7)]) (.seq (.reg [⟨some 2, .mov (.c (.sl .nil [])), none⟩])
 (.kill [2] (.seq (.seq (.reg [⟨some 3, .mov (.t 0), none⟩, ⟨some 4, .eq false .nil (.t 3) (.c (.sl .nil [])), none⟩])
 (.kill [3] (.cond (.t 4) (.seq (.reg [⟨some 2, .mov (.c (.sl .nil [])), none⟩])
 (.kill [0, 4] .ret)) .skip)))
 (.kill [4] (.seq (.reg [⟨some 5, .bslice false 0 4 true [.bool false, .str [], .str [], .sl .nil []] [], none⟩, ⟨some 6, .mov (.t 0), none⟩, ⟨some 7, .app 4 64 (.t 5) (.t 6), none⟩, ⟨some 2, .mov (.t 7), none⟩])
 (.kill (rl [(0, 1), (5, 3)]) .ret)))))))
def f47 : IFun := ⟨8, [.t 2], f47_b, false, true⟩
/- changeling/tree.mapExprs -/
def f48_l0 : IC := (.seq (.reg [⟨some 11, .ari .lss (.t 10) (.t 9), none⟩])
 (.seq (.cond (.t 11) .skip (.kill (rl [(1, 1), (8, 4)]) (.exit 0)))
 (.kill [11] (.seq (.block 1 (.seq (.reg [⟨some 12, .iaddr 8 (.t 8) (.t 10), none⟩, ⟨some 13, .load true 8 (.t 12), none⟩, ⟨some 7, .alloc [.int .i64 0, .int .i32 0, .str [], .str [], .str [], .sl .nil [], .str [], .int .i64 0], none⟩, ⟨none, .store 8 (.t 7) (.t 13), none⟩])
 (.kill [12, 13] (.seq (.reg [⟨some 14, .faddr 5 (.t 7), none⟩, ⟨some 15, .load false 1 (.t 14), none⟩, ⟨some 16, .mov (.t 1), none⟩, ⟨some 17, .call true false (.f 48) [(.t 15), (.t 16)], none⟩, ⟨some 18, .faddr 5 (.t 7), none⟩, ⟨none, .store 1 (.t 18) (.t 17), none⟩])
 (.kill (rl [(14, 5)]) (.seq (.seq (.reg [⟨some 19, .mov (.t 1), none⟩, ⟨some 20, .eq true .nil (.t 19) (.c (.nilf)), none⟩])
 (.kill [19] (.cond (.t 20) (.reg [⟨some 21, .mov (.t 1), none⟩, ⟨some 22, .load true 8 (.t 7), none⟩, ⟨some 23, .call true false (.t 21) [(.t 22)], none⟩, ⟨none, .store 8 (.t 7) (.t 23), none⟩]) .skip)))
 (.kill (rl [(20, 4)]) (.reg [⟨some 24, .mov (.t 5), none⟩, ⟨some 25, .load true 8 (.t 7), none⟩, ⟨some 26, .bslice false 1 8 true [.int .i64 0, .int .i32 0, .str [], .str [], .str [], .sl .nil [], .str [], .int .i64 0] [(0, (.t 25))], none⟩, ⟨some 27, .app 8 112 (.t 24) (.t 26), none⟩, ⟨some 5, .mov (.t 27), none⟩]))))))))
 (.kill (rl [(7, 1), (24, 4)]) (.reg [⟨some 28, .ari .add (.t 10) (.c (.int .i64 1)), none⟩, ⟨some 10, .mov (.t 28), none⟩]))))))
def f48_b : IC := (.kill (rl [(2, 28)]) (.seq (.reg [⟨some 4, .mov (.c (.sl .nil [])), none⟩])
 (.kill [4] (.seq (.reg [⟨some 5, .mov (.c (.sl .nil [])), none⟩])
 (.seq (.seq (.reg [⟨some 8, .mov (.t 0), none⟩, ⟨some 9, .len false (.t 8), none⟩, ⟨some 10, .mov (.c (.int .i64 0)), none⟩])
 (.kill [0] (.block 0 (.loop [1, 5, 8, 9, 10] f48_l0))))
 (.seq (.reg [⟨some 29, .mov (.t 5), none⟩, ⟨some 4, .mov (.t 29), none⟩])
 (.kill [5, 29] .ret)))))))
def f48 : IFun := ⟨30, [.t 4], f48_b, false, false⟩
/- slices.Clone[[]changeling/api.Method,changeling/api.Method] -/
def f49_b : IC := (.kill (rl [(1, 7)]) (.seq (.reg [⟨some 2, .mov (.c (.sl .nil [])), none⟩])
 (.kill [2] (.seq (.seq (.reg [⟨some 3, .mov (.t 0), none⟩, ⟨some 4, .eq false .nil (.t 3) (.c (.sl .nil [])), none⟩])
 (.kill [3] (.cond (.t 4) (.seq (.reg [⟨some 2, .mov (.c (.sl .nil [])), none⟩])
 (.kill [0, 4] .ret)) .skip)))
 (.kill [4] (.seq (.reg [⟨some 5, .bslice false 0 6 true [.bool false, .bool false, .str [], .str [], .sl .nil [], .sl .nil []] [], none⟩, ⟨some 6, .mov (.t 0), none⟩, ⟨some 7, .app 6 88 (.t 5) (.t 6), none⟩, ⟨some 2, .mov (.t 7), none⟩])
 (.kill (rl [(0, 1), (5, 3)]) .ret)))))))
def f49 : IFun := ⟨8, [.t 2], f49_b, false, true⟩
/- slices.Clone[[]changeling/api.Param,changeling/api.Param] -/
def f50_b : IC := (.kill (rl [(1, 7)]) (.seq (.reg [⟨some 2, .mov (.c (.sl .nil [])), none⟩])
 (.kill [2] (.seq (.seq (.reg [⟨some 3, .mov (.t 0), none⟩, ⟨some 4, .eq false .nil (.t 3) (.c (.sl .nil [])), none⟩])
 (.kill [3] (.cond (.t 4) (.seq (.reg [⟨some 2, .mov (.c (.sl .nil [])), none⟩])
 (.kill [0, 4] .ret)) .skip)))
 (.kill [4] (.seq (.reg [⟨some 5, .bslice false 0 2 true [.str [], .str []] [], none⟩, ⟨some 6, .mov (.t 0), none⟩, ⟨some 7, .app 2 32 (.t 5) (.t 6), none⟩, ⟨some 2, .mov (.t 7), none⟩])
 (.kill (rl [(0, 1), (5, 3)]) .ret)))))))
def f50 : IFun := ⟨8, [.t 2], f50_b, false, true⟩
/- changeling/tree.mapStmts -/
def f51_l0 : IC := (.seq (.reg [⟨some 13, .ari .lss (.t 12) (.t 11), none⟩])
 (.seq (.cond (.t 13) .skip (.kill (rl [(1, 2), (10, 4)]) (.exit 0)))
 (.kill [13] (.seq (.block 1 (.seq (.reg [⟨some 14, .iaddr 9 (.t 10) (.t 12), none⟩, ⟨some 15, .load true 9 (.t 14), none⟩, ⟨some 9, .alloc [.int .i64 0, .int .i32 0, .str [], .str [], .sl .nil [], .sl .nil [], .sl .nil [], .sl .nil [], .int .i64 0], none⟩, ⟨none, .store 9 (.t 9) (.t 15), none⟩])
 (.kill [14, 15] (.seq (.reg [⟨some 16, .faddr 4 (.t 9), none⟩, ⟨some 17, .load false 1 (.t 16), none⟩, ⟨some 18, .mov (.t 1), none⟩, ⟨some 19, .call true false (.f 48) [(.t 17), (.t 18)], none⟩, ⟨some 20, .faddr 4 (.t 9), none⟩, ⟨none, .store 1 (.t 20) (.t 19), none⟩])
 (.kill (rl [(16, 5)]) (.seq (.dreg 0 [(⟨some 21, .faddr 5 (.t 9), none⟩, ⟨[], [], none⟩), (⟨some 22, .load false 1 (.t 21), none⟩, ⟨[0], [], none⟩), (⟨some 23, .mov (.t 1), none⟩, ⟨[], [], none⟩), (⟨some 24, .mov (.t 2), none⟩, ⟨[], [], none⟩), (⟨some 25, .call true false (.f 51) [(.t 22), (.t 23), (.t 24)], none⟩, ⟨(rl [(0, 4)]), [6, 11], none⟩), (⟨some 26, .faddr 6 (.t 9), none⟩, ⟨[], [], none⟩), (⟨some 27, .load false 1 (.t 26), none⟩, ⟨[5], [4], none⟩), (⟨some 28, .mov (.t 1), none⟩, ⟨[], [], none⟩), (⟨some 29, .mov (.t 2), none⟩, ⟨[], [], none⟩), (⟨some 30, .call true false (.f 51) [(.t 27), (.t 28), (.t 29)], none⟩, ⟨(rl [(0, 9)]), [11], none⟩), (⟨some 31, .faddr 7 (.t 9), none⟩, ⟨[], [], none⟩), (⟨some 32, .load false 1 (.t 31), none⟩, ⟨[10], [4, 9], none⟩), (⟨some 33, .mov (.t 1), none⟩, ⟨[], [], none⟩), (⟨some 34, .mov (.t 2), none⟩, ⟨[], [], none⟩), (⟨some 35, .call true false (.f 51) [(.t 32), (.t 33), (.t 34)], none⟩, ⟨(rl [(0, 14)]), [], none⟩), (⟨some 36, .faddr 5 (.t 9), none⟩, ⟨(rl [(0, 7), (10, 2)]), [], none⟩), (⟨none, .store 1 (.t 36) (.t 25), none⟩, ⟨(rl [(0, 16)]), [], none⟩), (⟨some 37, .faddr 6 (.t 9), none⟩, ⟨(rl [(0, 17)]), [], none⟩), (⟨none, .store 1 (.t 37) (.t 30), none⟩, ⟨(rl [(0, 18)]), [], none⟩), (⟨some 38, .faddr 7 (.t 9), none⟩, ⟨(rl [(0, 19)]), [], none⟩), (⟨none, .store 1 (.t 38) (.t 35), none⟩, ⟨(rl [(0, 20)]), [], none⟩)])
 (.kill (rl [(21, 18)]) (.seq (.seq (.reg [⟨some 39, .mov (.t 2), none⟩, ⟨some 40, .eq true .nil (.t 39) (.c (.nilf)), none⟩])
 (.kill [39] (.cond (.t 40) (.reg [⟨some 41, .mov (.t 2), none⟩, ⟨some 42, .load true 9 (.t 9), none⟩, ⟨some 43, .call true false (.t 41) [(.t 42)], none⟩, ⟨none, .store 9 (.t 9) (.t 43), none⟩]) .skip)))
 (.kill (rl [(40, 4)]) (.reg [⟨some 44, .mov (.t 7), none⟩, ⟨some 45, .load true 9 (.t 9), none⟩, ⟨some 46, .bslice false 1 9 true [.int .i64 0, .int .i32 0, .str [], .str [], .sl .nil [], .sl .nil [], .sl .nil [], .sl .nil [], .int .i64 0] [(0, (.t 45))], none⟩, ⟨some 47, .app 9 152 (.t 44) (.t 46), none⟩, ⟨some 7, .mov (.t 47), none⟩]))))))))))
 (.kill (rl [(9, 1), (44, 4)]) (.reg [⟨some 48, .ari .add (.t 12) (.c (.int .i64 1)), none⟩, ⟨some 12, .mov (.t 48), none⟩]))))))
def f51_b : IC := (.kill (rl [(3, 47)]) (.seq (.reg [⟨some 6, .mov (.c (.sl .nil [])), none⟩])
 (.kill [6] (.seq (.reg [⟨some 7, .mov (.c (.sl .nil [])), none⟩])
 (.seq (.seq (.reg [⟨some 10, .mov (.t 0), none⟩, ⟨some 11, .len false (.t 10), none⟩, ⟨some 12, .mov (.c (.int .i64 0)), none⟩])
 (.kill [0] (.block 0 (.loop [1, 2, 7, 10, 11, 12] f51_l0))))
 (.seq (.reg [⟨some 49, .mov (.t 7), none⟩, ⟨some 6, .mov (.t 49), none⟩])
 (.kill [7, 49] .ret)))))))
def f51 : IFun := ⟨50, [.t 6], f51_b, false, false⟩
/- changeling/changelingref1.SameField -/
def f52_b : IC := (.kill (rl [(2, 29)]) (.seq (.reg [⟨some 2, .box 4 (.t 0), none⟩, ⟨some 3, .box 4 (.t 1), none⟩, ⟨some 4, .mov (.c (.bool false)), none⟩])
 (.kill [0, 1, 4] (.seq (.reg [⟨some 5, .faddr 0 (.t 2), none⟩, ⟨some 6, .load false 1 (.t 5), none⟩, ⟨some 7, .faddr 0 (.t 3), none⟩, ⟨some 8, .load false 1 (.t 7), none⟩, ⟨some 9, .eq false .bool (.t 6) (.t 8), none⟩, ⟨some 10, .mov (.t 9), none⟩, ⟨some 11, .faddr 1 (.t 2), some (10, true)⟩, ⟨some 12, .load false 1 (.t 11), some (10, true)⟩, ⟨some 13, .faddr 1 (.t 3), some (10, true)⟩, ⟨some 14, .load false 1 (.t 13), some (10, true)⟩, ⟨some 15, .ari .eql (.t 12) (.t 14), some (10, true)⟩, ⟨some 16, .pick (.t 10) (.t 15) (.c (.bool false)), none⟩, ⟨some 17, .mov (.t 16), none⟩, ⟨some 18, .faddr 2 (.t 2), some (17, true)⟩, ⟨some 19, .load false 1 (.t 18), some (17, true)⟩, ⟨some 20, .faddr 2 (.t 3), some (17, true)⟩, ⟨some 21, .load false 1 (.t 20), some (17, true)⟩, ⟨some 22, .ari .eql (.t 19) (.t 21), some (17, true)⟩, ⟨some 23, .pick (.t 17) (.t 22) (.c (.bool false)), none⟩, ⟨some 24, .mov (.t 23), none⟩, ⟨some 25, .faddr 3 (.t 2), some (24, true)⟩, ⟨some 26, .load false 1 (.t 25), some (24, true)⟩, ⟨some 27, .faddr 3 (.t 3), some (24, true)⟩, ⟨some 28, .load false 1 (.t 27), some (24, true)⟩, ⟨some 29, .call false false (.f 27) [(.t 26), (.t 28)], some (24, true)⟩, ⟨some 30, .pick (.t 24) (.t 29) (.c (.bool false)), none⟩, ⟨some 4, .mov (.t 30), none⟩])
 (.kill (rl [(2, 2), (5, 26)]) .ret)))))
def f52 : IFun := ⟨31, [.t 4], f52_b, false, false⟩
/- changeling/changelingref1.SameMethod -/
def f53_l0 : IC := (.seq (.seq (.reg [⟨some 41, .mov (.t 5), none⟩, ⟨some 42, .faddr 4 (.t 2), none⟩, ⟨some 43, .load false 1 (.t 42), none⟩, ⟨some 44, .len false (.t 43), none⟩, ⟨some 45, .ari .lss (.t 41) (.t 44), none⟩])
 (.kill (rl [(41, 4)]) (.cond (.t 45) .skip (.kill [5, 45] (.exit 0)))))
 (.kill [45] (.seq (.block 1 (.seq (.dreg 0 [(⟨some 48, .faddr 4 (.t 2), none⟩, ⟨[], [], none⟩), (⟨some 49, .load false 1 (.t 48), none⟩, ⟨[0], [], none⟩), (⟨some 50, .mov (.t 5), none⟩, ⟨[], [], none⟩), (⟨some 51, .iaddr 2 (.t 49) (.t 50), none⟩, ⟨[0, 1, 2], [], none⟩), (⟨some 52, .load true 2 (.t 51), none⟩, ⟨(rl [(0, 4)]), [], none⟩), (⟨some 53, .faddr 4 (.t 3), none⟩, ⟨[], [], none⟩), (⟨some 54, .load false 1 (.t 53), none⟩, ⟨[5], [], none⟩), (⟨some 55, .mov (.t 5), none⟩, ⟨[], [], none⟩), (⟨some 56, .iaddr 2 (.t 54) (.t 55), none⟩, ⟨[5, 6, 7], [], none⟩), (⟨some 57, .load true 2 (.t 56), none⟩, ⟨(rl [(5, 4)]), [], none⟩), (⟨some 58, .eq true (.cells [.str, .str]) (.t 52) (.t 57), none⟩, ⟨(rl [(0, 10)]), [], none⟩)])
 (.kill (rl [(48, 10)]) (.cond (.t 58) (.seq (.reg [⟨some 4, .mov (.c (.bool false)), none⟩])
 (.kill (rl [(2, 2), (5, 1), (58, 1)]) .ret)) .skip))))
 (.kill [58] (.reg [⟨some 46, .mov (.t 5), none⟩, ⟨some 47, .ari .add (.t 46) (.c (.int .i64 1)), none⟩, ⟨some 5, .mov (.t 47), none⟩])))))
def f53_b : IC := (.kill (rl [(2, 62)]) (.seq (.reg [⟨some 2, .box 6 (.t 0), none⟩, ⟨some 3, .box 6 (.t 1), none⟩, ⟨some 4, .mov (.c (.bool false)), none⟩])
 (.kill [0, 1, 4] (.seq (.seq (.reg [⟨some 6, .faddr 0 (.t 2), none⟩, ⟨some 7, .load false 1 (.t 6), none⟩, ⟨some 8, .faddr 0 (.t 3), none⟩, ⟨some 9, .load false 1 (.t 8), none⟩, ⟨some 10, .eq true .bool (.t 7) (.t 9), none⟩, ⟨some 11, .mov (.t 10), none⟩, ⟨some 12, .faddr 1 (.t 2), some (11, false)⟩, ⟨some 13, .load false 1 (.t 12), some (11, false)⟩, ⟨some 14, .faddr 1 (.t 3), some (11, false)⟩, ⟨some 15, .load false 1 (.t 14), some (11, false)⟩, ⟨some 16, .eq true .bool (.t 13) (.t 15), some (11, false)⟩, ⟨some 17, .pick (.t 11) (.c (.bool true)) (.t 16), none⟩, ⟨some 18, .mov (.t 17), none⟩, ⟨some 19, .faddr 2 (.t 2), some (18, false)⟩, ⟨some 20, .load false 1 (.t 19), some (18, false)⟩, ⟨some 21, .faddr 2 (.t 3), some (18, false)⟩, ⟨some 22, .load false 1 (.t 21), some (18, false)⟩, ⟨some 23, .ari .neq (.t 20) (.t 22), some (18, false)⟩, ⟨some 24, .pick (.t 18) (.c (.bool true)) (.t 23), none⟩, ⟨some 25, .mov (.t 24), none⟩, ⟨some 26, .faddr 3 (.t 2), some (25, false)⟩, ⟨some 27, .load false 1 (.t 26), some (25, false)⟩, ⟨some 28, .faddr 3 (.t 3), some (25, false)⟩, ⟨some 29, .load false 1 (.t 28), some (25, false)⟩, ⟨some 30, .ari .neq (.t 27) (.t 29), some (25, false)⟩, ⟨some 31, .pick (.t 25) (.c (.bool true)) (.t 30), none⟩, ⟨some 32, .mov (.t 31), none⟩, ⟨some 33, .faddr 4 (.t 2), some (32, false)⟩, ⟨some 34, .load false 1 (.t 33), some (32, false)⟩, ⟨some 35, .len false (.t 34), some (32, false)⟩, ⟨some 36, .faddr 4 (.t 3), some (32, false)⟩, ⟨some 37, .load false 1 (.t 36), some (32, false)⟩, ⟨some 38, .len false (.t 37), some (32, false)⟩, ⟨some 39, .ari .neq (.t 35) (.t 38), some (32, false)⟩, ⟨some 40, .pick (.t 32) (.c (.bool true)) (.t 39), none⟩])
 (.kill (rl [(6, 34)]) (.cond (.t 40) (.seq (.reg [⟨some 4, .mov (.c (.bool false)), none⟩])
 (.kill [2, 3, 40] .ret)) .skip)))
 (.kill [40] (.seq (.seq (.reg [⟨some 5, .mov (.c (.int .i64 0)), none⟩])
 (.block 0 (.loop [2, 3, 5] f53_l0)))
 (.seq (.reg [⟨some 59, .faddr 5 (.t 2), none⟩, ⟨some 60, .load false 1 (.t 59), none⟩, ⟨some 61, .faddr 5 (.t 3), none⟩, ⟨some 62, .load false 1 (.t 61), none⟩, ⟨some 63, .call false false (.f 12) [(.t 60), (.t 62)], none⟩, ⟨some 4, .mov (.t 63), none⟩])
 (.kill (rl [(2, 2), (59, 5)]) .ret))))))))
def f53 : IFun := ⟨64, [.t 4], f53_b, false, false⟩
/- changeling/tree.field -/
def f54_b : IC := (.kill (rl [(1, 22)]) (.seq (.reg [⟨some 1, .box 4 (.t 0), none⟩, ⟨some 2, .mov (.c (.bool false)), none⟩])
 (.kill [0, 2] (.seq (.reg [⟨some 3, .faddr 1 (.t 1), none⟩, ⟨some 4, .load false 1 (.t 3), none⟩, ⟨some 5, .call false false (.f 58) [(.t 4)], none⟩, ⟨some 6, .mov (.t 5), none⟩, ⟨some 7, .faddr 2 (.t 1), some (6, true)⟩, ⟨some 8, .load false 1 (.t 7), some (6, true)⟩, ⟨some 9, .call false false (.f 59) [(.t 8)], some (6, true)⟩, ⟨some 10, .pick (.t 6) (.t 9) (.c (.bool false)), none⟩, ⟨some 11, .mov (.t 10), none⟩, ⟨some 12, .faddr 3 (.t 1), some (11, true)⟩, ⟨some 13, .load false 1 (.t 12), some (11, true)⟩, ⟨some 14, .len false (.t 13), some (11, true)⟩, ⟨some 15, .ari .leq (.t 14) (.c (.int .i64 1)), some (11, true)⟩, ⟨some 16, .pick (.t 11) (.t 15) (.c (.bool false)), none⟩, ⟨some 17, .mov (.t 16), none⟩, ⟨some 18, .faddr 3 (.t 1), some (17, true)⟩, ⟨some 19, .load false 1 (.t 18), some (17, true)⟩, ⟨some 20, .call true false (.f 60) [(.t 19), (.f 61)], some (17, true)⟩, ⟨some 21, .un .not (.t 20), some (17, true)⟩, ⟨some 22, .pick (.t 17) (.t 21) (.c (.bool false)), none⟩, ⟨some 2, .mov (.t 22), none⟩])
 (.kill (rl [(1, 1), (3, 20)]) .ret)))))
def f54 : IFun := ⟨23, [.t 2], f54_b, false, false⟩
/- changeling/tree.method -/
def f55_b : IC := (.kill (rl [(1, 57)]) (.seq (.reg [⟨some 1, .box 6 (.t 0), none⟩, ⟨some 2, .mov (.c (.bool false)), none⟩])
 (.kill [0, 2] (.seq (.seq (.reg [⟨some 3, .faddr 1 (.t 1), none⟩, ⟨some 4, .load false 1 (.t 3), none⟩, ⟨some 5, .mov (.t 4), none⟩, ⟨some 6, .faddr 0 (.t 1), some (5, true)⟩, ⟨some 7, .load false 1 (.t 6), some (5, true)⟩, ⟨some 8, .mov (.t 7), some (5, true)⟩, ⟨some 9, .faddr 2 (.t 1), some (8, false)⟩, ⟨some 10, .load false 1 (.t 9), some (8, false)⟩, ⟨some 11, .ari .neq (.t 10) (.c (.str [])), some (8, false)⟩, ⟨some 12, .pick (.t 8) (.c (.bool true)) (.t 11), some (5, true)⟩, ⟨some 13, .mov (.t 12), some (5, true)⟩, ⟨some 14, .faddr 3 (.t 1), some (13, false)⟩, ⟨some 15, .load false 1 (.t 14), some (13, false)⟩, ⟨some 16, .ari .neq (.t 15) (.c (.str [])), some (13, false)⟩, ⟨some 17, .pick (.t 13) (.c (.bool true)) (.t 16), some (5, true)⟩, ⟨some 18, .pick (.t 5) (.t 17) (.c (.bool false)), none⟩, ⟨some 19, .mov (.t 18), none⟩, ⟨some 20, .faddr 1 (.t 1), some (19, false)⟩, ⟨some 21, .load false 1 (.t 20), some (19, false)⟩, ⟨some 22, .un .not (.t 21), some (19, false)⟩, ⟨some 23, .mov (.t 22), some (19, false)⟩, ⟨some 24, .faddr 2 (.t 1), some (23, true)⟩, ⟨some 25, .load false 1 (.t 24), some (23, true)⟩, ⟨some 26, .call false false (.f 58) [(.t 25)], some (23, true)⟩, ⟨some 27, .un .not (.t 26), some (23, true)⟩, ⟨some 28, .mov (.t 27), some (23, true)⟩, ⟨some 29, .faddr 2 (.t 1), some (28, true)⟩, ⟨some 30, .load false 1 (.t 29), some (28, true)⟩, ⟨some 31, .ari .neq (.t 30) (.c (.str [118, 111, 105, 100])), some (28, true)⟩, ⟨some 32, .pick (.t 28) (.t 31) (.c (.bool false)), some (23, true)⟩, ⟨some 33, .mov (.t 32), some (23, true)⟩, ⟨some 34, .faddr 3 (.t 1), some (33, false)⟩, ⟨some 35, .load false 1 (.t 34), some (33, false)⟩, ⟨some 36, .call false false (.f 59) [(.t 35)], some (33, false)⟩, ⟨some 37, .un .not (.t 36), some (33, false)⟩, ⟨some 38, .pick (.t 33) (.c (.bool true)) (.t 37), some (23, true)⟩, ⟨some 39, .pick (.t 23) (.t 38) (.c (.bool false)), some (19, false)⟩, ⟨some 40, .pick (.t 19) (.c (.bool true)) (.t 39), none⟩, ⟨some 41, .mov (.t 40), none⟩, ⟨some 42, .faddr 4 (.t 1), some (41, false)⟩, ⟨some 43, .load false 1 (.t 42), some (41, false)⟩, ⟨some 44, .len false (.t 43), some (41, false)⟩, ⟨some 45, .ari .gtr (.t 44) (.c (.int .i64 6)), some (41, false)⟩, ⟨some 46, .pick (.t 41) (.c (.bool true)) (.t 45), none⟩])
 (.kill (rl [(3, 43)]) (.cond (.t 46) (.seq (.reg [⟨some 2, .mov (.c (.bool false)), none⟩])
 (.kill [1, 46] .ret)) .skip)))
 (.kill [46] (.seq (.reg [⟨some 47, .faddr 4 (.t 1), none⟩, ⟨some 48, .load false 1 (.t 47), none⟩, ⟨some 49, .call true false (.f 63) [(.t 48), (.f 64)], none⟩, ⟨some 50, .un .not (.t 49), none⟩, ⟨some 51, .mov (.t 50), none⟩, ⟨some 52, .faddr 5 (.t 1), some (51, true)⟩, ⟨some 53, .load false 1 (.t 52), some (51, true)⟩, ⟨some 54, .faddr 1 (.t 1), some (51, true)⟩, ⟨some 55, .load false 1 (.t 54), some (51, true)⟩, ⟨some 56, .call false false (.f 65) [(.t 53), (.c (.int .i64 1)), (.t 55)], some (51, true)⟩, ⟨some 57, .pick (.t 51) (.t 56) (.c (.bool false)), none⟩, ⟨some 2, .mov (.t 57), none⟩])
 (.kill (rl [(1, 1), (47, 11)]) .ret)))))))
def f55 : IFun := ⟨58, [.t 2], f55_b, false, false⟩
/- changeling/sign.Class -/
def f56_b : IC := (.kill (rl [(1, 8)]) (.seq (.reg [⟨some 2, .mov (.c (.bool false)), none⟩])
 (.kill [2] (.seq (.reg [⟨some 3, .mov (.t 0), none⟩, ⟨some 4, .call true false (.f 66) [(.t 3), (.f 67)], none⟩, ⟨some 5, .mov (.t 4), none⟩, ⟨some 6, .mov (.t 0), some (5, true)⟩, ⟨some 7, .ari .neq (.t 6) (.c (.str [83, 116, 114, 105, 110, 103])), some (5, true)⟩, ⟨some 8, .pick (.t 5) (.t 7) (.c (.bool false)), none⟩, ⟨some 2, .mov (.t 8), none⟩])
 (.kill (rl [(0, 1), (3, 6)]) .ret)))))
def f56 : IFun := ⟨9, [.t 2], f56_b, false, false⟩
/- changeling/changelingref17.CopyExpr -/
def f57_b : IC := (.kill (rl [(1, 9)]) (.seq (.reg [⟨some 1, .box 8 (.t 0), none⟩, ⟨some 2, .alloc [.int .i64 0, .int .i32 0, .str [], .str [], .str [], .sl .nil [], .str [], .int .i64 0], none⟩])
 (.kill [0] (.seq (.reg [⟨some 3, .faddr 5 (.t 1), none⟩, ⟨some 4, .load false 1 (.t 3), none⟩, ⟨some 5, .call false false (.f 45) [(.t 4)], none⟩, ⟨some 6, .faddr 5 (.t 1), none⟩, ⟨none, .store 1 (.t 6) (.t 5), none⟩])
 (.kill (rl [(3, 4)]) (.seq (.reg [⟨some 7, .faddr 6 (.t 1), none⟩, ⟨none, .store 1 (.t 7) (.c (.str [])), none⟩, ⟨some 8, .faddr 7 (.t 1), none⟩, ⟨none, .store 1 (.t 8) (.c (.int .i64 0)), none⟩])
 (.kill [7, 8] (.seq (.reg [⟨some 9, .load true 8 (.t 1), none⟩, ⟨none, .store 8 (.t 2) (.t 9), none⟩])
 (.kill [1, 9] .ret)))))))))
def f57 : IFun := ⟨10, [.cell 2 true 8], f57_b, false, false⟩
/- changeling/tree.kinded -/
def f58_b : IC := (.kill (rl [(1, 16)]) (.seq (.reg [⟨some 2, .mov (.c (.bool false)), none⟩])
 (.kill [2] (.seq (.reg [⟨some 3, .mov (.t 0), none⟩, ⟨some 4, .ari .eql (.t 3) (.c (.str [105, 110, 116])), none⟩, ⟨some 5, .mov (.t 4), none⟩, ⟨some 6, .mov (.t 0), some (5, false)⟩, ⟨some 7, .ari .eql (.t 6) (.c (.str [98, 111, 111, 108, 101, 97, 110])), some (5, false)⟩, ⟨some 8, .pick (.t 5) (.c (.bool true)) (.t 7), none⟩, ⟨some 9, .mov (.t 8), none⟩, ⟨some 10, .mov (.t 0), some (9, false)⟩, ⟨some 11, .ari .eql (.t 10) (.c (.str [83, 116, 114, 105, 110, 103])), some (9, false)⟩, ⟨some 12, .pick (.t 9) (.c (.bool true)) (.t 11), none⟩, ⟨some 13, .mov (.t 12), none⟩, ⟨some 14, .mov (.t 0), some (13, false)⟩, ⟨some 15, .call false false (.f 56) [(.t 14)], some (13, false)⟩, ⟨some 16, .pick (.t 13) (.c (.bool true)) (.t 15), none⟩, ⟨some 2, .mov (.t 16), none⟩])
 (.kill (rl [(0, 1), (3, 14)]) .ret)))))
def f58 : IFun := ⟨17, [.t 2], f58_b, false, false⟩
/- changeling/sign.Name -/
def f59_b : IC := (.kill (rl [(1, 9)]) (.seq (.reg [⟨some 2, .mov (.c (.bool false)), none⟩])
 (.kill [2] (.seq (.reg [⟨some 3, .mov (.t 0), none⟩, ⟨some 4, .call true false (.f 66) [(.t 3), (.f 68)], none⟩, ⟨some 5, .mov (.t 4), none⟩, ⟨some 6, .mov (.t 0), some (5, true)⟩, ⟨some 7, .call false false (.f 69) [(.t 6)], some (5, true)⟩, ⟨some 8, .un .not (.t 7), some (5, true)⟩, ⟨some 9, .pick (.t 5) (.t 8) (.c (.bool false)), none⟩, ⟨some 2, .mov (.t 9), none⟩])
 (.kill (rl [(0, 1), (3, 7)]) .ret)))))
def f59 : IFun := ⟨10, [.t 2], f59_b, false, false⟩
/- slices.ContainsFunc[[]changeling/api.Expr,changeling/api.Expr] -/
def f60_b : IC := (.kill (rl [(2, 7)]) (.seq (.reg [⟨some 4, .mov (.c (.bool false)), none⟩])
 (.kill [4] (.seq (.reg [⟨some 5, .mov (.t 0), none⟩, ⟨some 6, .mov (.t 1), none⟩, ⟨some 7, .call true false (.f 70) [(.t 5), (.t 6)], none⟩, ⟨some 8, .ari .geq (.t 7) (.c (.int .i64 0)), none⟩, ⟨some 4, .mov (.t 8), none⟩])
 (.kill (rl [(0, 2), (5, 4)]) .ret)))))
def f60 : IFun := ⟨9, [.t 4], f60_b, false, false⟩
/- changeling/tree.field$1 -/
def f61_b : IC := (.kill (rl [(1, 5)]) (.seq (.reg [⟨some 1, .box 8 (.t 0), none⟩, ⟨some 2, .mov (.c (.bool false)), none⟩])
 (.kill [0, 2] (.seq (.reg [⟨some 3, .load true 8 (.t 1), none⟩, ⟨some 4, .call false false (.f 62) [(.t 3), (.c (.int .i64 1))], none⟩, ⟨some 5, .un .not (.t 4), none⟩, ⟨some 2, .mov (.t 5), none⟩])
 (.kill (rl [(1, 1), (3, 3)]) .ret)))))
def f61 : IFun := ⟨6, [.t 2], f61_b, false, false⟩
/- changeling/tree.Deep -/
def f62_b : IC := (.kill (rl [(2, 84)]) (.seq (.reg [⟨some 2, .box 8 (.t 0), none⟩, ⟨some 3, .box 1 (.t 1), none⟩, ⟨some 4, .mov (.c (.bool false)), none⟩])
 (.kill [0, 1, 4] (.seq (.reg [⟨some 8, .faddr 0 (.t 2), none⟩, ⟨some 9, .load false 1 (.t 8), none⟩, ⟨some 10, .call false false (.f 71) [(.t 9)], none⟩, ⟨some 7, .mov (.t 10), none⟩, ⟨some 11, .ext (.t 7) 0, none⟩, ⟨some 12, .ext (.t 7) 1, none⟩, ⟨some 5, .alloc [.bool false, .bool false, .bool false, .bool false, .int .i64 0, .int .i64 0, .int .i64 0], none⟩, ⟨none, .store 7 (.t 5) (.t 11), none⟩, ⟨some 6, .mov (.t 12), none⟩])
 (.kill (rl [(7, 6)]) (.seq (.seq (.reg [⟨some 13, .mov (.t 6), none⟩, ⟨some 14, .un .not (.t 13), none⟩, ⟨some 15, .mov (.t 14), none⟩, ⟨some 16, .load false 1 (.t 3), some (15, false)⟩, ⟨some 17, .ari .gtr (.t 16) (.c (.int .i64 40)), some (15, false)⟩, ⟨some 18, .pick (.t 15) (.c (.bool true)) (.t 17), none⟩, ⟨some 19, .mov (.t 18), none⟩, ⟨some 20, .load true 7 (.t 5), some (19, false)⟩, ⟨some 21, .faddr 1 (.t 2), some (19, false)⟩, ⟨some 22, .load false 1 (.t 21), some (19, false)⟩, ⟨some 23, .faddr 2 (.t 2), some (19, false)⟩, ⟨some 24, .load false 1 (.t 23), some (19, false)⟩, ⟨some 25, .faddr 3 (.t 2), some (19, false)⟩, ⟨some 26, .load false 1 (.t 25), some (19, false)⟩, ⟨some 27, .faddr 4 (.t 2), some (19, false)⟩, ⟨some 28, .load false 1 (.t 27), some (19, false)⟩, ⟨some 29, .faddr 5 (.t 2), some (19, false)⟩, ⟨some 30, .load false 1 (.t 29), some (19, false)⟩, ⟨some 31, .len false (.t 30), some (19, false)⟩, ⟨some 32, .call false false (.f 72) [(.t 20), (.t 22), (.t 24), (.t 26), (.t 28), (.t 31)], some (19, false)⟩, ⟨some 33, .un .not (.t 32), some (19, false)⟩, ⟨some 34, .pick (.t 19) (.c (.bool true)) (.t 33), none⟩])
 (.kill (rl [(6, 1), (13, 21)]) (.cond (.t 34) (.seq (.reg [⟨some 4, .mov (.c (.bool false)), none⟩])
 (.kill (rl [(2, 2), (5, 1), (34, 1)]) .ret)) .skip)))
 (.kill [34] (.seq (.block 0 (.seq (.seq (.reg [⟨some 36, .faddr 1 (.t 2), none⟩, ⟨some 37, .load false 1 (.t 36), none⟩, ⟨some 38, .ari .lss (.t 37) (.c (.int .i32 0)), none⟩, ⟨some 39, .mov (.t 38), none⟩, ⟨some 40, .faddr 0 (.t 2), some (39, false)⟩, ⟨some 41, .load false 1 (.t 40), some (39, false)⟩, ⟨some 42, .ari .eql (.t 41) (.c (.int .i64 2)), some (39, false)⟩, ⟨some 43, .mov (.t 42), some (39, false)⟩, ⟨some 44, .faddr 1 (.t 2), some (43, true)⟩, ⟨some 45, .load false 1 (.t 44), some (43, true)⟩, ⟨some 46, .ari .gtr (.t 45) (.c (.int .i32 1)), some (43, true)⟩, ⟨some 47, .pick (.t 43) (.t 46) (.c (.bool false)), some (39, false)⟩, ⟨some 48, .pick (.t 39) (.c (.bool true)) (.t 47), none⟩, ⟨some 35, .mov (.t 48), none⟩])
 (.kill (rl [(36, 13)]) (.cond (.t 35) .skip (.seq (.reg [⟨some 49, .faddr 1 (.t 5), none⟩, ⟨some 50, .load false 1 (.t 49), none⟩, ⟨some 51, .mov (.t 50), none⟩, ⟨some 52, .faddr 2 (.t 2), some (51, true)⟩, ⟨some 53, .load false 1 (.t 52), some (51, true)⟩, ⟨some 54, .call false false (.f 73) [(.t 53)], some (51, true)⟩, ⟨some 55, .un .not (.t 54), some (51, true)⟩, ⟨some 56, .mov (.t 55), some (51, true)⟩, ⟨some 57, .faddr 2 (.t 2), some (56, false)⟩, ⟨some 58, .load false 1 (.t 57), some (56, false)⟩, ⟨some 59, .len true (.t 58), some (56, false)⟩, ⟨some 60, .ari .gtr (.t 59) (.c (.int .i64 1000)), some (56, false)⟩, ⟨some 61, .pick (.t 56) (.c (.bool true)) (.t 60), some (51, true)⟩, ⟨some 62, .pick (.t 51) (.t 61) (.c (.bool false)), none⟩, ⟨some 35, .mov (.t 62), none⟩])
 (.kill (rl [(49, 14)]) (.cond (.t 35) .skip (.seq (.reg [⟨some 63, .faddr 2 (.t 5), none⟩, ⟨some 64, .load false 1 (.t 63), none⟩, ⟨some 65, .mov (.t 64), none⟩, ⟨some 66, .faddr 0 (.t 2), some (65, true)⟩, ⟨some 67, .load false 1 (.t 66), some (65, true)⟩, ⟨some 68, .faddr 3 (.t 2), some (65, true)⟩, ⟨some 69, .load false 1 (.t 68), some (65, true)⟩, ⟨some 70, .call false false (.f 74) [(.t 67), (.t 69)], some (65, true)⟩, ⟨some 71, .un .not (.t 70), some (65, true)⟩, ⟨some 72, .pick (.t 65) (.t 71) (.c (.bool false)), none⟩, ⟨some 35, .mov (.t 72), none⟩])
 (.kill (rl [(63, 10)]) (.cond (.t 35) .skip (.reg [⟨some 73, .faddr 3 (.t 5), none⟩, ⟨some 74, .load false 1 (.t 73), none⟩, ⟨some 75, .mov (.t 74), none⟩, ⟨some 76, .faddr 4 (.t 2), some (75, true)⟩, ⟨some 77, .load false 1 (.t 76), some (75, true)⟩, ⟨some 78, .call false false (.f 56) [(.t 77)], some (75, true)⟩, ⟨some 79, .un .not (.t 78), some (75, true)⟩, ⟨some 80, .pick (.t 75) (.t 79) (.c (.bool false)), none⟩, ⟨some 35, .mov (.t 80), none⟩]))))))))))
 (.kill (rl [(5, 1), (73, 8)]) (.cond (.t 35) (.seq (.reg [⟨some 4, .mov (.c (.bool false)), none⟩])
 (.kill [2, 3, 35] .ret)) .skip))))
 (.kill [35] (.seq (.reg [⟨some 81, .faddr 5 (.t 2), none⟩, ⟨some 82, .load false 1 (.t 81), none⟩, ⟨some 83, .mkf 75 [(.t 3)], none⟩, ⟨some 84, .call true false (.f 60) [(.t 82), (.t 83)], none⟩, ⟨some 85, .un .not (.t 84), none⟩, ⟨some 4, .mov (.t 85), none⟩])
 (.kill (rl [(2, 2), (81, 5)]) .ret)))))))))))
def f62 : IFun := ⟨86, [.t 4], f62_b, false, false⟩
/- slices.ContainsFunc[[]changeling/api.Param,changeling/api.Param] -/
def f63_b : IC := (.kill (rl [(2, 7)]) (.seq (.reg [⟨some 4, .mov (.c (.bool false)), none⟩])
 (.kill [4] (.seq (.reg [⟨some 5, .mov (.t 0), none⟩, ⟨some 6, .mov (.t 1), none⟩, ⟨some 7, .call true false (.f 76) [(.t 5), (.t 6)], none⟩, ⟨some 8, .ari .geq (.t 7) (.c (.int .i64 0)), none⟩, ⟨some 4, .mov (.t 8), none⟩])
 (.kill (rl [(0, 2), (5, 4)]) .ret)))))
def f63 : IFun := ⟨9, [.t 4], f63_b, false, false⟩
/- changeling/tree.method$1 -/
def f64_b : IC := (.kill (rl [(1, 12)]) (.seq (.reg [⟨some 1, .box 2 (.t 0), none⟩, ⟨some 2, .mov (.c (.bool false)), none⟩])
 (.kill [0, 2] (.seq (.reg [⟨some 3, .faddr 0 (.t 1), none⟩, ⟨some 4, .load false 1 (.t 3), none⟩, ⟨some 5, .call false false (.f 58) [(.t 4)], none⟩, ⟨some 6, .un .not (.t 5), none⟩, ⟨some 7, .mov (.t 6), none⟩, ⟨some 8, .faddr 1 (.t 1), some (7, false)⟩, ⟨some 9, .load false 1 (.t 8), some (7, false)⟩, ⟨some 10, .call false false (.f 59) [(.t 9)], some (7, false)⟩, ⟨some 11, .un .not (.t 10), some (7, false)⟩, ⟨some 12, .pick (.t 7) (.c (.bool true)) (.t 11), none⟩, ⟨some 2, .mov (.t 12), none⟩])
 (.kill (rl [(1, 1), (3, 10)]) .ret)))))
def f64 : IFun := ⟨13, [.t 2], f64_b, false, false⟩
/- changeling/tree.stmts -/
def f65_l0 : IC := (.seq (.reg [⟨some 12, .ari .lss (.t 11) (.t 10), none⟩])
 (.seq (.cond (.t 12) .skip (.kill (rl [(1, 2), (9, 4)]) (.exit 0)))
 (.kill [12] (.seq (.block 1 (.seq (.reg [⟨some 13, .mov (.t 11), none⟩, ⟨some 14, .iaddr 9 (.t 9) (.t 11), none⟩, ⟨some 15, .load true 9 (.t 14), none⟩, ⟨some 8, .alloc [.int .i64 0, .int .i32 0, .str [], .str [], .sl .nil [], .sl .nil [], .sl .nil [], .sl .nil [], .int .i64 0], none⟩, ⟨some 7, .mov (.t 13), none⟩, ⟨none, .store 9 (.t 8) (.t 15), none⟩])
 (.kill [13, 14, 15] (.seq (.reg [⟨some 16, .load true 9 (.t 8), none⟩, ⟨some 17, .mov (.t 1), none⟩, ⟨some 18, .call false false (.f 77) [(.t 16), (.t 17)], none⟩, ⟨some 19, .un .not (.t 18), none⟩, ⟨some 20, .mov (.t 19), none⟩, ⟨some 21, .faddr 0 (.t 8), some (20, false)⟩, ⟨some 22, .load false 1 (.t 21), some (20, false)⟩, ⟨some 23, .ari .eql (.t 22) (.c (.int .i64 11)), some (20, false)⟩, ⟨some 24, .mov (.t 23), some (20, false)⟩, ⟨some 25, .mov (.t 2), some (24, true)⟩, ⟨some 26, .un .not (.t 25), some (24, true)⟩, ⟨some 27, .mov (.t 26), some (24, true)⟩, ⟨some 28, .mov (.t 7), some (27, false)⟩, ⟨some 29, .ari .gtr (.t 28) (.c (.int .i64 0)), some (27, false)⟩, ⟨some 30, .pick (.t 27) (.c (.bool true)) (.t 29), some (24, true)⟩, ⟨some 31, .pick (.t 24) (.t 30) (.c (.bool false)), some (20, false)⟩, ⟨some 32, .pick (.t 20) (.c (.bool true)) (.t 31), none⟩])
 (.kill (rl [(7, 2), (16, 16)]) (.cond (.t 32) (.seq (.reg [⟨some 6, .mov (.c (.bool false)), none⟩])
 (.kill (rl [(1, 2), (9, 3), (32, 1)]) .ret)) .skip))))))
 (.kill [32] (.reg [⟨some 33, .ari .add (.t 11) (.c (.int .i64 1)), none⟩, ⟨some 11, .mov (.t 33), none⟩]))))))
def f65_b : IC := (.kill (rl [(3, 31)]) (.seq (.reg [⟨some 6, .mov (.c (.bool false)), none⟩])
 (.kill [6] (.seq (.seq (.reg [⟨some 9, .mov (.t 0), none⟩, ⟨some 10, .len false (.t 9), none⟩, ⟨some 11, .mov (.c (.int .i64 0)), none⟩])
 (.kill [0] (.block 0 (.loop [1, 2, 9, 10, 11] f65_l0))))
 (.seq (.reg [⟨some 6, .mov (.c (.bool true)), none⟩])
 .ret)))))
def f65 : IFun := ⟨34, [.t 6], f65_b, false, false⟩
/- changeling/sign.named -/
def f66_l0 : IC := (.seq (.reg [⟨some 9, .nxt (.t 8), none⟩, ⟨some 10, .ext (.t 9) 0, none⟩])
 (.seq (.cond (.t 10) .skip (.kill (rl [(1, 1), (8, 3)]) (.exit 0)))
 (.kill [10] (.block 1 (.seq (.reg [⟨some 11, .ext (.t 9) 1, none⟩, ⟨some 12, .ext (.t 9) 2, none⟩, ⟨some 5, .mov (.t 11), none⟩, ⟨some 6, .mov (.t 12), none⟩])
 (.kill [9, 11, 12] (.seq (.reg [⟨some 13, .mov (.t 5), none⟩, ⟨some 14, .ari .eql (.t 13) (.c (.int .i64 0)), none⟩, ⟨some 15, .mov (.t 14), none⟩, ⟨some 16, .mov (.t 1), some (15, true)⟩, ⟨some 17, .mov (.t 6), some (15, true)⟩, ⟨some 18, .call true false (.t 16) [(.t 17)], some (15, true)⟩, ⟨some 19, .un .not (.t 18), some (15, true)⟩, ⟨some 20, .pick (.t 15) (.t 19) (.c (.bool false)), none⟩, ⟨some 21, .mov (.t 20), none⟩, ⟨some 22, .mov (.t 6), some (21, false)⟩, ⟨some 23, .call false false (.f 68) [(.t 22)], some (21, false)⟩, ⟨some 24, .un .not (.t 23), some (21, false)⟩, ⟨some 25, .mov (.t 24), some (21, false)⟩, ⟨some 26, .mov (.t 6), some (25, true)⟩, ⟨some 27, .call false false (.f 67) [(.t 26)], some (25, true)⟩, ⟨some 28, .un .not (.t 27), some (25, true)⟩, ⟨some 29, .pick (.t 25) (.t 28) (.c (.bool false)), some (21, false)⟩, ⟨some 30, .mov (.t 29), some (21, false)⟩, ⟨some 31, .mov (.t 6), some (30, true)⟩, ⟨some 32, .call false false (.f 78) [(.t 31)], some (30, true)⟩, ⟨some 33, .un .not (.t 32), some (30, true)⟩, ⟨some 34, .pick (.t 30) (.t 33) (.c (.bool false)), some (21, false)⟩, ⟨some 35, .pick (.t 21) (.c (.bool true)) (.t 34), none⟩])
 (.kill (rl [(5, 2), (13, 22)]) (.cond (.t 35) (.seq (.reg [⟨some 4, .mov (.c (.bool false)), none⟩])
 (.kill (rl [(0, 2), (8, 1), (35, 1)]) .ret)) .skip)))))))))
def f66_b : IC := (.kill (rl [(2, 41)]) (.seq (.reg [⟨some 4, .mov (.c (.bool false)), none⟩])
 (.kill [4] (.seq (.seq (.reg [⟨some 7, .mov (.t 0), none⟩, ⟨some 8, .rng (.t 7), none⟩])
 (.kill [7] (.block 0 (.loop [0, 1, 8] f66_l0))))
 (.seq (.reg [⟨some 36, .mov (.t 0), none⟩, ⟨some 37, .ari .neq (.t 36) (.c (.str [])), none⟩, ⟨some 38, .mov (.t 37), none⟩, ⟨some 39, .mov (.t 0), some (38, true)⟩, ⟨some 40, .len true (.t 39), some (38, true)⟩, ⟨some 41, .ari .leq (.t 40) (.c (.int .i64 20)), some (38, true)⟩, ⟨some 42, .pick (.t 38) (.t 41) (.c (.bool false)), none⟩, ⟨some 4, .mov (.t 42), none⟩])
 (.kill (rl [(0, 1), (36, 7)]) .ret))))))
def f66 : IFun := ⟨43, [.t 4], f66_b, false, false⟩
/- changeling/sign.Big -/
def f67_b : IC := (.kill (rl [(1, 8)]) (.seq (.reg [⟨some 2, .mov (.c (.bool false)), none⟩])
 (.kill [2] (.seq (.reg [⟨some 3, .mov (.t 0), none⟩, ⟨some 4, .ari .geq (.t 3) (.c (.int .i32 65)), none⟩, ⟨some 5, .mov (.t 4), none⟩, ⟨some 6, .mov (.t 0), some (5, true)⟩, ⟨some 7, .ari .leq (.t 6) (.c (.int .i32 90)), some (5, true)⟩, ⟨some 8, .pick (.t 5) (.t 7) (.c (.bool false)), none⟩, ⟨some 2, .mov (.t 8), none⟩])
 (.kill (rl [(0, 1), (3, 6)]) .ret)))))
def f67 : IFun := ⟨9, [.t 2], f67_b, false, false⟩
/- changeling/sign.Small -/
def f68_b : IC := (.kill (rl [(1, 8)]) (.seq (.reg [⟨some 2, .mov (.c (.bool false)), none⟩])
 (.kill [2] (.seq (.reg [⟨some 3, .mov (.t 0), none⟩, ⟨some 4, .ari .geq (.t 3) (.c (.int .i32 97)), none⟩, ⟨some 5, .mov (.t 4), none⟩, ⟨some 6, .mov (.t 0), some (5, true)⟩, ⟨some 7, .ari .leq (.t 6) (.c (.int .i32 122)), some (5, true)⟩, ⟨some 8, .pick (.t 5) (.t 7) (.c (.bool false)), none⟩, ⟨some 2, .mov (.t 8), none⟩])
 (.kill (rl [(0, 1), (3, 6)]) .ret)))))
def f68 : IFun := ⟨9, [.t 2], f68_b, false, false⟩
/- changeling/sign.fixed -/
def f69_b : IC := (.kill (rl [(1, 5)]) (.seq (.reg [⟨some 2, .mov (.c (.bool false)), none⟩])
 (.kill [2] (.seq (.reg [⟨some 3, .bslice false 24 1 false [.str []] [(0, (.c (.str [98, 111, 111, 108, 101, 97, 110]))), (1, (.c (.str [105, 110, 116]))), (2, (.c (.str [118, 111, 105, 100]))), (3, (.c (.str [99, 108, 97, 115, 115]))), (4, (.c (.str [101, 120, 116, 101, 110, 100, 115]))), (5, (.c (.str [115, 116, 97, 116, 105, 99]))), (6, (.c (.str [110, 101, 119]))), (7, (.c (.str [116, 104, 105, 115]))), (8, (.c (.str [115, 117, 112, 101, 114]))), (9, (.c (.str [110, 117, 108, 108]))), (10, (.c (.str [116, 114, 117, 101]))), (11, (.c (.str [102, 97, 108, 115, 101]))), (12, (.c (.str [105, 102]))), (13, (.c (.str [101, 108, 115, 101]))), (14, (.c (.str [119, 104, 105, 108, 101]))), (15, (.c (.str [114, 101, 116, 117, 114, 110]))), (16, (.c (.str [112, 114, 105, 110, 116]))), (17, (.c (.str [97, 115, 115, 101, 114, 116]))), (18, (.c (.str [116, 104, 114, 111, 119]))), (19, (.c (.str [116, 114, 121]))), (20, (.c (.str [99, 97, 116, 99, 104]))), (21, (.c (.str [102, 105, 110, 97, 108, 108, 121]))), (22, (.c (.str [97, 115]))), (23, (.c (.str [105, 115])))], none⟩, ⟨some 4, .mov (.t 0), none⟩, ⟨some 5, .call false false (.f 79) [(.t 3), (.t 4)], none⟩, ⟨some 2, .mov (.t 5), none⟩])
 (.kill (rl [(0, 1), (3, 3)]) .ret)))))
def f69 : IFun := ⟨6, [.t 2], f69_b, false, false⟩
/- slices.IndexFunc[[]changeling/api.Expr,changeling/api.Expr] -/
def f70_l0 : IC := (.seq (.reg [⟨some 9, .ari .lss (.t 8) (.t 7), none⟩])
 (.seq (.cond (.t 9) .skip (.kill (rl [(0, 2), (7, 3)]) (.exit 0)))
 (.kill [9] (.seq (.block 1 (.seq (.reg [⟨some 10, .mov (.t 8), none⟩, ⟨some 5, .mov (.t 10), none⟩])
 (.kill [10] (.seq (.reg [⟨some 11, .mov (.t 1), none⟩, ⟨some 12, .mov (.t 0), none⟩, ⟨some 13, .mov (.t 5), none⟩, ⟨some 14, .iaddr 8 (.t 12) (.t 13), none⟩, ⟨some 15, .load true 8 (.t 14), none⟩, ⟨some 16, .call true false (.t 11) [(.t 15)], none⟩])
 (.kill (rl [(11, 5)]) (.cond (.t 16) (.seq (.reg [⟨some 17, .mov (.t 5), none⟩, ⟨some 4, .mov (.t 17), none⟩])
 (.kill (rl [(0, 2), (5, 1), (7, 2), (16, 2)]) .ret)) .skip))))))
 (.kill [5, 16] (.reg [⟨some 18, .ari .add (.t 8) (.c (.int .i64 1)), none⟩, ⟨some 8, .mov (.t 18), none⟩]))))))
def f70_b : IC := (.kill (rl [(2, 17)]) (.seq (.reg [⟨some 4, .mov (.c (.int .i64 0)), none⟩])
 (.kill [4] (.seq (.seq (.reg [⟨some 6, .mov (.t 0), none⟩, ⟨some 7, .len false (.t 6), none⟩, ⟨some 8, .mov (.c (.int .i64 0)), none⟩])
 (.kill [6] (.block 0 (.loop [0, 1, 7, 8] f70_l0))))
 (.seq (.reg [⟨some 4, .mov (.c (.int .i64 (-1))), none⟩])
 .ret)))))
def f70 : IFun := ⟨19, [.t 4], f70_b, false, false⟩
/- changeling/tree.exprShape -/
def f71_b : IC := (.kill (rl [(1, 34)]) (.seq (.reg [⟨some 2, .alloc [.bool false, .bool false, .bool false, .bool false, .int .i64 0, .int .i64 0, .int .i64 0], none⟩, ⟨some 3, .mov (.c (.bool false)), none⟩])
 (.kill [3] (.seq (.reg [⟨some 7, .mkmap, none⟩, ⟨some 8, .build [.bool false, .bool false, .bool false, .bool false, .int .i64 0, .int .i64 0, .int .i64 0] [(0, 1, (.c (.bool true)))], none⟩, ⟨none, .ins .int (.t 7) (.c (.int .i64 1)) (.t 8), none⟩, ⟨some 9, .build [.bool false, .bool false, .bool false, .bool false, .int .i64 0, .int .i64 0, .int .i64 0] [(0, 1, (.c (.bool true)))], none⟩, ⟨none, .ins .int (.t 7) (.c (.int .i64 2)) (.t 9), none⟩, ⟨some 10, .build [.bool false, .bool false, .bool false, .bool false, .int .i64 0, .int .i64 0, .int .i64 0] [(1, 1, (.c (.bool true)))], none⟩, ⟨none, .ins .int (.t 7) (.c (.int .i64 3)) (.t 10), none⟩, ⟨some 11, .build [.bool false, .bool false, .bool false, .bool false, .int .i64 0, .int .i64 0, .int .i64 0] [], none⟩, ⟨none, .ins .int (.t 7) (.c (.int .i64 4)) (.t 11), none⟩, ⟨some 12, .build [.bool false, .bool false, .bool false, .bool false, .int .i64 0, .int .i64 0, .int .i64 0] [], none⟩, ⟨none, .ins .int (.t 7) (.c (.int .i64 5)) (.t 12), none⟩, ⟨some 13, .build [.bool false, .bool false, .bool false, .bool false, .int .i64 0, .int .i64 0, .int .i64 0] [(2, 1, (.c (.bool true)))], none⟩, ⟨none, .ins .int (.t 7) (.c (.int .i64 6)) (.t 13), none⟩, ⟨some 14, .build [.bool false, .bool false, .bool false, .bool false, .int .i64 0, .int .i64 0, .int .i64 0] [(2, 1, (.c (.bool true))), (4, 1, (.c (.int .i64 1))), (5, 1, (.c (.int .i64 1)))], none⟩, ⟨none, .ins .int (.t 7) (.c (.int .i64 7)) (.t 14), none⟩, ⟨some 15, .build [.bool false, .bool false, .bool false, .bool false, .int .i64 0, .int .i64 0, .int .i64 0] [(2, 1, (.c (.bool true)))], none⟩, ⟨none, .ins .int (.t 7) (.c (.int .i64 8)) (.t 15), none⟩, ⟨some 16, .build [.bool false, .bool false, .bool false, .bool false, .int .i64 0, .int .i64 0, .int .i64 0] [(2, 1, (.c (.bool true))), (3, 1, (.c (.bool true)))], none⟩, ⟨none, .ins .int (.t 7) (.c (.int .i64 9)) (.t 16), none⟩, ⟨some 17, .build [.bool false, .bool false, .bool false, .bool false, .int .i64 0, .int .i64 0, .int .i64 0] [(2, 1, (.c (.bool true))), (4, 1, (.c (.int .i64 1))), (5, 1, (.c (.int .i64 3000)))], none⟩, ⟨none, .ins .int (.t 7) (.c (.int .i64 10)) (.t 17), none⟩, ⟨some 18, .build [.bool false, .bool false, .bool false, .bool false, .int .i64 0, .int .i64 0, .int .i64 0] [(2, 1, (.c (.bool true))), (5, 1, (.c (.int .i64 3000)))], none⟩, ⟨none, .ins .int (.t 7) (.c (.int .i64 11)) (.t 18), none⟩, ⟨some 19, .build [.bool false, .bool false, .bool false, .bool false, .int .i64 0, .int .i64 0, .int .i64 0] [(2, 1, (.c (.bool true))), (5, 1, (.c (.int .i64 3000)))], none⟩, ⟨none, .ins .int (.t 7) (.c (.int .i64 12)) (.t 19), none⟩, ⟨some 20, .build [.bool false, .bool false, .bool false, .bool false, .int .i64 0, .int .i64 0, .int .i64 0] [(2, 1, (.c (.bool true))), (3, 1, (.c (.bool true))), (5, 1, (.c (.int .i64 3000)))], none⟩, ⟨none, .ins .int (.t 7) (.c (.int .i64 13)) (.t 20), none⟩, ⟨some 21, .build [.bool false, .bool false, .bool false, .bool false, .int .i64 0, .int .i64 0, .int .i64 0] [(3, 1, (.c (.bool true))), (5, 1, (.c (.int .i64 3000)))], none⟩, ⟨none, .ins .int (.t 7) (.c (.int .i64 14)) (.t 21), none⟩, ⟨some 22, .build [.bool false, .bool false, .bool false, .bool false, .int .i64 0, .int .i64 0, .int .i64 0] [(3, 1, (.c (.bool true))), (4, 1, (.c (.int .i64 1))), (5, 1, (.c (.int .i64 1)))], none⟩, ⟨none, .ins .int (.t 7) (.c (.int .i64 15)) (.t 22), none⟩, ⟨some 23, .build [.bool false, .bool false, .bool false, .bool false, .int .i64 0, .int .i64 0, .int .i64 0] [(3, 1, (.c (.bool true))), (4, 1, (.c (.int .i64 1))), (5, 1, (.c (.int .i64 1)))], none⟩, ⟨none, .ins .int (.t 7) (.c (.int .i64 16)) (.t 23), none⟩, ⟨some 24, .build [.bool false, .bool false, .bool false, .bool false, .int .i64 0, .int .i64 0, .int .i64 0] [(2, 1, (.c (.bool true))), (4, 1, (.c (.int .i64 2))), (5, 1, (.c (.int .i64 2)))], none⟩, ⟨none, .ins .int (.t 7) (.c (.int .i64 17)) (.t 24), none⟩, ⟨some 25, .build [.bool false, .bool false, .bool false, .bool false, .int .i64 0, .int .i64 0, .int .i64 0] [(2, 1, (.c (.bool true))), (4, 1, (.c (.int .i64 1))), (5, 1, (.c (.int .i64 1)))], none⟩, ⟨none, .ins .int (.t 7) (.c (.int .i64 18)) (.t 25), none⟩, ⟨some 26, .mov (.t 7), none⟩, ⟨some 4, .mov (.t 26), none⟩])
 (.kill (rl [(7, 20)]) (.seq (.reg [⟨some 28, .mov (.t 4), none⟩, ⟨some 29, .mov (.t 0), none⟩, ⟨some 30, .lkup .int true (.agg [.bool false, .bool false, .bool false, .bool false, .int .i64 0, .int .i64 0, .int .i64 0]) (.t 28) (.t 29), none⟩, ⟨some 27, .mov (.t 30), none⟩, ⟨some 31, .ext (.t 27) 0, none⟩, ⟨some 32, .ext (.t 27) 1, none⟩, ⟨some 5, .alloc [.bool false, .bool false, .bool false, .bool false, .int .i64 0, .int .i64 0, .int .i64 0], none⟩, ⟨none, .store 7 (.t 5) (.t 31), none⟩, ⟨some 6, .mov (.t 32), none⟩])
 (.kill (rl [(0, 1), (4, 1), (27, 6)]) (.seq (.reg [⟨some 33, .load true 7 (.t 5), none⟩, ⟨some 34, .mov (.t 6), none⟩, ⟨none, .store 7 (.t 2) (.t 33), none⟩, ⟨some 3, .mov (.t 34), none⟩])
 (.kill (rl [(5, 2), (33, 2)]) .ret)))))))))
def f71 : IFun := ⟨35, [.cell 2 true 7, .t 3], f71_b, false, false⟩
/- (changeling/tree.shape).fits -/
def f72_b : IC := (.kill (rl [(6, 47)]) (.seq (.reg [⟨some 6, .box 7 (.t 0), none⟩, ⟨some 12, .mov (.c (.bool false)), none⟩])
 (.kill [0, 12] (.seq (.reg [⟨some 13, .faddr 0 (.t 6), none⟩, ⟨some 14, .load false 1 (.t 13), none⟩, ⟨some 15, .mov (.t 14), none⟩, ⟨some 16, .mov (.t 1), some (15, false)⟩, ⟨some 17, .ari .eql (.t 16) (.c (.int .i32 0)), some (15, false)⟩, ⟨some 18, .pick (.t 15) (.c (.bool true)) (.t 17), none⟩, ⟨some 19, .mov (.t 18), none⟩, ⟨some 20, .faddr 1 (.t 6), some (19, true)⟩, ⟨some 21, .load false 1 (.t 20), some (19, true)⟩, ⟨some 22, .mov (.t 21), some (19, true)⟩, ⟨some 23, .mov (.t 2), some (22, false)⟩, ⟨some 24, .ari .eql (.t 23) (.c (.str [])), some (22, false)⟩, ⟨some 25, .pick (.t 22) (.c (.bool true)) (.t 24), some (19, true)⟩, ⟨some 26, .pick (.t 19) (.t 25) (.c (.bool false)), none⟩, ⟨some 27, .mov (.t 26), none⟩, ⟨some 28, .faddr 2 (.t 6), some (27, true)⟩, ⟨some 29, .load false 1 (.t 28), some (27, true)⟩, ⟨some 30, .mov (.t 3), some (27, true)⟩, ⟨some 31, .ari .neq (.t 30) (.c (.str [])), some (27, true)⟩, ⟨some 32, .eq false .bool (.t 29) (.t 31), some (27, true)⟩, ⟨some 33, .pick (.t 27) (.t 32) (.c (.bool false)), none⟩, ⟨some 34, .mov (.t 33), none⟩, ⟨some 35, .faddr 3 (.t 6), some (34, true)⟩, ⟨some 36, .load false 1 (.t 35), some (34, true)⟩, ⟨some 37, .mov (.t 4), some (34, true)⟩, ⟨some 38, .ari .neq (.t 37) (.c (.str [])), some (34, true)⟩, ⟨some 39, .eq false .bool (.t 36) (.t 38), some (34, true)⟩, ⟨some 40, .pick (.t 34) (.t 39) (.c (.bool false)), none⟩, ⟨some 41, .mov (.t 40), none⟩, ⟨some 42, .mov (.t 5), some (41, true)⟩, ⟨some 43, .faddr 4 (.t 6), some (41, true)⟩, ⟨some 44, .load false 1 (.t 43), some (41, true)⟩, ⟨some 45, .ari .geq (.t 42) (.t 44), some (41, true)⟩, ⟨some 46, .pick (.t 41) (.t 45) (.c (.bool false)), none⟩, ⟨some 47, .mov (.t 46), none⟩, ⟨some 48, .mov (.t 5), some (47, true)⟩, ⟨some 49, .faddr 5 (.t 6), some (47, true)⟩, ⟨some 50, .load false 1 (.t 49), some (47, true)⟩, ⟨some 51, .ari .leq (.t 48) (.t 50), some (47, true)⟩, ⟨some 52, .pick (.t 47) (.t 51) (.c (.bool false)), none⟩, ⟨some 12, .mov (.t 52), none⟩])
 (.kill (rl [(1, 6), (13, 40)]) .ret)))))
def f72 : IFun := ⟨53, [.t 12], f72_b, false, false⟩
/- unicode/utf8.ValidString -/
def f73_l1 : IC := (.seq (.seq (.dreg 0 [(⟨some 42, .mov (.t 0), none⟩, ⟨[], [], none⟩), (⟨some 43, .len true (.t 42), none⟩, ⟨[0], [], none⟩), (⟨some 44, .ari .gtr (.t 43) (.c (.int .i64 32)), none⟩, ⟨[0, 1], [], none⟩), (⟨some 45, .mov (.t 44), none⟩, ⟨[0, 1, 2], [], none⟩), (⟨some 46, .mov (.t 0), some (45, true)⟩, ⟨(rl [(0, 4)]), [], none⟩), (⟨some 47, .call false false (.f 80) [(.t 46)], some (45, true)⟩, ⟨(rl [(0, 5)]), [], none⟩), (⟨some 48, .mov (.t 0), some (45, true)⟩, ⟨(rl [(0, 4)]), [], none⟩), (⟨some 49, .slcs (.t 48) (some (.c (.int .i64 8))) none, some (45, true)⟩, ⟨(rl [(0, 4), (6, 1)]), [], none⟩), (⟨some 50, .call false false (.f 80) [(.t 49)], some (45, true)⟩, ⟨(rl [(0, 8)]), [], none⟩), (⟨some 51, .ari .or (.t 47) (.t 50), some (45, true)⟩, ⟨(rl [(0, 9)]), [], none⟩), (⟨some 52, .mov (.t 0), some (45, true)⟩, ⟨(rl [(0, 4)]), [], none⟩), (⟨some 53, .slcs (.t 52) (some (.c (.int .i64 16))) none, some (45, true)⟩, ⟨(rl [(0, 4), (10, 1)]), [], none⟩), (⟨some 54, .call false false (.f 80) [(.t 53)], some (45, true)⟩, ⟨(rl [(0, 9), (10, 2)]), [], none⟩), (⟨some 55, .mov (.t 0), some (45, true)⟩, ⟨(rl [(0, 4)]), [], none⟩), (⟨some 56, .slcs (.t 55) (some (.c (.int .i64 24))) none, some (45, true)⟩, ⟨(rl [(0, 4), (13, 1)]), [], none⟩), (⟨some 57, .call false false (.f 80) [(.t 56)], some (45, true)⟩, ⟨(rl [(0, 9), (10, 5)]), [], none⟩), (⟨some 58, .ari .or (.t 54) (.t 57), some (45, true)⟩, ⟨(rl [(0, 9), (10, 6)]), [], none⟩), (⟨some 59, .ari .or (.t 51) (.t 58), some (45, true)⟩, ⟨(rl [(0, 17)]), [], none⟩), (⟨some 60, .ari .and (.t 59) (.c (.int .u64 9259542123273814144)), some (45, true)⟩, ⟨(rl [(0, 18)]), [], none⟩), (⟨some 61, .ari .eql (.t 60) (.c (.int .u64 0)), some (45, true)⟩, ⟨(rl [(0, 19)]), [], none⟩), (⟨some 62, .pick (.t 45) (.t 61) (.c (.bool false)), none⟩, ⟨(rl [(0, 20)]), [], none⟩)])
 (.kill (rl [(42, 20)]) (.cond (.t 62) .skip (.kill [62] (.exit 2)))))
 (.kill [62] (.block 3 (.reg [⟨some 63, .mov (.t 0), none⟩, ⟨some 64, .slcs (.t 63) (some (.c (.int .i64 32))) none, none⟩, ⟨some 0, .mov (.t 64), none⟩]))))
def f73_l0 : IC := (.seq (.seq (.reg [⟨some 7, .mov (.t 0), none⟩, ⟨some 8, .len true (.t 7), none⟩, ⟨some 9, .ari .gtr (.t 8) (.c (.int .i64 0)), none⟩])
 (.kill [7, 8] (.cond (.t 9) .skip (.kill [0, 9] (.exit 0)))))
 (.kill [9] (.block 1 (.seq (.reg [⟨some 10, .mov (.t 0), none⟩, ⟨some 11, .idxs (.t 10) (.c (.int .i64 0)), none⟩, ⟨some 3, .mov (.t 11), none⟩])
 (.kill [10, 11] (.seq (.seq (.reg [⟨some 12, .mov (.t 3), none⟩, ⟨some 13, .ari .lss (.t 12) (.c (.int .u8 128)), none⟩])
 (.kill [12] (.cond (.t 13) (.seq (.reg [⟨some 14, .mov (.t 0), none⟩, ⟨some 15, .slcs (.t 14) (some (.c (.int .i64 1))) none, none⟩, ⟨some 0, .mov (.t 15), none⟩])
 (.kill (rl [(3, 1), (13, 3)]) (.seq (.seq (.reg [⟨some 16, .mov (.t 0), none⟩, ⟨some 17, .len true (.t 16), none⟩, ⟨some 18, .ari .gtr (.t 17) (.c (.int .i64 8)), none⟩, ⟨some 19, .mov (.t 18), none⟩, ⟨some 20, .mov (.t 0), some (19, true)⟩, ⟨some 21, .call false false (.f 80) [(.t 20)], some (19, true)⟩, ⟨some 22, .ari .and (.t 21) (.c (.int .u64 9259542123273814144)), some (19, true)⟩, ⟨some 23, .ari .eql (.t 22) (.c (.int .u64 0)), some (19, true)⟩, ⟨some 24, .pick (.t 19) (.t 23) (.c (.bool false)), none⟩])
 (.kill (rl [(16, 8)]) (.cond (.t 24) (.seq (.reg [⟨some 25, .mov (.t 0), none⟩, ⟨some 26, .slcs (.t 25) (some (.c (.int .i64 8))) none, none⟩, ⟨some 0, .mov (.t 26), none⟩])
 (.kill [24, 25, 26] (.seq (.dreg 0 [(⟨some 27, .mov (.t 0), none⟩, ⟨[], [], none⟩), (⟨some 28, .len true (.t 27), none⟩, ⟨[0], [], none⟩), (⟨some 29, .ari .gtr (.t 28) (.c (.int .i64 16)), none⟩, ⟨[0, 1], [], none⟩), (⟨some 30, .mov (.t 29), none⟩, ⟨[0, 1, 2], [], none⟩), (⟨some 31, .mov (.t 0), some (30, true)⟩, ⟨(rl [(0, 4)]), [], none⟩), (⟨some 32, .call false false (.f 80) [(.t 31)], some (30, true)⟩, ⟨(rl [(0, 5)]), [], none⟩), (⟨some 33, .mov (.t 0), some (30, true)⟩, ⟨(rl [(0, 4)]), [], none⟩), (⟨some 34, .slcs (.t 33) (some (.c (.int .i64 8))) none, some (30, true)⟩, ⟨(rl [(0, 4), (6, 1)]), [], none⟩), (⟨some 35, .call false false (.f 80) [(.t 34)], some (30, true)⟩, ⟨(rl [(0, 8)]), [], none⟩), (⟨some 36, .ari .or (.t 32) (.t 35), some (30, true)⟩, ⟨(rl [(0, 9)]), [], none⟩), (⟨some 37, .ari .and (.t 36) (.c (.int .u64 9259542123273814144)), some (30, true)⟩, ⟨(rl [(0, 10)]), [], none⟩), (⟨some 38, .ari .eql (.t 37) (.c (.int .u64 0)), some (30, true)⟩, ⟨(rl [(0, 11)]), [], none⟩), (⟨some 39, .pick (.t 30) (.t 38) (.c (.bool false)), none⟩, ⟨(rl [(0, 12)]), [], none⟩)])
 (.kill (rl [(27, 12)]) (.cond (.t 39) (.seq (.reg [⟨some 40, .mov (.t 0), none⟩, ⟨some 41, .slcs (.t 40) (some (.c (.int .i64 16))) none, none⟩, ⟨some 0, .mov (.t 41), none⟩])
 (.kill [39, 40, 41] (.block 2 (.loop [0] f73_l1)))) .skip))))) .skip)))
 (.kill [24, 39] (.exit 1))))) .skip)))
 (.kill [13] (.seq (.reg [⟨some 65, .mov (.t 3), none⟩, ⟨some 66, .aaddr 256 1 (.g 0) (.t 65), none⟩, ⟨some 67, .load false 1 (.t 66), none⟩, ⟨some 4, .mov (.t 67), none⟩])
 (.kill (rl [(3, 1), (65, 3)]) (.seq (.reg [⟨some 68, .mov (.t 4), none⟩, ⟨some 69, .ari .and (.t 68) (.c (.int .u8 7)), none⟩, ⟨some 70, .conv .i64 (.t 69), none⟩, ⟨some 5, .mov (.t 70), none⟩])
 (.kill [68, 69, 70] (.seq (.reg [⟨some 71, .mov (.t 4), none⟩, ⟨some 72, .ari .shr (.t 71) (.c (.int .u64 4)), none⟩, ⟨some 73, .aaddr 16 2 (.g 1) (.t 72), none⟩, ⟨some 74, .load true 2 (.t 73), none⟩, ⟨some 6, .alloc [.int .u8 0, .int .u8 0], none⟩, ⟨none, .store 2 (.t 6) (.t 74), none⟩])
 (.kill (rl [(4, 1), (71, 4)]) (.seq (.reg [⟨some 75, .mov (.t 5), none⟩])
 (.kill [5] (.block 4 (.seq (.reg [⟨some 77, .ari .eql (.t 75) (.c (.int .i64 2)), none⟩, ⟨some 76, .mov (.t 77), none⟩])
 (.kill [77] (.cond (.t 76) (.seq (.seq (.dreg 0 [(⟨some 78, .mov (.t 0), none⟩, ⟨[], [], none⟩), (⟨some 79, .len true (.t 78), none⟩, ⟨[0], [], none⟩), (⟨some 80, .ari .lss (.t 79) (.c (.int .i64 2)), none⟩, ⟨[0, 1], [], none⟩), (⟨some 81, .mov (.t 80), none⟩, ⟨[0, 1, 2], [], none⟩), (⟨some 82, .mov (.t 0), some (81, false)⟩, ⟨(rl [(0, 4)]), [], none⟩), (⟨some 83, .idxs (.t 82) (.c (.int .i64 1)), some (81, false)⟩, ⟨(rl [(0, 5)]), [], none⟩), (⟨some 84, .faddr 0 (.t 6), some (81, false)⟩, ⟨(rl [(0, 4)]), [], none⟩), (⟨some 85, .load false 1 (.t 84), some (81, false)⟩, ⟨(rl [(0, 4), (6, 1)]), [], none⟩), (⟨some 86, .ari .lss (.t 83) (.t 85), some (81, false)⟩, ⟨(rl [(0, 8)]), [], none⟩), (⟨some 87, .pick (.t 81) (.c (.bool true)) (.t 86), none⟩, ⟨(rl [(0, 9)]), [], none⟩), (⟨some 88, .mov (.t 87), none⟩, ⟨(rl [(0, 10)]), [], none⟩), (⟨some 89, .faddr 1 (.t 6), some (88, false)⟩, ⟨(rl [(0, 11)]), [], none⟩), (⟨some 90, .load false 1 (.t 89), some (88, false)⟩, ⟨(rl [(0, 12)]), [], none⟩), (⟨some 91, .mov (.t 0), some (88, false)⟩, ⟨(rl [(0, 11)]), [], none⟩), (⟨some 92, .idxs (.t 91) (.c (.int .i64 1)), some (88, false)⟩, ⟨(rl [(0, 11), (13, 1)]), [], none⟩), (⟨some 93, .ari .lss (.t 90) (.t 92), some (88, false)⟩, ⟨(rl [(0, 15)]), [], none⟩), (⟨some 94, .pick (.t 88) (.c (.bool true)) (.t 93), none⟩, ⟨(rl [(0, 16)]), [], none⟩)])
 (.kill (rl [(6, 1), (75, 2), (78, 16)]) (.cond (.t 94) (.seq (.reg [⟨some 2, .mov (.c (.bool false)), none⟩])
 (.kill [0, 94] .ret)) .skip)))
 (.kill [94] (.reg [⟨some 95, .mov (.t 0), none⟩, ⟨some 96, .slcs (.t 95) (some (.c (.int .i64 2))) none, none⟩, ⟨some 0, .mov (.t 96), none⟩]))) (.seq (.reg [⟨some 98, .ari .eql (.t 75) (.c (.int .i64 3)), none⟩, ⟨some 97, .mov (.t 98), none⟩])
 (.kill [76, 98] (.cond (.t 97) (.seq (.seq (.dreg 0 [(⟨some 99, .mov (.t 0), none⟩, ⟨[], [], none⟩), (⟨some 100, .len true (.t 99), none⟩, ⟨[0], [], none⟩), (⟨some 101, .ari .lss (.t 100) (.c (.int .i64 3)), none⟩, ⟨[0, 1], [], none⟩), (⟨some 102, .mov (.t 101), none⟩, ⟨[0, 1, 2], [], none⟩), (⟨some 103, .mov (.t 0), some (102, false)⟩, ⟨(rl [(0, 4)]), [], none⟩), (⟨some 104, .idxs (.t 103) (.c (.int .i64 1)), some (102, false)⟩, ⟨(rl [(0, 5)]), [], none⟩), (⟨some 105, .faddr 0 (.t 6), some (102, false)⟩, ⟨(rl [(0, 4)]), [], none⟩), (⟨some 106, .load false 1 (.t 105), some (102, false)⟩, ⟨(rl [(0, 4), (6, 1)]), [], none⟩), (⟨some 107, .ari .lss (.t 104) (.t 106), some (102, false)⟩, ⟨(rl [(0, 8)]), [], none⟩), (⟨some 108, .pick (.t 102) (.c (.bool true)) (.t 107), none⟩, ⟨(rl [(0, 9)]), [], none⟩), (⟨some 109, .mov (.t 108), none⟩, ⟨(rl [(0, 10)]), [], none⟩), (⟨some 110, .faddr 1 (.t 6), some (109, false)⟩, ⟨(rl [(0, 11)]), [], none⟩), (⟨some 111, .load false 1 (.t 110), some (109, false)⟩, ⟨(rl [(0, 12)]), [], none⟩), (⟨some 112, .mov (.t 0), some (109, false)⟩, ⟨(rl [(0, 11)]), [], none⟩), (⟨some 113, .idxs (.t 112) (.c (.int .i64 1)), some (109, false)⟩, ⟨(rl [(0, 11), (13, 1)]), [], none⟩), (⟨some 114, .ari .lss (.t 111) (.t 113), some (109, false)⟩, ⟨(rl [(0, 15)]), [], none⟩), (⟨some 115, .pick (.t 109) (.c (.bool true)) (.t 114), none⟩, ⟨(rl [(0, 16)]), [], none⟩), (⟨some 116, .mov (.t 115), none⟩, ⟨(rl [(0, 17)]), [], none⟩), (⟨some 117, .mov (.t 0), some (116, false)⟩, ⟨(rl [(0, 18)]), [], none⟩), (⟨some 118, .idxs (.t 117) (.c (.int .i64 2)), some (116, false)⟩, ⟨(rl [(0, 19)]), [], none⟩), (⟨some 119, .ari .lss (.t 118) (.c (.int .u8 128)), some (116, false)⟩, ⟨(rl [(0, 20)]), [], none⟩), (⟨some 120, .pick (.t 116) (.c (.bool true)) (.t 119), none⟩, ⟨(rl [(0, 21)]), [], none⟩), (⟨some 121, .mov (.t 120), none⟩, ⟨(rl [(0, 22)]), [], none⟩), (⟨some 122, .mov (.t 0), some (121, false)⟩, ⟨(rl [(0, 23)]), [], none⟩), (⟨some 123, .idxs (.t 122) (.c (.int .i64 2)), some (121, false)⟩, ⟨(rl [(0, 24)]), [], none⟩), (⟨some 124, .ari .lss (.c (.int .u8 191)) (.t 123), some (121, false)⟩, ⟨(rl [(0, 25)]), [], none⟩), (⟨some 125, .pick (.t 121) (.c (.bool true)) (.t 124), none⟩, ⟨(rl [(0, 26)]), [], none⟩)])
 (.kill (rl [(6, 1), (75, 1), (97, 1), (99, 26)]) (.cond (.t 125) (.seq (.reg [⟨some 2, .mov (.c (.bool false)), none⟩])
 (.kill [0, 125] .ret)) .skip)))
 (.kill [125] (.reg [⟨some 126, .mov (.t 0), none⟩, ⟨some 127, .slcs (.t 126) (some (.c (.int .i64 3))) none, none⟩, ⟨some 0, .mov (.t 127), none⟩]))) (.seq (.reg [⟨some 129, .ari .eql (.t 75) (.c (.int .i64 4)), none⟩, ⟨some 128, .mov (.t 129), none⟩])
 (.kill [75, 97, 129] (.cond (.t 128) (.seq (.seq (.dreg 0 [(⟨some 130, .mov (.t 0), none⟩, ⟨[], [], none⟩), (⟨some 131, .len true (.t 130), none⟩, ⟨[0], [], none⟩), (⟨some 132, .ari .lss (.t 131) (.c (.int .i64 4)), none⟩, ⟨[0, 1], [], none⟩), (⟨some 133, .mov (.t 132), none⟩, ⟨[0, 1, 2], [], none⟩), (⟨some 134, .mov (.t 0), some (133, false)⟩, ⟨(rl [(0, 4)]), [], none⟩), (⟨some 135, .idxs (.t 134) (.c (.int .i64 1)), some (133, false)⟩, ⟨(rl [(0, 5)]), [], none⟩), (⟨some 136, .faddr 0 (.t 6), some (133, false)⟩, ⟨(rl [(0, 4)]), [], none⟩), (⟨some 137, .load false 1 (.t 136), some (133, false)⟩, ⟨(rl [(0, 4), (6, 1)]), [], none⟩), (⟨some 138, .ari .lss (.t 135) (.t 137), some (133, false)⟩, ⟨(rl [(0, 8)]), [], none⟩), (⟨some 139, .pick (.t 133) (.c (.bool true)) (.t 138), none⟩, ⟨(rl [(0, 9)]), [], none⟩), (⟨some 140, .mov (.t 139), none⟩, ⟨(rl [(0, 10)]), [], none⟩), (⟨some 141, .faddr 1 (.t 6), some (140, false)⟩, ⟨(rl [(0, 11)]), [], none⟩), (⟨some 142, .load false 1 (.t 141), some (140, false)⟩, ⟨(rl [(0, 12)]), [], none⟩), (⟨some 143, .mov (.t 0), some (140, false)⟩, ⟨(rl [(0, 11)]), [], none⟩), (⟨some 144, .idxs (.t 143) (.c (.int .i64 1)), some (140, false)⟩, ⟨(rl [(0, 11), (13, 1)]), [], none⟩), (⟨some 145, .ari .lss (.t 142) (.t 144), some (140, false)⟩, ⟨(rl [(0, 15)]), [], none⟩), (⟨some 146, .pick (.t 140) (.c (.bool true)) (.t 145), none⟩, ⟨(rl [(0, 16)]), [], none⟩), (⟨some 147, .mov (.t 146), none⟩, ⟨(rl [(0, 17)]), [], none⟩), (⟨some 148, .mov (.t 0), some (147, false)⟩, ⟨(rl [(0, 18)]), [], none⟩), (⟨some 149, .idxs (.t 148) (.c (.int .i64 2)), some (147, false)⟩, ⟨(rl [(0, 19)]), [], none⟩), (⟨some 150, .ari .lss (.t 149) (.c (.int .u8 128)), some (147, false)⟩, ⟨(rl [(0, 20)]), [], none⟩), (⟨some 151, .pick (.t 147) (.c (.bool true)) (.t 150), none⟩, ⟨(rl [(0, 21)]), [], none⟩), (⟨some 152, .mov (.t 151), none⟩, ⟨(rl [(0, 22)]), [], none⟩), (⟨some 153, .mov (.t 0), some (152, false)⟩, ⟨(rl [(0, 23)]), [], none⟩), (⟨some 154, .idxs (.t 153) (.c (.int .i64 2)), some (152, false)⟩, ⟨(rl [(0, 24)]), [], none⟩), (⟨some 155, .ari .lss (.c (.int .u8 191)) (.t 154), some (152, false)⟩, ⟨(rl [(0, 25)]), [], none⟩), (⟨some 156, .pick (.t 152) (.c (.bool true)) (.t 155), none⟩, ⟨(rl [(0, 26)]), [], none⟩), (⟨some 157, .mov (.t 156), none⟩, ⟨(rl [(0, 27)]), [], none⟩), (⟨some 158, .mov (.t 0), some (157, false)⟩, ⟨(rl [(0, 28)]), [], none⟩), (⟨some 159, .idxs (.t 158) (.c (.int .i64 3)), some (157, false)⟩, ⟨(rl [(0, 29)]), [], none⟩), (⟨some 160, .ari .lss (.t 159) (.c (.int .u8 128)), some (157, false)⟩, ⟨(rl [(0, 30)]), [], none⟩), (⟨some 161, .pick (.t 157) (.c (.bool true)) (.t 160), none⟩, ⟨(rl [(0, 31)]), [], none⟩), (⟨some 162, .mov (.t 161), none⟩, ⟨(rl [(0, 32)]), [], none⟩), (⟨some 163, .mov (.t 0), some (162, false)⟩, ⟨(rl [(0, 33)]), [], none⟩), (⟨some 164, .idxs (.t 163) (.c (.int .i64 3)), some (162, false)⟩, ⟨(rl [(0, 34)]), [], none⟩), (⟨some 165, .ari .lss (.c (.int .u8 191)) (.t 164), some (162, false)⟩, ⟨(rl [(0, 35)]), [], none⟩), (⟨some 166, .pick (.t 162) (.c (.bool true)) (.t 165), none⟩, ⟨(rl [(0, 36)]), [], none⟩)])
 (.kill (rl [(6, 1), (128, 1), (130, 36)]) (.cond (.t 166) (.seq (.reg [⟨some 2, .mov (.c (.bool false)), none⟩])
 (.kill [0, 166] .ret)) .skip)))
 (.kill [166] (.reg [⟨some 167, .mov (.t 0), none⟩, ⟨some 168, .slcs (.t 167) (some (.c (.int .i64 4))) none, none⟩, ⟨some 0, .mov (.t 168), none⟩]))) (.seq (.reg [⟨some 2, .mov (.c (.bool false)), none⟩])
 (.kill [0, 6, 128] .ret)))))))))))))))))))))))))))
def f73_b : IC := (.kill (rl [(1, 168)]) (.seq (.reg [⟨some 2, .mov (.c (.bool false)), none⟩])
 (.kill [2] (.seq (.block 0 (.loop [0] f73_l0))
 (.seq (.reg [⟨some 2, .mov (.c (.bool true)), none⟩])
 .ret)))))
def f73 : IFun := ⟨169, [.t 2], f73_b, false, false⟩
/- changeling/tree.named -/
def f74_b : IC := (.kill (rl [(2, 14)]) (.seq (.reg [⟨some 4, .mov (.c (.bool false)), none⟩])
 (.kill [4] (.seq (.seq (.reg [⟨some 5, .mov (.t 0), none⟩])
 (.kill [0] (.block 0 (.seq (.reg [⟨some 7, .ari .eql (.t 5) (.c (.int .i64 17)), none⟩, ⟨some 6, .mov (.t 7), none⟩])
 (.kill [7] (.cond (.t 6) (.seq (.reg [⟨some 8, .mov (.t 1), none⟩, ⟨some 9, .call false false (.f 81) [(.t 8)], none⟩, ⟨some 4, .mov (.t 9), none⟩])
 (.kill (rl [(1, 1), (5, 2), (8, 2)]) .ret)) (.seq (.reg [⟨some 11, .ari .eql (.t 5) (.c (.int .i64 18)), none⟩, ⟨some 10, .mov (.t 11), none⟩])
 (.kill [5, 6, 11] (.cond (.t 10) (.seq (.reg [⟨some 12, .mov (.t 1), none⟩, ⟨some 13, .call false false (.f 82) [(.t 12)], none⟩, ⟨some 4, .mov (.t 13), none⟩])
 (.kill (rl [(1, 1), (10, 1), (12, 2)]) .ret)) .skip)))))))))
 (.kill [10] (.seq (.reg [⟨some 14, .mov (.t 1), none⟩, ⟨some 15, .call false false (.f 59) [(.t 14)], none⟩, ⟨some 4, .mov (.t 15), none⟩])
 (.kill [1, 14, 15] .ret)))))))
def f74 : IFun := ⟨16, [.t 4], f74_b, false, false⟩
/- changeling/tree.Deep$1 -/
def f75_b : IC := (.kill (rl [(2, 7)]) (.seq (.reg [⟨some 2, .box 8 (.t 0), none⟩, ⟨some 3, .mov (.c (.bool false)), none⟩])
 (.kill [0, 3] (.seq (.reg [⟨some 4, .load true 8 (.t 2), none⟩, ⟨some 5, .load false 1 (.t 1), none⟩, ⟨some 6, .ari .add (.t 5) (.c (.int .i64 1)), none⟩, ⟨some 7, .call false false (.f 62) [(.t 4), (.t 6)], none⟩, ⟨some 8, .un .not (.t 7), none⟩, ⟨some 3, .mov (.t 8), none⟩])
 (.kill (rl [(1, 2), (4, 5)]) .ret)))))
def f75 : IFun := ⟨9, [.t 3], f75_b, false, false⟩
/- slices.IndexFunc[[]changeling/api.Param,changeling/api.Param] -/
def f76_l0 : IC := (.seq (.reg [⟨some 9, .ari .lss (.t 8) (.t 7), none⟩])
 (.seq (.cond (.t 9) .skip (.kill (rl [(0, 2), (7, 3)]) (.exit 0)))
 (.kill [9] (.seq (.block 1 (.seq (.reg [⟨some 10, .mov (.t 8), none⟩, ⟨some 5, .mov (.t 10), none⟩])
 (.kill [10] (.seq (.reg [⟨some 11, .mov (.t 1), none⟩, ⟨some 12, .mov (.t 0), none⟩, ⟨some 13, .mov (.t 5), none⟩, ⟨some 14, .iaddr 2 (.t 12) (.t 13), none⟩, ⟨some 15, .load true 2 (.t 14), none⟩, ⟨some 16, .call true false (.t 11) [(.t 15)], none⟩])
 (.kill (rl [(11, 5)]) (.cond (.t 16) (.seq (.reg [⟨some 17, .mov (.t 5), none⟩, ⟨some 4, .mov (.t 17), none⟩])
 (.kill (rl [(0, 2), (5, 1), (7, 2), (16, 2)]) .ret)) .skip))))))
 (.kill [5, 16] (.reg [⟨some 18, .ari .add (.t 8) (.c (.int .i64 1)), none⟩, ⟨some 8, .mov (.t 18), none⟩]))))))
def f76_b : IC := (.kill (rl [(2, 17)]) (.seq (.reg [⟨some 4, .mov (.c (.int .i64 0)), none⟩])
 (.kill [4] (.seq (.seq (.reg [⟨some 6, .mov (.t 0), none⟩, ⟨some 7, .len false (.t 6), none⟩, ⟨some 8, .mov (.c (.int .i64 0)), none⟩])
 (.kill [6] (.block 0 (.loop [0, 1, 7, 8] f76_l0))))
 (.seq (.reg [⟨some 4, .mov (.c (.int .i64 (-1))), none⟩])
 .ret)))))
def f76 : IFun := ⟨19, [.t 4], f76_b, false, false⟩
/- changeling/tree.stmt -/
def f77_l0 : IC := (.seq (.reg [⟨some 107, .ari .lss (.t 106) (.t 105), none⟩])
 (.seq (.cond (.t 107) .skip (.kill (rl [(3, 1), (5, 1), (104, 4)]) (.exit 1)))
 (.kill [107] (.seq (.block 2 (.seq (.reg [⟨some 108, .mov (.t 106), none⟩, ⟨some 109, .iaddr 1 (.t 104) (.t 106), none⟩, ⟨some 110, .load false 1 (.t 109), none⟩, ⟨some 7, .mov (.t 108), none⟩, ⟨some 8, .mov (.t 110), none⟩])
 (.kill [108, 109, 110] (.seq (.reg [⟨some 111, .mov (.t 7), none⟩, ⟨some 112, .faddr 6 (.t 5), none⟩, ⟨some 113, .load false 1 (.t 112), none⟩, ⟨some 114, .ari .geq (.t 111) (.t 113), none⟩, ⟨some 115, .mov (.t 114), none⟩, ⟨some 116, .mov (.t 8), some (115, true)⟩, ⟨some 117, .len false (.t 116), some (115, true)⟩, ⟨some 118, .ari .gtr (.t 117) (.c (.int .i64 0)), some (115, true)⟩, ⟨some 119, .pick (.t 115) (.t 118) (.c (.bool false)), none⟩, ⟨some 120, .mov (.t 119), none⟩, ⟨some 121, .mov (.t 8), some (120, false)⟩, ⟨some 122, .load false 1 (.t 3), some (120, false)⟩, ⟨some 123, .ari .add (.t 122) (.c (.int .i64 1)), some (120, false)⟩, ⟨some 124, .call false false (.f 65) [(.t 121), (.t 123), (.c (.bool false))], some (120, false)⟩, ⟨some 125, .un .not (.t 124), some (120, false)⟩, ⟨some 126, .pick (.t 120) (.c (.bool true)) (.t 125), none⟩])
 (.kill (rl [(7, 2), (111, 15)]) (.cond (.t 126) (.seq (.reg [⟨some 4, .mov (.c (.bool false)), none⟩])
 (.kill (rl [(3, 1), (5, 1), (104, 3), (126, 1)]) .ret)) .skip))))))
 (.kill [126] (.reg [⟨some 127, .ari .add (.t 106) (.c (.int .i64 1)), none⟩, ⟨some 106, .mov (.t 127), none⟩]))))))
def f77_b : IC := (.kill (rl [(2, 126)]) (.seq (.reg [⟨some 2, .box 9 (.t 0), none⟩, ⟨some 3, .box 1 (.t 1), none⟩, ⟨some 4, .mov (.c (.bool false)), none⟩])
 (.kill [0, 1, 4] (.seq (.reg [⟨some 10, .faddr 0 (.t 2), none⟩, ⟨some 11, .load false 1 (.t 10), none⟩, ⟨some 12, .call false false (.f 83) [(.t 11)], none⟩, ⟨some 9, .mov (.t 12), none⟩, ⟨some 13, .ext (.t 9) 0, none⟩, ⟨some 14, .ext (.t 9) 1, none⟩, ⟨some 5, .alloc [.bool false, .bool false, .bool false, .bool false, .int .i64 0, .int .i64 0, .int .i64 0], none⟩, ⟨none, .store 7 (.t 5) (.t 13), none⟩, ⟨some 6, .mov (.t 14), none⟩])
 (.kill (rl [(9, 6)]) (.seq (.seq (.reg [⟨some 15, .mov (.t 6), none⟩, ⟨some 16, .un .not (.t 15), none⟩, ⟨some 17, .mov (.t 16), none⟩, ⟨some 18, .load false 1 (.t 3), some (17, false)⟩, ⟨some 19, .ari .gtr (.t 18) (.c (.int .i64 40)), some (17, false)⟩, ⟨some 20, .pick (.t 17) (.c (.bool true)) (.t 19), none⟩, ⟨some 21, .mov (.t 20), none⟩, ⟨some 22, .load true 7 (.t 5), some (21, false)⟩, ⟨some 23, .faddr 1 (.t 2), some (21, false)⟩, ⟨some 24, .load false 1 (.t 23), some (21, false)⟩, ⟨some 25, .faddr 3 (.t 2), some (21, false)⟩, ⟨some 26, .load false 1 (.t 25), some (21, false)⟩, ⟨some 27, .faddr 2 (.t 2), some (21, false)⟩, ⟨some 28, .load false 1 (.t 27), some (21, false)⟩, ⟨some 29, .faddr 4 (.t 2), some (21, false)⟩, ⟨some 30, .load false 1 (.t 29), some (21, false)⟩, ⟨some 31, .len false (.t 30), some (21, false)⟩, ⟨some 32, .call false false (.f 72) [(.t 22), (.t 24), (.c (.str [])), (.t 26), (.t 28), (.t 31)], some (21, false)⟩, ⟨some 33, .un .not (.t 32), some (21, false)⟩, ⟨some 34, .pick (.t 21) (.c (.bool true)) (.t 33), none⟩, ⟨some 35, .mov (.t 34), none⟩, ⟨some 36, .faddr 4 (.t 2), some (35, false)⟩, ⟨some 37, .load false 1 (.t 36), some (35, false)⟩, ⟨some 38, .mkf 84 [(.t 3)], some (35, false)⟩, ⟨some 39, .call true false (.f 60) [(.t 37), (.t 38)], some (35, false)⟩, ⟨some 40, .pick (.t 35) (.c (.bool true)) (.t 39), none⟩])
 (.kill (rl [(6, 1), (15, 25)]) (.cond (.t 40) (.seq (.reg [⟨some 4, .mov (.c (.bool false)), none⟩])
 (.kill (rl [(2, 2), (5, 1), (40, 1)]) .ret)) .skip)))
 (.kill [40] (.seq (.block 0 (.seq (.seq (.reg [⟨some 42, .faddr 1 (.t 2), none⟩, ⟨some 43, .load false 1 (.t 42), none⟩, ⟨some 44, .ari .lss (.t 43) (.c (.int .i32 0)), none⟩, ⟨some 45, .mov (.t 44), none⟩, ⟨some 46, .faddr 1 (.t 2), some (45, false)⟩, ⟨some 47, .load false 1 (.t 46), some (45, false)⟩, ⟨some 48, .ari .gtr (.t 47) (.c (.int .i32 9999)), some (45, false)⟩, ⟨some 49, .pick (.t 45) (.c (.bool true)) (.t 48), none⟩, ⟨some 41, .mov (.t 49), none⟩])
 (.kill (rl [(42, 8)]) (.cond (.t 41) .skip (.seq (.reg [⟨some 50, .faddr 2 (.t 5), none⟩, ⟨some 51, .load false 1 (.t 50), none⟩, ⟨some 52, .mov (.t 51), none⟩, ⟨some 53, .faddr 3 (.t 2), some (52, true)⟩, ⟨some 54, .load false 1 (.t 53), some (52, true)⟩, ⟨some 55, .call false false (.f 59) [(.t 54)], some (52, true)⟩, ⟨some 56, .un .not (.t 55), some (52, true)⟩, ⟨some 57, .pick (.t 52) (.t 56) (.c (.bool false)), none⟩, ⟨some 41, .mov (.t 57), none⟩])
 (.kill (rl [(50, 8)]) (.cond (.t 41) .skip (.seq (.reg [⟨some 58, .faddr 0 (.t 2), none⟩, ⟨some 59, .load false 1 (.t 58), none⟩, ⟨some 60, .ari .eql (.t 59) (.c (.int .i64 1)), none⟩, ⟨some 61, .mov (.t 60), none⟩, ⟨some 62, .faddr 2 (.t 2), some (61, true)⟩, ⟨some 63, .load false 1 (.t 62), some (61, true)⟩, ⟨some 64, .call false false (.f 58) [(.t 63)], some (61, true)⟩, ⟨some 65, .un .not (.t 64), some (61, true)⟩, ⟨some 66, .pick (.t 61) (.t 65) (.c (.bool false)), none⟩, ⟨some 41, .mov (.t 66), none⟩])
 (.kill (rl [(58, 9)]) (.cond (.t 41) .skip (.seq (.reg [⟨some 67, .faddr 0 (.t 2), none⟩, ⟨some 68, .load false 1 (.t 67), none⟩, ⟨some 69, .ari .eql (.t 68) (.c (.int .i64 10)), none⟩, ⟨some 70, .mov (.t 69), none⟩, ⟨some 71, .faddr 2 (.t 2), some (70, true)⟩, ⟨some 72, .load false 1 (.t 71), some (70, true)⟩, ⟨some 73, .call false false (.f 56) [(.t 72)], some (70, true)⟩, ⟨some 74, .un .not (.t 73), some (70, true)⟩, ⟨some 75, .pick (.t 70) (.t 74) (.c (.bool false)), none⟩, ⟨some 41, .mov (.t 75), none⟩])
 (.kill (rl [(67, 9)]) (.cond (.t 41) .skip (.seq (.reg [⟨some 76, .faddr 0 (.t 2), none⟩, ⟨some 77, .load false 1 (.t 76), none⟩, ⟨some 78, .ari .eql (.t 77) (.c (.int .i64 2)), none⟩, ⟨some 79, .mov (.t 78), none⟩, ⟨some 80, .faddr 4 (.t 2), some (79, true)⟩, ⟨some 81, .load false 1 (.t 80), some (79, true)⟩, ⟨some 82, .iaddr 8 (.t 81) (.c (.int .i64 0)), some (79, true)⟩, ⟨some 83, .load true 8 (.t 82), some (79, true)⟩, ⟨some 84, .call false false (.f 85) [(.t 83)], some (79, true)⟩, ⟨some 85, .un .not (.t 84), some (79, true)⟩, ⟨some 86, .pick (.t 79) (.t 85) (.c (.bool false)), none⟩, ⟨some 41, .mov (.t 86), none⟩])
 (.kill (rl [(76, 11)]) (.cond (.t 41) .skip (.reg [⟨some 87, .faddr 0 (.t 2), none⟩, ⟨some 88, .load false 1 (.t 87), none⟩, ⟨some 89, .ari .eql (.t 88) (.c (.int .i64 3)), none⟩, ⟨some 90, .mov (.t 89), none⟩, ⟨some 91, .faddr 4 (.t 2), some (90, true)⟩, ⟨some 92, .load false 1 (.t 91), some (90, true)⟩, ⟨some 93, .iaddr 8 (.t 92) (.c (.int .i64 0)), some (90, true)⟩, ⟨some 94, .load true 8 (.t 93), some (90, true)⟩, ⟨some 95, .call false false (.f 86) [(.t 94)], some (90, true)⟩, ⟨some 96, .un .not (.t 95), some (90, true)⟩, ⟨some 97, .pick (.t 90) (.t 96) (.c (.bool false)), none⟩, ⟨some 41, .mov (.t 97), none⟩]))))))))))))))))
 (.kill (rl [(87, 11)]) (.cond (.t 41) (.seq (.reg [⟨some 4, .mov (.c (.bool false)), none⟩])
 (.kill (rl [(2, 2), (5, 1), (41, 1)]) .ret)) .skip))))
 (.kill [41] (.seq (.seq (.reg [⟨some 98, .faddr 5 (.t 2), none⟩, ⟨some 99, .load false 1 (.t 98), none⟩, ⟨some 100, .faddr 6 (.t 2), none⟩, ⟨some 101, .load false 1 (.t 100), none⟩, ⟨some 102, .faddr 7 (.t 2), none⟩, ⟨some 103, .load false 1 (.t 102), none⟩, ⟨some 104, .bslice false 3 1 false [.sl .nil []] [(0, (.t 99)), (1, (.t 101)), (2, (.t 103))], none⟩, ⟨some 105, .len false (.t 104), none⟩, ⟨some 106, .mov (.c (.int .i64 0)), none⟩])
 (.kill (rl [(2, 1), (98, 6)]) (.block 1 (.loop [3, 5, 104, 105, 106] f77_l0))))
 (.seq (.reg [⟨some 4, .mov (.c (.bool true)), none⟩])
 .ret)))))))))))
def f77 : IFun := ⟨128, [.t 4], f77_b, false, false⟩
/- changeling/sign.Digit -/
def f78_b : IC := (.kill (rl [(1, 8)]) (.seq (.reg [⟨some 2, .mov (.c (.bool false)), none⟩])
 (.kill [2] (.seq (.reg [⟨some 3, .mov (.t 0), none⟩, ⟨some 4, .ari .geq (.t 3) (.c (.int .i32 48)), none⟩, ⟨some 5, .mov (.t 4), none⟩, ⟨some 6, .mov (.t 0), some (5, true)⟩, ⟨some 7, .ari .leq (.t 6) (.c (.int .i32 57)), some (5, true)⟩, ⟨some 8, .pick (.t 5) (.t 7) (.c (.bool false)), none⟩, ⟨some 2, .mov (.t 8), none⟩])
 (.kill (rl [(0, 1), (3, 6)]) .ret)))))
def f78 : IFun := ⟨9, [.t 2], f78_b, false, false⟩
/- slices.Contains[[]string,string] -/
def f79_b : IC := (.kill (rl [(2, 7)]) (.seq (.reg [⟨some 4, .mov (.c (.bool false)), none⟩])
 (.kill [4] (.seq (.reg [⟨some 5, .mov (.t 0), none⟩, ⟨some 6, .mov (.t 1), none⟩, ⟨some 7, .call false false (.f 87) [(.t 5), (.t 6)], none⟩, ⟨some 8, .ari .geq (.t 7) (.c (.int .i64 0)), none⟩, ⟨some 4, .mov (.t 8), none⟩])
 (.kill (rl [(0, 2), (5, 4)]) .ret)))))
def f79 : IFun := ⟨9, [.t 4], f79_b, false, false⟩
/- unicode/utf8.word[string] -/
def f80_b : IC := (.kill (rl [(1, 58)]) (.seq (.reg [⟨some 2, .mov (.c (.int .u64 0)), none⟩])
 (.kill [2] (.seq (.cond (.c (.bool false)) (.seq (.dreg 0 [(⟨some 3, .mov (.t 0), none⟩, ⟨[], [], none⟩), (⟨some 4, .idxs (.t 3) (.c (.int .i64 0)), none⟩, ⟨[0], [], none⟩), (⟨some 5, .conv .u64 (.t 4), none⟩, ⟨[0, 1], [], none⟩), (⟨some 6, .mov (.t 0), none⟩, ⟨[], [], none⟩), (⟨some 7, .idxs (.t 6) (.c (.int .i64 1)), none⟩, ⟨[3], [], none⟩), (⟨some 8, .conv .u64 (.t 7), none⟩, ⟨[3, 4], [], none⟩), (⟨some 9, .ari .shl (.t 8) (.c (.int .u64 8)), none⟩, ⟨[3, 4, 5], [], none⟩), (⟨some 10, .ari .or (.t 5) (.t 9), none⟩, ⟨(rl [(0, 7)]), [], none⟩), (⟨some 11, .mov (.t 0), none⟩, ⟨[], [], none⟩), (⟨some 12, .idxs (.t 11) (.c (.int .i64 2)), none⟩, ⟨[8], [], none⟩), (⟨some 13, .conv .u64 (.t 12), none⟩, ⟨[8, 9], [], none⟩), (⟨some 14, .ari .shl (.t 13) (.c (.int .u64 16)), none⟩, ⟨[8, 9, 10], [], none⟩), (⟨some 15, .ari .or (.t 10) (.t 14), none⟩, ⟨(rl [(0, 12)]), [], none⟩), (⟨some 16, .mov (.t 0), none⟩, ⟨[], [], none⟩), (⟨some 17, .idxs (.t 16) (.c (.int .i64 3)), none⟩, ⟨[13], [], none⟩), (⟨some 18, .conv .u64 (.t 17), none⟩, ⟨[13, 14], [], none⟩), (⟨some 19, .ari .shl (.t 18) (.c (.int .u64 24)), none⟩, ⟨[13, 14, 15], [], none⟩), (⟨some 20, .ari .or (.t 15) (.t 19), none⟩, ⟨(rl [(0, 17)]), [], none⟩), (⟨some 2, .mov (.t 20), none⟩, ⟨(rl [(0, 18)]), [], none⟩)])
 (.kill (rl [(0, 1), (3, 18)]) .ret)) .skip)
 (.seq (.dreg 0 [(⟨some 21, .mov (.t 0), none⟩, ⟨[], [], none⟩), (⟨some 22, .idxs (.t 21) (.c (.int .i64 0)), none⟩, ⟨[0], [], none⟩), (⟨some 23, .conv .u64 (.t 22), none⟩, ⟨[0, 1], [], none⟩), (⟨some 24, .mov (.t 0), none⟩, ⟨[], [], none⟩), (⟨some 25, .idxs (.t 24) (.c (.int .i64 1)), none⟩, ⟨[3], [], none⟩), (⟨some 26, .conv .u64 (.t 25), none⟩, ⟨[3, 4], [], none⟩), (⟨some 27, .ari .shl (.t 26) (.c (.int .u64 8)), none⟩, ⟨[3, 4, 5], [], none⟩), (⟨some 28, .ari .or (.t 23) (.t 27), none⟩, ⟨(rl [(0, 7)]), [], none⟩), (⟨some 29, .mov (.t 0), none⟩, ⟨[], [], none⟩), (⟨some 30, .idxs (.t 29) (.c (.int .i64 2)), none⟩, ⟨[8], [], none⟩), (⟨some 31, .conv .u64 (.t 30), none⟩, ⟨[8, 9], [], none⟩), (⟨some 32, .ari .shl (.t 31) (.c (.int .u64 16)), none⟩, ⟨[8, 9, 10], [], none⟩), (⟨some 33, .ari .or (.t 28) (.t 32), none⟩, ⟨(rl [(0, 12)]), [], none⟩), (⟨some 34, .mov (.t 0), none⟩, ⟨[], [], none⟩), (⟨some 35, .idxs (.t 34) (.c (.int .i64 3)), none⟩, ⟨[13], [], none⟩), (⟨some 36, .conv .u64 (.t 35), none⟩, ⟨[13, 14], [], none⟩), (⟨some 37, .ari .shl (.t 36) (.c (.int .u64 24)), none⟩, ⟨[13, 14, 15], [], none⟩), (⟨some 38, .ari .or (.t 33) (.t 37), none⟩, ⟨(rl [(0, 17)]), [], none⟩), (⟨some 39, .mov (.t 0), none⟩, ⟨[], [], none⟩), (⟨some 40, .idxs (.t 39) (.c (.int .i64 4)), none⟩, ⟨[18], [], none⟩), (⟨some 41, .conv .u64 (.t 40), none⟩, ⟨[18, 19], [], none⟩), (⟨some 42, .ari .shl (.t 41) (.c (.int .u64 32)), none⟩, ⟨[18, 19, 20], [], none⟩), (⟨some 43, .ari .or (.t 38) (.t 42), none⟩, ⟨(rl [(0, 22)]), [], none⟩), (⟨some 44, .mov (.t 0), none⟩, ⟨[], [], none⟩), (⟨some 45, .idxs (.t 44) (.c (.int .i64 5)), none⟩, ⟨[23], [], none⟩), (⟨some 46, .conv .u64 (.t 45), none⟩, ⟨[23, 24], [], none⟩), (⟨some 47, .ari .shl (.t 46) (.c (.int .u64 40)), none⟩, ⟨[23, 24, 25], [], none⟩), (⟨some 48, .ari .or (.t 43) (.t 47), none⟩, ⟨(rl [(0, 27)]), [], none⟩), (⟨some 49, .mov (.t 0), none⟩, ⟨[], [], none⟩), (⟨some 50, .idxs (.t 49) (.c (.int .i64 6)), none⟩, ⟨[28], [], none⟩), (⟨some 51, .conv .u64 (.t 50), none⟩, ⟨[28, 29], [], none⟩), (⟨some 52, .ari .shl (.t 51) (.c (.int .u64 48)), none⟩, ⟨[28, 29, 30], [], none⟩), (⟨some 53, .ari .or (.t 48) (.t 52), none⟩, ⟨(rl [(0, 32)]), [], none⟩), (⟨some 54, .mov (.t 0), none⟩, ⟨[], [], none⟩), (⟨some 55, .idxs (.t 54) (.c (.int .i64 7)), none⟩, ⟨[33], [], none⟩), (⟨some 56, .conv .u64 (.t 55), none⟩, ⟨[33, 34], [], none⟩), (⟨some 57, .ari .shl (.t 56) (.c (.int .u64 56)), none⟩, ⟨[33, 34, 35], [], none⟩), (⟨some 58, .ari .or (.t 53) (.t 57), none⟩, ⟨(rl [(0, 37)]), [], none⟩), (⟨some 2, .mov (.t 58), none⟩, ⟨(rl [(0, 38)]), [], none⟩)])
 (.kill (rl [(0, 1), (21, 38)]) .ret))))))
def f80 : IFun := ⟨59, [.t 2], f80_b, false, false⟩
/- changeling/tree.Binary -/
def f81_b : IC := (.kill (rl [(1, 5)]) (.seq (.reg [⟨some 2, .mov (.c (.bool false)), none⟩])
 (.kill [2] (.seq (.reg [⟨some 3, .bslice false 12 1 false [.str []] [(0, (.c (.str [43]))), (1, (.c (.str [45]))), (2, (.c (.str [42]))), (3, (.c (.str [47]))), (4, (.c (.str [37]))), (5, (.c (.str [64]))), (6, (.c (.str [60]))), (7, (.c (.str [60, 61]))), (8, (.c (.str [61, 61]))), (9, (.c (.str [33, 61]))), (10, (.c (.str [38, 38]))), (11, (.c (.str [124, 124])))], none⟩, ⟨some 4, .mov (.t 0), none⟩, ⟨some 5, .call false false (.f 79) [(.t 3), (.t 4)], none⟩, ⟨some 2, .mov (.t 5), none⟩])
 (.kill (rl [(0, 1), (3, 3)]) .ret)))))
def f81 : IFun := ⟨6, [.t 2], f81_b, false, false⟩
/- changeling/tree.Unary -/
def f82_b : IC := (.kill (rl [(1, 12)]) (.seq (.reg [⟨some 2, .mov (.c (.bool false)), none⟩])
 (.kill [2] (.seq (.reg [⟨some 3, .mov (.t 0), none⟩, ⟨some 4, .ari .eql (.t 3) (.c (.str [45])), none⟩, ⟨some 5, .mov (.t 4), none⟩, ⟨some 6, .mov (.t 0), some (5, false)⟩, ⟨some 7, .ari .eql (.t 6) (.c (.str [33])), some (5, false)⟩, ⟨some 8, .pick (.t 5) (.c (.bool true)) (.t 7), none⟩, ⟨some 9, .mov (.t 8), none⟩, ⟨some 10, .mov (.t 0), some (9, false)⟩, ⟨some 11, .ari .eql (.t 10) (.c (.str [35])), some (9, false)⟩, ⟨some 12, .pick (.t 9) (.c (.bool true)) (.t 11), none⟩, ⟨some 2, .mov (.t 12), none⟩])
 (.kill (rl [(0, 1), (3, 10)]) .ret)))))
def f82 : IFun := ⟨13, [.t 2], f82_b, false, false⟩
/- changeling/tree.stmtShape -/
def f83_b : IC := (.kill (rl [(1, 27)]) (.seq (.reg [⟨some 2, .alloc [.bool false, .bool false, .bool false, .bool false, .int .i64 0, .int .i64 0, .int .i64 0], none⟩, ⟨some 3, .mov (.c (.bool false)), none⟩])
 (.kill [3] (.seq (.reg [⟨some 7, .mkmap, none⟩, ⟨some 8, .build [.bool false, .bool false, .bool false, .bool false, .int .i64 0, .int .i64 0, .int .i64 0] [(3, 1, (.c (.bool true))), (2, 1, (.c (.bool true))), (4, 1, (.c (.int .i64 1))), (5, 1, (.c (.int .i64 1)))], none⟩, ⟨none, .ins .int (.t 7) (.c (.int .i64 1)) (.t 8), none⟩, ⟨some 9, .build [.bool false, .bool false, .bool false, .bool false, .int .i64 0, .int .i64 0, .int .i64 0] [(4, 1, (.c (.int .i64 2))), (5, 1, (.c (.int .i64 2)))], none⟩, ⟨none, .ins .int (.t 7) (.c (.int .i64 2)) (.t 9), none⟩, ⟨some 10, .build [.bool false, .bool false, .bool false, .bool false, .int .i64 0, .int .i64 0, .int .i64 0] [(4, 1, (.c (.int .i64 1))), (5, 1, (.c (.int .i64 1)))], none⟩, ⟨none, .ins .int (.t 7) (.c (.int .i64 3)) (.t 10), none⟩, ⟨some 11, .build [.bool false, .bool false, .bool false, .bool false, .int .i64 0, .int .i64 0, .int .i64 0] [(4, 1, (.c (.int .i64 1))), (5, 1, (.c (.int .i64 1))), (6, 1, (.c (.int .i64 2)))], none⟩, ⟨none, .ins .int (.t 7) (.c (.int .i64 4)) (.t 11), none⟩, ⟨some 12, .build [.bool false, .bool false, .bool false, .bool false, .int .i64 0, .int .i64 0, .int .i64 0] [(4, 1, (.c (.int .i64 1))), (5, 1, (.c (.int .i64 1))), (6, 1, (.c (.int .i64 1)))], none⟩, ⟨none, .ins .int (.t 7) (.c (.int .i64 5)) (.t 12), none⟩, ⟨some 13, .build [.bool false, .bool false, .bool false, .bool false, .int .i64 0, .int .i64 0, .int .i64 0] [(5, 1, (.c (.int .i64 1)))], none⟩, ⟨none, .ins .int (.t 7) (.c (.int .i64 6)) (.t 13), none⟩, ⟨some 14, .build [.bool false, .bool false, .bool false, .bool false, .int .i64 0, .int .i64 0, .int .i64 0] [(4, 1, (.c (.int .i64 1))), (5, 1, (.c (.int .i64 1)))], none⟩, ⟨none, .ins .int (.t 7) (.c (.int .i64 7)) (.t 14), none⟩, ⟨some 15, .build [.bool false, .bool false, .bool false, .bool false, .int .i64 0, .int .i64 0, .int .i64 0] [(0, 1, (.c (.bool true))), (4, 1, (.c (.int .i64 1))), (5, 1, (.c (.int .i64 1)))], none⟩, ⟨none, .ins .int (.t 7) (.c (.int .i64 8)) (.t 15), none⟩, ⟨some 16, .build [.bool false, .bool false, .bool false, .bool false, .int .i64 0, .int .i64 0, .int .i64 0] [(4, 1, (.c (.int .i64 1))), (5, 1, (.c (.int .i64 1)))], none⟩, ⟨none, .ins .int (.t 7) (.c (.int .i64 9)) (.t 16), none⟩, ⟨some 17, .build [.bool false, .bool false, .bool false, .bool false, .int .i64 0, .int .i64 0, .int .i64 0] [(3, 1, (.c (.bool true))), (2, 1, (.c (.bool true))), (6, 1, (.c (.int .i64 3)))], none⟩, ⟨none, .ins .int (.t 7) (.c (.int .i64 10)) (.t 17), none⟩, ⟨some 18, .build [.bool false, .bool false, .bool false, .bool false, .int .i64 0, .int .i64 0, .int .i64 0] [(5, 1, (.c (.int .i64 3000)))], none⟩, ⟨none, .ins .int (.t 7) (.c (.int .i64 11)) (.t 18), none⟩, ⟨some 19, .mov (.t 7), none⟩, ⟨some 4, .mov (.t 19), none⟩])
 (.kill (rl [(7, 13)]) (.seq (.reg [⟨some 21, .mov (.t 4), none⟩, ⟨some 22, .mov (.t 0), none⟩, ⟨some 23, .lkup .int true (.agg [.bool false, .bool false, .bool false, .bool false, .int .i64 0, .int .i64 0, .int .i64 0]) (.t 21) (.t 22), none⟩, ⟨some 20, .mov (.t 23), none⟩, ⟨some 24, .ext (.t 20) 0, none⟩, ⟨some 25, .ext (.t 20) 1, none⟩, ⟨some 5, .alloc [.bool false, .bool false, .bool false, .bool false, .int .i64 0, .int .i64 0, .int .i64 0], none⟩, ⟨none, .store 7 (.t 5) (.t 24), none⟩, ⟨some 6, .mov (.t 25), none⟩])
 (.kill (rl [(0, 1), (4, 1), (20, 6)]) (.seq (.reg [⟨some 26, .load true 7 (.t 5), none⟩, ⟨some 27, .mov (.t 6), none⟩, ⟨none, .store 7 (.t 2) (.t 26), none⟩, ⟨some 3, .mov (.t 27), none⟩])
 (.kill (rl [(5, 2), (26, 2)]) .ret)))))))))
def f83 : IFun := ⟨28, [.cell 2 true 7, .t 3], f83_b, false, false⟩
/- changeling/tree.stmt$1 -/
def f84_b : IC := (.kill (rl [(2, 6)]) (.seq (.reg [⟨some 2, .box 8 (.t 0), none⟩, ⟨some 3, .mov (.c (.bool false)), none⟩])
 (.kill [0, 3] (.seq (.reg [⟨some 4, .load true 8 (.t 2), none⟩, ⟨some 5, .load false 1 (.t 1), none⟩, ⟨some 6, .call false false (.f 62) [(.t 4), (.t 5)], none⟩, ⟨some 7, .un .not (.t 6), none⟩, ⟨some 3, .mov (.t 7), none⟩])
 (.kill (rl [(1, 2), (4, 4)]) .ret)))))
def f84 : IFun := ⟨8, [.t 3], f84_b, false, false⟩
/- changeling/tree.Left -/
def f85_b : IC := (.kill (rl [(1, 6)]) (.seq (.reg [⟨some 1, .box 8 (.t 0), none⟩, ⟨some 2, .mov (.c (.bool false)), none⟩])
 (.kill [0, 2] (.seq (.reg [⟨some 3, .bslice false 4 1 false [.int .i64 0] [(0, (.c (.int .i64 6))), (1, (.c (.int .i64 7))), (2, (.c (.int .i64 8))), (3, (.c (.int .i64 9)))], none⟩, ⟨some 4, .faddr 0 (.t 1), none⟩, ⟨some 5, .load false 1 (.t 4), none⟩, ⟨some 6, .call false false (.f 88) [(.t 3), (.t 5)], none⟩, ⟨some 2, .mov (.t 6), none⟩])
 (.kill (rl [(1, 1), (3, 4)]) .ret)))))
def f85 : IFun := ⟨7, [.t 2], f85_b, false, false⟩
/- changeling/tree.Acts -/
def f86_b : IC := (.kill (rl [(1, 6)]) (.seq (.reg [⟨some 1, .box 8 (.t 0), none⟩, ⟨some 2, .mov (.c (.bool false)), none⟩])
 (.kill [0, 2] (.seq (.reg [⟨some 3, .bslice false 5 1 false [.int .i64 0] [(0, (.c (.int .i64 10))), (1, (.c (.int .i64 11))), (2, (.c (.int .i64 12))), (3, (.c (.int .i64 13))), (4, (.c (.int .i64 14)))], none⟩, ⟨some 4, .faddr 0 (.t 1), none⟩, ⟨some 5, .load false 1 (.t 4), none⟩, ⟨some 6, .call false false (.f 88) [(.t 3), (.t 5)], none⟩, ⟨some 2, .mov (.t 6), none⟩])
 (.kill (rl [(1, 1), (3, 4)]) .ret)))))
def f86 : IFun := ⟨7, [.t 2], f86_b, false, false⟩
/- slices.Index[[]string,string] -/
def f87_l0 : IC := (.seq (.reg [⟨some 9, .ari .lss (.t 8) (.t 7), none⟩])
 (.seq (.cond (.t 9) .skip (.kill (rl [(0, 2), (7, 3)]) (.exit 0)))
 (.kill [9] (.seq (.block 1 (.seq (.reg [⟨some 10, .mov (.t 8), none⟩, ⟨some 5, .mov (.t 10), none⟩])
 (.kill [10] (.seq (.reg [⟨some 11, .mov (.t 1), none⟩, ⟨some 12, .mov (.t 0), none⟩, ⟨some 13, .mov (.t 5), none⟩, ⟨some 14, .iaddr 1 (.t 12) (.t 13), none⟩, ⟨some 15, .load false 1 (.t 14), none⟩, ⟨some 16, .ari .eql (.t 11) (.t 15), none⟩])
 (.kill (rl [(11, 5)]) (.cond (.t 16) (.seq (.reg [⟨some 17, .mov (.t 5), none⟩, ⟨some 4, .mov (.t 17), none⟩])
 (.kill (rl [(0, 2), (5, 1), (7, 2), (16, 2)]) .ret)) .skip))))))
 (.kill [5, 16] (.reg [⟨some 18, .ari .add (.t 8) (.c (.int .i64 1)), none⟩, ⟨some 8, .mov (.t 18), none⟩]))))))
def f87_b : IC := (.kill (rl [(2, 17)]) (.seq (.reg [⟨some 4, .mov (.c (.int .i64 0)), none⟩])
 (.kill [4] (.seq (.seq (.reg [⟨some 6, .mov (.t 0), none⟩, ⟨some 7, .len false (.t 6), none⟩, ⟨some 8, .mov (.c (.int .i64 0)), none⟩])
 (.kill [6] (.block 0 (.loop [0, 1, 7, 8] f87_l0))))
 (.seq (.reg [⟨some 4, .mov (.c (.int .i64 (-1))), none⟩])
 .ret)))))
def f87 : IFun := ⟨19, [.t 4], f87_b, false, false⟩
/- slices.Contains[[]int,int] -/
def f88_b : IC := (.kill (rl [(2, 7)]) (.seq (.reg [⟨some 4, .mov (.c (.bool false)), none⟩])
 (.kill [4] (.seq (.reg [⟨some 5, .mov (.t 0), none⟩, ⟨some 6, .mov (.t 1), none⟩, ⟨some 7, .call false false (.f 89) [(.t 5), (.t 6)], none⟩, ⟨some 8, .ari .geq (.t 7) (.c (.int .i64 0)), none⟩, ⟨some 4, .mov (.t 8), none⟩])
 (.kill (rl [(0, 2), (5, 4)]) .ret)))))
def f88 : IFun := ⟨9, [.t 4], f88_b, false, false⟩
/- slices.Index[[]int,int] -/
def f89_l0 : IC := (.seq (.reg [⟨some 9, .ari .lss (.t 8) (.t 7), none⟩])
 (.seq (.cond (.t 9) .skip (.kill (rl [(0, 2), (7, 3)]) (.exit 0)))
 (.kill [9] (.seq (.block 1 (.seq (.reg [⟨some 10, .mov (.t 8), none⟩, ⟨some 5, .mov (.t 10), none⟩])
 (.kill [10] (.seq (.reg [⟨some 11, .mov (.t 1), none⟩, ⟨some 12, .mov (.t 0), none⟩, ⟨some 13, .mov (.t 5), none⟩, ⟨some 14, .iaddr 1 (.t 12) (.t 13), none⟩, ⟨some 15, .load false 1 (.t 14), none⟩, ⟨some 16, .ari .eql (.t 11) (.t 15), none⟩])
 (.kill (rl [(11, 5)]) (.cond (.t 16) (.seq (.reg [⟨some 17, .mov (.t 5), none⟩, ⟨some 4, .mov (.t 17), none⟩])
 (.kill (rl [(0, 2), (5, 1), (7, 2), (16, 2)]) .ret)) .skip))))))
 (.kill [5, 16] (.reg [⟨some 18, .ari .add (.t 8) (.c (.int .i64 1)), none⟩, ⟨some 8, .mov (.t 18), none⟩]))))))
def f89_b : IC := (.kill (rl [(2, 17)]) (.seq (.reg [⟨some 4, .mov (.c (.int .i64 0)), none⟩])
 (.kill [4] (.seq (.seq (.reg [⟨some 6, .mov (.t 0), none⟩, ⟨some 7, .len false (.t 6), none⟩, ⟨some 8, .mov (.c (.int .i64 0)), none⟩])
 (.kill [6] (.block 0 (.loop [0, 1, 7, 8] f89_l0))))
 (.seq (.reg [⟨some 4, .mov (.c (.int .i64 (-1))), none⟩])
 .ret)))))
def f89 : IFun := ⟨19, [.t 4], f89_b, false, false⟩
def nof : IFun := ⟨0, [], .skip, true, false⟩
def F : List IFun := [f0, f1, f2, f3, f4, f5, f6, f7, f8, f9, f10, f11, f12, f13, f14, f15, f16, f17, f18, f19, f20, f21, f22, f23, f24, f25, f26, f27, f28, f29, f30, f31, f32, f33, f34, f35, f36, f37, f38, f39, f40, f41, f42, f43, f44, f45, f46, f47, f48, f49, f50, f51, f52, f53, f54, f55, f56, f57, f58, f59, f60, f61, f62, f63, f64, f65, f66, f67, f68, f69, f70, f71, f72, f73, f74, f75, f76, f77, f78, f79, f80, f81, f82, f83, f84, f85, f86, f87, f88, f89]
theorem F0 : F[0]? = some f0 := rfl
theorem F1 : F[1]? = some f1 := rfl
theorem F2 : F[2]? = some f2 := rfl
theorem F3 : F[3]? = some f3 := rfl
theorem F4 : F[4]? = some f4 := rfl
theorem F5 : F[5]? = some f5 := rfl
theorem F6 : F[6]? = some f6 := rfl
theorem F7 : F[7]? = some f7 := rfl
theorem F8 : F[8]? = some f8 := rfl
theorem F9 : F[9]? = some f9 := rfl
theorem F10 : F[10]? = some f10 := rfl
theorem F11 : F[11]? = some f11 := rfl
theorem F12 : F[12]? = some f12 := rfl
theorem F13 : F[13]? = some f13 := rfl
theorem F14 : F[14]? = some f14 := rfl
theorem F15 : F[15]? = some f15 := rfl
theorem F16 : F[16]? = some f16 := rfl
theorem F17 : F[17]? = some f17 := rfl
theorem F18 : F[18]? = some f18 := rfl
theorem F19 : F[19]? = some f19 := rfl
theorem F20 : F[20]? = some f20 := rfl
theorem F21 : F[21]? = some f21 := rfl
theorem F22 : F[22]? = some f22 := rfl
theorem F23 : F[23]? = some f23 := rfl
theorem F24 : F[24]? = some f24 := rfl
theorem F25 : F[25]? = some f25 := rfl
theorem F26 : F[26]? = some f26 := rfl
theorem F27 : F[27]? = some f27 := rfl
theorem F28 : F[28]? = some f28 := rfl
theorem F29 : F[29]? = some f29 := rfl
theorem F30 : F[30]? = some f30 := rfl
theorem F31 : F[31]? = some f31 := rfl
theorem F32 : F[32]? = some f32 := rfl
theorem F33 : F[33]? = some f33 := rfl
theorem F34 : F[34]? = some f34 := rfl
theorem F35 : F[35]? = some f35 := rfl
theorem F36 : F[36]? = some f36 := rfl
theorem F37 : F[37]? = some f37 := rfl
theorem F38 : F[38]? = some f38 := rfl
theorem F39 : F[39]? = some f39 := rfl
theorem F40 : F[40]? = some f40 := rfl
theorem F41 : F[41]? = some f41 := rfl
theorem F42 : F[42]? = some f42 := rfl
theorem F43 : F[43]? = some f43 := rfl
theorem F44 : F[44]? = some f44 := rfl
theorem F45 : F[45]? = some f45 := rfl
theorem F46 : F[46]? = some f46 := rfl
theorem F47 : F[47]? = some f47 := rfl
theorem F48 : F[48]? = some f48 := rfl
theorem F49 : F[49]? = some f49 := rfl
theorem F50 : F[50]? = some f50 := rfl
theorem F51 : F[51]? = some f51 := rfl
theorem F52 : F[52]? = some f52 := rfl
theorem F53 : F[53]? = some f53 := rfl
theorem F54 : F[54]? = some f54 := rfl
theorem F55 : F[55]? = some f55 := rfl
theorem F56 : F[56]? = some f56 := rfl
theorem F57 : F[57]? = some f57 := rfl
theorem F58 : F[58]? = some f58 := rfl
theorem F59 : F[59]? = some f59 := rfl
theorem F60 : F[60]? = some f60 := rfl
theorem F61 : F[61]? = some f61 := rfl
theorem F62 : F[62]? = some f62 := rfl
theorem F63 : F[63]? = some f63 := rfl
theorem F64 : F[64]? = some f64 := rfl
theorem F65 : F[65]? = some f65 := rfl
theorem F66 : F[66]? = some f66 := rfl
theorem F67 : F[67]? = some f67 := rfl
theorem F68 : F[68]? = some f68 := rfl
theorem F69 : F[69]? = some f69 := rfl
theorem F70 : F[70]? = some f70 := rfl
theorem F71 : F[71]? = some f71 := rfl
theorem F72 : F[72]? = some f72 := rfl
theorem F73 : F[73]? = some f73 := rfl
theorem F74 : F[74]? = some f74 := rfl
theorem F75 : F[75]? = some f75 := rfl
theorem F76 : F[76]? = some f76 := rfl
theorem F77 : F[77]? = some f77 := rfl
theorem F78 : F[78]? = some f78 := rfl
theorem F79 : F[79]? = some f79 := rfl
theorem F80 : F[80]? = some f80 := rfl
theorem F81 : F[81]? = some f81 := rfl
theorem F82 : F[82]? = some f82 := rfl
theorem F83 : F[83]? = some f83 := rfl
theorem F84 : F[84]? = some f84 := rfl
theorem F85 : F[85]? = some f85 := rfl
theorem F86 : F[86]? = some f86 := rfl
theorem F87 : F[87]? = some f87 := rfl
theorem F88 : F[88]? = some f88 := rfl
theorem F89 : F[89]? = some f89 := rfl
end Go.Ev
