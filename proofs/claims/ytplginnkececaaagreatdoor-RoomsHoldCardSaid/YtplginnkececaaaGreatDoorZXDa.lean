/- The engine's functions that jitney/jitkeep2.RoomsHold reaches. No condition. MADE BY PROGRAM (xgen). -/
import Derived.Test.YtplginnkececaaaGreatDoorZYB
import Derived.Test.YtplginnkececaaaGreatDoorProg
set_option maxRecDepth 100000
namespace Go.Proofs.YtplginnkececaaaGreatDoor
open Go
namespace X
abbrev tp (t : Nat) : Arg := .tmp t
abbrev mv (d s : Nat) : XOper := ⟨some d, none, .mov (.tmp s)⟩
abbrev op (d : Nat) (o : XOp) : XOper := ⟨some d, none, o⟩
def b6_0 : XCode := .seq (.seq (.region [op 60 (.bin .lss (.one .int) (tp 59) (tp 58))] [])
 (.seq (.cond (tp 60) (.skip)
 (.exit 0))
 (.seq (.block 1 (.seq (.region [op 61 (.indexAddr 10 (tp 57) (tp 59)),
 op 62 (.load (some 10) (tp 61)),
 op 14 (.box 10 (.const (.agg [(.str []), (.str []), (.str []), (.str []), (.int .i64 0), (.int .i64 0), (.int .i64 0), (.int .i64 0), (.int .i64 0), (.int .i64 0)]))),
 ⟨none, none, .store 10 (tp 14) (tp 62)⟩] [])
 (.seq (.region [mv 63 5,
 op 64 (.fieldAddr 0 (tp 14)),
 op 65 (.load (some 8) (tp 64)),
 op 66 (.call (.const (.func (.func 50) [])) [(tp 63), (tp 65)]),
 mv 15 66] [])
 (.seq (.region [mv 67 15,
 op 68 (.bin .geq (.one .int) (tp 67) (.const (.int .i64 0))),
 mv 69 68,
 ⟨(some 70), (some (69, true)), .fieldAddr 8 (tp 14)⟩,
 ⟨(some 71), (some (69, true)), .load none (tp 70)⟩,
 ⟨(some 72), (some (69, true)), .bin .eql (.one .int) (tp 71) (.const (.int .i64 1))⟩,
 op 73 (.pick (tp 69) (tp 72) (.const (.bool false))),
 mv 74 73,
 ⟨(some 75), (some (74, true)), .mov (tp 10)⟩,
 ⟨(some 76), (some (74, true)), .fieldAddr 0 (tp 14)⟩,
 ⟨(some 77), (some (74, true)), .load (some 8) (tp 76)⟩,
 ⟨(some 78), (some (74, true)), .call (.const (.func (.func 51) [])) [(tp 75), (tp 77)]⟩,
 op 79 (.pick (tp 74) (tp 78) (.const (.bool false)))] [])
 (.cond (tp 79) (.region [mv 80 12,
 mv 81 15,
 op 82 (.indexAddr 1 (tp 80) (tp 81)),
 op 83 (.load none (tp 82)),
 op 84 (.fieldAddr 0 (tp 14)),
 op 85 (.fieldAddr 6 (tp 84)),
 op 86 (.load none (tp 85)),
 op 87 (.fieldAddr 0 (tp 14)),
 op 88 (.fieldAddr 7 (tp 87)),
 op 89 (.load none (tp 88)),
 op 90 (.bin .add (.one .int) (tp 86) (tp 89)),
 op 91 (.bin .add (.one .int) (tp 83) (tp 90)),
 op 92 (.indexAddr 1 (tp 80) (tp 81)),
 ⟨none, none, .store 1 (tp 92) (tp 91)⟩] [])
 (.skip))))))
 (.region [op 93 (.bin .add (.one .int) (tp 59) (.const (.int .i64 1))),
 mv 59 93] []))))
 (.keep [5, 8, 10, 12, 57, 58, 59])
def b6_1 : XCode := .seq (.seq (.region [op 97 (.bin .lss (.one .int) (tp 96) (tp 95))] [])
 (.seq (.cond (tp 97) (.skip)
 (.exit 2))
 (.seq (.block 3 (.seq (.region [op 98 (.indexAddr 10 (tp 94) (tp 96)),
 op 99 (.load (some 10) (tp 98)),
 op 18 (.box 10 (.const (.agg [(.str []), (.str []), (.str []), (.str []), (.int .i64 0), (.int .i64 0), (.int .i64 0), (.int .i64 0), (.int .i64 0), (.int .i64 0)]))),
 ⟨none, none, .store 10 (tp 18) (tp 99)⟩] [])
 (.seq (.seq (.region [op 100 (.fieldAddr 8 (tp 18)),
 op 101 (.load none (tp 100)),
 op 102 (.bin .eql (.one .int) (tp 101) (.const (.int .i64 3))),
 mv 103 102,
 ⟨(some 104), (some (103, false)), .fieldAddr 8 (tp 18)⟩,
 ⟨(some 105), (some (103, false)), .load none (tp 104)⟩,
 ⟨(some 106), (some (103, false)), .bin .eql (.one .int) (tp 105) (.const (.int .i64 4))⟩,
 op 107 (.pick (tp 103) (.const (.bool true)) (tp 106)),
 mv 108 107,
 ⟨(some 109), (some (108, true)), .mov (tp 10)⟩,
 ⟨(some 110), (some (108, true)), .fieldAddr 0 (tp 18)⟩,
 ⟨(some 111), (some (108, true)), .load (some 8) (tp 110)⟩,
 ⟨(some 112), (some (108, true)), .call (.const (.func (.func 51) [])) [(tp 109), (tp 111)]⟩,
 op 113 (.pick (tp 108) (tp 112) (.const (.bool false)))] [])
 (.cond (tp 113) (.seq (.region [op 2 (.mov (.const (.bool false)))] [])
 (.ret))
 (.skip)))
 (.seq (.seq (.region [mv 114 10,
 op 115 (.fieldAddr 0 (tp 18)),
 op 116 (.load (some 8) (tp 115)),
 op 117 (.call (.const (.func (.func 51) [])) [(tp 114), (tp 116)]),
 op 118 (.un .not (tp 117))] [])
 (.cond (tp 118) (.exit 3)
 (.skip)))
 (.seq (.region [mv 119 16,
 op 120 (.bin .add (.one .int) (tp 119) (.const (.int .i64 1))),
 mv 16 120] [])
 (.seq (.region [mv 121 5,
 op 122 (.fieldAddr 0 (tp 18)),
 op 123 (.load (some 8) (tp 122)),
 op 124 (.call (.const (.func (.func 50) [])) [(tp 121), (tp 123)]),
 mv 19 124] [])
 (.seq (.region [op 125 (.fieldAddr 0 (tp 18)),
 op 126 (.fieldAddr 6 (tp 125)),
 op 127 (.load none (tp 126)),
 op 128 (.fieldAddr 0 (tp 18)),
 op 129 (.fieldAddr 7 (tp 128)),
 op 130 (.load none (tp 129)),
 op 131 (.bin .add (.one .int) (tp 127) (tp 130)),
 mv 20 131] [])
 (.seq (.region [op 132 (.fieldAddr 8 (tp 18)),
 op 133 (.load none (tp 132)),
 op 134 (.bin .eql (.one .int) (tp 133) (.const (.int .i64 2))),
 mv 135 134,
 ⟨(some 136), (some (135, true)), .mov (tp 19)⟩,
 ⟨(some 137), (some (135, true)), .bin .geq (.one .int) (tp 136) (.const (.int .i64 0))⟩,
 op 138 (.pick (tp 135) (tp 137) (.const (.bool false))),
 mv 139 138,
 ⟨(some 140), (some (139, true)), .mov (tp 12)⟩,
 ⟨(some 141), (some (139, true)), .mov (tp 19)⟩,
 ⟨(some 142), (some (139, true)), .indexAddr 1 (tp 140) (tp 141)⟩,
 ⟨(some 143), (some (139, true)), .load none (tp 142)⟩,
 ⟨(some 144), (some (139, true)), .mov (tp 20)⟩,
 ⟨(some 145), (some (139, true)), .bin .add (.one .int) (tp 143) (tp 144)⟩,
 ⟨(some 146), (some (139, true)), .mov (tp 5)⟩,
 ⟨(some 147), (some (139, true)), .mov (tp 19)⟩,
 ⟨(some 148), (some (139, true)), .indexAddr 3 (tp 146) (tp 147)⟩,
 ⟨(some 149), (some (139, true)), .fieldAddr 2 (tp 148)⟩,
 ⟨(some 150), (some (139, true)), .load none (tp 149)⟩,
 ⟨(some 151), (some (139, true)), .bin .leq (.one .int) (tp 145) (tp 150)⟩,
 op 152 (.pick (tp 139) (tp 151) (.const (.bool false))),
 mv 153 152,
 ⟨(some 154), (some (153, false)), .fieldAddr 8 (tp 18)⟩,
 ⟨(some 155), (some (153, false)), .load none (tp 154)⟩,
 ⟨(some 156), (some (153, false)), .bin .eql (.one .int) (tp 155) (.const (.int .i64 1))⟩,
 ⟨(some 157), (some (153, false)), .mov (tp 156)⟩,
 ⟨(some 158), (some (157, true)), .mov (tp 19)⟩,
 ⟨(some 159), (some (157, true)), .bin .lss (.one .int) (tp 158) (.const (.int .i64 0))⟩,
 ⟨(some 160), (some (157, true)), .mov (tp 159)⟩,
 ⟨(some 161), (some (160, false)), .mov (tp 12)⟩,
 ⟨(some 162), (some (160, false)), .mov (tp 19)⟩,
 ⟨(some 163), (some (160, false)), .indexAddr 1 (tp 161) (tp 162)⟩,
 ⟨(some 164), (some (160, false)), .load none (tp 163)⟩,
 ⟨(some 165), (some (160, false)), .mov (tp 5)⟩,
 ⟨(some 166), (some (160, false)), .mov (tp 19)⟩,
 ⟨(some 167), (some (160, false)), .indexAddr 3 (tp 165) (tp 166)⟩,
 ⟨(some 168), (some (160, false)), .fieldAddr 2 (tp 167)⟩,
 ⟨(some 169), (some (160, false)), .load none (tp 168)⟩,
 ⟨(some 170), (some (160, false)), .bin .gtr (.one .int) (tp 164) (tp 169)⟩,
 ⟨(some 171), (some (157, true)), .pick (tp 160) (.const (.bool true)) (tp 170)⟩,
 ⟨(some 172), (some (153, false)), .pick (tp 157) (tp 171) (.const (.bool false))⟩,
 op 173 (.pick (tp 153) (.const (.bool true)) (tp 172))] [])
 (.cond (tp 173) (.seq (.region [op 2 (.mov (.const (.bool false)))] [])
 (.ret))
 (.skip))))))))))
 (.region [op 174 (.bin .add (.one .int) (tp 96) (.const (.int .i64 1))),
 mv 96 174] []))))
 (.keep [5, 10, 12, 16, 94, 95, 96])
def x6 : XFunc := ⟨1, [.tmp 2],
 .seq (.region [op 2 (.mov (.const (.bool false)))] [])
 (.seq (.region [mv 21 0,
 op 22 (.build [.nilslice, (.int .i64 0)] [(0, 1, (tp 21))]),
 op 23 (.box 2 (tp 22)),
 mv 3 23] [])
 (.seq (.region [mv 24 3,
 op 25 (.call (.const (.func (.func 46) [])) [(tp 24)]),
 mv 26 3,
 op 27 (.call (.const (.func (.func 47) [])) [(tp 26)]),
 mv 28 3,
 mv 29 3,
 op 30 (.call (.const (.func (.func 11) [])) [(tp 29), (.const (.int .i64 0)), (.const (.int .i64 18))]),
 op 31 (.call (.const (.func (.func 48) [])) [(tp 28), (tp 30)]),
 mv 32 3,
 op 33 (.call (.const (.func (.func 11) [])) [(tp 32), (.const (.int .i64 0)), (.const (.int .i64 120))]),
 mv 4 25,
 mv 5 27,
 mv 6 31,
 mv 7 33] [])
 (.seq (.region [mv 35 4,
 mv 36 5,
 mv 37 6,
 mv 38 7,
 op 39 (.call (.const (.func (.func 14) [])) [(tp 35), (tp 36), (tp 37), (tp 38)]),
 mv 34 39,
 op 40 (.extract (tp 34) 0),
 op 41 (.extract (tp 34) 1),
 mv 8 40,
 mv 9 41] [])
 (.seq (.region [mv 43 4,
 mv 44 6,
 mv 45 7,
 op 46 (.call (.const (.func (.func 38) [])) [(tp 43), (tp 44), (tp 45)]),
 mv 42 46,
 op 47 (.extract (tp 42) 0),
 op 48 (.extract (tp 42) 1),
 mv 10 47,
 mv 11 48] [])
 (.seq (.seq (.region [mv 49 9,
 mv 50 11,
 op 51 (.lit 1 [(.int .i64 0), (.int .i64 0)] [(0, (tp 49)), (1, (tp 50))] false),
 op 52 (.call (.const (.func (.func 49) [])) [(tp 51)]),
 op 53 (.bin .neq (.one .int) (tp 52) (.const (.int .i64 0)))] [])
 (.cond (tp 53) (.seq (.region [op 2 (.mov (.const (.bool false)))] [])
 (.ret))
 (.skip)))
 (.seq (.region [mv 54 5,
 op 55 (.len .slice (tp 54)),
 op 56 (.mkSlice 1 8 (.int .i64 0) (tp 55) (tp 55)),
 mv 12 56] [])
 (.seq (.seq (.region [mv 57 8,
 op 58 (.len .slice (tp 57)),
 op 59 (.mov (.const (.int .i64 0)))] [])
 (.block 0 (.seq (.keep [5, 8, 10, 12, 57, 58, 59])
 (.loop b6_0))))
 (.seq (.region [op 16 (.mov (.const (.int .i64 0)))] [])
 (.seq (.seq (.region [mv 94 8,
 op 95 (.len .slice (tp 94)),
 op 96 (.mov (.const (.int .i64 0)))] [])
 (.block 2 (.seq (.keep [5, 10, 12, 16, 94, 95, 96])
 (.loop b6_1))))
 (.seq (.region [mv 175 16,
 mv 176 10,
 op 177 (.len .slice (tp 176)),
 op 178 (.bin .eql (.one .int) (tp 175) (tp 177)),
 mv 179 178,
 ⟨(some 180), (some (179, true)), .call (.const (.func (.func 52) [])) []⟩,
 op 181 (.pick (tp 179) (tp 180) (.const (.bool false))),
 mv 2 181] [])
 (.ret)))))))))))⟩
def b10_0 : XCode := .seq (.seq (.region [op 11 (.bin .lss (.one .int) (tp 10) (tp 9))] [])
 (.seq (.cond (tp 11) (.skip)
 (.exit 0))
 (.seq (.block 1 (.seq (.region [mv 12 6,
 mv 13 0,
 op 14 (.lit 1 [(.int .i64 0), (.int .i64 0), (.int .i64 0), (.int .i64 0), (.int .i64 0), (.int .i64 0)] [(0, (.const (.int .i64 0))), (1, (.const (.int .i64 1))), (2, (.const (.int .i64 2))), (3, (.const (.int .i64 5))), (4, (.const (.int .i64 10))), (5, (.const (.int .i64 20)))] false),
 op 15 (.call (.const (.func (.func 12) [])) [(tp 13), (tp 14)]),
 op 16 (.bin .add (.one .int) (tp 12) (tp 15)),
 mv 6 16] [])
 (.seq (.region [mv 17 6,
 mv 18 0,
 op 19 (.lit 1 [(.int .i64 0), (.int .i64 0), (.int .i64 0), (.int .i64 0), (.int .i64 0), (.int .i64 0)] [(0, (.const (.int .i64 1))), (1, (.const (.int .i64 1))), (2, (.const (.int .i64 1))), (3, (.const (.int .i64 2))), (4, (.const (.int .i64 3))), (5, (.const (.int .i64 4)))] false),
 op 20 (.call (.const (.func (.func 12) [])) [(tp 18), (tp 19)]),
 mv 21 0,
 mv 22 6,
 op 23 (.call (.const (.func (.func 55) [])) [(tp 21), (tp 22)]),
 op 24 (.build [(.int .i64 0), (.int .i64 0), (.str []), (.str []), (.str []), (.str []), (.int .i64 0), (.int .i64 0), (.int .i64 0), (.int .i64 0)] [(0, 1, (tp 17)), (1, 1, (tp 20)), (2, 8, (tp 23))]),
 op 7 (.box 10 (.const (.agg [(.int .i64 0), (.int .i64 0), (.str []), (.str []), (.str []), (.str []), (.int .i64 0), (.int .i64 0), (.int .i64 0), (.int .i64 0)]))),
 ⟨none, none, .store 10 (tp 7) (tp 24)⟩] [])
 (.seq (.seq (.region [op 25 (.fieldAddr 1 (tp 7)),
 op 26 (.load none (tp 25)),
 op 27 (.bin .neq (.one .int) (tp 26) (.const (.int .i64 1))),
 mv 28 27,
 ⟨(some 29), (some (28, true)), .mov (tp 5)⟩,
 ⟨(some 30), (some (28, true)), .len .slice (tp 29)⟩,
 ⟨(some 31), (some (28, true)), .bin .gtr (.one .int) (tp 30) (.const (.int .i64 0))⟩,
 op 32 (.pick (tp 28) (tp 31) (.const (.bool false))),
 mv 33 32,
 ⟨(some 34), (some (33, true)), .mov (tp 0)⟩,
 ⟨(some 35), (some (33, true)), .call (.const (.func (.func 33) [])) [(tp 34), (.const (.int .i64 5))]⟩,
 ⟨(some 36), (some (33, true)), .un .not (tp 35)⟩,
 op 37 (.pick (tp 33) (tp 36) (.const (.bool false)))] [])
 (.cond (tp 37) (.seq (.region [mv 38 5,
 mv 39 0,
 mv 40 5,
 op 41 (.len .slice (tp 40)),
 op 42 (.call (.const (.func (.func 35) [])) [(tp 39), (tp 41)]),
 op 43 (.indexAddr 10 (tp 38) (tp 42)),
 op 44 (.fieldAddr 2 (tp 43)),
 op 45 (.load (some 8) (tp 44)),
 op 8 (.box 8 (.const (.agg [(.str []), (.str []), (.str []), (.str []), (.int .i64 0), (.int .i64 0), (.int .i64 0), (.int .i64 0)]))),
 ⟨none, none, .store 8 (tp 8) (tp 45)⟩] [])
 (.region [op 46 (.fieldAddr 0 (tp 8)),
 op 47 (.load none (tp 46)),
 op 48 (.fieldAddr 1 (tp 8)),
 op 49 (.load none (tp 48)),
 op 50 (.fieldAddr 2 (tp 7)),
 op 51 (.fieldAddr 0 (tp 50)),
 ⟨none, none, .store 1 (tp 51) (tp 47)⟩,
 op 52 (.fieldAddr 2 (tp 7)),
 op 53 (.fieldAddr 1 (tp 52)),
 ⟨none, none, .store 1 (tp 53) (tp 49)⟩] [((tp 48), (tp 51))]))
 (.skip)))
 (.seq (.seq (.region [op 54 (.fieldAddr 1 (tp 7)),
 op 55 (.load none (tp 54)),
 op 56 (.bin .gtr (.one .int) (tp 55) (.const (.int .i64 2)))] [])
 (.cond (tp 56) (.region [op 57 (.fieldAddr 2 (tp 7)),
 op 58 (.fieldAddr 0 (tp 57)),
 op 59 (.load none (tp 58)),
 op 60 (.fieldAddr 2 (tp 7)),
 op 61 (.fieldAddr 1 (tp 60)),
 op 62 (.load none (tp 61)),
 op 63 (.build [(.str []), (.str []), (.str []), (.str []), (.int .i64 0), (.int .i64 0), (.int .i64 0), (.int .i64 0)] [(0, 1, (tp 59)), (1, 1, (tp 62))]),
 op 64 (.fieldAddr 2 (tp 7)),
 ⟨none, none, .store 8 (tp 64) (tp 63)⟩] [])
 (.skip)))
 (.seq (.seq (.region [mv 65 0,
 op 66 (.call (.const (.func (.func 33) [])) [(tp 65), (.const (.int .i64 60))])] [])
 (.cond (tp 66) (.region [mv 67 0,
 op 68 (.fieldAddr 2 (tp 7)),
 op 69 (.load (some 8) (tp 68)),
 op 70 (.call (.const (.func (.func 56) [])) [(tp 67), (tp 69)]),
 op 71 (.fieldAddr 2 (tp 7)),
 ⟨none, none, .store 8 (tp 71) (tp 70)⟩] [])
 (.skip)))
 (.seq (.seq (.region [mv 72 0,
 op 73 (.call (.const (.func (.func 33) [])) [(tp 72), (.const (.int .i64 100))])] [])
 (.cond (tp 73) (.region [mv 74 0,
 op 75 (.call (.const (.func (.func 54) [])) [(tp 74), (.const (.int .i64 0)), (.const (.int .i64 100))]),
 mv 76 0,
 op 77 (.call (.const (.func (.func 54) [])) [(tp 76), (.const (.int .i64 1)), (.const (.int .i64 4))]),
 op 78 (.fieldAddr 0 (tp 7)),
 ⟨none, none, .store 1 (tp 78) (tp 75)⟩,
 op 79 (.fieldAddr 1 (tp 7)),
 ⟨none, none, .store 1 (tp 79) (tp 77)⟩] [])
 (.skip)))
 (.region [mv 80 5,
 op 81 (.load (some 10) (tp 7)),
 op 82 (.lit 10 [(.agg [(.int .i64 0), (.int .i64 0), (.str []), (.str []), (.str []), (.str []), (.int .i64 0), (.int .i64 0), (.int .i64 0), (.int .i64 0)])] [(0, (tp 81))] false),
 op 83 (.append 10 112 (tp 80) (tp 82)),
 mv 5 83] []))))))))
 (.region [op 84 (.bin .add (.one .int) (tp 10) (.const (.int .i64 1))),
 mv 10 84] []))))
 (.keep [0, 5, 6, 9, 10])
def x10 : XFunc := ⟨2, [.tmp 4],
 .seq (.region [op 4 (.mov (.const .nilslice))] [])
 (.seq (.region [op 5 (.mov (.const .nilslice))] [])
 (.seq (.region [op 6 (.mov (.const (.int .i64 0)))] [])
 (.seq (.seq (.region [mv 9 1,
 op 10 (.mov (.const (.int .i64 0)))] [])
 (.block 0 (.seq (.keep [0, 5, 6, 9, 10])
 (.loop b10_0))))
 (.seq (.region [mv 85 5,
 op 86 (.call (.const (.func (.func 57) [])) [(tp 85), (.const (.func (.func 58) []))])] [])
 (.seq (.seq (.region [mv 87 0,
 op 88 (.call (.const (.func (.func 33) [])) [(tp 87), (.const (.int .i64 60))])] [])
 (.cond (tp 88) (.seq (.region [mv 89 5,
 mv 4 89] [])
 (.ret))
 (.skip)))
 (.seq (.region [mv 90 5,
 op 91 (.call (.const (.func (.func 59) [])) [(tp 90), (.const (.func (.func 60) []))]),
 mv 4 91] [])
 (.ret)))))))⟩
def x11 : XFunc := ⟨3, [.tmp 6],
 .seq (.region [op 6 (.mov (.const (.int .i64 0)))] [])
 (.seq (.seq (.region [mv 7 2,
 mv 8 1,
 op 9 (.bin .lss (.one .int) (tp 7) (tp 8))] [])
 (.cond (tp 9) (.seq (.region [mv 10 1,
 mv 6 10] [])
 (.ret))
 (.skip)))
 (.seq (.region [mv 11 1,
 mv 12 0,
 mv 13 2,
 mv 14 1,
 op 15 (.bin .sub (.one .int) (tp 13) (tp 14)),
 op 16 (.bin .add (.one .int) (tp 15) (.const (.int .i64 1))),
 op 17 (.call (.const (.func (.func 35) [])) [(tp 12), (tp 16)]),
 op 18 (.bin .add (.one .int) (tp 11) (tp 17)),
 mv 6 18] [])
 (.ret)))⟩
def x12 : XFunc := ⟨2, [.tmp 4],
 .seq (.region [op 4 (.mov (.const (.int .i64 0)))] [])
 (.seq (.region [mv 5 1,
 mv 6 0,
 mv 7 1,
 op 8 (.len .slice (tp 7)),
 op 9 (.call (.const (.func (.func 35) [])) [(tp 6), (tp 8)]),
 op 10 (.indexAddr 1 (tp 5) (tp 9)),
 op 11 (.load none (tp 10)),
 mv 4 11] [])
 (.ret))⟩
def x13 : XFunc := ⟨2, [.tmp 4],
 .seq (.region [op 4 (.mov (.const (.str [])))] [])
 (.seq (.region [mv 5 1,
 mv 6 0,
 mv 7 1,
 op 8 (.len .slice (tp 7)),
 op 9 (.call (.const (.func (.func 35) [])) [(tp 6), (tp 8)]),
 op 10 (.indexAddr 1 (tp 5) (tp 9)),
 op 11 (.load none (tp 10)),
 mv 4 11] [])
 (.ret))⟩
def b14_0 : XCode := .seq (.seq (.region [op 34 (.bin .lss (.one .int) (tp 33) (tp 32))] [])
 (.seq (.cond (tp 34) (.skip)
 (.exit 0))
 (.seq (.block 1 (.seq (.region [op 35 (.indexAddr 1 (tp 31) (tp 33)),
 op 36 (.load none (tp 35)),
 mv 13 36] [])
 (.region [mv 37 11,
 mv 38 13,
 op 39 (.nilCheck (tp 38)),
 op 40 (.fieldAddr 0 (tp 39)),
 op 41 (.load (some 10) (tp 40)),
 op 42 (.lit 10 [(.agg [(.str []), (.str []), (.str []), (.str []), (.int .i64 0), (.int .i64 0), (.int .i64 0), (.int .i64 0), (.int .i64 0), (.int .i64 0)])] [(0, (tp 41))] false),
 op 43 (.append 10 112 (tp 37) (tp 42)),
 mv 11 43] [])))
 (.region [op 44 (.bin .add (.one .int) (tp 33) (.const (.int .i64 1))),
 mv 33 44] []))))
 (.keep [11, 31, 32, 33])
def x14 : XFunc := ⟨4, [.tmp 8, .tmp 9],
 .seq (.region [op 8 (.mov (.const .nilslice)),
 op 9 (.mov (.const (.int .i64 0)))] [])
 (.seq (.seq (.region [mv 14 0,
 mv 15 1,
 mv 16 2,
 op 17 (.call (.const (.func (.func 61) [])) [(tp 14), (tp 15), (tp 16)]),
 mv 10 17] [])
 (.seq (.region [mv 18 10,
 op 19 (.bin .neq (.one .int) (tp 18) (.const (.int .i64 0)))] [])
 (.cond (tp 19) (.seq (.region [mv 20 10,
 op 8 (.mov (.const .nilslice)),
 mv 9 20] [])
 (.ret))
 (.skip))))
 (.seq (.seq (.region [mv 21 3,
 op 22 (.call (.const (.func (.func 62) [])) [(tp 21)]),
 op 23 (.un .not (tp 22))] [])
 (.cond (tp 23) (.seq (.region [op 8 (.mov (.const .nilslice)),
 op 9 (.mov (.const (.int .i64 1)))] [])
 (.ret))
 (.skip)))
 (.seq (.region [op 11 (.mov (.const .nilslice))] [])
 (.seq (.seq (.region [mv 24 0,
 mv 25 1,
 mv 26 2,
 mv 27 3,
 op 28 (.call (.const (.func (.func 63) [])) [(tp 24), (tp 25), (tp 26), (tp 27)]),
 op 29 (.nilCheck (tp 28)),
 op 30 (.fieldAddr 3 (tp 29)),
 op 31 (.load none (tp 30)),
 op 32 (.len .slice (tp 31)),
 op 33 (.mov (.const (.int .i64 0)))] [])
 (.block 0 (.seq (.keep [11, 31, 32, 33])
 (.loop b14_0))))
 (.seq (.region [mv 45 11,
 op 46 (.call (.const (.func (.func 64) [])) [(tp 45), (.const (.func (.func 65) []))])] [])
 (.seq (.region [mv 47 11,
 mv 8 47,
 op 9 (.mov (.const (.int .i64 0)))] [])
 (.ret)))))))⟩
def b19_0 : XCode := .seq (.seq (.region [op 12 (.bin .lss (.one .int) (tp 11) (tp 10))] [])
 (.seq (.cond (tp 12) (.skip)
 (.exit 0))
 (.seq (.block 1 (.seq (.region [mv 13 11,
 op 14 (.indexAddr 10 (tp 9) (tp 11)),
 op 15 (.load (some 10) (tp 14)),
 op 4 (.box 10 (.const (.agg [(.int .i64 0), (.int .i64 0), (.str []), (.str []), (.str []), (.str []), (.int .i64 0), (.int .i64 0), (.int .i64 0), (.int .i64 0)]))),
 mv 3 13,
 ⟨none, none, .store 10 (tp 4) (tp 15)⟩] [])
 (.seq (.block 2 (.seq (.region [op 17 (.fieldAddr 0 (tp 4)),
 op 18 (.load none (tp 17)),
 op 19 (.call (.const (.func (.func 71) [])) [(tp 18)]),
 op 20 (.un .not (tp 19)),
 mv 16 20] [])
 (.cond (tp 16) (.seq (.region [op 2 (.mov (.const (.int .i64 1)))] [])
 (.ret))
 (.seq (.region [op 22 (.fieldAddr 1 (tp 4)),
 op 23 (.load none (tp 22)),
 op 24 (.call (.const (.func (.func 70) [])) [(tp 23), (.const (.int .i64 1)), (.const (.int .i64 4))]),
 op 25 (.un .not (tp 24)),
 mv 21 25] [])
 (.cond (tp 21) (.seq (.region [op 2 (.mov (.const (.int .i64 4)))] [])
 (.ret))
 (.skip))))))
 (.seq (.seq (.region [op 26 (.fieldAddr 1 (tp 4)),
 op 27 (.load none (tp 26)),
 op 28 (.bin .eql (.one .int) (tp 27) (.const (.int .i64 1))),
 mv 29 28,
 ⟨(some 30), (some (29, false)), .fieldAddr 1 (tp 4)⟩,
 ⟨(some 31), (some (29, false)), .load none (tp 30)⟩,
 ⟨(some 32), (some (29, false)), .bin .eql (.one .int) (tp 31) (.const (.int .i64 2))⟩,
 op 33 (.pick (tp 29) (.const (.bool true)) (tp 32))] [])
 (.cond (tp 33) (.seq (.region [op 34 (.fieldAddr 2 (tp 4)),
 op 35 (.load (some 8) (tp 34)),
 op 36 (.call (.const (.func (.func 72) [])) [(tp 35)]),
 mv 5 36] [])
 (.seq (.region [mv 37 5,
 op 38 (.bin .neq (.one .int) (tp 37) (.const (.int .i64 0)))] [])
 (.cond (tp 38) (.seq (.region [mv 39 5,
 mv 2 39] [])
 (.ret))
 (.skip))))
 (.seq (.region [op 40 (.fieldAddr 2 (tp 4)),
 op 41 (.fieldAddr 0 (tp 40)),
 op 42 (.load none (tp 41)),
 op 43 (.call (.const (.func (.func 30) [])) [(tp 42)]),
 op 44 (.un .not (tp 43)),
 mv 45 44,
 ⟨(some 46), (some (45, false)), .fieldAddr 2 (tp 4)⟩,
 ⟨(some 47), (some (45, false)), .fieldAddr 1 (tp 46)⟩,
 ⟨(some 48), (some (45, false)), .load none (tp 47)⟩,
 ⟨(some 49), (some (45, false)), .call (.const (.func (.func 30) [])) [(tp 48)]⟩,
 ⟨(some 50), (some (45, false)), .un .not (tp 49)⟩,
 op 51 (.pick (tp 45) (.const (.bool true)) (tp 50))] [])
 (.cond (tp 51) (.seq (.region [op 2 (.mov (.const (.int .i64 5)))] [])
 (.ret))
 (.seq (.region [op 52 (.fieldAddr 2 (tp 4)),
 op 53 (.load (some 8) (tp 52)),
 op 54 (.fieldAddr 2 (tp 4)),
 op 55 (.fieldAddr 0 (tp 54)),
 op 56 (.load none (tp 55)),
 op 57 (.fieldAddr 2 (tp 4)),
 op 58 (.fieldAddr 1 (tp 57)),
 op 59 (.load none (tp 58)),
 op 60 (.build [(.str []), (.str []), (.str []), (.str []), (.int .i64 0), (.int .i64 0), (.int .i64 0), (.int .i64 0)] [(0, 1, (tp 56)), (1, 1, (tp 59))]),
 op 61 (.bin .neq (.agg [.str, .str, .str, .str, .int, .int, .int, .int]) (tp 53) (tp 60))] [])
 (.cond (tp 61) (.seq (.region [op 2 (.mov (.const (.int .i64 3)))] [])
 (.ret))
 (.skip)))))))
 (.seq (.region [mv 62 3,
 op 63 (.bin .gtr (.one .int) (tp 62) (.const (.int .i64 0))),
 mv 64 63,
 ⟨(some 65), (some (64, true)), .mov (tp 0)⟩,
 ⟨(some 66), (some (64, true)), .mov (tp 3)⟩,
 ⟨(some 67), (some (64, true)), .bin .sub (.one .int) (tp 66) (.const (.int .i64 1))⟩,
 ⟨(some 68), (some (64, true)), .indexAddr 10 (tp 65) (tp 67)⟩,
 ⟨(some 69), (some (64, true)), .load (some 10) (tp 68)⟩,
 ⟨(some 70), (some (64, true)), .load (some 10) (tp 4)⟩,
 ⟨(some 71), (some (64, true)), .call (.const (.func (.func 58) [])) [(tp 69), (tp 70)]⟩,
 ⟨(some 72), (some (64, true)), .bin .geq (.one .int) (tp 71) (.const (.int .i64 0))⟩,
 op 73 (.pick (tp 64) (tp 72) (.const (.bool false)))] [])
 (.cond (tp 73) (.seq (.region [op 2 (.mov (.const (.int .i64 7)))] [])
 (.ret))
 (.skip)))))))
 (.region [op 74 (.bin .add (.one .int) (tp 11) (.const (.int .i64 1))),
 mv 11 74] []))))
 (.keep [0, 9, 10, 11])
def x19 : XFunc := ⟨1, [.tmp 2],
 .seq (.region [op 2 (.mov (.const (.int .i64 0)))] [])
 (.seq (.seq (.region [mv 6 0,
 op 7 (.len .slice (tp 6)),
 op 8 (.bin .gtr (.one .int) (tp 7) (.const (.int .i64 2000)))] [])
 (.cond (tp 8) (.seq (.region [op 2 (.mov (.const (.int .i64 2)))] [])
 (.ret))
 (.skip)))
 (.seq (.seq (.region [mv 9 0,
 op 10 (.len .slice (tp 9)),
 op 11 (.mov (.const (.int .i64 0)))] [])
 (.block 0 (.seq (.keep [0, 9, 10, 11])
 (.loop b19_0))))
 (.seq (.region [op 2 (.mov (.const (.int .i64 0)))] [])
 (.ret))))⟩
def x30 : XFunc := ⟨1, [.tmp 2],
 .seq (.region [op 2 (.mov (.const (.bool false)))] [])
 (.seq (.region [mv 3 0,
 op 4 (.len (.one .str) (tp 3)),
 op 5 (.call (.const (.func (.func 70) [])) [(tp 4), (.const (.int .i64 1)), (.const (.int .i64 40))]),
 mv 6 5,
 ⟨(some 7), (some (6, true)), .mov (tp 0)⟩,
 ⟨(some 8), (some (6, true)), .sliceStr (tp 7) none (some (.const (.int .i64 1)))⟩,
 ⟨(some 9), (some (6, true)), .call (.const (.func (.func 90) [])) [(tp 8), (.const (.str [97, 98, 99, 100, 101, 102, 103, 104, 105, 106, 107, 108, 109, 110, 111, 112, 113, 114, 115, 116, 117, 118, 119, 120, 121, 122]))]⟩,
 op 10 (.pick (tp 6) (tp 9) (.const (.bool false))),
 mv 11 10,
 ⟨(some 12), (some (11, true)), .mov (tp 0)⟩,
 ⟨(some 13), (some (11, true)), .call (.const (.func (.func 90) [])) [(tp 12), (.const (.str [97, 98, 99, 100, 101, 102, 103, 104, 105, 106, 107, 108, 109, 110, 111, 112, 113, 114, 115, 116, 117, 118, 119, 120, 121, 122, 48, 49, 50, 51, 52, 53, 54, 55, 56, 57, 45, 95]))]⟩,
 op 14 (.pick (tp 11) (tp 13) (.const (.bool false))),
 mv 2 14] [])
 (.ret))⟩
def x33 : XFunc := ⟨2, [.tmp 4],
 .seq (.region [op 4 (.mov (.const (.bool false)))] [])
 (.seq (.region [mv 5 0,
 mv 6 1,
 op 7 (.call (.const (.func (.func 35) [])) [(tp 5), (tp 6)]),
 op 8 (.bin .eql (.one .int) (tp 7) (.const (.int .i64 0))),
 mv 4 8] [])
 (.ret))⟩
def x35 : XFunc := ⟨2, [.tmp 4],
 .seq (.region [op 4 (.mov (.const (.int .i64 0)))] [])
 (.seq (.region [mv 7 0,
 op 8 (.nilCheck (tp 7)),
 op 9 (.fieldAddr 1 (tp 8)),
 op 10 (.load none (tp 9)),
 op 11 (.bin .add (.one .int) (tp 10) (.const (.int .i64 1))),
 op 12 (.nilCheck (tp 7)),
 op 13 (.fieldAddr 1 (tp 12)),
 ⟨none, none, .store 1 (tp 13) (tp 11)⟩] [])
 (.seq (.seq (.region [mv 14 0,
 op 15 (.nilCheck (tp 14)),
 op 16 (.fieldAddr 0 (tp 15)),
 op 17 (.load none (tp 16)),
 op 18 (.len .slice (tp 17)),
 op 19 (.bin .eql (.one .int) (tp 18) (.const (.int .i64 0)))] [])
 (.cond (tp 19) (.seq (.region [mv 20 0,
 op 21 (.nilCheck (tp 20)),
 op 22 (.fieldAddr 1 (tp 21)),
 op 23 (.load none (tp 22)),
 op 24 (.bin .mul (.one .int) (tp 23) (.const (.int .i64 7919))),
 mv 25 1,
 op 26 (.call (.const (.func (.func 97) [])) [(tp 24), (tp 25)]),
 mv 4 26] [])
 (.ret))
 (.skip)))
 (.seq (.region [mv 27 0,
 op 28 (.nilCheck (tp 27)),
 op 29 (.fieldAddr 1 (tp 28)),
 op 30 (.load none (tp 29)),
 op 31 (.bin .sub (.one .int) (tp 30) (.const (.int .i64 1))),
 mv 32 0,
 op 33 (.nilCheck (tp 32)),
 op 34 (.fieldAddr 0 (tp 33)),
 op 35 (.load none (tp 34)),
 op 36 (.len .slice (tp 35)),
 op 37 (.bin .rem (.one .int) (tp 31) (tp 36)),
 mv 5 37] [])
 (.seq (.region [mv 38 0,
 op 39 (.nilCheck (tp 38)),
 op 40 (.fieldAddr 1 (tp 39)),
 op 41 (.load none (tp 40)),
 op 42 (.bin .sub (.one .int) (tp 41) (.const (.int .i64 1))),
 mv 43 0,
 op 44 (.nilCheck (tp 43)),
 op 45 (.fieldAddr 0 (tp 44)),
 op 46 (.load none (tp 45)),
 op 47 (.len .slice (tp 46)),
 op 48 (.bin .quo (.one .int) (tp 42) (tp 47)),
 mv 6 48] [])
 (.seq (.region [mv 49 0,
 op 50 (.nilCheck (tp 49)),
 op 51 (.fieldAddr 0 (tp 50)),
 op 52 (.load none (tp 51)),
 mv 53 5,
 op 54 (.indexAddr 1 (tp 52) (tp 53)),
 op 55 (.load none (tp 54)),
 op 56 (.call (.const (.func (.func 97) [])) [(tp 55), (.const (.int .i64 1073741824))]),
 mv 57 6,
 mv 58 5,
 op 59 (.bin .add (.one .int) (.const (.int .i64 7919)) (tp 58)),
 op 60 (.bin .mul (.one .int) (tp 57) (tp 59)),
 op 61 (.bin .add (.one .int) (tp 56) (tp 60)),
 mv 62 1,
 op 63 (.call (.const (.func (.func 97) [])) [(tp 61), (tp 62)]),
 mv 4 63] [])
 (.ret))))))⟩
def b38_0 : XCode := .seq (.seq (.region [op 33 (.bin .lss (.one .int) (tp 32) (tp 31))] [])
 (.seq (.cond (tp 33) (.skip)
 (.exit 0))
 (.seq (.block 1 (.seq (.region [op 34 (.indexAddr 1 (tp 30) (tp 32)),
 op 35 (.load none (tp 34)),
 mv 11 35] [])
 (.seq (.region [mv 36 11,
 op 37 (.nilCheck (tp 36)),
 op 38 (.fieldAddr 10 (tp 37)),
 op 39 (.load none (tp 38))] [])
 (.cond (tp 39) (.region [mv 40 9,
 mv 41 11,
 op 42 (.nilCheck (tp 41)),
 op 43 (.fieldAddr 0 (tp 42)),
 op 44 (.fieldAddr 0 (tp 43)),
 op 45 (.load (some 8) (tp 44)),
 op 46 (.lit 8 [(.agg [(.str []), (.str []), (.str []), (.str []), (.int .i64 0), (.int .i64 0), (.int .i64 0), (.int .i64 0)])] [(0, (tp 45))] false),
 op 47 (.append 8 96 (tp 40) (tp 46)),
 mv 9 47] [])
 (.skip)))))
 (.region [op 48 (.bin .add (.one .int) (tp 32) (.const (.int .i64 1))),
 mv 32 48] []))))
 (.keep [9, 30, 31, 32])
def x38 : XFunc := ⟨3, [.tmp 6, .tmp 7],
 .seq (.region [op 6 (.mov (.const .nilslice)),
 op 7 (.mov (.const (.int .i64 0)))] [])
 (.seq (.seq (.region [mv 12 0,
 op 13 (.call (.const (.func (.func 87) [])) [(tp 12)]),
 mv 14 1,
 op 15 (.call (.const (.func (.func 39) [])) [(tp 14)]),
 op 16 (.lit 1 [(.int .i64 0), (.int .i64 0)] [(0, (tp 13)), (1, (tp 15))] false),
 op 17 (.call (.const (.func (.func 86) [])) [(tp 16)]),
 mv 8 17] [])
 (.seq (.region [mv 18 8,
 op 19 (.bin .neq (.one .int) (tp 18) (.const (.int .i64 0)))] [])
 (.cond (tp 19) (.seq (.region [mv 20 8,
 op 6 (.mov (.const .nilslice)),
 mv 7 20] [])
 (.ret))
 (.skip))))
 (.seq (.seq (.region [mv 21 2,
 op 22 (.call (.const (.func (.func 62) [])) [(tp 21)]),
 op 23 (.un .not (tp 22))] [])
 (.cond (tp 23) (.seq (.region [op 6 (.mov (.const .nilslice)),
 op 7 (.mov (.const (.int .i64 1)))] [])
 (.ret))
 (.skip)))
 (.seq (.region [op 9 (.mov (.const .nilslice))] [])
 (.seq (.seq (.region [mv 24 0,
 mv 25 1,
 mv 26 2,
 op 27 (.call (.const (.func (.func 63) [])) [(tp 24), (.const .nilslice), (tp 25), (tp 26)]),
 op 28 (.nilCheck (tp 27)),
 op 29 (.fieldAddr 3 (tp 28)),
 op 30 (.load none (tp 29)),
 op 31 (.len .slice (tp 30)),
 op 32 (.mov (.const (.int .i64 0)))] [])
 (.block 0 (.seq (.keep [9, 30, 31, 32])
 (.loop b38_0))))
 (.seq (.region [mv 49 9,
 op 50 (.call (.const (.func (.func 101) [])) [(tp 49), (.const (.func (.func 102) []))])] [])
 (.seq (.region [mv 51 9,
 mv 6 51,
 op 7 (.mov (.const (.int .i64 0)))] [])
 (.ret)))))))⟩
def b39_0 : XCode := .seq (.seq (.region [op 12 (.bin .lss (.one .int) (tp 11) (tp 10))] [])
 (.seq (.cond (tp 12) (.skip)
 (.exit 0))
 (.seq (.block 1 (.seq (.region [mv 13 11,
 op 14 (.indexAddr 10 (tp 9) (tp 11)),
 op 15 (.load (some 10) (tp 14)),
 op 4 (.box 10 (.const (.agg [(.int .i64 0), (.int .i64 0), (.str []), (.str []), (.str []), (.str []), (.int .i64 0), (.int .i64 0), (.int .i64 0), (.int .i64 0)]))),
 mv 3 13,
 ⟨none, none, .store 10 (tp 4) (tp 15)⟩] [])
 (.seq (.seq (.region [op 16 (.load (some 10) (tp 4)),
 op 17 (.call (.const (.func (.func 103) [])) [(tp 16)]),
 mv 5 17] [])
 (.seq (.region [mv 18 5,
 op 19 (.bin .neq (.one .int) (tp 18) (.const (.int .i64 0)))] [])
 (.cond (tp 19) (.seq (.region [mv 20 5,
 mv 2 20] [])
 (.ret))
 (.skip))))
 (.seq (.region [mv 21 3,
 op 22 (.bin .gtr (.one .int) (tp 21) (.const (.int .i64 0))),
 mv 23 22,
 ⟨(some 24), (some (23, true)), .load (some 10) (tp 4)⟩,
 ⟨(some 25), (some (23, true)), .mov (tp 0)⟩,
 ⟨(some 26), (some (23, true)), .mov (tp 3)⟩,
 ⟨(some 27), (some (23, true)), .bin .sub (.one .int) (tp 26) (.const (.int .i64 1))⟩,
 ⟨(some 28), (some (23, true)), .indexAddr 10 (tp 25) (tp 27)⟩,
 ⟨(some 29), (some (23, true)), .load (some 10) (tp 28)⟩,
 ⟨(some 30), (some (23, true)), .call (.const (.func (.func 99) [])) [(tp 24), (tp 29)]⟩,
 ⟨(some 31), (some (23, true)), .bin .leq (.one .int) (tp 30) (.const (.int .i64 0))⟩,
 op 32 (.pick (tp 23) (tp 31) (.const (.bool false)))] [])
 (.cond (tp 32) (.seq (.region [op 2 (.mov (.const (.int .i64 7)))] [])
 (.ret))
 (.skip))))))
 (.region [op 33 (.bin .add (.one .int) (tp 11) (.const (.int .i64 1))),
 mv 11 33] []))))
 (.keep [0, 9, 10, 11])
def x39 : XFunc := ⟨1, [.tmp 2],
 .seq (.region [op 2 (.mov (.const (.int .i64 0)))] [])
 (.seq (.seq (.region [mv 6 0,
 op 7 (.len .slice (tp 6)),
 op 8 (.bin .gtr (.one .int) (tp 7) (.const (.int .i64 2000)))] [])
 (.cond (tp 8) (.seq (.region [op 2 (.mov (.const (.int .i64 2)))] [])
 (.ret))
 (.skip)))
 (.seq (.seq (.region [mv 9 0,
 op 10 (.len .slice (tp 9)),
 op 11 (.mov (.const (.int .i64 0)))] [])
 (.block 0 (.seq (.keep [0, 9, 10, 11])
 (.loop b39_0))))
 (.seq (.region [op 2 (.mov (.const (.int .i64 0)))] [])
 (.ret))))⟩
def x46 : XFunc := ⟨1, [.tmp 2],
 .seq (.region [op 2 (.mov (.const .nilslice))] [])
 (.seq (.region [mv 4 0,
 op 5 (.lit 1 [(.int .i64 0), (.int .i64 0), (.int .i64 0), (.int .i64 0)] [(0, (.const (.int .i64 1))), (1, (.const (.int .i64 2))), (2, (.const (.int .i64 3))), (3, (.const (.int .i64 9)))] false),
 op 6 (.call (.const (.func (.func 12) [])) [(tp 4), (tp 5)]),
 mv 7 0,
 op 8 (.lit 1 [(.int .i64 0), (.int .i64 0), (.int .i64 0)] [(0, (.const (.int .i64 2))), (1, (.const (.int .i64 4))), (2, (.const (.int .i64 9)))] false),
 op 9 (.call (.const (.func (.func 12) [])) [(tp 7), (tp 8)]),
 op 10 (.build [(.str []), (.int .i64 0), (.int .i64 0)] [(0, 1, (.const (.str [97, 110, 110]))), (1, 1, (tp 6)), (2, 1, (tp 9))]),
 op 11 (.build [(.str []), (.int .i64 0), (.int .i64 0)] [(0, 1, (.const (.str [98, 111, 98]))), (1, 1, (.const (.int .i64 9))), (2, 1, (.const (.int .i64 20)))]),
 mv 12 0,
 op 13 (.lit 1 [(.int .i64 0), (.int .i64 0), (.int .i64 0)] [(0, (.const (.int .i64 0))), (1, (.const (.int .i64 1))), (2, (.const (.int .i64 5)))] false),
 op 14 (.call (.const (.func (.func 12) [])) [(tp 12), (tp 13)]),
 op 15 (.build [(.str []), (.int .i64 0), (.int .i64 0)] [(0, 1, (.const (.str [99, 105, 100]))), (1, 1, (tp 14)), (2, 1, (.const (.int .i64 5)))]),
 op 16 (.lit 3 [(.agg [(.str []), (.int .i64 0), (.int .i64 0)]), (.agg [(.str []), (.int .i64 0), (.int .i64 0)]), (.agg [(.str []), (.int .i64 0), (.int .i64 0)])] [(0, (tp 10)), (1, (tp 11)), (2, (tp 15))] false),
 mv 3 16] [])
 (.seq (.region [mv 17 3,
 mv 18 0,
 op 19 (.lit 1 [(.int .i64 0), (.int .i64 0), (.int .i64 0), (.int .i64 0)] [(0, (.const (.int .i64 2))), (1, (.const (.int .i64 3))), (2, (.const (.int .i64 3))), (3, (.const (.int .i64 3)))] false),
 op 20 (.call (.const (.func (.func 12) [])) [(tp 18), (tp 19)]),
 op 21 (.sliceSl 3 (tp 17) none (some (tp 20))),
 mv 2 21] [])
 (.ret)))⟩
def b47_0 : XCode := .seq (.seq (.region [op 12 (.bin .lss (.one .int) (tp 11) (tp 10))] [])
 (.seq (.cond (tp 12) (.skip)
 (.exit 0))
 (.seq (.block 1 (.seq (.region [mv 13 4,
 mv 14 0,
 op 15 (.lit 1 [(.int .i64 0), (.int .i64 0), (.int .i64 0)] [(0, (.const (.int .i64 20))), (1, (.const (.int .i64 40))), (2, (.const (.int .i64 100)))] false),
 op 16 (.call (.const (.func (.func 12) [])) [(tp 14), (tp 15)]),
 op 17 (.bin .add (.one .int) (tp 13) (tp 16)),
 mv 5 17] [])
 (.seq (.region [mv 18 3,
 mv 19 4,
 mv 20 5,
 op 21 (.build [(.int .i64 0), (.int .i64 0)] [(0, 1, (tp 19)), (1, 1, (tp 20))]),
 mv 22 0,
 op 23 (.lit 1 [(.int .i64 0), (.int .i64 0), (.int .i64 0), (.int .i64 0), (.int .i64 0)] [(0, (.const (.int .i64 0))), (1, (.const (.int .i64 1))), (2, (.const (.int .i64 2))), (3, (.const (.int .i64 3))), (4, (.const (.int .i64 5)))] false),
 op 24 (.call (.const (.func (.func 12) [])) [(tp 22), (tp 23)]),
 op 25 (.build [(.int .i64 0), (.int .i64 0), (.int .i64 0)] [(0, 2, (tp 21)), (2, 1, (tp 24))]),
 op 26 (.lit 3 [(.agg [(.int .i64 0), (.int .i64 0), (.int .i64 0)])] [(0, (tp 25))] false),
 op 27 (.append 3 24 (tp 18) (tp 26)),
 mv 3 27] [])
 (.region [mv 28 5,
 mv 29 0,
 op 30 (.lit 1 [(.int .i64 0), (.int .i64 0), (.int .i64 0)] [(0, (.const (.int .i64 0))), (1, (.const (.int .i64 0))), (2, (.const (.int .i64 10)))] false),
 op 31 (.call (.const (.func (.func 12) [])) [(tp 29), (tp 30)]),
 op 32 (.bin .add (.one .int) (tp 28) (tp 31)),
 mv 4 32] []))))
 (.region [op 33 (.bin .add (.one .int) (tp 11) (.const (.int .i64 1))),
 mv 11 33] []))))
 (.keep [0, 3, 4, 10, 11])
def x47 : XFunc := ⟨1, [.tmp 2],
 .seq (.region [op 2 (.mov (.const .nilslice))] [])
 (.seq (.region [op 3 (.mov (.const .nilslice))] [])
 (.seq (.region [mv 6 0,
 op 7 (.lit 1 [(.int .i64 0), (.int .i64 0), (.int .i64 0)] [(0, (.const (.int .i64 0))), (1, (.const (.int .i64 0))), (2, (.const (.int .i64 10)))] false),
 op 8 (.call (.const (.func (.func 12) [])) [(tp 6), (tp 7)]),
 mv 4 8] [])
 (.seq (.seq (.region [mv 9 0,
 op 10 (.call (.const (.func (.func 11) [])) [(tp 9), (.const (.int .i64 0)), (.const (.int .i64 3))]),
 op 11 (.mov (.const (.int .i64 0)))] [])
 (.block 0 (.seq (.keep [0, 3, 4, 10, 11])
 (.loop b47_0))))
 (.seq (.region [mv 34 3,
 mv 2 34] [])
 (.ret)))))⟩
def b48_0 : XCode := .seq (.seq (.region [op 7 (.bin .lss (.one .int) (tp 6) (.const (.int .i64 5)))] [])
 (.seq (.cond (tp 7) (.skip)
 (.exit 0))
 (.seq (.block 1 (.seq (.region [mv 8 0,
 mv 9 1,
 op 10 (.call (.const (.func (.func 10) [])) [(tp 8), (tp 9)]),
 mv 5 10] [])
 (.seq (.region [mv 11 5,
 op 12 (.call (.const (.func (.func 19) [])) [(tp 11)]),
 op 13 (.bin .eql (.one .int) (tp 12) (.const (.int .i64 0)))] [])
 (.cond (tp 13) (.seq (.region [mv 14 5,
 mv 4 14] [])
 (.ret))
 (.skip)))))
 (.region [op 15 (.bin .add (.one .int) (tp 6) (.const (.int .i64 1))),
 mv 6 15] []))))
 (.keep [0, 1, 6])
def x48 : XFunc := ⟨2, [.tmp 4],
 .seq (.region [op 4 (.mov (.const .nilslice))] [])
 (.seq (.seq (.region [op 6 (.mov (.const (.int .i64 0)))] [])
 (.block 0 (.seq (.keep [0, 1, 6])
 (.loop b48_0))))
 (.seq (.region [op 4 (.mov (.const .nilslice))] [])
 (.ret)))⟩
def b49_0 : XCode := .seq (.seq (.region [op 8 (.bin .lss (.one .int) (tp 7) (tp 6))] [])
 (.seq (.cond (tp 8) (.skip)
 (.exit 0))
 (.seq (.block 1 (.seq (.region [op 9 (.indexAddr 1 (tp 5) (tp 7)),
 op 10 (.load none (tp 9)),
 mv 4 10] [])
 (.seq (.region [mv 11 4,
 op 12 (.bin .neq (.one .int) (tp 11) (.const (.int .i64 0)))] [])
 (.cond (tp 12) (.seq (.region [mv 13 4,
 mv 2 13] [])
 (.ret))
 (.skip)))))
 (.region [op 14 (.bin .add (.one .int) (tp 7) (.const (.int .i64 1))),
 mv 7 14] []))))
 (.keep [5, 6, 7])
def x49 : XFunc := ⟨1, [.tmp 2],
 .seq (.region [op 2 (.mov (.const (.int .i64 0)))] [])
 (.seq (.seq (.region [mv 5 0,
 op 6 (.len .slice (tp 5)),
 op 7 (.mov (.const (.int .i64 0)))] [])
 (.block 0 (.seq (.keep [5, 6, 7])
 (.loop b49_0))))
 (.seq (.region [op 2 (.mov (.const (.int .i64 0)))] [])
 (.ret)))⟩
def x50 : XFunc := ⟨2, [.tmp 4],
 .seq (.region [op 3 (.box 8 (tp 1)),
 op 4 (.mov (.const (.int .i64 0)))] [])
 (.seq (.region [mv 5 0,
 op 6 (.mkFunc (.func 106) [(tp 3)]),
 op 7 (.call (.const (.func (.func 105) [])) [(tp 5), (tp 6)]),
 mv 4 7] [])
 (.ret))⟩
def x51 : XFunc := ⟨2, [.tmp 4],
 .seq (.region [op 3 (.box 8 (tp 1)),
 op 4 (.mov (.const (.bool false)))] [])
 (.seq (.region [mv 5 0,
 op 6 (.load (some 8) (tp 3)),
 op 7 (.call (.const (.func (.func 107) [])) [(tp 5), (tp 6)]),
 op 8 (.bin .geq (.one .int) (tp 7) (.const (.int .i64 0))),
 mv 4 8] [])
 (.ret))⟩
def x52 : XFunc := ⟨0, [.tmp 0],
 .seq (.region [op 0 (.mov (.const (.bool false)))] [])
 (.seq (.region [op 10 (.build [(.str []), (.str []), (.str []), (.str []), (.int .i64 0), (.int .i64 0), (.int .i64 0), (.int .i64 0), (.int .i64 0), (.int .i64 0), (.int .i64 0), (.int .i64 0), (.int .i64 0), .nilslice] [(0, 1, (.const (.str [115]))), (1, 1, (.const (.str [97]))), (2, 1, (.const (.str [98]))), (3, 1, (.const (.str [99]))), (5, 1, (.const (.int .i64 8))), (6, 1, (.const (.int .i64 1))), (7, 1, (.const (.int .i64 1))), (9, 1, (.const (.int .i64 5))), (11, 1, (.const (.int .i64 1)))]),
 op 11 (.call (.const (.func (.func 73) [])) [(tp 10)]),
 mv 9 11,
 op 12 (.extract (tp 9) 0),
 op 13 (.extract (tp 9) 1),
 mv 1 12,
 mv 2 13] [])
 (.seq (.region [op 15 (.build [(.str []), (.str []), (.int .i64 0)] [(0, 1, (.const (.str [97]))), (1, 1, (.const (.str [120])))]),
 op 16 (.build [(.str []), (.str []), (.int .i64 0)] [(0, 1, (.const (.str [98]))), (1, 1, (.const (.str [120])))]),
 op 17 (.build [(.str []), (.str []), (.int .i64 0)] [(0, 1, (.const (.str [98]))), (1, 1, (.const (.str [121])))]),
 op 18 (.lit 3 [(.agg [(.str []), (.str []), (.int .i64 0)]), (.agg [(.str []), (.str []), (.int .i64 0)]), (.agg [(.str []), (.str []), (.int .i64 0)])] [(0, (tp 15)), (1, (tp 16)), (2, (tp 17))] false),
 op 19 (.call (.const (.func (.func 108) [])) [(tp 18)]),
 mv 14 19,
 op 20 (.extract (tp 14) 0),
 op 21 (.extract (tp 14) 1),
 mv 3 20,
 mv 4 21] [])
 (.seq (.region [op 23 (.build [(.int .i64 0), (.int .i64 0)] [(0, 1, (.const (.int .i64 0))), (1, 1, (.const (.int .i64 5)))]),
 op 24 (.build [(.int .i64 0), (.int .i64 0)] [(0, 1, (.const (.int .i64 3))), (1, 1, (.const (.int .i64 9)))]),
 op 25 (.lit 2 [(.agg [(.int .i64 0), (.int .i64 0)]), (.agg [(.int .i64 0), (.int .i64 0)])] [(0, (tp 23)), (1, (tp 24))] false),
 op 26 (.call (.const (.func (.func 109) [])) [(tp 25)]),
 mv 22 26,
 op 27 (.extract (tp 22) 0),
 op 28 (.extract (tp 22) 1),
 mv 5 27,
 mv 6 28] [])
 (.seq (.region [op 30 (.build [(.int .i64 0), (.int .i64 0), (.int .i64 0)] [(0, 1, (.const (.int .i64 2))), (1, 1, (.const (.int .i64 3000)))]),
 op 31 (.build [(.str []), (.str []), (.str []), (.int .i64 0), (.int .i64 0)] [(0, 1, (.const (.str [97]))), (1, 1, (.const (.str [98]))), (2, 1, (.const (.str [114]))), (3, 1, (.const (.int .i64 5)))]),
 op 32 (.lit 5 [(.agg [(.str []), (.str []), (.str []), (.int .i64 0), (.int .i64 0)])] [(0, (tp 31))] false),
 op 33 (.call (.const (.func (.func 110) [])) [(tp 30), (tp 32), (.const (.str [98])), (.const (.int .i64 0))]),
 mv 29 33,
 op 34 (.extract (tp 29) 0),
 op 35 (.extract (tp 29) 1),
 op 7 (.box 2 (.const (.agg [(.int .i64 0), (.int .i64 0)]))),
 ⟨none, none, .store 2 (tp 7) (tp 34)⟩,
 mv 8 35] [])
 (.seq (.region [mv 36 2,
 mv 37 4,
 mv 38 6,
 mv 39 8,
 op 40 (.lit 1 [(.int .i64 0), (.int .i64 0), (.int .i64 0), (.int .i64 0)] [(0, (tp 36)), (1, (tp 37)), (2, (tp 38)), (3, (tp 39))] false),
 op 41 (.call (.const (.func (.func 49) [])) [(tp 40)]),
 op 42 (.bin .eql (.one .int) (tp 41) (.const (.int .i64 0))),
 mv 43 42,
 ⟨(some 44), (some (43, true)), .mov (tp 1)⟩,
 ⟨(some 45), (some (43, true)), .len .slice (tp 44)⟩,
 ⟨(some 46), (some (43, true)), .bin .eql (.one .int) (tp 45) (.const (.int .i64 2))⟩,
 op 47 (.pick (tp 43) (tp 46) (.const (.bool false))),
 mv 48 47,
 ⟨(some 49), (some (48, true)), .mov (tp 3)⟩,
 ⟨(some 50), (some (48, true)), .bin .eql (.one .int) (tp 49) (.const (.int .i64 2))⟩,
 op 51 (.pick (tp 48) (tp 50) (.const (.bool false))),
 mv 52 51,
 ⟨(some 53), (some (52, true)), .mov (tp 5)⟩,
 ⟨(some 54), (some (52, true)), .bin .eql (.one .int) (tp 53) (.const (.int .i64 2))⟩,
 op 55 (.pick (tp 52) (tp 54) (.const (.bool false))),
 mv 56 55,
 ⟨(some 57), (some (56, true)), .fieldAddr 0 (tp 7)⟩,
 ⟨(some 58), (some (56, true)), .load none (tp 57)⟩,
 ⟨(some 59), (some (56, true)), .bin .eql (.one .int) (tp 58) (.const (.int .i64 11))⟩,
 op 60 (.pick (tp 56) (tp 59) (.const (.bool false))),
 mv 0 60] [])
 (.ret))))))⟩
def x54 : XFunc := ⟨3, [.tmp 6],
 .seq (.region [op 6 (.mov (.const (.int .i64 0)))] [])
 (.seq (.seq (.region [mv 7 0,
 op 8 (.call (.const (.func (.func 33) [])) [(tp 7), (.const (.int .i64 12))])] [])
 (.cond (tp 8) (.seq (.region [mv 9 0,
 mv 10 1,
 op 11 (.bin .sub (.one .int) (tp 10) (.const (.int .i64 1))),
 mv 12 2,
 op 13 (.bin .add (.one .int) (tp 12) (.const (.int .i64 1))),
 mv 14 1,
 mv 15 2,
 op 16 (.lit 1 [(.int .i64 0), (.int .i64 0), (.int .i64 0), (.int .i64 0), (.int .i64 0), (.int .i64 0)] [(0, (tp 11)), (1, (tp 13)), (2, (tp 14)), (3, (tp 15)), (4, (.const (.int .i64 (-1099511627776)))), (5, (.const (.int .i64 1099511627776)))] false),
 op 17 (.call (.const (.func (.func 12) [])) [(tp 9), (tp 16)]),
 mv 6 17] [])
 (.ret))
 (.skip)))
 (.seq (.region [mv 18 0,
 mv 19 1,
 mv 20 2,
 op 21 (.call (.const (.func (.func 11) [])) [(tp 18), (tp 19), (tp 20)]),
 mv 6 21] [])
 (.ret)))⟩
def x55 : XFunc := ⟨2, [.cell 4 (some 8)],
 .seq (.region [op 4 (.box 8 (.const (.agg [(.str []), (.str []), (.str []), (.str []), (.int .i64 0), (.int .i64 0), (.int .i64 0), (.int .i64 0)])))] [])
 (.seq (.region [mv 6 0,
 op 7 (.lit 1 [(.str []), (.str []), (.str []), (.str []), (.str []), (.str [])] [(0, (.const (.str [114, 97]))), (1, (.const (.str [114, 98]))), (2, (.const (.str [114, 99]))), (3, (.const (.str [114, 100]))), (4, (.const (.str [114, 101]))), (5, (.const (.str [114, 102])))] false),
 op 8 (.call (.const (.func (.func 13) [])) [(tp 6), (tp 7)]),
 mv 9 0,
 op 10 (.lit 1 [(.str []), (.str []), (.str []), (.str [])] [(0, (.const (.str [97, 110, 110]))), (1, (.const (.str [97, 110, 110]))), (2, (.const (.str [98, 111, 98]))), (3, (.const (.str [99, 105, 100])))] false),
 op 11 (.call (.const (.func (.func 13) [])) [(tp 9), (tp 10)]),
 mv 12 0,
 op 13 (.lit 1 [(.str []), (.str [])] [(0, (.const (.str [104, 111, 109, 101]))), (1, (.const (.str [119, 111, 114, 107])))] false),
 op 14 (.call (.const (.func (.func 13) [])) [(tp 12), (tp 13)]),
 mv 15 0,
 op 16 (.lit 1 [(.str []), (.str [])] [(0, (.const (.str [99, 108, 117, 98]))), (1, (.const (.str [115, 104, 111, 112])))] false),
 op 17 (.call (.const (.func (.func 13) [])) [(tp 15), (tp 16)]),
 mv 18 1,
 mv 19 0,
 op 20 (.lit 1 [(.int .i64 0), (.int .i64 0), (.int .i64 0), (.int .i64 0), (.int .i64 0)] [(0, (.const (.int .i64 0))), (1, (.const (.int .i64 5))), (2, (.const (.int .i64 10))), (3, (.const (.int .i64 30))), (4, (.const (.int .i64 50)))] false),
 op 21 (.call (.const (.func (.func 12) [])) [(tp 19), (tp 20)]),
 op 22 (.bin .add (.one .int) (tp 18) (tp 21)),
 mv 23 0,
 op 24 (.lit 1 [(.int .i64 0), (.int .i64 0), (.int .i64 0), (.int .i64 0)] [(0, (.const (.int .i64 1))), (1, (.const (.int .i64 1))), (2, (.const (.int .i64 2))), (3, (.const (.int .i64 3)))] false),
 op 25 (.call (.const (.func (.func 12) [])) [(tp 23), (tp 24)]),
 mv 26 0,
 op 27 (.lit 1 [(.int .i64 0), (.int .i64 0), (.int .i64 0), (.int .i64 0)] [(0, (.const (.int .i64 0))), (1, (.const (.int .i64 0))), (2, (.const (.int .i64 0))), (3, (.const (.int .i64 1)))] false),
 op 28 (.call (.const (.func (.func 12) [])) [(tp 26), (tp 27)]),
 op 29 (.build [(.str []), (.str []), (.str []), (.str []), (.int .i64 0), (.int .i64 0), (.int .i64 0), (.int .i64 0)] [(0, 1, (tp 8)), (1, 1, (tp 11)), (2, 1, (tp 14)), (3, 1, (tp 17)), (4, 1, (tp 22)), (6, 1, (tp 25)), (7, 1, (tp 28))]),
 op 5 (.box 8 (.const (.agg [(.str []), (.str []), (.str []), (.str []), (.int .i64 0), (.int .i64 0), (.int .i64 0), (.int .i64 0)]))),
 ⟨none, none, .store 8 (tp 5) (tp 29)⟩] [])
 (.seq (.region [op 30 (.fieldAddr 4 (tp 5)),
 op 31 (.load none (tp 30)),
 mv 32 0,
 op 33 (.lit 1 [(.int .i64 0), (.int .i64 0), (.int .i64 0), (.int .i64 0)] [(0, (.const (.int .i64 1))), (1, (.const (.int .i64 10))), (2, (.const (.int .i64 20))), (3, (.const (.int .i64 40)))] false),
 op 34 (.call (.const (.func (.func 12) [])) [(tp 32), (tp 33)]),
 op 35 (.bin .add (.one .int) (tp 31) (tp 34)),
 op 36 (.fieldAddr 5 (tp 5)),
 ⟨none, none, .store 1 (tp 36) (tp 35)⟩] [((tp 30), (tp 32))])
 (.seq (.region [op 37 (.load (some 8) (tp 5)),
 ⟨none, none, .store 8 (tp 4) (tp 37)⟩] [])
 (.ret))))⟩
def x56 : XFunc := ⟨2, [.cell 4 (some 8)],
 .seq (.region [op 3 (.box 8 (tp 1)),
 op 4 (.box 8 (.const (.agg [(.str []), (.str []), (.str []), (.str []), (.int .i64 0), (.int .i64 0), (.int .i64 0), (.int .i64 0)])))] [])
 (.seq (.seq (.region [mv 5 0,
 op 6 (.call (.const (.func (.func 35) [])) [(tp 5), (.const (.int .i64 6))])] [])
 (.block 0 (.seq (.region [op 11 (.bin .eql (.one .int) (tp 6) (.const (.int .i64 0))),
 mv 10 11] [])
 (.cond (tp 10) (.region [mv 12 0,
 op 13 (.fieldAddr 0 (tp 3)),
 mv 17 0,
 op 18 (.fieldAddr 1 (tp 3)),
 op 14 (.load none (tp 13)),
 op 15 (.lit 1 [(.str []), (.str []), (.str [])] [(0, (tp 14)), (1, (.const (.str []))), (2, (.const (.str [65])))] false),
 op 19 (.load none (tp 18)),
 op 20 (.lit 1 [(.str []), (.str []), (.str [])] [(0, (tp 19)), (1, (.const (.str [66]))), (2, (.const (.str [])))] false),
 op 16 (.call (.const (.func (.func 13) [])) [(tp 12), (tp 15)]),
 op 21 (.call (.const (.func (.func 13) [])) [(tp 17), (tp 20)]),
 op 22 (.fieldAddr 0 (tp 3)),
 ⟨none, none, .store 1 (tp 22) (tp 16)⟩,
 op 23 (.fieldAddr 1 (tp 3)),
 ⟨none, none, .store 1 (tp 23) (tp 21)⟩] [((tp 18), (tp 12))])
 (.seq (.region [op 25 (.bin .eql (.one .int) (tp 6) (.const (.int .i64 1))),
 mv 24 25] [])
 (.cond (tp 24) (.region [mv 26 0,
 op 27 (.lit 1 [(.str []), (.str []), (.str [])] [(0, (.const (.str [104, 111, 109, 101]))), (1, (.const (.str []))), (2, (.const (.str [99, 108, 117, 98])))] false),
 op 28 (.call (.const (.func (.func 13) [])) [(tp 26), (tp 27)]),
 mv 29 0,
 op 30 (.lit 1 [(.str []), (.str [])] [(0, (.const (.str [99, 108, 117, 98]))), (1, (.const (.str [65])))] false),
 op 31 (.call (.const (.func (.func 13) [])) [(tp 29), (tp 30)]),
 op 32 (.fieldAddr 2 (tp 3)),
 ⟨none, none, .store 1 (tp 32) (tp 28)⟩,
 op 33 (.fieldAddr 3 (tp 3)),
 ⟨none, none, .store 1 (tp 33) (tp 31)⟩] [])
 (.seq (.region [op 35 (.bin .eql (.one .int) (tp 6) (.const (.int .i64 2))),
 mv 34 35] [])
 (.cond (tp 34) (.region [mv 36 0,
 op 37 (.call (.const (.func (.func 54) [])) [(tp 36), (.const (.int .i64 0)), (.const (.int .i64 100))]),
 op 38 (.fieldAddr 4 (tp 3)),
 ⟨none, none, .store 1 (tp 38) (tp 37)⟩] [])
 (.seq (.region [op 40 (.bin .eql (.one .int) (tp 6) (.const (.int .i64 3))),
 mv 39 40] [])
 (.cond (tp 39) (.region [mv 41 0,
 op 42 (.call (.const (.func (.func 54) [])) [(tp 41), (.const (.int .i64 0)), (.const (.int .i64 200))]),
 op 43 (.fieldAddr 5 (tp 3)),
 ⟨none, none, .store 1 (tp 43) (tp 42)⟩] [])
 (.seq (.region [op 45 (.bin .eql (.one .int) (tp 6) (.const (.int .i64 4))),
 mv 44 45] [])
 (.cond (tp 44) (.region [mv 46 0,
 op 47 (.lit 1 [(.int .i64 0), (.int .i64 0), (.int .i64 0), (.int .i64 0)] [(0, (.const (.int .i64 0))), (1, (.const (.int .i64 60))), (2, (.const (.int .i64 61))), (3, (.const (.int .i64 (-1))))] false),
 op 48 (.call (.const (.func (.func 12) [])) [(tp 46), (tp 47)]),
 mv 49 0,
 op 50 (.lit 1 [(.int .i64 0), (.int .i64 0), (.int .i64 0)] [(0, (.const (.int .i64 0))), (1, (.const (.int .i64 0))), (2, (.const (.int .i64 61)))] false),
 op 51 (.call (.const (.func (.func 12) [])) [(tp 49), (tp 50)]),
 op 52 (.fieldAddr 6 (tp 3)),
 ⟨none, none, .store 1 (tp 52) (tp 48)⟩,
 op 53 (.fieldAddr 7 (tp 3)),
 ⟨none, none, .store 1 (tp 53) (tp 51)⟩] [])
 (.region [mv 7 0,
 op 8 (.call (.const (.func (.func 54) [])) [(tp 7), (.const (.int .i64 0)), (.const (.int .i64 60))]),
 op 9 (.fieldAddr 7 (tp 3)),
 ⟨none, none, .store 1 (tp 9) (tp 8)⟩] [])))))))))))))
 (.seq (.region [op 54 (.load (some 8) (tp 3)),
 ⟨none, none, .store 8 (tp 4) (tp 54)⟩] [])
 (.ret)))⟩
def x57 : XFunc := ⟨2, [],
 .region [mv 4 0,
 mv 5 0,
 op 6 (.len .slice (tp 5)),
 mv 7 1,
 op 8 (.call (.const (.func (.func 112) [])) [(tp 4), (tp 6), (tp 7)])] []⟩
def x58 : XFunc := ⟨2, [.tmp 4],
 .seq (.region [op 2 (.box 10 (tp 0)),
 op 3 (.box 10 (tp 1)),
 op 4 (.mov (.const (.int .i64 0)))] [])
 (.seq (.block 0 (.seq (.region [op 6 (.fieldAddr 0 (tp 2)),
 op 7 (.load none (tp 6)),
 op 8 (.fieldAddr 0 (tp 3)),
 op 9 (.load none (tp 8)),
 op 10 (.bin .neq (.one .int) (tp 7) (tp 9)),
 mv 5 10] [])
 (.cond (tp 5) (.seq (.region [op 11 (.fieldAddr 0 (tp 2)),
 op 12 (.load none (tp 11)),
 op 13 (.fieldAddr 0 (tp 3)),
 op 14 (.load none (tp 13)),
 op 15 (.bin .sub (.one .int) (tp 12) (tp 14)),
 op 16 (.call (.const (.func (.func 95) [])) [(tp 15)]),
 mv 4 16] [])
 (.ret))
 (.seq (.region [op 18 (.fieldAddr 2 (tp 2)),
 op 19 (.fieldAddr 0 (tp 18)),
 op 20 (.load none (tp 19)),
 op 21 (.fieldAddr 2 (tp 3)),
 op 22 (.fieldAddr 0 (tp 21)),
 op 23 (.load none (tp 22)),
 op 24 (.bin .neq (.one .str) (tp 20) (tp 23)),
 mv 17 24] [])
 (.cond (tp 17) (.seq (.region [op 25 (.fieldAddr 2 (tp 2)),
 op 26 (.fieldAddr 0 (tp 25)),
 op 27 (.load none (tp 26)),
 op 28 (.fieldAddr 2 (tp 3)),
 op 29 (.fieldAddr 0 (tp 28)),
 op 30 (.load none (tp 29)),
 op 31 (.call (.const (.func (.func 66) [])) [(tp 27), (tp 30)]),
 mv 4 31] [])
 (.ret))
 (.skip))))))
 (.seq (.region [op 32 (.fieldAddr 1 (tp 2)),
 op 33 (.load none (tp 32)),
 op 34 (.fieldAddr 1 (tp 3)),
 op 35 (.load none (tp 34)),
 op 36 (.bin .sub (.one .int) (tp 33) (tp 35)),
 op 37 (.call (.const (.func (.func 95) [])) [(tp 36)]),
 mv 4 37] [])
 (.ret)))⟩
def b59_0 : XCode := .seq (.seq (.seq (.region [mv 32 7,
 mv 33 6,
 op 34 (.len .slice (tp 33)),
 op 35 (.bin .lss (.one .int) (tp 32) (tp 34))] [])
 (.cond (tp 35) (.skip)
 (.exit 2)))
 (.seq (.block 3 (.seq (.region [mv 38 1,
 mv 39 6,
 mv 40 7,
 op 41 (.indexAddr 10 (tp 39) (tp 40)),
 op 42 (.load (some 10) (tp 41)),
 mv 43 6,
 mv 44 7,
 op 45 (.bin .sub (.one .int) (tp 44) (.const (.int .i64 1))),
 op 46 (.indexAddr 10 (tp 43) (tp 45)),
 op 47 (.load (some 10) (tp 46)),
 op 48 (.call (tp 38) [(tp 42), (tp 47)]),
 op 49 (.un .not (tp 48))] [])
 (.cond (tp 49) (.seq (.region [mv 50 0,
 mv 51 5,
 mv 52 6,
 mv 53 7,
 op 54 (.indexAddr 10 (tp 52) (tp 53)),
 op 55 (.load (some 10) (tp 54)),
 op 56 (.indexAddr 10 (tp 50) (tp 51)),
 ⟨none, none, .store 10 (tp 56) (tp 55)⟩] [])
 (.region [mv 57 5,
 op 58 (.bin .add (.one .int) (tp 57) (.const (.int .i64 1))),
 mv 5 58] []))
 (.skip))))
 (.region [mv 36 7,
 op 37 (.bin .add (.one .int) (tp 36) (.const (.int .i64 1))),
 mv 7 37] [])))
 (.keep [0, 1, 5, 6, 7])
def b59_1 : XCode := .seq (.seq (.seq (.region [mv 12 5,
 mv 13 0,
 op 14 (.len .slice (tp 13)),
 op 15 (.bin .lss (.one .int) (tp 12) (tp 14))] [])
 (.cond (tp 15) (.skip)
 (.exit 0)))
 (.seq (.block 1 (.seq (.region [mv 18 1,
 mv 19 0,
 mv 20 5,
 op 21 (.indexAddr 10 (tp 19) (tp 20)),
 op 22 (.load (some 10) (tp 21)),
 mv 23 0,
 mv 24 5,
 op 25 (.bin .sub (.one .int) (tp 24) (.const (.int .i64 1))),
 op 26 (.indexAddr 10 (tp 23) (tp 25)),
 op 27 (.load (some 10) (tp 26)),
 op 28 (.call (tp 18) [(tp 22), (tp 27)])] [])
 (.cond (tp 28) (.seq (.region [mv 29 0,
 mv 30 5,
 op 31 (.sliceSl 10 (tp 29) (some (tp 30)) none),
 mv 6 31] [])
 (.seq (.seq (.region [op 7 (.mov (.const (.int .i64 1)))] [])
 (.block 2 (.seq (.keep [0, 1, 5, 6, 7])
 (.loop b59_0))))
 (.seq (.region [mv 59 0,
 mv 60 5,
 op 61 (.sliceSl 10 (tp 59) (some (tp 60)) none),
 ⟨none, none, .clear 10 (.agg [(.int .i64 0), (.int .i64 0), (.str []), (.str []), (.str []), (.str []), (.int .i64 0), (.int .i64 0), (.int .i64 0), (.int .i64 0)]) (tp 61)⟩] [])
 (.seq (.region [mv 62 0,
 mv 63 5,
 op 64 (.sliceSl 10 (tp 62) none (some (tp 63))),
 mv 4 64] [])
 (.ret)))))
 (.skip))))
 (.region [mv 16 5,
 op 17 (.bin .add (.one .int) (tp 16) (.const (.int .i64 1))),
 mv 5 17] [])))
 (.keep [0, 1, 5])
def x59 : XFunc := ⟨2, [.tmp 4],
 .seq (.region [op 4 (.mov (.const .nilslice))] [])
 (.seq (.seq (.region [mv 8 0,
 op 9 (.len .slice (tp 8)),
 op 10 (.bin .lss (.one .int) (tp 9) (.const (.int .i64 2)))] [])
 (.cond (tp 10) (.seq (.region [mv 11 0,
 mv 4 11] [])
 (.ret))
 (.skip)))
 (.seq (.seq (.region [op 5 (.mov (.const (.int .i64 1)))] [])
 (.block 0 (.seq (.keep [0, 1, 5])
 (.loop b59_1))))
 (.seq (.region [mv 65 0,
 mv 4 65] [])
 (.ret))))⟩
def x60 : XFunc := ⟨2, [.tmp 4],
 .seq (.region [op 2 (.box 10 (tp 0)),
 op 3 (.box 10 (tp 1)),
 op 4 (.mov (.const (.bool false)))] [])
 (.seq (.region [op 5 (.load (some 10) (tp 2)),
 op 6 (.load (some 10) (tp 3)),
 op 7 (.call (.const (.func (.func 58) [])) [(tp 5), (tp 6)]),
 op 8 (.bin .eql (.one .int) (tp 7) (.const (.int .i64 0))),
 mv 4 8] [])
 (.ret))⟩
def x61 : XFunc := ⟨3, [.tmp 6],
 .seq (.region [op 6 (.mov (.const (.int .i64 0)))] [])
 (.seq (.region [mv 7 0,
 op 8 (.call (.const (.func (.func 87) [])) [(tp 7)]),
 mv 9 1,
 op 10 (.call (.const (.func (.func 113) [])) [(tp 9)]),
 mv 11 2,
 op 12 (.call (.const (.func (.func 39) [])) [(tp 11)]),
 op 13 (.lit 1 [(.int .i64 0), (.int .i64 0), (.int .i64 0)] [(0, (tp 8)), (1, (tp 10)), (2, (tp 12))] false),
 op 14 (.call (.const (.func (.func 86) [])) [(tp 13)]),
 mv 6 14] [])
 (.ret))⟩
def x62 : XFunc := ⟨1, [.tmp 2],
 .seq (.region [op 2 (.mov (.const (.bool false)))] [])
 (.seq (.region [mv 3 0,
 op 4 (.call (.const (.func (.func 89) [])) [(tp 3), (.const (.int .i64 0)), (.const (.int .i64 345686399999))]),
 op 5 (.un .not (tp 4)),
 mv 2 5] [])
 (.ret))⟩
def b63_0 : XCode := .seq (.seq (.region [op 18 (.bin .lss (.one .int) (tp 17) (tp 16))] [])
 (.seq (.cond (tp 18) (.skip)
 (.exit 0))
 (.seq (.block 1 (.seq (.region [mv 19 17,
 op 20 (.indexAddr 10 (tp 15) (tp 17)),
 op 21 (.load (some 10) (tp 20)),
 op 11 (.box 10 (.const (.agg [(.int .i64 0), (.int .i64 0), (.str []), (.str []), (.str []), (.str []), (.int .i64 0), (.int .i64 0), (.int .i64 0), (.int .i64 0)]))),
 mv 10 19,
 ⟨none, none, .store 10 (tp 11) (tp 21)⟩] [])
 (.seq (.seq (.region [op 22 (.fieldAddr 0 (tp 11)),
 op 23 (.load none (tp 22)),
 mv 24 3,
 op 25 (.bin .gtr (.one .int) (tp 23) (tp 24))] [])
 (.cond (tp 25) (.exit 0)
 (.skip)))
 (.seq (.region [mv 26 9,
 op 27 (.fieldAddr 0 (tp 11)),
 op 28 (.load none (tp 27)),
 op 29 (.call (.const (.func (.func 115) [])) [(tp 26), (tp 28)])] [])
 (.seq (.region [mv 30 9,
 op 31 (.load (some 10) (tp 11)),
 op 32 (.call (.const (.func (.func 116) [])) [(tp 30), (tp 31)]),
 op 33 (.un .not (tp 32))] [])
 (.cond (tp 33) (.region [mv 34 9,
 mv 35 9,
 op 36 (.nilCheck (tp 35)),
 op 37 (.fieldAddr 6 (tp 36)),
 op 38 (.load none (tp 37)),
 mv 39 10,
 op 40 (.lit 1 [(.int .i64 0)] [(0, (tp 39))] false),
 op 41 (.append 1 8 (tp 38) (tp 40)),
 op 42 (.nilCheck (tp 34)),
 op 43 (.fieldAddr 6 (tp 42)),
 ⟨none, none, .store 1 (tp 43) (tp 41)⟩] [])
 (.skip)))))))
 (.region [op 44 (.bin .add (.one .int) (tp 17) (.const (.int .i64 1))),
 mv 17 44] []))))
 (.keep [3, 9, 15, 16, 17])
def x63 : XFunc := ⟨4, [.tmp 8],
 .seq (.region [op 8 (.mov (.const .nilptr))] [])
 (.seq (.region [mv 12 0,
 mv 13 1,
 op 14 (.call (.const (.func (.func 114) [])) [(tp 12), (tp 13)]),
 mv 9 14] [])
 (.seq (.seq (.region [mv 15 2,
 op 16 (.len .slice (tp 15)),
 op 17 (.mov (.const (.int .i64 0)))] [])
 (.block 0 (.seq (.keep [3, 9, 15, 16, 17])
 (.loop b63_0))))
 (.seq (.region [mv 45 9,
 mv 46 3,
 op 47 (.call (.const (.func (.func 115) [])) [(tp 45), (tp 46)])] [])
 (.seq (.region [mv 48 9,
 mv 8 48] [])
 (.ret)))))⟩
def x64 : XFunc := ⟨2, [],
 .seq (.region [mv 5 0,
 op 6 (.len .slice (tp 5)),
 mv 4 6] [])
 (.region [mv 7 0,
 mv 8 4,
 mv 9 4,
 op 10 (.convInt .u64 (tp 9)),
 op 11 (.call (.const (.func (.func 118) [])) [(tp 10)]),
 mv 12 1,
 op 13 (.call (.const (.func (.func 117) [])) [(tp 7), (.const (.int .i64 0)), (tp 8), (tp 11), (tp 12)])] [])⟩
def x65 : XFunc := ⟨2, [.tmp 4],
 .seq (.region [op 2 (.box 10 (tp 0)),
 op 3 (.box 10 (tp 1)),
 op 4 (.mov (.const (.int .i64 0)))] [])
 (.seq (.region [op 5 (.fieldAddr 0 (tp 2)),
 op 6 (.fieldAddr 0 (tp 5)),
 op 7 (.load none (tp 6)),
 op 8 (.fieldAddr 0 (tp 3)),
 op 9 (.fieldAddr 0 (tp 8)),
 op 10 (.load none (tp 9)),
 op 11 (.call (.const (.func (.func 66) [])) [(tp 7), (tp 10)]),
 mv 4 11] [])
 (.ret))⟩
def x66 : XFunc := ⟨2, [.tmp 4],
 .seq (.region [op 4 (.mov (.const (.int .i64 0)))] [])
 (.seq (.region [mv 5 0,
 mv 6 1,
 op 7 (.call (.const (.func (.func 119) [])) [(tp 5), (tp 6)]),
 mv 4 7] [])
 (.ret))⟩
def b68_0 : XCode := .seq (.seq (.region [op 14 (.bin .lss (.one .int) (tp 13) (tp 12))] [])
 (.seq (.cond (tp 14) (.skip)
 (.exit 0))
 (.seq (.block 1 (.seq (.region [op 15 (.indexAddr 1 (tp 11) (tp 13)),
 op 16 (.load none (tp 15)),
 mv 7 16] [])
 (.seq (.region [mv 17 7,
 op 18 (.nilCheck (tp 17)),
 op 19 (.fieldAddr 10 (tp 18)),
 op 20 (.load none (tp 19)),
 mv 21 20,
 ⟨(some 22), (some (21, true)), .mov (tp 7)⟩,
 ⟨(some 23), (some (21, true)), .nilCheck (tp 22)⟩,
 ⟨(some 24), (some (21, true)), .fieldAddr 0 (tp 23)⟩,
 ⟨(some 25), (some (21, true)), .fieldAddr 8 (tp 24)⟩,
 ⟨(some 26), (some (21, true)), .load none (tp 25)⟩,
 ⟨(some 27), (some (21, true)), .bin .eql (.one .int) (tp 26) (.const (.int .i64 2))⟩,
 op 28 (.pick (tp 21) (tp 27) (.const (.bool false))),
 mv 29 28,
 ⟨(some 30), (some (29, true)), .mov (tp 0)⟩,
 ⟨(some 31), (some (29, true)), .mov (tp 7)⟩,
 ⟨(some 32), (some (29, true)), .nilCheck (tp 31)⟩,
 ⟨(some 33), (some (29, true)), .fieldAddr 0 (tp 32)⟩,
 ⟨(some 34), (some (29, true)), .fieldAddr 0 (tp 33)⟩,
 ⟨(some 35), (some (29, true)), .load (some 8) (tp 34)⟩,
 ⟨(some 36), (some (29, true)), .call (.const (.func (.func 69) [])) [(tp 30), (tp 35)]⟩,
 ⟨(some 37), (some (29, true)), .mov (tp 1)⟩,
 ⟨(some 38), (some (29, true)), .bin .eql (.one .int) (tp 36) (tp 37)⟩,
 op 39 (.pick (tp 29) (tp 38) (.const (.bool false)))] [])
 (.cond (tp 39) (.region [mv 40 5,
 mv 41 7,
 op 42 (.lit 1 [.nilptr] [(0, (tp 41))] true),
 op 43 (.append 1 8 (tp 40) (tp 42)),
 mv 5 43] [])
 (.skip)))))
 (.region [op 44 (.bin .add (.one .int) (tp 13) (.const (.int .i64 1))),
 mv 13 44] []))))
 (.keep [0, 1, 5, 11, 12, 13])
def x68 : XFunc := ⟨2, [.tmp 4],
 .seq (.region [op 4 (.mov (.const .nilslice))] [])
 (.seq (.region [op 5 (.mov (.const .nilslice))] [])
 (.seq (.seq (.region [mv 8 0,
 op 9 (.nilCheck (tp 8)),
 op 10 (.fieldAddr 3 (tp 9)),
 op 11 (.load none (tp 10)),
 op 12 (.len .slice (tp 11)),
 op 13 (.mov (.const (.int .i64 0)))] [])
 (.block 0 (.seq (.keep [0, 1, 5, 11, 12, 13])
 (.loop b68_0))))
 (.seq (.region [mv 45 5,
 op 46 (.call (.const (.func (.func 120) [])) [(tp 45), (.const (.func (.func 121) []))])] [])
 (.seq (.region [mv 47 5,
 mv 4 47] [])
 (.ret)))))⟩
def x69 : XFunc := ⟨2, [.tmp 4],
 .seq (.region [op 3 (.box 8 (tp 1)),
 op 4 (.mov (.const (.int .i64 0)))] [])
 (.seq (.region [mv 5 0,
 op 6 (.nilCheck (tp 5)),
 op 7 (.fieldAddr 1 (tp 6)),
 op 8 (.load none (tp 7)),
 op 9 (.mkFunc (.func 122) [(tp 3)]),
 op 10 (.call (.const (.func (.func 105) [])) [(tp 8), (tp 9)]),
 mv 4 10] [])
 (.ret))⟩
def x70 : XFunc := ⟨3, [.tmp 6],
 .seq (.region [op 6 (.mov (.const (.bool false)))] [])
 (.seq (.region [mv 7 1,
 mv 8 0,
 op 9 (.bin .leq (.one .int) (tp 7) (tp 8)),
 mv 10 9,
 ⟨(some 11), (some (10, true)), .mov (tp 0)⟩,
 ⟨(some 12), (some (10, true)), .mov (tp 2)⟩,
 ⟨(some 13), (some (10, true)), .bin .leq (.one .int) (tp 11) (tp 12)⟩,
 op 14 (.pick (tp 10) (tp 13) (.const (.bool false))),
 mv 6 14] [])
 (.ret))⟩
def x71 : XFunc := ⟨1, [.tmp 2],
 .seq (.region [op 2 (.mov (.const (.bool false)))] [])
 (.seq (.region [mv 3 0,
 op 4 (.call (.const (.func (.func 70) [])) [(tp 3), (.const (.int .i64 0)), (.const (.int .i64 345686399999))]),
 mv 2 4] [])
 (.ret))⟩
def x72 : XFunc := ⟨1, [.tmp 2],
 .seq (.region [op 1 (.box 8 (tp 0)),
 op 2 (.mov (.const (.int .i64 0)))] [])
 (.seq (.block 0 (.seq (.region [op 4 (.fieldAddr 0 (tp 1)),
 op 5 (.load none (tp 4)),
 op 6 (.call (.const (.func (.func 30) [])) [(tp 5)]),
 op 7 (.un .not (tp 6)),
 mv 8 7,
 ⟨(some 9), (some (8, false)), .fieldAddr 1 (tp 1)⟩,
 ⟨(some 10), (some (8, false)), .load none (tp 9)⟩,
 ⟨(some 11), (some (8, false)), .call (.const (.func (.func 30) [])) [(tp 10)]⟩,
 ⟨(some 12), (some (8, false)), .un .not (tp 11)⟩,
 op 13 (.pick (tp 8) (.const (.bool true)) (tp 12)),
 mv 14 13,
 ⟨(some 15), (some (14, false)), .fieldAddr 2 (tp 1)⟩,
 ⟨(some 16), (some (14, false)), .load none (tp 15)⟩,
 ⟨(some 17), (some (14, false)), .call (.const (.func (.func 30) [])) [(tp 16)]⟩,
 ⟨(some 18), (some (14, false)), .un .not (tp 17)⟩,
 op 19 (.pick (tp 14) (.const (.bool true)) (tp 18)),
 mv 20 19,
 ⟨(some 21), (some (20, false)), .fieldAddr 3 (tp 1)⟩,
 ⟨(some 22), (some (20, false)), .load none (tp 21)⟩,
 ⟨(some 23), (some (20, false)), .call (.const (.func (.func 30) [])) [(tp 22)]⟩,
 ⟨(some 24), (some (20, false)), .un .not (tp 23)⟩,
 op 25 (.pick (tp 20) (.const (.bool true)) (tp 24)),
 mv 3 25] [])
 (.cond (tp 3) (.seq (.region [op 2 (.mov (.const (.int .i64 5)))] [])
 (.ret))
 (.seq (.region [op 27 (.fieldAddr 2 (tp 1)),
 op 28 (.load none (tp 27)),
 op 29 (.fieldAddr 3 (tp 1)),
 op 30 (.load none (tp 29)),
 op 31 (.bin .eql (.one .str) (tp 28) (tp 30)),
 mv 26 31] [])
 (.cond (tp 26) (.seq (.region [op 2 (.mov (.const (.int .i64 6)))] [])
 (.ret))
 (.seq (.region [op 33 (.fieldAddr 4 (tp 1)),
 op 34 (.load none (tp 33)),
 op 35 (.call (.const (.func (.func 71) [])) [(tp 34)]),
 op 36 (.un .not (tp 35)),
 mv 37 36,
 ⟨(some 38), (some (37, false)), .fieldAddr 5 (tp 1)⟩,
 ⟨(some 39), (some (37, false)), .load none (tp 38)⟩,
 ⟨(some 40), (some (37, false)), .fieldAddr 4 (tp 1)⟩,
 ⟨(some 41), (some (37, false)), .load none (tp 40)⟩,
 ⟨(some 42), (some (37, false)), .bin .add (.one .int) (tp 41) (.const (.int .i64 1))⟩,
 ⟨(some 43), (some (37, false)), .call (.const (.func (.func 70) [])) [(tp 39), (tp 42), (.const (.int .i64 345686400000))]⟩,
 ⟨(some 44), (some (37, false)), .un .not (tp 43)⟩,
 op 45 (.pick (tp 37) (.const (.bool true)) (tp 44)),
 mv 46 45,
 ⟨(some 47), (some (46, false)), .fieldAddr 6 (tp 1)⟩,
 ⟨(some 48), (some (46, false)), .load none (tp 47)⟩,
 ⟨(some 49), (some (46, false)), .call (.const (.func (.func 70) [])) [(tp 48), (.const (.int .i64 0)), (.const (.int .i64 60))]⟩,
 ⟨(some 50), (some (46, false)), .un .not (tp 49)⟩,
 op 51 (.pick (tp 46) (.const (.bool true)) (tp 50)),
 mv 52 51,
 ⟨(some 53), (some (52, false)), .fieldAddr 7 (tp 1)⟩,
 ⟨(some 54), (some (52, false)), .load none (tp 53)⟩,
 ⟨(some 55), (some (52, false)), .call (.const (.func (.func 70) [])) [(tp 54), (.const (.int .i64 0)), (.const (.int .i64 60))]⟩,
 ⟨(some 56), (some (52, false)), .un .not (tp 55)⟩,
 op 57 (.pick (tp 52) (.const (.bool true)) (tp 56)),
 mv 32 57] [])
 (.cond (tp 32) (.seq (.region [op 2 (.mov (.const (.int .i64 1)))] [])
 (.ret))
 (.seq (.region [op 59 (.fieldAddr 6 (tp 1)),
 op 60 (.load none (tp 59)),
 op 61 (.fieldAddr 7 (tp 1)),
 op 62 (.load none (tp 61)),
 op 63 (.bin .add (.one .int) (tp 60) (tp 62)),
 op 64 (.bin .eql (.one .int) (tp 63) (.const (.int .i64 0))),
 mv 58 64] [])
 (.cond (tp 58) (.seq (.region [op 2 (.mov (.const (.int .i64 3)))] [])
 (.ret))
 (.skip))))))))))
 (.seq (.region [op 2 (.mov (.const (.int .i64 0)))] [])
 (.ret)))⟩
def b73_0 : XCode := .seq (.seq (.seq (.region [mv 17 6,
 op 18 (.fieldAddr 5 (tp 1)),
 op 19 (.load none (tp 18)),
 op 20 (.bin .leq (.one .int) (tp 17) (tp 19))] [])
 (.cond (tp 20) (.skip)
 (.exit 0)))
 (.seq (.block 1 (.seq (.region [mv 24 6,
 op 25 (.call (.const (.func (.func 124) [])) [(tp 1), (tp 24)]),
 mv 23 25,
 op 26 (.extract (tp 23) 0),
 op 27 (.extract (tp 23) 1),
 op 7 (.box 8 (.const (.agg [(.str []), (.str []), (.str []), (.str []), (.int .i64 0), (.int .i64 0), (.int .i64 0), (.int .i64 0)]))),
 ⟨none, none, .store 8 (tp 7) (tp 26)⟩,
 mv 8 27] [])
 (.seq (.region [mv 28 8] [])
 (.cond (tp 28) (.region [mv 29 5,
 mv 30 6,
 op 31 (.lit 1 [(.int .i64 0)] [(0, (tp 30))] false),
 op 32 (.append 1 8 (tp 29) (tp 31)),
 mv 5 32] [])
 (.skip)))))
 (.region [mv 21 6,
 op 22 (.bin .add (.one .int) (tp 21) (.const (.int .i64 1))),
 mv 6 22] [])))
 (.keep [1, 5, 6])
def x73 : XFunc := ⟨1, [.tmp 2, .tmp 3],
 .seq (.region [op 1 (.box 14 (tp 0)),
 op 2 (.mov (.const .nilslice)),
 op 3 (.mov (.const (.int .i64 0)))] [])
 (.seq (.seq (.region [op 9 (.load (some 14) (tp 1)),
 op 10 (.lit 14 [(.agg [(.str []), (.str []), (.str []), (.str []), (.int .i64 0), (.int .i64 0), (.int .i64 0), (.int .i64 0), (.int .i64 0), (.int .i64 0), (.int .i64 0), (.int .i64 0), (.int .i64 0), .nilslice])] [(0, (tp 9))] true),
 op 11 (.call (.const (.func (.func 123) [])) [(tp 10)]),
 mv 4 11] [])
 (.seq (.region [mv 12 4,
 op 13 (.bin .neq (.one .int) (tp 12) (.const (.int .i64 0)))] [])
 (.cond (tp 13) (.seq (.region [mv 14 4,
 op 2 (.mov (.const .nilslice)),
 mv 3 14] [])
 (.ret))
 (.skip))))
 (.seq (.region [op 5 (.mov (.const .nilslice))] [])
 (.seq (.seq (.region [op 15 (.fieldAddr 4 (tp 1)),
 op 16 (.load none (tp 15)),
 mv 6 16] [])
 (.block 0 (.seq (.keep [1, 5, 6])
 (.loop b73_0))))
 (.seq (.region [mv 33 5,
 mv 2 33,
 op 3 (.mov (.const (.int .i64 0)))] [])
 (.ret)))))⟩
def b84_0 : XCode := .seq (.seq (.region [op 9 (.bin .lss (.one .int) (tp 8) (tp 7))] [])
 (.seq (.cond (tp 9) (.skip)
 (.exit 0))
 (.seq (.block 1 (.seq (.region [op 10 (.indexAddr 1 (tp 6) (tp 8)),
 op 11 (.load none (tp 10)),
 mv 5 11] [])
 (.seq (.region [mv 12 5,
 mv 13 3,
 op 14 (.bin .neq (.one .int) (tp 12) (tp 13))] [])
 (.cond (tp 14) (.seq (.region [mv 15 5,
 mv 2 15] [])
 (.ret))
 (.skip)))))
 (.region [op 16 (.bin .add (.one .int) (tp 8) (.const (.int .i64 1))),
 mv 8 16] []))))
 (.keep [3, 6, 7, 8])
def x84 : XFunc := ⟨1, [.tmp 2],
 .seq (.region [op 2 (.mov (.const (.int .i64 0)))] [])
 (.seq (.region [op 3 (.mov (.const (.int .i64 0)))] [])
 (.seq (.seq (.region [mv 6 0,
 op 7 (.len .slice (tp 6)),
 op 8 (.mov (.const (.int .i64 0)))] [])
 (.block 0 (.seq (.keep [3, 6, 7, 8])
 (.loop b84_0))))
 (.seq (.region [mv 17 3,
 mv 2 17] [])
 (.ret))))⟩
def x85 : XFunc := ⟨2, [.tmp 4],
 .seq (.region [op 4 (.mov (.const (.int .i64 0)))] [])
 (.seq (.region [mv 7 0,
 op 8 (.call (.const (.func (.func 130) [])) [(tp 7)]),
 mv 5 8] [])
 (.seq (.region [mv 9 1,
 op 10 (.call (.const (.func (.func 130) [])) [(tp 9)]),
 mv 6 10] [])
 (.seq (.seq (.region [mv 11 5] [])
 (.cond (tp 11) (.seq (.seq (.region [mv 12 6] [])
 (.cond (tp 12) (.seq (.region [op 4 (.mov (.const (.int .i64 0)))] [])
 (.ret))
 (.skip)))
 (.seq (.region [op 4 (.mov (.const (.int .i64 (-1))))] [])
 (.ret)))
 (.skip)))
 (.seq (.seq (.region [mv 13 6] [])
 (.cond (tp 13) (.seq (.region [op 4 (.mov (.const (.int .i64 1)))] [])
 (.ret))
 (.skip)))
 (.seq (.seq (.region [mv 14 0,
 mv 15 1,
 op 16 (.bin .lss (.one .int) (tp 14) (tp 15))] [])
 (.cond (tp 16) (.seq (.region [op 4 (.mov (.const (.int .i64 (-1))))] [])
 (.ret))
 (.skip)))
 (.seq (.seq (.region [mv 17 0,
 mv 18 1,
 op 19 (.bin .gtr (.one .int) (tp 17) (tp 18))] [])
 (.cond (tp 19) (.seq (.region [op 4 (.mov (.const (.int .i64 1)))] [])
 (.ret))
 (.skip)))
 (.seq (.region [op 4 (.mov (.const (.int .i64 0)))] [])
 (.ret))))))))⟩
def b86_0 : XCode := .seq (.seq (.region [op 8 (.bin .lss (.one .int) (tp 7) (tp 6))] [])
 (.seq (.cond (tp 8) (.skip)
 (.exit 0))
 (.seq (.block 1 (.seq (.region [op 9 (.indexAddr 1 (tp 5) (tp 7)),
 op 10 (.load none (tp 9)),
 mv 4 10] [])
 (.seq (.region [mv 11 4,
 op 12 (.bin .neq (.one .int) (tp 11) (.const (.int .i64 0)))] [])
 (.cond (tp 12) (.seq (.region [mv 13 4,
 mv 2 13] [])
 (.ret))
 (.skip)))))
 (.region [op 14 (.bin .add (.one .int) (tp 7) (.const (.int .i64 1))),
 mv 7 14] []))))
 (.keep [5, 6, 7])
def x86 : XFunc := ⟨1, [.tmp 2],
 .seq (.region [op 2 (.mov (.const (.int .i64 0)))] [])
 (.seq (.seq (.region [mv 5 0,
 op 6 (.len .slice (tp 5)),
 op 7 (.mov (.const (.int .i64 0)))] [])
 (.block 0 (.seq (.keep [5, 6, 7])
 (.loop b86_0))))
 (.seq (.region [op 2 (.mov (.const (.int .i64 0)))] [])
 (.ret)))⟩
def b87_0 : XCode := .seq (.seq (.region [op 11 (.bin .lss (.one .int) (tp 10) (tp 9))] [])
 (.seq (.cond (tp 11) (.skip)
 (.exit 0))
 (.seq (.block 1 (.seq (.region [mv 12 10,
 op 13 (.indexAddr 3 (tp 8) (tp 10)),
 op 14 (.load (some 3) (tp 13)),
 op 4 (.box 3 (.const (.agg [(.str []), (.int .i64 0), (.int .i64 0)]))),
 mv 3 12,
 ⟨none, none, .store 3 (tp 4) (tp 14)⟩] [])
 (.block 2 (.seq (.region [op 16 (.fieldAddr 0 (tp 4)),
 op 17 (.load none (tp 16)),
 op 18 (.call (.const (.func (.func 88) [])) [(tp 17)]),
 op 19 (.un .not (tp 18)),
 mv 15 19] [])
 (.cond (tp 15) (.seq (.region [op 2 (.mov (.const (.int .i64 5)))] [])
 (.ret))
 (.seq (.region [mv 21 3,
 op 22 (.bin .gtr (.one .int) (tp 21) (.const (.int .i64 0))),
 mv 23 22,
 ⟨(some 24), (some (23, true)), .fieldAddr 0 (tp 4)⟩,
 ⟨(some 25), (some (23, true)), .load none (tp 24)⟩,
 ⟨(some 26), (some (23, true)), .mov (tp 0)⟩,
 ⟨(some 27), (some (23, true)), .mov (tp 3)⟩,
 ⟨(some 28), (some (23, true)), .bin .sub (.one .int) (tp 27) (.const (.int .i64 1))⟩,
 ⟨(some 29), (some (23, true)), .indexAddr 3 (tp 26) (tp 28)⟩,
 ⟨(some 30), (some (23, true)), .fieldAddr 0 (tp 29)⟩,
 ⟨(some 31), (some (23, true)), .load none (tp 30)⟩,
 ⟨(some 32), (some (23, true)), .bin .leq (.one .str) (tp 25) (tp 31)⟩,
 op 33 (.pick (tp 23) (tp 32) (.const (.bool false))),
 mv 20 33] [])
 (.cond (tp 20) (.seq (.region [op 2 (.mov (.const (.int .i64 7)))] [])
 (.ret))
 (.seq (.region [op 35 (.fieldAddr 1 (tp 4)),
 op 36 (.load none (tp 35)),
 op 37 (.call (.const (.func (.func 89) [])) [(tp 36), (.const (.int .i64 0)), (.const (.int .i64 1000))]),
 mv 38 37,
 ⟨(some 39), (some (38, false)), .fieldAddr 2 (tp 4)⟩,
 ⟨(some 40), (some (38, false)), .load none (tp 39)⟩,
 ⟨(some 41), (some (38, false)), .call (.const (.func (.func 89) [])) [(tp 40), (.const (.int .i64 0)), (.const (.int .i64 120))]⟩,
 op 42 (.pick (tp 38) (.const (.bool true)) (tp 41)),
 mv 34 42] [])
 (.cond (tp 34) (.seq (.region [op 2 (.mov (.const (.int .i64 1)))] [])
 (.ret))
 (.skip))))))))))
 (.region [op 43 (.bin .add (.one .int) (tp 10) (.const (.int .i64 1))),
 mv 10 43] []))))
 (.keep [0, 8, 9, 10])
def x87 : XFunc := ⟨1, [.tmp 2],
 .seq (.region [op 2 (.mov (.const (.int .i64 0)))] [])
 (.seq (.seq (.region [mv 5 0,
 op 6 (.len .slice (tp 5)),
 op 7 (.bin .gtr (.one .int) (tp 6) (.const (.int .i64 500)))] [])
 (.cond (tp 7) (.seq (.region [op 2 (.mov (.const (.int .i64 2)))] [])
 (.ret))
 (.skip)))
 (.seq (.seq (.region [mv 8 0,
 op 9 (.len .slice (tp 8)),
 op 10 (.mov (.const (.int .i64 0)))] [])
 (.block 0 (.seq (.keep [0, 8, 9, 10])
 (.loop b87_0))))
 (.seq (.region [op 2 (.mov (.const (.int .i64 0)))] [])
 (.ret))))⟩
def b88_0 : XCode := .seq (.seq (.region [op 25 (.bin .lss (.one .int) (tp 24) (tp 23))] [])
 (.seq (.cond (tp 25) (.skip)
 (.exit 0))
 (.seq (.block 1 (.seq (.region [mv 26 24,
 mv 3 26] [])
 (.seq (.region [mv 27 0,
 mv 28 3,
 op 29 (.indexStr (tp 27) (tp 28)),
 mv 4 29] [])
 (.seq (.region [mv 30 4,
 op 31 (.bin .geq (.one .int) (tp 30) (.const (.int .u8 97))),
 mv 32 31,
 ⟨(some 33), (some (32, true)), .mov (tp 4)⟩,
 ⟨(some 34), (some (32, true)), .bin .leq (.one .int) (tp 33) (.const (.int .u8 122))⟩,
 op 35 (.pick (tp 32) (tp 34) (.const (.bool false))),
 mv 36 35,
 ⟨(some 37), (some (36, false)), .mov (tp 4)⟩,
 ⟨(some 38), (some (36, false)), .bin .geq (.one .int) (tp 37) (.const (.int .u8 48))⟩,
 ⟨(some 39), (some (36, false)), .mov (tp 38)⟩,
 ⟨(some 40), (some (39, true)), .mov (tp 4)⟩,
 ⟨(some 41), (some (39, true)), .bin .leq (.one .int) (tp 40) (.const (.int .u8 57))⟩,
 ⟨(some 42), (some (36, false)), .pick (tp 39) (tp 41) (.const (.bool false))⟩,
 op 43 (.pick (tp 36) (.const (.bool true)) (tp 42)),
 mv 44 43,
 ⟨(some 45), (some (44, false)), .mov (tp 4)⟩,
 ⟨(some 46), (some (44, false)), .bin .eql (.one .int) (tp 45) (.const (.int .u8 45))⟩,
 op 47 (.pick (tp 44) (.const (.bool true)) (tp 46)),
 mv 48 47,
 ⟨(some 49), (some (48, false)), .mov (tp 4)⟩,
 ⟨(some 50), (some (48, false)), .bin .eql (.one .int) (tp 49) (.const (.int .u8 95))⟩,
 op 51 (.pick (tp 48) (.const (.bool true)) (tp 50)),
 op 52 (.un .not (tp 51))] [])
 (.cond (tp 52) (.seq (.region [op 2 (.mov (.const (.bool false)))] [])
 (.ret))
 (.skip))))))
 (.region [op 53 (.bin .add (.one .int) (tp 24) (.const (.int .i64 1))),
 mv 24 53] []))))
 (.keep [0, 23, 24])
def x88 : XFunc := ⟨1, [.tmp 2],
 .seq (.region [op 2 (.mov (.const (.bool false)))] [])
 (.seq (.seq (.region [mv 5 0,
 op 6 (.bin .eql (.one .str) (tp 5) (.const (.str []))),
 mv 7 6,
 ⟨(some 8), (some (7, false)), .mov (tp 0)⟩,
 ⟨(some 9), (some (7, false)), .len (.one .str) (tp 8)⟩,
 ⟨(some 10), (some (7, false)), .bin .gtr (.one .int) (tp 9) (.const (.int .i64 40))⟩,
 op 11 (.pick (tp 7) (.const (.bool true)) (tp 10)),
 mv 12 11,
 ⟨(some 13), (some (12, false)), .mov (tp 0)⟩,
 ⟨(some 14), (some (12, false)), .indexStr (tp 13) (.const (.int .i64 0))⟩,
 ⟨(some 15), (some (12, false)), .bin .lss (.one .int) (tp 14) (.const (.int .u8 97))⟩,
 op 16 (.pick (tp 12) (.const (.bool true)) (tp 15)),
 mv 17 16,
 ⟨(some 18), (some (17, false)), .mov (tp 0)⟩,
 ⟨(some 19), (some (17, false)), .indexStr (tp 18) (.const (.int .i64 0))⟩,
 ⟨(some 20), (some (17, false)), .bin .gtr (.one .int) (tp 19) (.const (.int .u8 122))⟩,
 op 21 (.pick (tp 17) (.const (.bool true)) (tp 20))] [])
 (.cond (tp 21) (.seq (.region [op 2 (.mov (.const (.bool false)))] [])
 (.ret))
 (.skip)))
 (.seq (.seq (.region [mv 22 0,
 op 23 (.len (.one .str) (tp 22)),
 op 24 (.mov (.const (.int .i64 0)))] [])
 (.block 0 (.seq (.keep [0, 23, 24])
 (.loop b88_0))))
 (.seq (.region [op 2 (.mov (.const (.bool true)))] [])
 (.ret))))⟩
def x89 : XFunc := ⟨3, [.tmp 6],
 .seq (.region [op 6 (.mov (.const (.bool false)))] [])
 (.seq (.region [mv 7 0,
 mv 8 1,
 op 9 (.bin .lss (.one .int) (tp 7) (tp 8)),
 mv 10 9,
 ⟨(some 11), (some (10, false)), .mov (tp 0)⟩,
 ⟨(some 12), (some (10, false)), .mov (tp 2)⟩,
 ⟨(some 13), (some (10, false)), .bin .gtr (.one .int) (tp 11) (tp 12)⟩,
 op 14 (.pick (tp 10) (.const (.bool true)) (tp 13)),
 mv 6 14] [])
 (.ret))⟩
def b90_0 : XCode := .seq (.seq (.region [op 9 (.bin .lss (.one .int) (tp 8) (tp 7))] [])
 (.seq (.cond (tp 9) (.skip)
 (.exit 0))
 (.seq (.block 1 (.seq (.region [mv 10 8,
 mv 5 10] [])
 (.seq (.region [mv 11 1,
 mv 12 0,
 mv 13 5,
 op 14 (.indexStr (tp 12) (tp 13)),
 op 15 (.call (.const (.func (.func 131) [])) [(tp 11), (tp 14)]),
 op 16 (.bin .lss (.one .int) (tp 15) (.const (.int .i64 0)))] [])
 (.cond (tp 16) (.seq (.region [op 4 (.mov (.const (.bool false)))] [])
 (.ret))
 (.skip)))))
 (.region [op 17 (.bin .add (.one .int) (tp 8) (.const (.int .i64 1))),
 mv 8 17] []))))
 (.keep [0, 1, 7, 8])
def x90 : XFunc := ⟨2, [.tmp 4],
 .seq (.region [op 4 (.mov (.const (.bool false)))] [])
 (.seq (.seq (.region [mv 6 0,
 op 7 (.len (.one .str) (tp 6)),
 op 8 (.mov (.const (.int .i64 0)))] [])
 (.block 0 (.seq (.keep [0, 1, 7, 8])
 (.loop b90_0))))
 (.seq (.region [op 4 (.mov (.const (.bool true)))] [])
 (.ret)))⟩
def x95 : XFunc := ⟨1, [.tmp 2],
 .seq (.region [op 2 (.mov (.const (.int .i64 0)))] [])
 (.seq (.block 0 (.seq (.region [mv 4 0,
 op 5 (.bin .lss (.one .int) (tp 4) (.const (.int .i64 0))),
 mv 3 5] [])
 (.cond (tp 3) (.seq (.region [op 2 (.mov (.const (.int .i64 (-1))))] [])
 (.ret))
 (.seq (.region [mv 7 0,
 op 8 (.bin .gtr (.one .int) (tp 7) (.const (.int .i64 0))),
 mv 6 8] [])
 (.cond (tp 6) (.seq (.region [op 2 (.mov (.const (.int .i64 1)))] [])
 (.ret))
 (.skip))))))
 (.seq (.region [op 2 (.mov (.const (.int .i64 0)))] [])
 (.ret)))⟩
def x97 : XFunc := ⟨2, [.tmp 4],
 .seq (.region [op 4 (.mov (.const (.int .i64 0)))] [])
 (.seq (.seq (.region [mv 5 1,
 op 6 (.bin .lss (.one .int) (tp 5) (.const (.int .i64 1)))] [])
 (.cond (tp 6) (.seq (.region [op 4 (.mov (.const (.int .i64 0)))] [])
 (.ret))
 (.skip)))
 (.seq (.region [mv 7 0,
 mv 8 1,
 op 9 (.bin .rem (.one .int) (tp 7) (tp 8)),
 mv 0 9] [])
 (.seq (.seq (.region [mv 10 0,
 op 11 (.bin .lss (.one .int) (tp 10) (.const (.int .i64 0)))] [])
 (.cond (tp 11) (.region [mv 12 0,
 mv 13 1,
 op 14 (.bin .add (.one .int) (tp 12) (tp 13)),
 mv 0 14] [])
 (.skip)))
 (.seq (.region [mv 15 0,
 mv 4 15] [])
 (.ret)))))⟩
def x99 : XFunc := ⟨2, [.tmp 4],
 .seq (.region [op 2 (.box 10 (tp 0)),
 op 3 (.box 10 (tp 1)),
 op 4 (.mov (.const (.int .i64 0)))] [])
 (.seq (.region [op 5 (.fieldAddr 0 (tp 2)),
 op 6 (.load none (tp 5)),
 op 7 (.fieldAddr 0 (tp 3)),
 op 8 (.load none (tp 7)),
 op 9 (.call (.const (.func (.func 85) [])) [(tp 6), (tp 8)]),
 op 10 (.fieldAddr 2 (tp 2)),
 op 11 (.fieldAddr 0 (tp 10)),
 op 12 (.load none (tp 11)),
 op 13 (.fieldAddr 2 (tp 3)),
 op 14 (.fieldAddr 0 (tp 13)),
 op 15 (.load none (tp 14)),
 op 16 (.call (.const (.func (.func 66) [])) [(tp 12), (tp 15)]),
 op 17 (.fieldAddr 1 (tp 2)),
 op 18 (.load none (tp 17)),
 op 19 (.fieldAddr 1 (tp 3)),
 op 20 (.load none (tp 19)),
 op 21 (.call (.const (.func (.func 85) [])) [(tp 18), (tp 20)]),
 op 22 (.lit 1 [(.int .i64 0), (.int .i64 0), (.int .i64 0)] [(0, (tp 9)), (1, (tp 16)), (2, (tp 21))] false),
 op 23 (.call (.const (.func (.func 84) [])) [(tp 22)]),
 mv 4 23] [])
 (.ret))⟩
def x101 : XFunc := ⟨2, [],
 .seq (.region [mv 5 0,
 op 6 (.len .slice (tp 5)),
 mv 4 6] [])
 (.region [mv 7 0,
 mv 8 4,
 mv 9 4,
 op 10 (.convInt .u64 (tp 9)),
 op 11 (.call (.const (.func (.func 118) [])) [(tp 10)]),
 mv 12 1,
 op 13 (.call (.const (.func (.func 137) [])) [(tp 7), (.const (.int .i64 0)), (tp 8), (tp 11), (tp 12)])] [])⟩
def x102 : XFunc := ⟨2, [.tmp 4],
 .seq (.region [op 2 (.box 8 (tp 0)),
 op 3 (.box 8 (tp 1)),
 op 4 (.mov (.const (.int .i64 0)))] [])
 (.seq (.region [op 5 (.fieldAddr 0 (tp 2)),
 op 6 (.load none (tp 5)),
 op 7 (.fieldAddr 0 (tp 3)),
 op 8 (.load none (tp 7)),
 op 9 (.call (.const (.func (.func 66) [])) [(tp 6), (tp 8)]),
 mv 4 9] [])
 (.ret))⟩
def x103 : XFunc := ⟨1, [.tmp 2],
 .seq (.region [op 1 (.box 10 (tp 0)),
 op 2 (.mov (.const (.int .i64 0)))] [])
 (.seq (.block 0 (.seq (.region [op 4 (.fieldAddr 0 (tp 1)),
 op 5 (.load none (tp 4)),
 op 6 (.call (.const (.func (.func 62) [])) [(tp 5)]),
 op 7 (.un .not (tp 6)),
 mv 3 7] [])
 (.cond (tp 3) (.seq (.region [op 2 (.mov (.const (.int .i64 1)))] [])
 (.ret))
 (.seq (.region [op 9 (.fieldAddr 1 (tp 1)),
 op 10 (.load none (tp 9)),
 op 11 (.call (.const (.func (.func 89) [])) [(tp 10), (.const (.int .i64 1)), (.const (.int .i64 4))]),
 mv 8 11] [])
 (.cond (tp 8) (.seq (.region [op 2 (.mov (.const (.int .i64 4)))] [])
 (.ret))
 (.seq (.region [op 13 (.fieldAddr 1 (tp 1)),
 op 14 (.load none (tp 13)),
 op 15 (.bin .eql (.one .int) (tp 14) (.const (.int .i64 1))),
 mv 16 15,
 ⟨(some 17), (some (16, false)), .fieldAddr 1 (tp 1)⟩,
 ⟨(some 18), (some (16, false)), .load none (tp 17)⟩,
 ⟨(some 19), (some (16, false)), .bin .eql (.one .int) (tp 18) (.const (.int .i64 2))⟩,
 op 20 (.pick (tp 16) (.const (.bool true)) (tp 19)),
 mv 12 20] [])
 (.cond (tp 12) (.seq (.region [op 21 (.fieldAddr 2 (tp 1)),
 op 22 (.load (some 8) (tp 21)),
 op 23 (.call (.const (.func (.func 138) [])) [(tp 22)]),
 mv 2 23] [])
 (.ret))
 (.seq (.region [op 25 (.fieldAddr 2 (tp 1)),
 op 26 (.fieldAddr 0 (tp 25)),
 op 27 (.load none (tp 26)),
 op 28 (.fieldAddr 2 (tp 1)),
 op 29 (.fieldAddr 1 (tp 28)),
 op 30 (.load none (tp 29)),
 op 31 (.lit 1 [(.str []), (.str [])] [(0, (tp 27)), (1, (tp 30))] false),
 op 32 (.call (.const (.func (.func 139) [])) [(tp 31)]),
 op 33 (.un .not (tp 32)),
 mv 24 33] [])
 (.cond (tp 24) (.seq (.region [op 2 (.mov (.const (.int .i64 5)))] [])
 (.ret))
 (.seq (.region [op 35 (.fieldAddr 2 (tp 1)),
 op 36 (.load (some 8) (tp 35)),
 op 37 (.fieldAddr 2 (tp 1)),
 op 38 (.fieldAddr 0 (tp 37)),
 op 39 (.load none (tp 38)),
 op 40 (.fieldAddr 2 (tp 1)),
 op 41 (.fieldAddr 1 (tp 40)),
 op 42 (.load none (tp 41)),
 op 43 (.build [(.str []), (.str []), (.str []), (.str []), (.int .i64 0), (.int .i64 0), (.int .i64 0), (.int .i64 0)] [(0, 1, (tp 39)), (1, 1, (tp 42))]),
 op 44 (.bin .neq (.agg [.str, .str, .str, .str, .int, .int, .int, .int]) (tp 36) (tp 43)),
 mv 34 44] [])
 (.cond (tp 34) (.seq (.region [op 2 (.mov (.const (.int .i64 3)))] [])
 (.ret))
 (.skip))))))))))))
 (.seq (.region [op 2 (.mov (.const (.int .i64 0)))] [])
 (.ret)))⟩
def b105_0 : XCode := .seq (.seq (.region [op 9 (.bin .lss (.one .int) (tp 8) (tp 7))] [])
 (.seq (.cond (tp 9) (.skip)
 (.exit 0))
 (.seq (.block 1 (.seq (.region [mv 10 8,
 mv 5 10] [])
 (.seq (.region [mv 11 1,
 mv 12 0,
 mv 13 5,
 op 14 (.indexAddr 3 (tp 12) (tp 13)),
 op 15 (.load (some 3) (tp 14)),
 op 16 (.call (tp 11) [(tp 15)])] [])
 (.cond (tp 16) (.seq (.region [mv 17 5,
 mv 4 17] [])
 (.ret))
 (.skip)))))
 (.region [op 18 (.bin .add (.one .int) (tp 8) (.const (.int .i64 1))),
 mv 8 18] []))))
 (.keep [0, 1, 7, 8])
def x105 : XFunc := ⟨2, [.tmp 4],
 .seq (.region [op 4 (.mov (.const (.int .i64 0)))] [])
 (.seq (.seq (.region [mv 6 0,
 op 7 (.len .slice (tp 6)),
 op 8 (.mov (.const (.int .i64 0)))] [])
 (.block 0 (.seq (.keep [0, 1, 7, 8])
 (.loop b105_0))))
 (.seq (.region [op 4 (.mov (.const (.int .i64 (-1))))] [])
 (.ret)))⟩
def x106 : XFunc := ⟨2, [.tmp 3],
 .seq (.region [op 2 (.box 3 (tp 0)),
 op 3 (.mov (.const (.bool false)))] [])
 (.seq (.region [op 4 (.fieldAddr 0 (tp 2)),
 op 5 (.fieldAddr 0 (tp 4)),
 op 6 (.load none (tp 5)),
 op 7 (.fieldAddr 4 (tp 1)),
 op 8 (.load none (tp 7)),
 op 9 (.bin .leq (.one .int) (tp 6) (tp 8)),
 mv 10 9,
 ⟨(some 11), (some (10, true)), .fieldAddr 4 (tp 1)⟩,
 ⟨(some 12), (some (10, true)), .load none (tp 11)⟩,
 ⟨(some 13), (some (10, true)), .fieldAddr 0 (tp 2)⟩,
 ⟨(some 14), (some (10, true)), .fieldAddr 1 (tp 13)⟩,
 ⟨(some 15), (some (10, true)), .load none (tp 14)⟩,
 ⟨(some 16), (some (10, true)), .bin .lss (.one .int) (tp 12) (tp 15)⟩,
 op 17 (.pick (tp 10) (tp 16) (.const (.bool false))),
 mv 3 17] [])
 (.ret))⟩
def b107_0 : XCode := .seq (.seq (.region [op 9 (.bin .lss (.one .int) (tp 8) (tp 7))] [])
 (.seq (.cond (tp 9) (.skip)
 (.exit 0))
 (.seq (.block 1 (.seq (.region [mv 10 8,
 mv 5 10] [])
 (.seq (.region [op 11 (.load (some 8) (tp 3)),
 mv 12 0,
 mv 13 5,
 op 14 (.indexAddr 8 (tp 12) (tp 13)),
 op 15 (.load (some 8) (tp 14)),
 op 16 (.bin .eql (.agg [.str, .str, .str, .str, .int, .int, .int, .int]) (tp 11) (tp 15))] [])
 (.cond (tp 16) (.seq (.region [mv 17 5,
 mv 4 17] [])
 (.ret))
 (.skip)))))
 (.region [op 18 (.bin .add (.one .int) (tp 8) (.const (.int .i64 1))),
 mv 8 18] []))))
 (.keep [0, 3, 7, 8])
def x107 : XFunc := ⟨2, [.tmp 4],
 .seq (.region [op 3 (.box 8 (tp 1)),
 op 4 (.mov (.const (.int .i64 0)))] [])
 (.seq (.seq (.region [mv 6 0,
 op 7 (.len .slice (tp 6)),
 op 8 (.mov (.const (.int .i64 0)))] [])
 (.block 0 (.seq (.keep [0, 3, 7, 8])
 (.loop b107_0))))
 (.seq (.region [op 4 (.mov (.const (.int .i64 (-1))))] [])
 (.ret)))⟩
def x108 : XFunc := ⟨1, [.tmp 2, .tmp 3],
 .seq (.region [op 2 (.mov (.const (.int .i64 0))),
 op 3 (.mov (.const (.int .i64 0)))] [])
 (.seq (.seq (.region [mv 5 0,
 op 6 (.call (.const (.func (.func 140) [])) [(tp 5)]),
 mv 4 6] [])
 (.seq (.region [mv 7 4,
 op 8 (.bin .neq (.one .int) (tp 7) (.const (.int .i64 0)))] [])
 (.cond (tp 8) (.seq (.region [mv 9 4,
 op 2 (.mov (.const (.int .i64 0))),
 mv 3 9] [])
 (.ret))
 (.skip))))
 (.seq (.region [mv 10 0,
 op 11 (.call (.const (.func (.func 141) [])) [(tp 10)]),
 op 12 (.call (.const (.func (.func 142) [])) [(tp 11)]),
 mv 2 12,
 op 3 (.mov (.const (.int .i64 0)))] [])
 (.ret)))⟩
def x109 : XFunc := ⟨1, [.tmp 2, .tmp 3],
 .seq (.region [op 2 (.mov (.const (.int .i64 0))),
 op 3 (.mov (.const (.int .i64 0)))] [])
 (.seq (.seq (.region [mv 7 0,
 op 8 (.call (.const (.func (.func 143) [])) [(tp 7)]),
 mv 4 8] [])
 (.seq (.region [mv 9 4,
 op 10 (.bin .neq (.one .int) (tp 9) (.const (.int .i64 0)))] [])
 (.cond (tp 10) (.seq (.region [mv 11 4,
 op 2 (.mov (.const (.int .i64 0))),
 mv 3 11] [])
 (.ret))
 (.skip))))
 (.seq (.region [mv 13 0,
 op 14 (.call (.const (.func (.func 144) [])) [(tp 13)]),
 mv 12 14,
 op 15 (.extract (tp 12) 0),
 op 16 (.extract (tp 12) 1),
 mv 5 15,
 mv 6 16] [])
 (.seq (.region [mv 17 6,
 mv 2 17,
 op 3 (.mov (.const (.int .i64 0)))] [])
 (.ret))))⟩
def x110 : XFunc := ⟨4, [.cell 8 (some 2), .tmp 9],
 .seq (.region [op 4 (.box 3 (tp 0)),
 op 8 (.box 2 (.const (.agg [(.int .i64 0), (.int .i64 0)]))),
 op 9 (.mov (.const (.int .i64 0)))] [])
 (.seq (.seq (.region [mv 13 1,
 op 14 (.call (.const (.func (.func 145) [])) [(tp 13)]),
 op 15 (.load (some 3) (tp 4)),
 op 16 (.call (.const (.func (.func 146) [])) [(tp 15)]),
 op 17 (.lit 1 [(.int .i64 0), (.int .i64 0)] [(0, (tp 14)), (1, (tp 16))] false),
 op 18 (.call (.const (.func (.func 86) [])) [(tp 17)]),
 mv 10 18] [])
 (.seq (.region [mv 19 10,
 op 20 (.bin .neq (.one .int) (tp 19) (.const (.int .i64 0)))] [])
 (.cond (tp 20) (.seq (.region [op 21 (.build [(.int .i64 0), (.int .i64 0)] []),
 mv 22 10,
 ⟨none, none, .store 2 (tp 8) (tp 21)⟩,
 mv 9 22] [])
 (.ret))
 (.skip))))
 (.seq (.block 0 (.seq (.region [mv 24 2,
 op 25 (.call (.const (.func (.func 88) [])) [(tp 24)]),
 op 26 (.un .not (tp 25)),
 mv 23 26] [])
 (.cond (tp 23) (.seq (.region [op 27 (.build [(.int .i64 0), (.int .i64 0)] []),
 ⟨none, none, .store 2 (tp 8) (tp 27)⟩,
 op 9 (.mov (.const (.int .i64 5)))] [])
 (.ret))
 (.seq (.region [mv 29 3,
 op 30 (.call (.const (.func (.func 62) [])) [(tp 29)]),
 op 31 (.un .not (tp 30)),
 mv 28 31] [])
 (.cond (tp 28) (.seq (.region [op 32 (.build [(.int .i64 0), (.int .i64 0)] []),
 ⟨none, none, .store 2 (tp 8) (tp 32)⟩,
 op 9 (.mov (.const (.int .i64 1)))] [])
 (.ret))
 (.skip))))))
 (.seq (.region [op 34 (.load (some 3) (tp 4)),
 mv 35 1,
 mv 36 3,
 op 37 (.call (.const (.func (.func 147) [])) [(tp 34), (tp 35), (tp 36)]),
 op 38 (.load (some 3) (tp 4)),
 mv 39 2,
 op 40 (.call (.const (.func (.func 148) [])) [(tp 37), (tp 38), (tp 39)]),
 mv 33 40,
 op 41 (.extract (tp 33) 0),
 op 42 (.extract (tp 33) 1),
 op 11 (.box 2 (.const (.agg [(.int .i64 0), (.int .i64 0)]))),
 ⟨none, none, .store 2 (tp 11) (tp 41)⟩,
 mv 12 42] [])
 (.seq (.seq (.region [mv 43 12,
 op 44 (.un .not (tp 43))] [])
 (.cond (tp 44) (.seq (.region [op 45 (.build [(.int .i64 0), (.int .i64 0)] []),
 ⟨none, none, .store 2 (tp 8) (tp 45)⟩,
 op 9 (.mov (.const (.int .i64 8)))] [])
 (.ret))
 (.skip)))
 (.seq (.region [op 46 (.load (some 2) (tp 11)),
 ⟨none, none, .store 2 (tp 8) (tp 46)⟩,
 op 9 (.mov (.const (.int .i64 0)))] [])
 (.ret))))))⟩
def b112_0 : XCode := .seq (.seq (.seq (.region [mv 11 8,
 mv 12 1,
 op 13 (.bin .leq (.one .int) (tp 11) (tp 12))] [])
 (.cond (tp 13) (.skip)
 (.exit 0)))
 (.block 1 (.seq (.region [mv 14 0,
 mv 15 7,
 mv 16 8,
 mv 17 2,
 op 18 (.call (.const (.func (.func 149) [])) [(tp 14), (tp 15), (tp 16), (tp 17)])] [])
 (.seq (.region [mv 19 8,
 mv 7 19] [])
 (.region [mv 20 8,
 mv 21 6,
 op 22 (.bin .add (.one .int) (tp 20) (tp 21)),
 mv 8 22] [])))))
 (.keep [0, 1, 2, 6, 7, 8])
def b112_1 : XCode := .seq (.seq (.seq (.region [mv 33 8,
 mv 34 1,
 op 35 (.bin .leq (.one .int) (tp 33) (tp 34))] [])
 (.cond (tp 35) (.skip)
 (.exit 4)))
 (.block 5 (.seq (.region [mv 36 0,
 mv 37 7,
 mv 38 7,
 mv 39 6,
 op 40 (.bin .add (.one .int) (tp 38) (tp 39)),
 mv 41 8,
 mv 42 2,
 op 43 (.call (.const (.func (.func 150) [])) [(tp 36), (tp 37), (tp 40), (tp 41), (tp 42)])] [])
 (.seq (.region [mv 44 8,
 mv 7 44] [])
 (.region [mv 45 8,
 mv 46 6,
 op 47 (.bin .mul (.one .int) (.const (.int .i64 2)) (tp 46)),
 op 48 (.bin .add (.one .int) (tp 45) (tp 47)),
 mv 8 48] [])))))
 (.keep [0, 1, 2, 6, 7, 8])
def b112_2 : XCode := .seq (.seq (.seq (.region [mv 28 6,
 mv 29 1,
 op 30 (.bin .lss (.one .int) (tp 28) (tp 29))] [])
 (.cond (tp 30) (.skip)
 (.exit 2)))
 (.block 3 (.seq (.region [mv 31 6,
 op 32 (.bin .mul (.one .int) (.const (.int .i64 2)) (tp 31)),
 op 7 (.mov (.const (.int .i64 0))),
 mv 8 32] [])
 (.seq (.block 4 (.seq (.keep [0, 1, 2, 6, 7, 8])
 (.loop b112_1)))
 (.seq (.seq (.region [mv 49 7,
 mv 50 6,
 op 51 (.bin .add (.one .int) (tp 49) (tp 50)),
 mv 9 51] [])
 (.seq (.region [mv 52 9,
 mv 53 1,
 op 54 (.bin .lss (.one .int) (tp 52) (tp 53))] [])
 (.cond (tp 54) (.region [mv 55 0,
 mv 56 7,
 mv 57 9,
 mv 58 1,
 mv 59 2,
 op 60 (.call (.const (.func (.func 150) [])) [(tp 55), (tp 56), (tp 57), (tp 58), (tp 59)])] [])
 (.skip))))
 (.region [mv 61 6,
 op 62 (.bin .mul (.one .int) (tp 61) (.const (.int .i64 2))),
 mv 6 62] []))))))
 (.keep [0, 1, 2, 6])
def x112 : XFunc := ⟨3, [],
 .seq (.region [op 6 (.mov (.const (.int .i64 20)))] [])
 (.seq (.region [mv 10 6,
 op 7 (.mov (.const (.int .i64 0))),
 mv 8 10] [])
 (.seq (.block 0 (.seq (.keep [0, 1, 2, 6, 7, 8])
 (.loop b112_0)))
 (.seq (.region [mv 23 0,
 mv 24 7,
 mv 25 1,
 mv 26 2,
 op 27 (.call (.const (.func (.func 149) [])) [(tp 23), (tp 24), (tp 25), (tp 26)])] [])
 (.block 2 (.seq (.keep [0, 1, 2, 6])
 (.loop b112_2))))))⟩
def b113_0 : XCode := .seq (.seq (.region [op 11 (.bin .lss (.one .int) (tp 10) (tp 9))] [])
 (.seq (.cond (tp 11) (.skip)
 (.exit 0))
 (.seq (.block 1 (.seq (.region [mv 12 10,
 op 13 (.indexAddr 3 (tp 8) (tp 10)),
 op 14 (.load (some 3) (tp 13)),
 op 4 (.box 3 (.const (.agg [(.int .i64 0), (.int .i64 0), (.int .i64 0)]))),
 mv 3 12,
 ⟨none, none, .store 3 (tp 4) (tp 14)⟩] [])
 (.block 2 (.seq (.region [op 16 (.fieldAddr 0 (tp 4)),
 op 17 (.fieldAddr 0 (tp 16)),
 op 18 (.load none (tp 17)),
 op 19 (.call (.const (.func (.func 89) [])) [(tp 18), (.const (.int .i64 0)), (.const (.int .i64 345686400000))]),
 mv 20 19,
 ⟨(some 21), (some (20, false)), .fieldAddr 0 (tp 4)⟩,
 ⟨(some 22), (some (20, false)), .fieldAddr 0 (tp 21)⟩,
 ⟨(some 23), (some (20, false)), .load none (tp 22)⟩,
 ⟨(some 24), (some (20, false)), .fieldAddr 0 (tp 4)⟩,
 ⟨(some 25), (some (20, false)), .fieldAddr 1 (tp 24)⟩,
 ⟨(some 26), (some (20, false)), .load none (tp 25)⟩,
 ⟨(some 27), (some (20, false)), .bin .geq (.one .int) (tp 23) (tp 26)⟩,
 op 28 (.pick (tp 20) (.const (.bool true)) (tp 27)),
 mv 29 28,
 ⟨(some 30), (some (29, false)), .fieldAddr 0 (tp 4)⟩,
 ⟨(some 31), (some (29, false)), .fieldAddr 1 (tp 30)⟩,
 ⟨(some 32), (some (29, false)), .load none (tp 31)⟩,
 ⟨(some 33), (some (29, false)), .bin .gtr (.one .int) (tp 32) (.const (.int .i64 345686400000))⟩,
 op 34 (.pick (tp 29) (.const (.bool true)) (tp 33)),
 mv 35 34,
 ⟨(some 36), (some (35, false)), .fieldAddr 2 (tp 4)⟩,
 ⟨(some 37), (some (35, false)), .load none (tp 36)⟩,
 ⟨(some 38), (some (35, false)), .call (.const (.func (.func 89) [])) [(tp 37), (.const (.int .i64 0)), (.const (.int .i64 1000000))]⟩,
 op 39 (.pick (tp 35) (.const (.bool true)) (tp 38)),
 mv 15 39] [])
 (.cond (tp 15) (.seq (.region [op 2 (.mov (.const (.int .i64 1)))] [])
 (.ret))
 (.seq (.region [mv 41 3,
 op 42 (.bin .gtr (.one .int) (tp 41) (.const (.int .i64 0))),
 mv 43 42,
 ⟨(some 44), (some (43, true)), .fieldAddr 0 (tp 4)⟩,
 ⟨(some 45), (some (43, true)), .fieldAddr 0 (tp 44)⟩,
 ⟨(some 46), (some (43, true)), .load none (tp 45)⟩,
 ⟨(some 47), (some (43, true)), .mov (tp 0)⟩,
 ⟨(some 48), (some (43, true)), .mov (tp 3)⟩,
 ⟨(some 49), (some (43, true)), .bin .sub (.one .int) (tp 48) (.const (.int .i64 1))⟩,
 ⟨(some 50), (some (43, true)), .indexAddr 3 (tp 47) (tp 49)⟩,
 ⟨(some 51), (some (43, true)), .fieldAddr 0 (tp 50)⟩,
 ⟨(some 52), (some (43, true)), .fieldAddr 1 (tp 51)⟩,
 ⟨(some 53), (some (43, true)), .load none (tp 52)⟩,
 ⟨(some 54), (some (43, true)), .bin .lss (.one .int) (tp 46) (tp 53)⟩,
 op 55 (.pick (tp 43) (tp 54) (.const (.bool false))),
 mv 40 55] [])
 (.cond (tp 40) (.seq (.region [op 2 (.mov (.const (.int .i64 7)))] [])
 (.ret))
 (.skip))))))))
 (.region [op 56 (.bin .add (.one .int) (tp 10) (.const (.int .i64 1))),
 mv 10 56] []))))
 (.keep [0, 8, 9, 10])
def x113 : XFunc := ⟨1, [.tmp 2],
 .seq (.region [op 2 (.mov (.const (.int .i64 0)))] [])
 (.seq (.seq (.region [mv 5 0,
 op 6 (.len .slice (tp 5)),
 op 7 (.bin .gtr (.one .int) (tp 6) (.const (.int .i64 200)))] [])
 (.cond (tp 7) (.seq (.region [op 2 (.mov (.const (.int .i64 2)))] [])
 (.ret))
 (.skip)))
 (.seq (.seq (.region [mv 8 0,
 op 9 (.len .slice (tp 8)),
 op 10 (.mov (.const (.int .i64 0)))] [])
 (.block 0 (.seq (.keep [0, 8, 9, 10])
 (.loop b113_0))))
 (.seq (.region [op 2 (.mov (.const (.int .i64 0)))] [])
 (.ret))))⟩
def b114_0 : XCode := .seq (.seq (.region [op 19 (.bin .lss (.one .int) (tp 18) (tp 17))] [])
 (.seq (.cond (tp 19) (.skip)
 (.exit 0))
 (.seq (.block 1 (.seq (.region [op 20 (.indexAddr 3 (tp 16) (tp 18)),
 op 21 (.load (some 3) (tp 20)),
 op 7 (.box 3 (.const (.agg [(.str []), (.int .i64 0), (.int .i64 0)]))),
 ⟨none, none, .store 3 (tp 7) (tp 21)⟩] [])
 (.region [mv 22 5,
 op 23 (.nilCheck (tp 22)),
 op 24 (.fieldAddr 0 (tp 23)),
 op 25 (.load none (tp 24)),
 op 26 (.fieldAddr 0 (tp 7)),
 op 27 (.load none (tp 26)),
 op 28 (.load (some 3) (tp 7)),
 ⟨none, none, .mapUpdate (.one .str) (tp 25) (tp 27) (tp 28)⟩] [])))
 (.region [op 29 (.bin .add (.one .int) (tp 18) (.const (.int .i64 1))),
 mv 18 29] []))))
 (.keep [5, 16, 17, 18])
def x114 : XFunc := ⟨2, [.tmp 4],
 .seq (.region [op 4 (.mov (.const .nilptr))] [])
 (.seq (.region [op 8 (.mkMap),
 mv 9 1,
 op 10 (.mkMap),
 mv 11 1,
 op 12 (.len .slice (tp 11)),
 op 13 (.mkSlice 1 8 (.int .i64 0) (tp 12) (tp 12)),
 op 14 (.build [.nilmap, .nilslice, .nilmap, .nilslice, .nilslice, .nilslice, .nilslice, .nilslice] [(0, 1, (tp 8)), (1, 1, (tp 9)), (2, 1, (tp 10)), (4, 1, (tp 13))]),
 op 15 (.box 8 (tp 14)),
 mv 5 15] [])
 (.seq (.seq (.region [mv 16 0,
 op 17 (.len .slice (tp 16)),
 op 18 (.mov (.const (.int .i64 0)))] [])
 (.block 0 (.seq (.keep [5, 16, 17, 18])
 (.loop b114_0))))
 (.seq (.region [mv 30 5,
 mv 4 30] [])
 (.ret))))⟩
def b115_0 : XCode := .seq (.seq (.region [op 25 (.bin .lss (.one .int) (tp 24) (tp 23))] [])
 (.seq (.cond (tp 25) (.skip)
 (.exit 2))
 (.seq (.block 3 (.seq (.region [op 26 (.indexAddr 1 (tp 22) (tp 24)),
 op 27 (.load none (tp 26)),
 mv 8 27] [])
 (.seq (.region [mv 28 8,
 op 29 (.nilCheck (tp 28)),
 op 30 (.fieldAddr 10 (tp 29)),
 op 31 (.load none (tp 30)),
 mv 32 31,
 ⟨(some 33), (some (32, true)), .mov (tp 8)⟩,
 ⟨(some 34), (some (32, true)), .nilCheck (tp 33)⟩,
 ⟨(some 35), (some (32, true)), .fieldAddr 0 (tp 34)⟩,
 ⟨(some 36), (some (32, true)), .fieldAddr 0 (tp 35)⟩,
 ⟨(some 37), (some (32, true)), .fieldAddr 5 (tp 36)⟩,
 ⟨(some 38), (some (32, true)), .load none (tp 37)⟩,
 ⟨(some 39), (some (32, true)), .mov (tp 4)⟩,
 ⟨(some 40), (some (32, true)), .bin .eql (.one .int) (tp 38) (tp 39)⟩,
 op 41 (.pick (tp 32) (tp 40) (.const (.bool false)))] [])
 (.cond (tp 41) (.seq (.region [mv 42 6,
 mv 43 0,
 mv 44 8,
 op 45 (.call (.const (.func (.func 152) [])) [(tp 43), (tp 44)]),
 op 46 (.lit 1 [(.int .i64 0)] [(0, (tp 45))] false),
 op 47 (.append 1 8 (tp 42) (tp 46)),
 mv 6 47] [])
 (.region [mv 48 8,
 op 49 (.nilCheck (tp 48)),
 op 50 (.fieldAddr 10 (tp 49)),
 ⟨none, none, .store 1 (tp 50) (.const (.bool false))⟩] []))
 (.skip)))))
 (.region [op 51 (.bin .add (.one .int) (tp 24) (.const (.int .i64 1))),
 mv 24 51] []))))
 (.keep [0, 1, 4, 6, 22, 23, 24])
def b115_1 : XCode := .seq (.seq (.region [op 58 (.bin .lss (.one .int) (tp 57) (tp 56))] [])
 (.seq (.cond (tp 58) (.skip)
 (.exit 4))
 (.seq (.block 5 (.seq (.region [op 59 (.indexAddr 1 (tp 55) (tp 57)),
 op 60 (.load none (tp 59)),
 mv 10 60] [])
 (.region [mv 61 0,
 mv 62 10,
 mv 63 4,
 op 64 (.call (.const (.func (.func 155) [])) [(tp 61), (tp 62), (tp 63)])] [])))
 (.region [op 65 (.bin .add (.one .int) (tp 57) (.const (.int .i64 1))),
 mv 57 65] []))))
 (.keep [0, 1, 4, 55, 56, 57])
def b115_2 : XCode := .seq (.block 1 (.seq (.region [mv 12 0,
 mv 13 1,
 op 14 (.call (.const (.func (.func 151) [])) [(tp 12), (tp 13)]),
 mv 11 14,
 op 15 (.extract (tp 11) 0),
 op 16 (.extract (tp 11) 1),
 mv 4 15,
 mv 5 16] [])
 (.seq (.seq (.region [mv 17 5,
 op 18 (.un .not (tp 17))] [])
 (.cond (tp 18) (.ret)
 (.skip)))
 (.seq (.region [op 6 (.mov (.const .nilslice))] [])
 (.seq (.seq (.region [mv 19 0,
 op 20 (.nilCheck (tp 19)),
 op 21 (.fieldAddr 3 (tp 20)),
 op 22 (.load none (tp 21)),
 op 23 (.len .slice (tp 22)),
 op 24 (.mov (.const (.int .i64 0)))] [])
 (.block 2 (.seq (.keep [0, 1, 4, 6, 22, 23, 24])
 (.loop b115_0))))
 (.seq (.region [mv 52 6,
 op 53 (.call (.const (.func (.func 153) [])) [(tp 52)])] [])
 (.seq (.region [mv 54 6,
 op 55 (.call (.const (.func (.func 154) [])) [(tp 54)]),
 op 56 (.len .slice (tp 55)),
 op 57 (.mov (.const (.int .i64 0)))] [])
 (.block 4 (.seq (.keep [0, 1, 4, 55, 56, 57])
 (.loop b115_1))))))))))
 (.keep [0, 1])
def x115 : XFunc := ⟨2, [],
 .block 0 (.seq (.keep [0, 1])
 (.loop b115_2))⟩
def x116 : XFunc := ⟨2, [.tmp 4],
 .seq (.region [op 3 (.box 10 (tp 1)),
 op 4 (.mov (.const (.bool false)))] [])
 (.seq (.region [mv 7 0,
 op 8 (.nilCheck (tp 7)),
 op 9 (.fieldAddr 2 (tp 8)),
 op 10 (.load none (tp 9)),
 op 11 (.fieldAddr 2 (tp 3)),
 op 12 (.fieldAddr 0 (tp 11)),
 op 13 (.load none (tp 12)),
 op 14 (.lookup (.one .str) .nilptr false (tp 10) (tp 13)),
 mv 5 14] [])
 (.seq (.seq (.region [op 15 (.fieldAddr 1 (tp 3)),
 op 16 (.load none (tp 15)),
 op 17 (.bin .eql (.one .int) (tp 16) (.const (.int .i64 1)))] [])
 (.cond (tp 17) (.seq (.seq (.region [mv 18 5,
 op 19 (.bin .neq .ptr (tp 18) (.const .nilptr)),
 mv 20 19,
 ⟨(some 21), (some (20, false)), .mov (tp 0)⟩,
 ⟨(some 22), (some (20, false)), .fieldAddr 2 (tp 3)⟩,
 ⟨(some 23), (some (20, false)), .load (some 8) (tp 22)⟩,
 ⟨(some 24), (some (20, false)), .fieldAddr 0 (tp 3)⟩,
 ⟨(some 25), (some (20, false)), .load none (tp 24)⟩,
 ⟨(some 26), (some (20, false)), .call (.const (.func (.func 156) [])) [(tp 21), (tp 23), (tp 25), (.const .nilptr)]⟩,
 ⟨(some 27), (some (20, false)), .un .not (tp 26)⟩,
 op 28 (.pick (tp 20) (.const (.bool true)) (tp 27))] [])
 (.cond (tp 28) (.seq (.region [op 4 (.mov (.const (.bool false)))] [])
 (.ret))
 (.skip)))
 (.seq (.region [op 29 (.fieldAddr 2 (tp 3)),
 op 30 (.load (some 8) (tp 29)),
 op 31 (.build [(.str []), (.str []), (.str []), (.str []), (.int .i64 0), (.int .i64 0), (.int .i64 0), (.int .i64 0), (.int .i64 0), (.int .i64 0)] [(0, 8, (tp 30))]),
 op 32 (.build [(.str []), (.str []), (.str []), (.str []), (.int .i64 0), (.int .i64 0), (.int .i64 0), (.int .i64 0), (.int .i64 0), (.int .i64 0), (.bool false)] [(0, 10, (tp 31)), (10, 1, (.const (.bool true)))]),
 op 33 (.box 11 (tp 32)),
 mv 5 33] [])
 (.seq (.region [mv 34 0,
 mv 35 5,
 op 36 (.fieldAddr 0 (tp 3)),
 op 37 (.load none (tp 36)),
 op 38 (.call (.const (.func (.func 157) [])) [(tp 34), (tp 35), (tp 37)])] [])
 (.seq (.region [mv 39 0,
 op 40 (.nilCheck (tp 39)),
 op 41 (.fieldAddr 2 (tp 40)),
 op 42 (.load none (tp 41)),
 op 43 (.fieldAddr 2 (tp 3)),
 op 44 (.fieldAddr 0 (tp 43)),
 op 45 (.load none (tp 44)),
 mv 46 5,
 ⟨none, none, .mapUpdate (.one .str) (tp 42) (tp 45) (tp 46)⟩] [])
 (.seq (.region [mv 47 0,
 mv 48 0,
 op 49 (.nilCheck (tp 48)),
 op 50 (.fieldAddr 3 (tp 49)),
 op 51 (.load none (tp 50)),
 mv 52 5,
 op 53 (.lit 1 [.nilptr] [(0, (tp 52))] true),
 op 54 (.append 1 8 (tp 51) (tp 53)),
 op 55 (.nilCheck (tp 47)),
 op 56 (.fieldAddr 3 (tp 55)),
 ⟨none, none, .store 1 (tp 56) (tp 54)⟩] [])
 (.seq (.region [op 4 (.mov (.const (.bool true)))] [])
 (.ret)))))))
 (.skip)))
 (.seq (.seq (.region [mv 57 5,
 op 58 (.bin .eql .ptr (tp 57) (.const .nilptr)),
 mv 59 58,
 ⟨(some 60), (some (59, false)), .mov (tp 5)⟩,
 ⟨(some 61), (some (59, false)), .nilCheck (tp 60)⟩,
 ⟨(some 62), (some (59, false)), .fieldAddr 10 (tp 61)⟩,
 ⟨(some 63), (some (59, false)), .load none (tp 62)⟩,
 ⟨(some 64), (some (59, false)), .un .not (tp 63)⟩,
 op 65 (.pick (tp 59) (.const (.bool true)) (tp 64)),
 mv 66 65,
 ⟨(some 67), (some (66, false)), .mov (tp 5)⟩,
 ⟨(some 68), (some (66, false)), .nilCheck (tp 67)⟩,
 ⟨(some 69), (some (66, false)), .fieldAddr 0 (tp 68)⟩,
 ⟨(some 70), (some (66, false)), .fieldAddr 0 (tp 69)⟩,
 ⟨(some 71), (some (66, false)), .fieldAddr 1 (tp 70)⟩,
 ⟨(some 72), (some (66, false)), .load none (tp 71)⟩,
 ⟨(some 73), (some (66, false)), .fieldAddr 2 (tp 3)⟩,
 ⟨(some 74), (some (66, false)), .fieldAddr 1 (tp 73)⟩,
 ⟨(some 75), (some (66, false)), .load none (tp 74)⟩,
 ⟨(some 76), (some (66, false)), .bin .neq (.one .str) (tp 72) (tp 75)⟩,
 op 77 (.pick (tp 66) (.const (.bool true)) (tp 76))] [])
 (.cond (tp 77) (.seq (.region [op 4 (.mov (.const (.bool false)))] [])
 (.ret))
 (.skip)))
 (.seq (.block 0 (.seq (.seq (.region [op 79 (.fieldAddr 1 (tp 3)),
 op 80 (.load none (tp 79)),
 op 81 (.bin .eql (.one .int) (tp 80) (.const (.int .i64 2))),
 mv 82 81,
 ⟨(some 83), (some (82, true)), .mov (tp 0)⟩,
 ⟨(some 84), (some (82, true)), .fieldAddr 2 (tp 3)⟩,
 ⟨(some 85), (some (82, true)), .load (some 8) (tp 84)⟩,
 ⟨(some 86), (some (82, true)), .fieldAddr 0 (tp 3)⟩,
 ⟨(some 87), (some (82, true)), .load none (tp 86)⟩,
 ⟨(some 88), (some (82, true)), .mov (tp 5)⟩,
 ⟨(some 89), (some (82, true)), .call (.const (.func (.func 156) [])) [(tp 83), (tp 85), (tp 87), (tp 88)]⟩,
 ⟨(some 90), (some (82, true)), .un .not (tp 89)⟩,
 op 91 (.pick (tp 82) (tp 90) (.const (.bool false))),
 mv 78 91] [])
 (.cond (tp 78) (.skip)
 (.region [op 92 (.fieldAddr 1 (tp 3)),
 op 93 (.load none (tp 92)),
 op 94 (.bin .eql (.one .int) (tp 93) (.const (.int .i64 4))),
 mv 95 94,
 ⟨(some 96), (some (95, true)), .mov (tp 5)⟩,
 ⟨(some 97), (some (95, true)), .nilCheck (tp 96)⟩,
 ⟨(some 98), (some (95, true)), .fieldAddr 0 (tp 97)⟩,
 ⟨(some 99), (some (95, true)), .fieldAddr 0 (tp 98)⟩,
 ⟨(some 100), (some (95, true)), .fieldAddr 4 (tp 99)⟩,
 ⟨(some 101), (some (95, true)), .load none (tp 100)⟩,
 ⟨(some 102), (some (95, true)), .fieldAddr 0 (tp 3)⟩,
 ⟨(some 103), (some (95, true)), .load none (tp 102)⟩,
 ⟨(some 104), (some (95, true)), .bin .gtr (.one .int) (tp 101) (tp 103)⟩,
 op 105 (.pick (tp 95) (tp 104) (.const (.bool false))),
 mv 78 105] [])))
 (.cond (tp 78) (.seq (.region [op 4 (.mov (.const (.bool false)))] [])
 (.ret))
 (.skip))))
 (.seq (.region [mv 106 0,
 mv 107 5,
 op 108 (.call (.const (.func (.func 152) [])) [(tp 106), (tp 107)]),
 mv 6 108] [])
 (.seq (.seq (.region [op 109 (.fieldAddr 1 (tp 3)),
 op 110 (.load none (tp 109)),
 op 111 (.bin .eql (.one .int) (tp 110) (.const (.int .i64 2)))] [])
 (.cond (tp 111) (.seq (.region [mv 112 5,
 mv 113 5,
 op 114 (.fieldAddr 2 (tp 3)),
 op 115 (.load (some 8) (tp 114)),
 op 116 (.nilCheck (tp 112)),
 op 117 (.fieldAddr 0 (tp 116)),
 op 118 (.fieldAddr 0 (tp 117)),
 ⟨none, none, .store 8 (tp 118) (tp 115)⟩,
 op 119 (.nilCheck (tp 113)),
 op 120 (.fieldAddr 0 (tp 119)),
 op 121 (.fieldAddr 8 (tp 120)),
 ⟨none, none, .store 1 (tp 121) (.const (.int .i64 2))⟩] [])
 (.region [mv 122 0,
 mv 123 5,
 op 124 (.fieldAddr 0 (tp 3)),
 op 125 (.load none (tp 124)),
 op 126 (.call (.const (.func (.func 157) [])) [(tp 122), (tp 123), (tp 125)])] []))
 (.seq (.region [mv 127 0,
 mv 128 0,
 op 129 (.nilCheck (tp 128)),
 op 130 (.fieldAddr 7 (tp 129)),
 op 131 (.load none (tp 130)),
 op 132 (.fieldAddr 0 (tp 3)),
 op 133 (.load none (tp 132)),
 op 134 (.fieldAddr 1 (tp 3)),
 op 135 (.load none (tp 134)),
 mv 136 5,
 op 137 (.nilCheck (tp 136)),
 op 138 (.fieldAddr 0 (tp 137)),
 op 139 (.fieldAddr 0 (tp 138)),
 op 140 (.load (some 8) (tp 139)),
 op 141 (.build [(.int .i64 0), (.int .i64 0), (.str []), (.str []), (.str []), (.str []), (.int .i64 0), (.int .i64 0), (.int .i64 0), (.int .i64 0)] [(0, 1, (tp 133)), (1, 1, (tp 135)), (2, 8, (tp 140))]),
 op 142 (.lit 10 [(.agg [(.int .i64 0), (.int .i64 0), (.str []), (.str []), (.str []), (.str []), (.int .i64 0), (.int .i64 0), (.int .i64 0), (.int .i64 0)])] [(0, (tp 141))] false),
 op 143 (.append 10 112 (tp 131) (tp 142)),
 op 144 (.nilCheck (tp 127)),
 op 145 (.fieldAddr 7 (tp 144)),
 ⟨none, none, .store 1 (tp 145) (tp 143)⟩] [])
 (.seq (.region [mv 146 5,
 mv 147 5,
 mv 148 5,
 op 149 (.fieldAddr 0 (tp 3)),
 op 150 (.load none (tp 149)),
 op 151 (.nilCheck (tp 146)),
 op 152 (.fieldAddr 10 (tp 151)),
 ⟨none, none, .store 1 (tp 152) (.const (.bool false))⟩,
 op 153 (.nilCheck (tp 147)),
 op 154 (.fieldAddr 0 (tp 153)),
 op 155 (.fieldAddr 8 (tp 154)),
 ⟨none, none, .store 1 (tp 155) (.const (.int .i64 3))⟩,
 op 156 (.nilCheck (tp 148)),
 op 157 (.fieldAddr 0 (tp 156)),
 op 158 (.fieldAddr 9 (tp 157)),
 ⟨none, none, .store 1 (tp 158) (tp 150)⟩] [((tp 149), (tp 152)), ((tp 149), (tp 155))])
 (.seq (.region [op 159 (.fieldAddr 1 (tp 3)),
 op 160 (.load none (tp 159)),
 op 161 (.bin .eql (.one .int) (tp 160) (.const (.int .i64 4)))] [])
 (.cond (tp 161) (.region [mv 162 5,
 op 163 (.nilCheck (tp 162)),
 op 164 (.fieldAddr 0 (tp 163)),
 op 165 (.fieldAddr 8 (tp 164)),
 ⟨none, none, .store 1 (tp 165) (.const (.int .i64 4))⟩] [])
 (.skip)))))))
 (.seq (.region [mv 166 0,
 mv 167 6,
 op 168 (.fieldAddr 0 (tp 3)),
 op 169 (.load none (tp 168)),
 op 170 (.call (.const (.func (.func 155) [])) [(tp 166), (tp 167), (tp 169)])] [])
 (.seq (.region [op 4 (.mov (.const (.bool true)))] [])
 (.ret)))))))))⟩
def b117_0 : XCode := .seq (.block 1 (.seq (.region [mv 21 2,
 mv 22 1,
 op 23 (.bin .sub (.one .int) (tp 21) (tp 22)),
 mv 12 23] [])
 (.seq (.seq (.region [mv 24 12,
 op 25 (.bin .leq (.one .int) (tp 24) (.const (.int .i64 12)))] [])
 (.cond (tp 25) (.seq (.region [mv 26 0,
 mv 27 1,
 mv 28 2,
 mv 29 4,
 op 30 (.call (.const (.func (.func 158) [])) [(tp 26), (tp 27), (tp 28), (tp 29)])] [])
 (.ret))
 (.skip)))
 (.seq (.seq (.region [mv 31 3,
 op 32 (.bin .eql (.one .int) (tp 31) (.const (.int .i64 0)))] [])
 (.cond (tp 32) (.seq (.region [mv 33 0,
 mv 34 1,
 mv 35 2,
 mv 36 4,
 op 37 (.call (.const (.func (.func 159) [])) [(tp 33), (tp 34), (tp 35), (tp 36)])] [])
 (.ret))
 (.skip)))
 (.seq (.seq (.region [mv 38 10,
 op 39 (.un .not (tp 38))] [])
 (.cond (tp 39) (.seq (.region [mv 40 0,
 mv 41 1,
 mv 42 2,
 mv 43 4,
 op 44 (.call (.const (.func (.func 160) [])) [(tp 40), (tp 41), (tp 42), (tp 43)])] [])
 (.region [mv 45 3,
 op 46 (.bin .sub (.one .int) (tp 45) (.const (.int .i64 1))),
 mv 3 46] []))
 (.skip)))
 (.seq (.region [mv 48 0,
 mv 49 1,
 mv 50 2,
 mv 51 4,
 op 52 (.call (.const (.func (.func 161) [])) [(tp 48), (tp 49), (tp 50), (tp 51)]),
 mv 47 52,
 op 53 (.extract (tp 47) 0),
 op 54 (.extract (tp 47) 1),
 mv 13 53,
 mv 14 54] [])
 (.seq (.seq (.region [mv 55 14,
 op 56 (.bin .eql (.one .int) (tp 55) (.const (.int .i64 2)))] [])
 (.cond (tp 56) (.seq (.region [mv 57 0,
 mv 58 1,
 mv 59 2,
 mv 60 4,
 op 61 (.call (.const (.func (.func 162) [])) [(tp 57), (tp 58), (tp 59), (tp 60)])] [])
 (.seq (.region [mv 62 2,
 op 63 (.bin .sub (.one .int) (tp 62) (.const (.int .i64 1))),
 mv 64 13,
 mv 65 1,
 op 66 (.bin .sub (.one .int) (tp 64) (tp 65)),
 op 67 (.bin .sub (.one .int) (tp 63) (tp 66)),
 mv 13 67] [])
 (.region [op 14 (.mov (.const (.int .i64 1)))] [])))
 (.skip)))
 (.seq (.seq (.region [mv 68 10,
 mv 69 68,
 ⟨(some 70), (some (69, true)), .mov (tp 11)⟩,
 op 71 (.pick (tp 69) (tp 70) (.const (.bool false))),
 mv 72 71,
 ⟨(some 73), (some (72, true)), .mov (tp 14)⟩,
 ⟨(some 74), (some (72, true)), .bin .eql (.one .int) (tp 73) (.const (.int .i64 1))⟩,
 op 75 (.pick (tp 72) (tp 74) (.const (.bool false)))] [])
 (.cond (tp 75) (.seq (.region [mv 76 0,
 mv 77 1,
 mv 78 2,
 mv 79 4,
 op 80 (.call (.const (.func (.func 163) [])) [(tp 76), (tp 77), (tp 78), (tp 79)])] [])
 (.cond (tp 80) (.ret)
 (.skip)))
 (.skip)))
 (.seq (.seq (.region [mv 81 1,
 op 82 (.bin .gtr (.one .int) (tp 81) (.const (.int .i64 0))),
 mv 83 82,
 ⟨(some 84), (some (83, true)), .mov (tp 4)⟩,
 ⟨(some 85), (some (83, true)), .mov (tp 0)⟩,
 ⟨(some 86), (some (83, true)), .mov (tp 1)⟩,
 ⟨(some 87), (some (83, true)), .bin .sub (.one .int) (tp 86) (.const (.int .i64 1))⟩,
 ⟨(some 88), (some (83, true)), .indexAddr 10 (tp 85) (tp 87)⟩,
 ⟨(some 89), (some (83, true)), .load (some 10) (tp 88)⟩,
 ⟨(some 90), (some (83, true)), .mov (tp 0)⟩,
 ⟨(some 91), (some (83, true)), .mov (tp 13)⟩,
 ⟨(some 92), (some (83, true)), .indexAddr 10 (tp 90) (tp 91)⟩,
 ⟨(some 93), (some (83, true)), .load (some 10) (tp 92)⟩,
 ⟨(some 94), (some (83, true)), .call (tp 84) [(tp 89), (tp 93)]⟩,
 ⟨(some 95), (some (83, true)), .bin .lss (.one .int) (tp 94) (.const (.int .i64 0))⟩,
 ⟨(some 96), (some (83, true)), .un .not (tp 95)⟩,
 op 97 (.pick (tp 83) (tp 96) (.const (.bool false)))] [])
 (.cond (tp 97) (.seq (.region [mv 98 0,
 mv 99 1,
 mv 100 2,
 mv 101 13,
 mv 102 4,
 op 103 (.call (.const (.func (.func 164) [])) [(tp 98), (tp 99), (tp 100), (tp 101), (tp 102)]),
 mv 15 103] [])
 (.seq (.region [mv 104 15,
 mv 1 104] [])
 (.exit 1)))
 (.skip)))
 (.seq (.region [mv 106 0,
 mv 107 1,
 mv 108 2,
 mv 109 13,
 mv 110 4,
 op 111 (.call (.const (.func (.func 165) [])) [(tp 106), (tp 107), (tp 108), (tp 109), (tp 110)]),
 mv 105 111,
 op 112 (.extract (tp 105) 0),
 op 113 (.extract (tp 105) 1),
 mv 16 112,
 mv 17 113] [])
 (.seq (.region [mv 114 17,
 mv 11 114] [])
 (.seq (.region [mv 115 16,
 mv 116 1,
 op 117 (.bin .sub (.one .int) (tp 115) (tp 116)),
 mv 118 2,
 mv 119 16,
 op 120 (.bin .sub (.one .int) (tp 118) (tp 119)),
 mv 18 117,
 mv 19 120] [])
 (.seq (.region [mv 121 12,
 op 122 (.bin .quo (.one .int) (tp 121) (.const (.int .i64 8))),
 mv 20 122] [])
 (.seq (.region [mv 123 18,
 mv 124 19,
 op 125 (.bin .lss (.one .int) (tp 123) (tp 124))] [])
 (.cond (tp 125) (.seq (.region [mv 126 18,
 mv 127 20,
 op 128 (.bin .geq (.one .int) (tp 126) (tp 127)),
 mv 10 128] [])
 (.seq (.region [mv 129 0,
 mv 130 1,
 mv 131 16,
 mv 132 3,
 mv 133 4,
 op 134 (.call (.const (.func (.func 117) [])) [(tp 129), (tp 130), (tp 131), (tp 132), (tp 133)])] [])
 (.region [mv 135 16,
 op 136 (.bin .add (.one .int) (tp 135) (.const (.int .i64 1))),
 mv 1 136] [])))
 (.seq (.region [mv 137 19,
 mv 138 20,
 op 139 (.bin .geq (.one .int) (tp 137) (tp 138)),
 mv 10 139] [])
 (.seq (.region [mv 140 0,
 mv 141 16,
 op 142 (.bin .add (.one .int) (tp 141) (.const (.int .i64 1))),
 mv 143 2,
 mv 144 3,
 mv 145 4,
 op 146 (.call (.const (.func (.func 117) [])) [(tp 140), (tp 142), (tp 143), (tp 144), (tp 145)])] [])
 (.region [mv 147 16,
 mv 2 147] []))))))))))))))))))
 (.keep [0, 1, 2, 3, 4, 10, 11])
def x117 : XFunc := ⟨5, [],
 .seq (.region [op 10 (.mov (.const (.bool true)))] [])
 (.seq (.region [op 11 (.mov (.const (.bool true)))] [])
 (.block 0 (.seq (.keep [0, 1, 2, 3, 4, 10, 11])
 (.loop b117_0))))⟩
def x118 : XFunc := ⟨1, [.tmp 2],
 .seq (.region [op 2 (.mov (.const (.int .i64 0)))] [])
 (.seq (.cond (.const (.bool false)) (.seq (.region [mv 3 0,
 op 4 (.convInt .u32 (tp 3)),
 op 5 (.call (.const (.func (.func 166) [])) [(tp 4)]),
 mv 2 5] [])
 (.ret))
 (.skip))
 (.seq (.region [mv 6 0,
 op 7 (.call (.const (.func (.func 167) [])) [(tp 6)]),
 mv 2 7] [])
 (.ret)))⟩
def x119 : XFunc := ⟨2, [.tmp 4],
 .seq (.region [op 4 (.mov (.const (.int .i64 0)))] [])
 (.seq (.region [mv 5 0,
 mv 6 1,
 op 7 (.call (.const (.func (.func 168) [])) [(tp 5), (tp 6)]),
 mv 4 7] [])
 (.ret))⟩
def x120 : XFunc := ⟨2, [],
 .seq (.region [mv 5 0,
 op 6 (.len .slice (tp 5)),
 mv 4 6] [])
 (.region [mv 7 0,
 mv 8 4,
 mv 9 4,
 op 10 (.convInt .u64 (tp 9)),
 op 11 (.call (.const (.func (.func 118) [])) [(tp 10)]),
 mv 12 1,
 op 13 (.call (.const (.func (.func 169) [])) [(tp 7), (.const (.int .i64 0)), (tp 8), (tp 11), (tp 12)])] [])⟩
def x121 : XFunc := ⟨2, [.tmp 4],
 .seq (.region [op 4 (.mov (.const (.int .i64 0)))] [])
 (.seq (.region [mv 5 0,
 op 6 (.nilCheck (tp 5)),
 op 7 (.fieldAddr 0 (tp 6)),
 op 8 (.fieldAddr 9 (tp 7)),
 op 9 (.load none (tp 8)),
 mv 10 1,
 op 11 (.nilCheck (tp 10)),
 op 12 (.fieldAddr 0 (tp 11)),
 op 13 (.fieldAddr 9 (tp 12)),
 op 14 (.load none (tp 13)),
 op 15 (.call (.const (.func (.func 85) [])) [(tp 9), (tp 14)]),
 mv 16 0,
 op 17 (.nilCheck (tp 16)),
 op 18 (.fieldAddr 0 (tp 17)),
 op 19 (.fieldAddr 0 (tp 18)),
 op 20 (.fieldAddr 0 (tp 19)),
 op 21 (.load none (tp 20)),
 mv 22 1,
 op 23 (.nilCheck (tp 22)),
 op 24 (.fieldAddr 0 (tp 23)),
 op 25 (.fieldAddr 0 (tp 24)),
 op 26 (.fieldAddr 0 (tp 25)),
 op 27 (.load none (tp 26)),
 op 28 (.call (.const (.func (.func 66) [])) [(tp 21), (tp 27)]),
 op 29 (.lit 1 [(.int .i64 0), (.int .i64 0)] [(0, (tp 15)), (1, (tp 28))] false),
 op 30 (.call (.const (.func (.func 84) [])) [(tp 29)]),
 mv 4 30] [])
 (.ret))⟩
def x122 : XFunc := ⟨2, [.tmp 3],
 .seq (.region [op 2 (.box 3 (tp 0)),
 op 3 (.mov (.const (.bool false)))] [])
 (.seq (.region [op 4 (.fieldAddr 4 (tp 1)),
 op 5 (.load none (tp 4)),
 op 6 (.fieldAddr 0 (tp 2)),
 op 7 (.fieldAddr 0 (tp 6)),
 op 8 (.load none (tp 7)),
 op 9 (.bin .geq (.one .int) (tp 5) (tp 8)),
 mv 10 9,
 ⟨(some 11), (some (10, true)), .fieldAddr 4 (tp 1)⟩,
 ⟨(some 12), (some (10, true)), .load none (tp 11)⟩,
 ⟨(some 13), (some (10, true)), .fieldAddr 0 (tp 2)⟩,
 ⟨(some 14), (some (10, true)), .fieldAddr 1 (tp 13)⟩,
 ⟨(some 15), (some (10, true)), .load none (tp 14)⟩,
 ⟨(some 16), (some (10, true)), .bin .lss (.one .int) (tp 12) (tp 15)⟩,
 op 17 (.pick (tp 10) (tp 16) (.const (.bool false))),
 mv 3 17] [])
 (.ret))⟩
def b123_0 : XCode := .seq (.seq (.region [op 12 (.bin .lss (.one .int) (tp 11) (tp 10))] [])
 (.seq (.cond (tp 12) (.skip)
 (.exit 0))
 (.seq (.block 1 (.seq (.region [mv 13 11,
 op 14 (.indexAddr 14 (tp 9) (tp 11)),
 op 15 (.load (some 14) (tp 14)),
 op 4 (.box 14 (.const (.agg [(.str []), (.str []), (.str []), (.str []), (.int .i64 0), (.int .i64 0), (.int .i64 0), (.int .i64 0), (.int .i64 0), (.int .i64 0), (.int .i64 0), (.int .i64 0), (.int .i64 0), .nilslice]))),
 mv 3 13,
 ⟨none, none, .store 14 (tp 4) (tp 15)⟩] [])
 (.seq (.seq (.region [op 16 (.load (some 14) (tp 4)),
 op 17 (.call (.const (.func (.func 170) [])) [(tp 16)]),
 mv 5 17] [])
 (.seq (.region [mv 18 5,
 op 19 (.bin .neq (.one .int) (tp 18) (.const (.int .i64 0)))] [])
 (.cond (tp 19) (.seq (.region [mv 20 5,
 mv 2 20] [])
 (.ret))
 (.skip))))
 (.seq (.region [mv 21 3,
 op 22 (.bin .gtr (.one .int) (tp 21) (.const (.int .i64 0))),
 mv 23 22,
 ⟨(some 24), (some (23, true)), .fieldAddr 0 (tp 4)⟩,
 ⟨(some 25), (some (23, true)), .load none (tp 24)⟩,
 ⟨(some 26), (some (23, true)), .mov (tp 0)⟩,
 ⟨(some 27), (some (23, true)), .mov (tp 3)⟩,
 ⟨(some 28), (some (23, true)), .bin .sub (.one .int) (tp 27) (.const (.int .i64 1))⟩,
 ⟨(some 29), (some (23, true)), .indexAddr 14 (tp 26) (tp 28)⟩,
 ⟨(some 30), (some (23, true)), .fieldAddr 0 (tp 29)⟩,
 ⟨(some 31), (some (23, true)), .load none (tp 30)⟩,
 ⟨(some 32), (some (23, true)), .bin .leq (.one .str) (tp 25) (tp 31)⟩,
 op 33 (.pick (tp 23) (tp 32) (.const (.bool false)))] [])
 (.cond (tp 33) (.seq (.region [op 2 (.mov (.const (.int .i64 7)))] [])
 (.ret))
 (.skip))))))
 (.region [op 34 (.bin .add (.one .int) (tp 11) (.const (.int .i64 1))),
 mv 11 34] []))))
 (.keep [0, 9, 10, 11])
def x123 : XFunc := ⟨1, [.tmp 2],
 .seq (.region [op 2 (.mov (.const (.int .i64 0)))] [])
 (.seq (.seq (.region [mv 6 0,
 op 7 (.len .slice (tp 6)),
 op 8 (.bin .gtr (.one .int) (tp 7) (.const (.int .i64 100)))] [])
 (.cond (tp 8) (.seq (.region [op 2 (.mov (.const (.int .i64 2)))] [])
 (.ret))
 (.skip)))
 (.seq (.seq (.region [mv 9 0,
 op 10 (.len .slice (tp 9)),
 op 11 (.mov (.const (.int .i64 0)))] [])
 (.block 0 (.seq (.keep [0, 9, 10, 11])
 (.loop b123_0))))
 (.seq (.region [op 2 (.mov (.const (.int .i64 0)))] [])
 (.ret))))⟩
def x124 : XFunc := ⟨2, [.cell 4 (some 8), .tmp 5],
 .seq (.region [op 2 (.box 1 (tp 0)),
 op 3 (.box 1 (tp 1)),
 op 4 (.box 8 (.const (.agg [(.str []), (.str []), (.str []), (.str []), (.int .i64 0), (.int .i64 0), (.int .i64 0), (.int .i64 0)]))),
 op 5 (.mov (.const (.bool false)))] [])
 (.seq (.seq (.region [op 12 (.load none (tp 3)),
 op 13 (.bin .quo (.one .int) (tp 12) (.const (.int .i64 7))),
 op 14 (.load none (tp 2)),
 op 15 (.nilCheck (tp 14)),
 op 16 (.fieldAddr 4 (tp 15)),
 op 17 (.load none (tp 16)),
 op 18 (.bin .quo (.one .int) (tp 17) (.const (.int .i64 7))),
 op 19 (.bin .sub (.one .int) (tp 13) (tp 18)),
 op 20 (.load none (tp 2)),
 op 21 (.nilCheck (tp 20)),
 op 22 (.fieldAddr 6 (tp 21)),
 op 23 (.load none (tp 22)),
 op 24 (.bin .rem (.one .int) (tp 19) (tp 23)),
 op 25 (.bin .neq (.one .int) (tp 24) (.const (.int .i64 0))),
 mv 26 25,
 ⟨(some 27), (some (26, false)), .load none (tp 2)⟩,
 ⟨(some 28), (some (26, false)), .nilCheck (tp 27)⟩,
 ⟨(some 29), (some (26, false)), .fieldAddr 7 (tp 28)⟩,
 ⟨(some 30), (some (26, false)), .load none (tp 29)⟩,
 ⟨(some 31), (some (26, false)), .load none (tp 3)⟩,
 ⟨(some 32), (some (26, false)), .bin .rem (.one .int) (tp 31) (.const (.int .i64 7))⟩,
 ⟨(some 33), (some (26, false)), .bin .shr (.one .int) (tp 30) (tp 32)⟩,
 ⟨(some 34), (some (26, false)), .bin .and (.one .int) (tp 33) (.const (.int .i64 1))⟩,
 ⟨(some 35), (some (26, false)), .bin .eql (.one .int) (tp 34) (.const (.int .i64 0))⟩,
 op 36 (.pick (tp 26) (.const (.bool true)) (tp 35))] [])
 (.cond (tp 36) (.seq (.region [op 37 (.build [(.str []), (.str []), (.str []), (.str []), (.int .i64 0), (.int .i64 0), (.int .i64 0), (.int .i64 0)] []),
 ⟨none, none, .store 8 (tp 4) (tp 37)⟩,
 op 5 (.mov (.const (.bool false)))] [])
 (.ret))
 (.skip)))
 (.seq (.region [op 6 (.box 1 (.const (.int .i64 0))),
 ⟨none, none, .store 1 (tp 6) (.const (.int .i64 0))⟩] [])
 (.seq (.seq (.region [op 39 (.load none (tp 2)),
 op 40 (.nilCheck (tp 39)),
 op 41 (.fieldAddr 13 (tp 40)),
 op 42 (.load none (tp 41)),
 op 43 (.load none (tp 3)),
 op 44 (.call (.const (.func (.func 171) [])) [(tp 42), (tp 43), (.const (.func (.func 172) []))]),
 mv 38 44,
 op 45 (.extract (tp 38) 0),
 op 46 (.extract (tp 38) 1),
 mv 7 45,
 mv 8 46] [])
 (.seq (.region [mv 47 8] [])
 (.cond (tp 47) (.seq (.seq (.region [op 48 (.load none (tp 2)),
 op 49 (.nilCheck (tp 48)),
 op 50 (.fieldAddr 13 (tp 49)),
 op 51 (.load none (tp 50)),
 mv 52 7,
 op 53 (.indexAddr 3 (tp 51) (tp 52)),
 op 54 (.fieldAddr 1 (tp 53)),
 op 55 (.load none (tp 54))] [])
 (.cond (tp 55) (.seq (.region [op 56 (.build [(.str []), (.str []), (.str []), (.str []), (.int .i64 0), (.int .i64 0), (.int .i64 0), (.int .i64 0)] []),
 ⟨none, none, .store 8 (tp 4) (tp 56)⟩,
 op 5 (.mov (.const (.bool false)))] [])
 (.ret))
 (.skip)))
 (.region [op 57 (.load none (tp 2)),
 op 58 (.nilCheck (tp 57)),
 op 59 (.fieldAddr 13 (tp 58)),
 op 60 (.load none (tp 59)),
 mv 61 7,
 op 62 (.indexAddr 3 (tp 60) (tp 61)),
 op 63 (.fieldAddr 2 (tp 62)),
 op 64 (.load none (tp 63)),
 ⟨none, none, .store 1 (tp 6) (tp 64)⟩] []))
 (.skip))))
 (.seq (.region [op 65 (.load none (tp 3)),
 op 66 (.call (.const (.func (.func 173) [])) [(tp 65)]),
 mv 9 66] [])
 (.seq (.region [op 67 (.mkFunc (.func 174) [(tp 3), (tp 2), (tp 6)]),
 mv 10 67] [])
 (.seq (.region [op 68 (.load none (tp 2)),
 op 69 (.nilCheck (tp 68)),
 op 70 (.fieldAddr 0 (tp 69)),
 op 71 (.load none (tp 70)),
 op 72 (.bin .add (.one .str) (tp 71) (.const (.str [45]))),
 mv 73 9,
 op 74 (.len (.one .str) (tp 73)),
 op 75 (.bin .sub (.one .int) (.const (.int .i64 4)) (tp 74)),
 op 76 (.call (.const (.func (.func 175) [])) [(.const (.str [48])), (tp 75)]),
 op 77 (.bin .add (.one .str) (tp 72) (tp 76)),
 mv 78 9,
 op 79 (.bin .add (.one .str) (tp 77) (tp 78)),
 op 80 (.load none (tp 2)),
 op 81 (.nilCheck (tp 80)),
 op 82 (.fieldAddr 1 (tp 81)),
 op 83 (.load none (tp 82)),
 op 84 (.load none (tp 2)),
 op 85 (.nilCheck (tp 84)),
 op 86 (.fieldAddr 2 (tp 85)),
 op 87 (.load none (tp 86)),
 op 88 (.load none (tp 2)),
 op 89 (.nilCheck (tp 88)),
 op 90 (.fieldAddr 3 (tp 89)),
 op 91 (.load none (tp 90)),
 mv 92 10,
 op 93 (.load none (tp 2)),
 op 94 (.nilCheck (tp 93)),
 op 95 (.fieldAddr 8 (tp 94)),
 op 96 (.load none (tp 95)),
 op 97 (.pcall (tp 92) [(tp 96)]),
 mv 98 10,
 op 99 (.load none (tp 2)),
 op 100 (.nilCheck (tp 99)),
 op 101 (.fieldAddr 9 (tp 100)),
 op 102 (.load none (tp 101)),
 op 103 (.pcall (tp 98) [(tp 102)]),
 op 104 (.load none (tp 2)),
 op 105 (.nilCheck (tp 104)),
 op 106 (.fieldAddr 11 (tp 105)),
 op 107 (.load none (tp 106)),
 op 108 (.load none (tp 2)),
 op 109 (.nilCheck (tp 108)),
 op 110 (.fieldAddr 12 (tp 109)),
 op 111 (.load none (tp 110)),
 op 112 (.build [(.str []), (.str []), (.str []), (.str []), (.int .i64 0), (.int .i64 0), (.int .i64 0), (.int .i64 0)] [(0, 1, (tp 79)), (1, 1, (tp 83)), (2, 1, (tp 87)), (3, 1, (tp 91)), (4, 1, (tp 97)), (5, 1, (tp 103)), (6, 1, (tp 107)), (7, 1, (tp 111))]),
 op 11 (.box 8 (.const (.agg [(.str []), (.str []), (.str []), (.str []), (.int .i64 0), (.int .i64 0), (.int .i64 0), (.int .i64 0)]))),
 ⟨none, none, .store 8 (tp 11) (tp 112)⟩] [])
 (.seq (.region [op 113 (.load (some 8) (tp 11)),
 op 114 (.fieldAddr 4 (tp 11)),
 op 115 (.load none (tp 114)),
 op 116 (.call (.const (.func (.func 62) [])) [(tp 115)]),
 mv 117 116,
 ⟨(some 118), (some (117, true)), .fieldAddr 5 (tp 11)⟩,
 ⟨(some 119), (some (117, true)), .load none (tp 118)⟩,
 ⟨(some 120), (some (117, true)), .bin .leq (.one .int) (tp 119) (.const (.int .i64 345686400000))⟩,
 op 121 (.pick (tp 117) (tp 120) (.const (.bool false))),
 ⟨none, none, .store 8 (tp 4) (tp 113)⟩,
 mv 5 121] [((tp 118), (tp 4))])
 (.ret))))))))⟩
def x130 : XFunc := ⟨1, [.tmp 2],
 .seq (.region [op 2 (.mov (.const (.bool false)))] [])
 (.seq (.region [mv 3 0,
 mv 4 0,
 op 5 (.bin .neq (.one .int) (tp 3) (tp 4)),
 mv 2 5] [])
 (.ret))⟩
def x131 : XFunc := ⟨2, [.tmp 4],
 .seq (.region [op 4 (.mov (.const (.int .i64 0)))] [])
 (.seq (.region [mv 5 0,
 mv 6 1,
 op 7 (.call (.const (.func (.func 178) [])) [(tp 5), (tp 6)]),
 mv 4 7] [])
 (.ret))⟩
def b137_0 : XCode := .seq (.block 1 (.seq (.region [mv 21 2,
 mv 22 1,
 op 23 (.bin .sub (.one .int) (tp 21) (tp 22)),
 mv 12 23] [])
 (.seq (.seq (.region [mv 24 12,
 op 25 (.bin .leq (.one .int) (tp 24) (.const (.int .i64 12)))] [])
 (.cond (tp 25) (.seq (.region [mv 26 0,
 mv 27 1,
 mv 28 2,
 mv 29 4,
 op 30 (.call (.const (.func (.func 183) [])) [(tp 26), (tp 27), (tp 28), (tp 29)])] [])
 (.ret))
 (.skip)))
 (.seq (.seq (.region [mv 31 3,
 op 32 (.bin .eql (.one .int) (tp 31) (.const (.int .i64 0)))] [])
 (.cond (tp 32) (.seq (.region [mv 33 0,
 mv 34 1,
 mv 35 2,
 mv 36 4,
 op 37 (.call (.const (.func (.func 184) [])) [(tp 33), (tp 34), (tp 35), (tp 36)])] [])
 (.ret))
 (.skip)))
 (.seq (.seq (.region [mv 38 10,
 op 39 (.un .not (tp 38))] [])
 (.cond (tp 39) (.seq (.region [mv 40 0,
 mv 41 1,
 mv 42 2,
 mv 43 4,
 op 44 (.call (.const (.func (.func 185) [])) [(tp 40), (tp 41), (tp 42), (tp 43)])] [])
 (.region [mv 45 3,
 op 46 (.bin .sub (.one .int) (tp 45) (.const (.int .i64 1))),
 mv 3 46] []))
 (.skip)))
 (.seq (.region [mv 48 0,
 mv 49 1,
 mv 50 2,
 mv 51 4,
 op 52 (.call (.const (.func (.func 186) [])) [(tp 48), (tp 49), (tp 50), (tp 51)]),
 mv 47 52,
 op 53 (.extract (tp 47) 0),
 op 54 (.extract (tp 47) 1),
 mv 13 53,
 mv 14 54] [])
 (.seq (.seq (.region [mv 55 14,
 op 56 (.bin .eql (.one .int) (tp 55) (.const (.int .i64 2)))] [])
 (.cond (tp 56) (.seq (.region [mv 57 0,
 mv 58 1,
 mv 59 2,
 mv 60 4,
 op 61 (.call (.const (.func (.func 187) [])) [(tp 57), (tp 58), (tp 59), (tp 60)])] [])
 (.seq (.region [mv 62 2,
 op 63 (.bin .sub (.one .int) (tp 62) (.const (.int .i64 1))),
 mv 64 13,
 mv 65 1,
 op 66 (.bin .sub (.one .int) (tp 64) (tp 65)),
 op 67 (.bin .sub (.one .int) (tp 63) (tp 66)),
 mv 13 67] [])
 (.region [op 14 (.mov (.const (.int .i64 1)))] [])))
 (.skip)))
 (.seq (.seq (.region [mv 68 10,
 mv 69 68,
 ⟨(some 70), (some (69, true)), .mov (tp 11)⟩,
 op 71 (.pick (tp 69) (tp 70) (.const (.bool false))),
 mv 72 71,
 ⟨(some 73), (some (72, true)), .mov (tp 14)⟩,
 ⟨(some 74), (some (72, true)), .bin .eql (.one .int) (tp 73) (.const (.int .i64 1))⟩,
 op 75 (.pick (tp 72) (tp 74) (.const (.bool false)))] [])
 (.cond (tp 75) (.seq (.region [mv 76 0,
 mv 77 1,
 mv 78 2,
 mv 79 4,
 op 80 (.call (.const (.func (.func 188) [])) [(tp 76), (tp 77), (tp 78), (tp 79)])] [])
 (.cond (tp 80) (.ret)
 (.skip)))
 (.skip)))
 (.seq (.seq (.region [mv 81 1,
 op 82 (.bin .gtr (.one .int) (tp 81) (.const (.int .i64 0))),
 mv 83 82,
 ⟨(some 84), (some (83, true)), .mov (tp 4)⟩,
 ⟨(some 85), (some (83, true)), .mov (tp 0)⟩,
 ⟨(some 86), (some (83, true)), .mov (tp 1)⟩,
 ⟨(some 87), (some (83, true)), .bin .sub (.one .int) (tp 86) (.const (.int .i64 1))⟩,
 ⟨(some 88), (some (83, true)), .indexAddr 8 (tp 85) (tp 87)⟩,
 ⟨(some 89), (some (83, true)), .load (some 8) (tp 88)⟩,
 ⟨(some 90), (some (83, true)), .mov (tp 0)⟩,
 ⟨(some 91), (some (83, true)), .mov (tp 13)⟩,
 ⟨(some 92), (some (83, true)), .indexAddr 8 (tp 90) (tp 91)⟩,
 ⟨(some 93), (some (83, true)), .load (some 8) (tp 92)⟩,
 ⟨(some 94), (some (83, true)), .call (tp 84) [(tp 89), (tp 93)]⟩,
 ⟨(some 95), (some (83, true)), .bin .lss (.one .int) (tp 94) (.const (.int .i64 0))⟩,
 ⟨(some 96), (some (83, true)), .un .not (tp 95)⟩,
 op 97 (.pick (tp 83) (tp 96) (.const (.bool false)))] [])
 (.cond (tp 97) (.seq (.region [mv 98 0,
 mv 99 1,
 mv 100 2,
 mv 101 13,
 mv 102 4,
 op 103 (.call (.const (.func (.func 189) [])) [(tp 98), (tp 99), (tp 100), (tp 101), (tp 102)]),
 mv 15 103] [])
 (.seq (.region [mv 104 15,
 mv 1 104] [])
 (.exit 1)))
 (.skip)))
 (.seq (.region [mv 106 0,
 mv 107 1,
 mv 108 2,
 mv 109 13,
 mv 110 4,
 op 111 (.call (.const (.func (.func 190) [])) [(tp 106), (tp 107), (tp 108), (tp 109), (tp 110)]),
 mv 105 111,
 op 112 (.extract (tp 105) 0),
 op 113 (.extract (tp 105) 1),
 mv 16 112,
 mv 17 113] [])
 (.seq (.region [mv 114 17,
 mv 11 114] [])
 (.seq (.region [mv 115 16,
 mv 116 1,
 op 117 (.bin .sub (.one .int) (tp 115) (tp 116)),
 mv 118 2,
 mv 119 16,
 op 120 (.bin .sub (.one .int) (tp 118) (tp 119)),
 mv 18 117,
 mv 19 120] [])
 (.seq (.region [mv 121 12,
 op 122 (.bin .quo (.one .int) (tp 121) (.const (.int .i64 8))),
 mv 20 122] [])
 (.seq (.region [mv 123 18,
 mv 124 19,
 op 125 (.bin .lss (.one .int) (tp 123) (tp 124))] [])
 (.cond (tp 125) (.seq (.region [mv 126 18,
 mv 127 20,
 op 128 (.bin .geq (.one .int) (tp 126) (tp 127)),
 mv 10 128] [])
 (.seq (.region [mv 129 0,
 mv 130 1,
 mv 131 16,
 mv 132 3,
 mv 133 4,
 op 134 (.call (.const (.func (.func 137) [])) [(tp 129), (tp 130), (tp 131), (tp 132), (tp 133)])] [])
 (.region [mv 135 16,
 op 136 (.bin .add (.one .int) (tp 135) (.const (.int .i64 1))),
 mv 1 136] [])))
 (.seq (.region [mv 137 19,
 mv 138 20,
 op 139 (.bin .geq (.one .int) (tp 137) (tp 138)),
 mv 10 139] [])
 (.seq (.region [mv 140 0,
 mv 141 16,
 op 142 (.bin .add (.one .int) (tp 141) (.const (.int .i64 1))),
 mv 143 2,
 mv 144 3,
 mv 145 4,
 op 146 (.call (.const (.func (.func 137) [])) [(tp 140), (tp 142), (tp 143), (tp 144), (tp 145)])] [])
 (.region [mv 147 16,
 mv 2 147] []))))))))))))))))))
 (.keep [0, 1, 2, 3, 4, 10, 11])
def x137 : XFunc := ⟨5, [],
 .seq (.region [op 10 (.mov (.const (.bool true)))] [])
 (.seq (.region [op 11 (.mov (.const (.bool true)))] [])
 (.block 0 (.seq (.keep [0, 1, 2, 3, 4, 10, 11])
 (.loop b137_0))))⟩
def x138 : XFunc := ⟨1, [.tmp 2],
 .seq (.region [op 1 (.box 8 (tp 0)),
 op 2 (.mov (.const (.int .i64 0)))] [])
 (.seq (.block 0 (.seq (.region [op 4 (.fieldAddr 0 (tp 1)),
 op 5 (.load none (tp 4)),
 op 6 (.fieldAddr 1 (tp 1)),
 op 7 (.load none (tp 6)),
 op 8 (.fieldAddr 2 (tp 1)),
 op 9 (.load none (tp 8)),
 op 10 (.fieldAddr 3 (tp 1)),
 op 11 (.load none (tp 10)),
 op 12 (.lit 1 [(.str []), (.str []), (.str []), (.str [])] [(0, (tp 5)), (1, (tp 7)), (2, (tp 9)), (3, (tp 11))] false),
 op 13 (.call (.const (.func (.func 139) [])) [(tp 12)]),
 op 14 (.un .not (tp 13)),
 mv 3 14] [])
 (.cond (tp 3) (.seq (.region [op 2 (.mov (.const (.int .i64 5)))] [])
 (.ret))
 (.seq (.region [op 16 (.fieldAddr 2 (tp 1)),
 op 17 (.load none (tp 16)),
 op 18 (.fieldAddr 3 (tp 1)),
 op 19 (.load none (tp 18)),
 op 20 (.bin .eql (.one .str) (tp 17) (tp 19)),
 mv 15 20] [])
 (.cond (tp 15) (.seq (.region [op 2 (.mov (.const (.int .i64 6)))] [])
 (.ret))
 (.seq (.region [op 22 (.fieldAddr 4 (tp 1)),
 op 23 (.load none (tp 22)),
 op 24 (.call (.const (.func (.func 62) [])) [(tp 23)]),
 op 25 (.un .not (tp 24)),
 mv 26 25,
 ⟨(some 27), (some (26, false)), .fieldAddr 5 (tp 1)⟩,
 ⟨(some 28), (some (26, false)), .load none (tp 27)⟩,
 ⟨(some 29), (some (26, false)), .fieldAddr 4 (tp 1)⟩,
 ⟨(some 30), (some (26, false)), .load none (tp 29)⟩,
 ⟨(some 31), (some (26, false)), .bin .add (.one .int) (tp 30) (.const (.int .i64 1))⟩,
 ⟨(some 32), (some (26, false)), .call (.const (.func (.func 89) [])) [(tp 28), (tp 31), (.const (.int .i64 345686400000))]⟩,
 op 33 (.pick (tp 26) (.const (.bool true)) (tp 32)),
 mv 34 33,
 ⟨(some 35), (some (34, false)), .fieldAddr 6 (tp 1)⟩,
 ⟨(some 36), (some (34, false)), .load none (tp 35)⟩,
 ⟨(some 37), (some (34, false)), .call (.const (.func (.func 89) [])) [(tp 36), (.const (.int .i64 0)), (.const (.int .i64 60))]⟩,
 op 38 (.pick (tp 34) (.const (.bool true)) (tp 37)),
 mv 39 38,
 ⟨(some 40), (some (39, false)), .fieldAddr 7 (tp 1)⟩,
 ⟨(some 41), (some (39, false)), .load none (tp 40)⟩,
 ⟨(some 42), (some (39, false)), .call (.const (.func (.func 89) [])) [(tp 41), (.const (.int .i64 0)), (.const (.int .i64 60))]⟩,
 op 43 (.pick (tp 39) (.const (.bool true)) (tp 42)),
 mv 21 43] [])
 (.cond (tp 21) (.seq (.region [op 2 (.mov (.const (.int .i64 1)))] [])
 (.ret))
 (.seq (.region [op 45 (.fieldAddr 6 (tp 1)),
 op 46 (.load none (tp 45)),
 op 47 (.fieldAddr 7 (tp 1)),
 op 48 (.load none (tp 47)),
 op 49 (.bin .add (.one .int) (tp 46) (tp 48)),
 op 50 (.bin .eql (.one .int) (tp 49) (.const (.int .i64 0))),
 mv 44 50] [])
 (.cond (tp 44) (.seq (.region [op 2 (.mov (.const (.int .i64 3)))] [])
 (.ret))
 (.skip))))))))))
 (.seq (.region [op 2 (.mov (.const (.int .i64 0)))] [])
 (.ret)))⟩
def x139 : XFunc := ⟨1, [.tmp 2],
 .seq (.region [op 2 (.mov (.const (.bool false)))] [])
 (.seq (.region [mv 3 0,
 op 4 (.call (.const (.func (.func 191) [])) [(tp 3), (.const (.func (.func 192) []))]),
 op 5 (.un .not (tp 4)),
 mv 2 5] [])
 (.ret))⟩
def b140_0 : XCode := .seq (.seq (.region [op 11 (.bin .lss (.one .int) (tp 10) (tp 9))] [])
 (.seq (.cond (tp 11) (.skip)
 (.exit 0))
 (.seq (.block 1 (.seq (.region [mv 12 10,
 op 13 (.indexAddr 3 (tp 8) (tp 10)),
 op 14 (.load (some 3) (tp 13)),
 op 4 (.box 3 (.const (.agg [(.str []), (.str []), (.int .i64 0)]))),
 mv 3 12,
 ⟨none, none, .store 3 (tp 4) (tp 14)⟩] [])
 (.block 2 (.seq (.region [op 16 (.fieldAddr 0 (tp 4)),
 op 17 (.load none (tp 16)),
 op 18 (.call (.const (.func (.func 88) [])) [(tp 17)]),
 op 19 (.un .not (tp 18)),
 mv 20 19,
 ⟨(some 21), (some (20, false)), .fieldAddr 1 (tp 4)⟩,
 ⟨(some 22), (some (20, false)), .load none (tp 21)⟩,
 ⟨(some 23), (some (20, false)), .call (.const (.func (.func 88) [])) [(tp 22)]⟩,
 ⟨(some 24), (some (20, false)), .un .not (tp 23)⟩,
 op 25 (.pick (tp 20) (.const (.bool true)) (tp 24)),
 mv 15 25] [])
 (.cond (tp 15) (.seq (.region [op 2 (.mov (.const (.int .i64 5)))] [])
 (.ret))
 (.seq (.region [op 27 (.fieldAddr 2 (tp 4)),
 op 28 (.load none (tp 27)),
 op 29 (.call (.const (.func (.func 89) [])) [(tp 28), (.const (.int .i64 0)), (.const (.int .i64 1000000000))]),
 mv 26 29] [])
 (.cond (tp 26) (.seq (.region [op 2 (.mov (.const (.int .i64 1)))] [])
 (.ret))
 (.seq (.region [mv 31 3,
 op 32 (.bin .gtr (.one .int) (tp 31) (.const (.int .i64 0))),
 mv 33 32,
 ⟨(some 34), (some (33, true)), .load (some 3) (tp 4)⟩,
 ⟨(some 35), (some (33, true)), .mov (tp 0)⟩,
 ⟨(some 36), (some (33, true)), .mov (tp 3)⟩,
 ⟨(some 37), (some (33, true)), .bin .sub (.one .int) (tp 36) (.const (.int .i64 1))⟩,
 ⟨(some 38), (some (33, true)), .indexAddr 3 (tp 35) (tp 37)⟩,
 ⟨(some 39), (some (33, true)), .load (some 3) (tp 38)⟩,
 ⟨(some 40), (some (33, true)), .call (.const (.func (.func 193) [])) [(tp 34), (tp 39)]⟩,
 ⟨(some 41), (some (33, true)), .bin .leq (.one .int) (tp 40) (.const (.int .i64 0))⟩,
 op 42 (.pick (tp 33) (tp 41) (.const (.bool false))),
 mv 30 42] [])
 (.cond (tp 30) (.seq (.region [op 2 (.mov (.const (.int .i64 7)))] [])
 (.ret))
 (.skip))))))))))
 (.region [op 43 (.bin .add (.one .int) (tp 10) (.const (.int .i64 1))),
 mv 10 43] []))))
 (.keep [0, 8, 9, 10])
def x140 : XFunc := ⟨1, [.tmp 2],
 .seq (.region [op 2 (.mov (.const (.int .i64 0)))] [])
 (.seq (.seq (.region [mv 5 0,
 op 6 (.len .slice (tp 5)),
 op 7 (.bin .gtr (.one .int) (tp 6) (.const (.int .i64 2000)))] [])
 (.cond (tp 7) (.seq (.region [op 2 (.mov (.const (.int .i64 2)))] [])
 (.ret))
 (.skip)))
 (.seq (.seq (.region [mv 8 0,
 op 9 (.len .slice (tp 8)),
 op 10 (.mov (.const (.int .i64 0)))] [])
 (.block 0 (.seq (.keep [0, 8, 9, 10])
 (.loop b140_0))))
 (.seq (.region [op 2 (.mov (.const (.int .i64 0)))] [])
 (.ret))))⟩
def b141_0 : XCode := .seq (.seq (.region [op 49 (.bin .lss (.one .int) (tp 48) (tp 47))] [])
 (.seq (.cond (tp 49) (.skip)
 (.exit 0))
 (.seq (.block 1 (.seq (.region [op 50 (.indexAddr 3 (tp 46) (tp 48)),
 op 51 (.load (some 3) (tp 50)),
 op 5 (.box 3 (.const (.agg [(.str []), (.str []), (.int .i64 0)]))),
 ⟨none, none, .store 3 (tp 5) (tp 51)⟩] [])
 (.seq (.region [mv 53 3,
 op 54 (.nilCheck (tp 53)),
 op 55 (.fieldAddr 0 (tp 54)),
 op 56 (.load none (tp 55)),
 op 57 (.fieldAddr 0 (tp 5)),
 op 58 (.load none (tp 57)),
 op 59 (.call (.const (.func (.func 197) [])) [(tp 56), (tp 58)]),
 mv 52 59,
 op 60 (.extract (tp 52) 0),
 op 61 (.extract (tp 52) 1),
 mv 6 60,
 mv 7 61] [])
 (.seq (.region [mv 63 3,
 op 64 (.nilCheck (tp 63)),
 op 65 (.fieldAddr 1 (tp 64)),
 op 66 (.load none (tp 65)),
 op 67 (.fieldAddr 1 (tp 5)),
 op 68 (.load none (tp 67)),
 op 69 (.call (.const (.func (.func 197) [])) [(tp 66), (tp 68)]),
 mv 62 69,
 op 70 (.extract (tp 62) 0),
 op 71 (.extract (tp 62) 1),
 mv 8 70,
 mv 9 71] [])
 (.region [mv 72 3,
 op 73 (.nilCheck (tp 72)),
 op 74 (.fieldAddr 2 (tp 73)),
 op 75 (.load none (tp 74)),
 mv 76 6,
 mv 77 3,
 op 78 (.nilCheck (tp 77)),
 op 79 (.fieldAddr 2 (tp 78)),
 op 80 (.load none (tp 79)),
 mv 81 6,
 op 82 (.indexAddr 1 (tp 80) (tp 81)),
 op 83 (.load none (tp 82)),
 mv 84 8,
 op 85 (.lit 1 [(.int .i64 0)] [(0, (tp 84))] false),
 op 86 (.append 1 8 (tp 83) (tp 85)),
 op 87 (.indexAddr 1 (tp 75) (tp 76)),
 ⟨none, none, .store 1 (tp 87) (tp 86)⟩] [((tp 74), (tp 83))])))))
 (.region [op 88 (.bin .add (.one .int) (tp 48) (.const (.int .i64 1))),
 mv 48 88] []))))
 (.keep [3, 46, 47, 48])
def b141_1 : XCode := .seq (.seq (.region [op 95 (.bin .lss (.one .int) (tp 94) (tp 93))] [])
 (.seq (.cond (tp 95) (.skip)
 (.exit 2))
 (.seq (.block 3 (.seq (.region [mv 96 94,
 mv 10 96] [])
 (.region [mv 97 3,
 mv 98 10,
 mv 99 3,
 op 100 (.nilCheck (tp 99)),
 op 101 (.fieldAddr 1 (tp 100)),
 op 102 (.load none (tp 101)),
 op 103 (.len .slice (tp 102)),
 op 104 (.mkSlice 1 1 (.bool false) (tp 103) (tp 103)),
 op 105 (.call (.const (.func (.func 198) [])) [(tp 97), (tp 98), (tp 104)])] [])))
 (.region [op 106 (.bin .add (.one .int) (tp 94) (.const (.int .i64 1))),
 mv 94 106] []))))
 (.keep [3, 93, 94])
def x141 : XFunc := ⟨1, [.tmp 2],
 .seq (.region [op 2 (.mov (.const .nilptr))] [])
 (.seq (.region [mv 11 0,
 op 12 (.call (.const (.func (.func 194) [])) [(tp 11)]),
 mv 13 0,
 op 14 (.call (.const (.func (.func 195) [])) [(tp 13)]),
 op 15 (.build [.nilslice, .nilslice, .nilslice, .nilslice, .nilslice] [(0, 1, (tp 12)), (1, 1, (tp 14))]),
 op 16 (.box 5 (tp 15)),
 mv 3 16] [])
 (.seq (.region [mv 17 3,
 mv 18 3,
 op 19 (.nilCheck (tp 18)),
 op 20 (.fieldAddr 0 (tp 19)),
 op 21 (.load none (tp 20)),
 op 22 (.len .slice (tp 21)),
 op 23 (.mkSlice 1 24 .nilslice (tp 22) (tp 22)),
 op 24 (.nilCheck (tp 17)),
 op 25 (.fieldAddr 2 (tp 24)),
 ⟨none, none, .store 1 (tp 25) (tp 23)⟩] [])
 (.seq (.region [mv 26 3,
 mv 27 3,
 op 28 (.lit 1 [(.int .i64 0)] [(0, (.const (.int .i64 (-1))))] false),
 mv 29 3,
 op 30 (.nilCheck (tp 29)),
 op 31 (.fieldAddr 0 (tp 30)),
 op 35 (.lit 1 [(.int .i64 0)] [(0, (.const (.int .i64 (-1))))] false),
 mv 36 3,
 op 37 (.nilCheck (tp 36)),
 op 38 (.fieldAddr 1 (tp 37)),
 op 32 (.load none (tp 31)),
 op 33 (.len .slice (tp 32)),
 op 39 (.load none (tp 38)),
 op 40 (.len .slice (tp 39)),
 op 34 (.call (.const (.func (.func 196) [])) [(tp 28), (tp 33)]),
 op 41 (.call (.const (.func (.func 196) [])) [(tp 35), (tp 40)]),
 op 42 (.nilCheck (tp 26)),
 op 43 (.fieldAddr 4 (tp 42)),
 ⟨none, none, .store 1 (tp 43) (tp 34)⟩,
 op 44 (.nilCheck (tp 27)),
 op 45 (.fieldAddr 3 (tp 44)),
 ⟨none, none, .store 1 (tp 45) (tp 41)⟩] [])
 (.seq (.seq (.region [mv 46 0,
 op 47 (.len .slice (tp 46)),
 op 48 (.mov (.const (.int .i64 0)))] [])
 (.block 0 (.seq (.keep [3, 46, 47, 48])
 (.loop b141_0))))
 (.seq (.seq (.region [mv 89 3,
 op 90 (.nilCheck (tp 89)),
 op 91 (.fieldAddr 0 (tp 90)),
 op 92 (.load none (tp 91)),
 op 93 (.len .slice (tp 92)),
 op 94 (.mov (.const (.int .i64 0)))] [])
 (.block 2 (.seq (.keep [3, 93, 94])
 (.loop b141_1))))
 (.seq (.region [mv 107 3,
 mv 2 107] [])
 (.ret)))))))⟩
def b142_0 : XCode := .seq (.seq (.region [op 12 (.bin .lss (.one .int) (tp 11) (tp 10))] [])
 (.seq (.cond (tp 12) (.skip)
 (.exit 0))
 (.seq (.block 1 (.seq (.region [op 13 (.indexAddr 1 (tp 9) (tp 11)),
 op 14 (.load none (tp 13)),
 mv 5 14] [])
 (.seq (.region [mv 15 5,
 op 16 (.bin .geq (.one .int) (tp 15) (.const (.int .i64 0)))] [])
 (.cond (tp 16) (.region [mv 17 3,
 op 18 (.bin .add (.one .int) (tp 17) (.const (.int .i64 1))),
 mv 3 18] [])
 (.skip)))))
 (.region [op 19 (.bin .add (.one .int) (tp 11) (.const (.int .i64 1))),
 mv 11 19] []))))
 (.keep [3, 9, 10, 11])
def x142 : XFunc := ⟨1, [.tmp 2],
 .seq (.region [op 2 (.mov (.const (.int .i64 0)))] [])
 (.seq (.region [op 3 (.mov (.const (.int .i64 0)))] [])
 (.seq (.seq (.region [mv 6 0,
 op 7 (.nilCheck (tp 6)),
 op 8 (.fieldAddr 4 (tp 7)),
 op 9 (.load none (tp 8)),
 op 10 (.len .slice (tp 9)),
 op 11 (.mov (.const (.int .i64 0)))] [])
 (.block 0 (.seq (.keep [3, 9, 10, 11])
 (.loop b142_0))))
 (.seq (.region [mv 20 3,
 mv 2 20] [])
 (.ret))))⟩
def b143_0 : XCode := .seq (.seq (.region [op 11 (.bin .lss (.one .int) (tp 10) (tp 9))] [])
 (.seq (.cond (tp 11) (.skip)
 (.exit 0))
 (.seq (.block 1 (.seq (.region [mv 12 10,
 op 13 (.indexAddr 2 (tp 8) (tp 10)),
 op 14 (.load (some 2) (tp 13)),
 op 4 (.box 2 (.const (.agg [(.int .i64 0), (.int .i64 0)]))),
 mv 3 12,
 ⟨none, none, .store 2 (tp 4) (tp 14)⟩] [])
 (.seq (.seq (.region [op 15 (.fieldAddr 0 (tp 4)),
 op 16 (.load none (tp 15)),
 op 17 (.bin .lss (.one .int) (tp 16) (.const (.int .i64 0))),
 mv 18 17,
 ⟨(some 19), (some (18, false)), .fieldAddr 0 (tp 4)⟩,
 ⟨(some 20), (some (18, false)), .load none (tp 19)⟩,
 ⟨(some 21), (some (18, false)), .fieldAddr 1 (tp 4)⟩,
 ⟨(some 22), (some (18, false)), .load none (tp 21)⟩,
 ⟨(some 23), (some (18, false)), .bin .geq (.one .int) (tp 20) (tp 22)⟩,
 op 24 (.pick (tp 18) (.const (.bool true)) (tp 23)),
 mv 25 24,
 ⟨(some 26), (some (25, false)), .fieldAddr 1 (tp 4)⟩,
 ⟨(some 27), (some (25, false)), .load none (tp 26)⟩,
 ⟨(some 28), (some (25, false)), .bin .gtr (.one .int) (tp 27) (.const (.int .i64 345686400000))⟩,
 op 29 (.pick (tp 25) (.const (.bool true)) (tp 28))] [])
 (.cond (tp 29) (.seq (.region [op 2 (.mov (.const (.int .i64 1)))] [])
 (.ret))
 (.skip)))
 (.seq (.region [mv 30 3,
 op 31 (.bin .gtr (.one .int) (tp 30) (.const (.int .i64 0))),
 mv 32 31,
 ⟨(some 33), (some (32, true)), .load (some 2) (tp 4)⟩,
 ⟨(some 34), (some (32, true)), .mov (tp 0)⟩,
 ⟨(some 35), (some (32, true)), .mov (tp 3)⟩,
 ⟨(some 36), (some (32, true)), .bin .sub (.one .int) (tp 35) (.const (.int .i64 1))⟩,
 ⟨(some 37), (some (32, true)), .indexAddr 2 (tp 34) (tp 36)⟩,
 ⟨(some 38), (some (32, true)), .load (some 2) (tp 37)⟩,
 ⟨(some 39), (some (32, true)), .call (.const (.func (.func 199) [])) [(tp 33), (tp 38)]⟩,
 ⟨(some 40), (some (32, true)), .bin .lss (.one .int) (tp 39) (.const (.int .i64 0))⟩,
 op 41 (.pick (tp 32) (tp 40) (.const (.bool false)))] [])
 (.cond (tp 41) (.seq (.region [op 2 (.mov (.const (.int .i64 7)))] [])
 (.ret))
 (.skip))))))
 (.region [op 42 (.bin .add (.one .int) (tp 10) (.const (.int .i64 1))),
 mv 10 42] []))))
 (.keep [0, 8, 9, 10])
def x143 : XFunc := ⟨1, [.tmp 2],
 .seq (.region [op 2 (.mov (.const (.int .i64 0)))] [])
 (.seq (.seq (.region [mv 5 0,
 op 6 (.len .slice (tp 5)),
 op 7 (.bin .gtr (.one .int) (tp 6) (.const (.int .i64 500)))] [])
 (.cond (tp 7) (.seq (.region [op 2 (.mov (.const (.int .i64 2)))] [])
 (.ret))
 (.skip)))
 (.seq (.seq (.region [mv 8 0,
 op 9 (.len .slice (tp 8)),
 op 10 (.mov (.const (.int .i64 0)))] [])
 (.block 0 (.seq (.keep [0, 8, 9, 10])
 (.loop b143_0))))
 (.seq (.region [op 2 (.mov (.const (.int .i64 0)))] [])
 (.ret))))⟩
def b144_0 : XCode := .seq (.seq (.region [op 12 (.bin .lss (.one .int) (tp 11) (tp 10))] [])
 (.seq (.cond (tp 12) (.skip)
 (.exit 0))
 (.seq (.block 1 (.seq (.region [op 13 (.indexAddr 2 (tp 9) (tp 11)),
 op 14 (.load (some 2) (tp 13)),
 op 7 (.box 2 (.const (.agg [(.int .i64 0), (.int .i64 0)]))),
 ⟨none, none, .store 2 (tp 7) (tp 14)⟩] [])
 (.seq (.region [mv 15 4,
 op 16 (.mkFunc (.func 201) [(tp 7)]),
 op 17 (.call (.const (.func (.func 200) [])) [(tp 15), (tp 16)]),
 mv 8 17] [])
 (.seq (.seq (.region [mv 18 8,
 op 19 (.bin .lss (.one .int) (tp 18) (.const (.int .i64 0)))] [])
 (.cond (tp 19) (.seq (.region [mv 20 4,
 op 21 (.len .slice (tp 20)),
 mv 8 21] [])
 (.region [mv 22 4,
 op 23 (.lit 1 [(.int .i64 0)] [(0, (.const (.int .i64 0)))] false),
 op 24 (.append 1 8 (tp 22) (tp 23)),
 mv 4 24] []))
 (.skip)))
 (.seq (.region [mv 25 4,
 mv 26 8,
 op 27 (.fieldAddr 1 (tp 7)),
 op 28 (.load none (tp 27)),
 op 29 (.indexAddr 1 (tp 25) (tp 26)),
 ⟨none, none, .store 1 (tp 29) (tp 28)⟩] [])
 (.region [mv 30 5,
 mv 31 8,
 op 32 (.lit 1 [(.int .i64 0)] [(0, (tp 31))] false),
 op 33 (.append 1 8 (tp 30) (tp 32)),
 mv 5 33] []))))))
 (.region [op 34 (.bin .add (.one .int) (tp 11) (.const (.int .i64 1))),
 mv 11 34] []))))
 (.keep [4, 5, 9, 10, 11])
def x144 : XFunc := ⟨1, [.tmp 2, .tmp 3],
 .seq (.region [op 2 (.mov (.const .nilslice)),
 op 3 (.mov (.const (.int .i64 0)))] [])
 (.seq (.region [op 4 (.mov (.const .nilslice)),
 op 5 (.mov (.const .nilslice))] [])
 (.seq (.seq (.region [mv 9 0,
 op 10 (.len .slice (tp 9)),
 op 11 (.mov (.const (.int .i64 0)))] [])
 (.block 0 (.seq (.keep [4, 5, 9, 10, 11])
 (.loop b144_0))))
 (.seq (.region [mv 35 5,
 mv 36 4,
 op 37 (.len .slice (tp 36)),
 mv 2 35,
 mv 3 37] [])
 (.ret))))⟩
def b145_0 : XCode := .seq (.seq (.region [op 11 (.bin .lss (.one .int) (tp 10) (tp 9))] [])
 (.seq (.cond (tp 11) (.skip)
 (.exit 0))
 (.seq (.block 1 (.seq (.region [mv 12 10,
 op 13 (.indexAddr 5 (tp 8) (tp 10)),
 op 14 (.load (some 5) (tp 13)),
 op 4 (.box 5 (.const (.agg [(.str []), (.str []), (.str []), (.int .i64 0), (.int .i64 0)]))),
 mv 3 12,
 ⟨none, none, .store 5 (tp 4) (tp 14)⟩] [])
 (.block 2 (.seq (.region [op 16 (.fieldAddr 0 (tp 4)),
 op 17 (.load none (tp 16)),
 op 18 (.call (.const (.func (.func 88) [])) [(tp 17)]),
 op 19 (.un .not (tp 18)),
 mv 20 19,
 ⟨(some 21), (some (20, false)), .fieldAddr 1 (tp 4)⟩,
 ⟨(some 22), (some (20, false)), .load none (tp 21)⟩,
 ⟨(some 23), (some (20, false)), .call (.const (.func (.func 88) [])) [(tp 22)]⟩,
 ⟨(some 24), (some (20, false)), .un .not (tp 23)⟩,
 op 25 (.pick (tp 20) (.const (.bool true)) (tp 24)),
 mv 26 25,
 ⟨(some 27), (some (26, false)), .fieldAddr 2 (tp 4)⟩,
 ⟨(some 28), (some (26, false)), .load none (tp 27)⟩,
 ⟨(some 29), (some (26, false)), .call (.const (.func (.func 88) [])) [(tp 28)]⟩,
 ⟨(some 30), (some (26, false)), .un .not (tp 29)⟩,
 op 31 (.pick (tp 26) (.const (.bool true)) (tp 30)),
 mv 15 31] [])
 (.cond (tp 15) (.seq (.region [op 2 (.mov (.const (.int .i64 5)))] [])
 (.ret))
 (.seq (.region [op 33 (.fieldAddr 0 (tp 4)),
 op 34 (.load none (tp 33)),
 op 35 (.fieldAddr 1 (tp 4)),
 op 36 (.load none (tp 35)),
 op 37 (.bin .eql (.one .str) (tp 34) (tp 36)),
 mv 32 37] [])
 (.cond (tp 32) (.seq (.region [op 2 (.mov (.const (.int .i64 6)))] [])
 (.ret))
 (.seq (.region [op 39 (.fieldAddr 3 (tp 4)),
 op 40 (.load none (tp 39)),
 op 41 (.call (.const (.func (.func 89) [])) [(tp 40), (.const (.int .i64 1)), (.const (.int .i64 5))]),
 mv 42 41,
 ⟨(some 43), (some (42, false)), .fieldAddr 4 (tp 4)⟩,
 ⟨(some 44), (some (42, false)), .load none (tp 43)⟩,
 ⟨(some 45), (some (42, false)), .call (.const (.func (.func 62) [])) [(tp 44)]⟩,
 ⟨(some 46), (some (42, false)), .un .not (tp 45)⟩,
 op 47 (.pick (tp 42) (.const (.bool true)) (tp 46)),
 mv 38 47] [])
 (.cond (tp 38) (.seq (.region [op 2 (.mov (.const (.int .i64 1)))] [])
 (.ret))
 (.seq (.region [mv 49 3,
 op 50 (.bin .gtr (.one .int) (tp 49) (.const (.int .i64 0))),
 mv 51 50,
 ⟨(some 52), (some (51, true)), .load (some 5) (tp 4)⟩,
 ⟨(some 53), (some (51, true)), .mov (tp 0)⟩,
 ⟨(some 54), (some (51, true)), .mov (tp 3)⟩,
 ⟨(some 55), (some (51, true)), .bin .sub (.one .int) (tp 54) (.const (.int .i64 1))⟩,
 ⟨(some 56), (some (51, true)), .indexAddr 5 (tp 53) (tp 55)⟩,
 ⟨(some 57), (some (51, true)), .load (some 5) (tp 56)⟩,
 ⟨(some 58), (some (51, true)), .call (.const (.func (.func 202) [])) [(tp 52), (tp 57)]⟩,
 ⟨(some 59), (some (51, true)), .bin .leq (.one .int) (tp 58) (.const (.int .i64 0))⟩,
 op 60 (.pick (tp 51) (tp 59) (.const (.bool false))),
 mv 48 60] [])
 (.cond (tp 48) (.seq (.region [op 2 (.mov (.const (.int .i64 7)))] [])
 (.ret))
 (.skip))))))))))))
 (.region [op 61 (.bin .add (.one .int) (tp 10) (.const (.int .i64 1))),
 mv 10 61] []))))
 (.keep [0, 8, 9, 10])
def x145 : XFunc := ⟨1, [.tmp 2],
 .seq (.region [op 2 (.mov (.const (.int .i64 0)))] [])
 (.seq (.seq (.region [mv 5 0,
 op 6 (.len .slice (tp 5)),
 op 7 (.bin .gtr (.one .int) (tp 6) (.const (.int .i64 3000)))] [])
 (.cond (tp 7) (.seq (.region [op 2 (.mov (.const (.int .i64 2)))] [])
 (.ret))
 (.skip)))
 (.seq (.seq (.region [mv 8 0,
 op 9 (.len .slice (tp 8)),
 op 10 (.mov (.const (.int .i64 0)))] [])
 (.block 0 (.seq (.keep [0, 8, 9, 10])
 (.loop b145_0))))
 (.seq (.region [op 2 (.mov (.const (.int .i64 0)))] [])
 (.ret))))⟩
end X
end Go.Proofs.YtplginnkececaaaGreatDoor
