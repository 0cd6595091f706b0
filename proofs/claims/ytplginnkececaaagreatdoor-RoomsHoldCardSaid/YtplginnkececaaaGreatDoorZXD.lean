/- The engine's functions that jitney/jitkeep2.RoomsHold reaches. No condition. MADE BY PROGRAM (xgen). -/
import Derived.Test.YtplginnkececaaaGreatDoorZXDa
set_option maxRecDepth 100000
namespace Go.Proofs.YtplginnkececaaaGreatDoor
open Go
namespace X
def x146 : XFunc := ⟨1, [.tmp 2],
 .seq (.region [op 1 (.box 3 (tp 0)),
 op 2 (.mov (.const (.int .i64 0)))] [])
 (.seq (.seq (.region [op 3 (.fieldAddr 0 (tp 1)),
 op 4 (.load none (tp 3)),
 op 5 (.call (.const (.func (.func 89) [])) [(tp 4), (.const (.int .i64 0)), (.const (.int .i64 1000))]),
 mv 6 5,
 ⟨(some 7), (some (6, false)), .fieldAddr 1 (tp 1)⟩,
 ⟨(some 8), (some (6, false)), .load none (tp 7)⟩,
 ⟨(some 9), (some (6, false)), .call (.const (.func (.func 89) [])) [(tp 8), (.const (.int .i64 1000)), (.const (.int .i64 5000))]⟩,
 op 10 (.pick (tp 6) (.const (.bool true)) (tp 9)),
 mv 11 10,
 ⟨(some 12), (some (11, false)), .fieldAddr 2 (tp 1)⟩,
 ⟨(some 13), (some (11, false)), .load none (tp 12)⟩,
 ⟨(some 14), (some (11, false)), .call (.const (.func (.func 89) [])) [(tp 13), (.const (.int .i64 0)), (.const (.int .i64 345686400000))]⟩,
 op 15 (.pick (tp 11) (.const (.bool true)) (tp 14))] [])
 (.cond (tp 15) (.seq (.region [op 2 (.mov (.const (.int .i64 1)))] [])
 (.ret))
 (.skip)))
 (.seq (.region [op 2 (.mov (.const (.int .i64 0)))] [])
 (.ret)))⟩
def b147_0 : XCode := .seq (.seq (.region [op 20 (.bin .lss (.one .int) (tp 19) (tp 18))] [])
 (.seq (.cond (tp 20) (.skip)
 (.exit 0))
 (.seq (.block 1 (.seq (.region [op 21 (.indexAddr 5 (tp 17) (tp 19)),
 op 22 (.load (some 5) (tp 21)),
 op 9 (.box 5 (.const (.agg [(.str []), (.str []), (.str []), (.int .i64 0), (.int .i64 0)]))),
 ⟨none, none, .store 5 (tp 9) (tp 22)⟩] [])
 (.seq (.region [op 10 (.mov (.const (.int .i64 1024)))] [])
 (.seq (.seq (.region [op 23 (.fieldAddr 2 (tp 3)),
 op 24 (.load none (tp 23)),
 op 25 (.bin .gtr (.one .int) (tp 24) (.const (.int .i64 0)))] [])
 (.cond (tp 25) (.region [mv 26 10,
 mv 27 2,
 op 28 (.fieldAddr 4 (tp 9)),
 op 29 (.load none (tp 28)),
 op 30 (.bin .sub (.one .int) (tp 27) (tp 29)),
 op 31 (.fieldAddr 2 (tp 3)),
 op 32 (.load none (tp 31)),
 op 33 (.bin .quo (.one .int) (tp 30) (tp 32)),
 op 34 (.mm false [(.const (.int .i64 10)), (tp 33)]),
 op 35 (.bin .shr (.one .int) (tp 26) (tp 34)),
 mv 10 35] [])
 (.skip)))
 (.seq (.region [mv 36 7,
 op 37 (.nilCheck (tp 36)),
 op 38 (.fieldAddr 0 (tp 37)),
 op 39 (.load none (tp 38)),
 op 40 (.fieldAddr 1 (tp 9)),
 op 41 (.load none (tp 40)),
 op 42 (.lookup (.one .str) (.int .i64 0) false (tp 39) (tp 41)),
 mv 43 10,
 op 44 (.bin .mul (.one .int) (.const (.int .i64 1000)) (tp 43)),
 op 45 (.fieldAddr 3 (tp 9)),
 op 46 (.load none (tp 45)),
 op 47 (.bin .mul (.one .int) (tp 44) (tp 46)),
 op 48 (.bin .add (.one .int) (tp 42) (tp 47)),
 ⟨none, none, .mapUpdate (.one .str) (tp 39) (tp 41) (tp 48)⟩] [])
 (.region [mv 49 7,
 op 50 (.nilCheck (tp 49)),
 op 51 (.fieldAddr 1 (tp 50)),
 op 52 (.load none (tp 51)),
 op 53 (.fieldAddr 1 (tp 9)),
 op 54 (.load none (tp 53)),
 op 55 (.lookup (.one .str) (.int .i64 0) false (tp 52) (tp 54)),
 mv 56 10,
 op 57 (.bin .mul (.one .int) (.const (.int .i64 1000)) (tp 56)),
 op 58 (.bin .add (.one .int) (tp 55) (tp 57)),
 ⟨none, none, .mapUpdate (.one .str) (tp 52) (tp 54) (tp 58)⟩] []))))))
 (.region [op 59 (.bin .add (.one .int) (tp 19) (.const (.int .i64 1))),
 mv 19 59] []))))
 (.keep [2, 3, 7, 17, 18, 19])
def x147 : XFunc := ⟨3, [.tmp 6],
 .seq (.region [op 3 (.box 3 (tp 0)),
 op 6 (.mov (.const .nilptr))] [])
 (.seq (.region [op 11 (.mkMap),
 op 12 (.mkMap),
 op 13 (.build [.nilmap, .nilmap] [(0, 1, (tp 11)), (1, 1, (tp 12))]),
 op 14 (.box 2 (tp 13)),
 mv 7 14] [])
 (.seq (.seq (.region [mv 15 1,
 mv 16 2,
 op 17 (.call (.const (.func (.func 203) [])) [(tp 15), (tp 16)]),
 op 18 (.len .slice (tp 17)),
 op 19 (.mov (.const (.int .i64 0)))] [])
 (.block 0 (.seq (.keep [2, 3, 7, 17, 18, 19])
 (.loop b147_0))))
 (.seq (.region [mv 60 7,
 mv 6 60] [])
 (.ret))))⟩
def x148 : XFunc := ⟨3, [.cell 6 (some 2), .tmp 7],
 .seq (.region [op 4 (.box 3 (tp 1)),
 op 6 (.box 2 (.const (.agg [(.int .i64 0), (.int .i64 0)]))),
 op 7 (.mov (.const (.bool false)))] [])
 (.seq (.region [mv 9 0,
 op 10 (.nilCheck (tp 9)),
 op 11 (.fieldAddr 1 (tp 10)),
 op 12 (.load none (tp 11)),
 mv 13 2,
 op 14 (.lookup (.one .str) (.int .i64 0) false (tp 12) (tp 13)),
 op 15 (.fieldAddr 0 (tp 4)),
 op 16 (.load none (tp 15)),
 op 17 (.bin .mul (.one .int) (.const (.int .i64 1024000)) (tp 16)),
 op 18 (.bin .add (.one .int) (tp 14) (tp 17)),
 mv 8 18] [])
 (.seq (.seq (.region [mv 19 8,
 op 20 (.bin .eql (.one .int) (tp 19) (.const (.int .i64 0)))] [])
 (.cond (tp 20) (.seq (.region [op 21 (.build [(.int .i64 0), (.int .i64 0)] []),
 ⟨none, none, .store 2 (tp 6) (tp 21)⟩,
 op 7 (.mov (.const (.bool false)))] [])
 (.ret))
 (.skip)))
 (.seq (.region [mv 22 0,
 op 23 (.nilCheck (tp 22)),
 op 24 (.fieldAddr 0 (tp 23)),
 op 25 (.load none (tp 24)),
 mv 26 2,
 op 27 (.lookup (.one .str) (.int .i64 0) false (tp 25) (tp 26)),
 op 28 (.fieldAddr 0 (tp 4)),
 op 29 (.load none (tp 28)),
 op 30 (.bin .mul (.one .int) (.const (.int .i64 1024)) (tp 29)),
 op 31 (.fieldAddr 1 (tp 4)),
 op 32 (.load none (tp 31)),
 op 33 (.bin .mul (.one .int) (tp 30) (tp 32)),
 op 34 (.bin .add (.one .int) (tp 27) (tp 33)),
 mv 35 8,
 op 36 (.call (.const (.func (.func 204) [])) [(tp 34), (tp 35)]),
 ⟨none, none, .store 2 (tp 6) (tp 36)⟩,
 op 7 (.mov (.const (.bool true)))] [])
 (.ret))))⟩
def b149_0 : XCode := .seq (.seq (.seq (.region [mv 18 9,
 mv 19 1,
 op 20 (.bin .gtr (.one .int) (tp 18) (tp 19)),
 mv 21 20,
 ⟨(some 22), (some (21, true)), .mov (tp 3)⟩,
 ⟨(some 23), (some (21, true)), .mov (tp 0)⟩,
 ⟨(some 24), (some (21, true)), .mov (tp 9)⟩,
 ⟨(some 25), (some (21, true)), .indexAddr 10 (tp 23) (tp 24)⟩,
 ⟨(some 26), (some (21, true)), .load (some 10) (tp 25)⟩,
 ⟨(some 27), (some (21, true)), .mov (tp 0)⟩,
 ⟨(some 28), (some (21, true)), .mov (tp 9)⟩,
 ⟨(some 29), (some (21, true)), .bin .sub (.one .int) (tp 28) (.const (.int .i64 1))⟩,
 ⟨(some 30), (some (21, true)), .indexAddr 10 (tp 27) (tp 29)⟩,
 ⟨(some 31), (some (21, true)), .load (some 10) (tp 30)⟩,
 ⟨(some 32), (some (21, true)), .call (tp 22) [(tp 26), (tp 31)]⟩,
 ⟨(some 33), (some (21, true)), .bin .lss (.one .int) (tp 32) (.const (.int .i64 0))⟩,
 op 34 (.pick (tp 21) (tp 33) (.const (.bool false)))] [])
 (.cond (tp 34) (.skip)
 (.exit 2)))
 (.seq (.block 3 (.region [mv 37 0,
 mv 38 9,
 mv 39 0,
 mv 40 9,
 op 41 (.bin .sub (.one .int) (tp 40) (.const (.int .i64 1))),
 mv 42 0,
 mv 43 9,
 op 44 (.bin .sub (.one .int) (tp 43) (.const (.int .i64 1))),
 op 45 (.indexAddr 10 (tp 42) (tp 44)),
 op 46 (.load (some 10) (tp 45)),
 mv 47 0,
 mv 48 9,
 op 49 (.indexAddr 10 (tp 47) (tp 48)),
 op 50 (.load (some 10) (tp 49)),
 op 51 (.indexAddr 10 (tp 37) (tp 38)),
 ⟨none, none, .store 10 (tp 51) (tp 46)⟩,
 op 52 (.indexAddr 10 (tp 39) (tp 41)),
 ⟨none, none, .store 10 (tp 52) (tp 50)⟩] []))
 (.region [mv 35 9,
 op 36 (.bin .sub (.one .int) (tp 35) (.const (.int .i64 1))),
 mv 9 36] [])))
 (.keep [0, 1, 2, 3, 8, 9])
def b149_1 : XCode := .seq (.seq (.seq (.region [mv 12 8,
 mv 13 2,
 op 14 (.bin .lss (.one .int) (tp 12) (tp 13))] [])
 (.cond (tp 14) (.skip)
 (.exit 0)))
 (.seq (.block 1 (.seq (.region [mv 17 8,
 mv 9 17] [])
 (.block 2 (.seq (.keep [0, 1, 2, 3, 8, 9])
 (.loop b149_0)))))
 (.region [mv 15 8,
 op 16 (.bin .add (.one .int) (tp 15) (.const (.int .i64 1))),
 mv 8 16] [])))
 (.keep [0, 1, 2, 3, 8])
def x149 : XFunc := ⟨4, [],
 .seq (.region [mv 10 1,
 op 11 (.bin .add (.one .int) (tp 10) (.const (.int .i64 1))),
 mv 8 11] [])
 (.block 0 (.seq (.keep [0, 1, 2, 3, 8])
 (.loop b149_1)))⟩
def b151_0 : XCode := .seq (.seq (.region [op 17 (.bin .lss (.one .int) (tp 16) (tp 15))] [])
 (.seq (.cond (tp 17) (.skip)
 (.exit 0))
 (.seq (.block 1 (.seq (.region [op 18 (.indexAddr 1 (tp 14) (tp 16)),
 op 19 (.load none (tp 18)),
 mv 8 19] [])
 (.seq (.region [mv 20 8,
 op 21 (.nilCheck (tp 20)),
 op 22 (.fieldAddr 10 (tp 21)),
 op 23 (.load none (tp 22))] [])
 (.cond (tp 23) (.region [mv 24 6,
 mv 25 8,
 op 26 (.nilCheck (tp 25)),
 op 27 (.fieldAddr 0 (tp 26)),
 op 28 (.fieldAddr 0 (tp 27)),
 op 29 (.fieldAddr 5 (tp 28)),
 op 30 (.load none (tp 29)),
 op 31 (.mm false [(tp 24), (tp 30)]),
 mv 6 31] [])
 (.skip)))))
 (.region [op 32 (.bin .add (.one .int) (tp 16) (.const (.int .i64 1))),
 mv 16 32] []))))
 (.keep [1, 6, 14, 15, 16])
def x151 : XFunc := ⟨2, [.tmp 4, .tmp 5],
 .seq (.region [op 4 (.mov (.const (.int .i64 0))),
 op 5 (.mov (.const (.bool false)))] [])
 (.seq (.region [mv 9 1,
 op 10 (.bin .add (.one .int) (tp 9) (.const (.int .i64 1))),
 mv 6 10] [])
 (.seq (.seq (.region [mv 11 0,
 op 12 (.nilCheck (tp 11)),
 op 13 (.fieldAddr 3 (tp 12)),
 op 14 (.load none (tp 13)),
 op 15 (.len .slice (tp 14)),
 op 16 (.mov (.const (.int .i64 0)))] [])
 (.block 0 (.seq (.keep [1, 6, 14, 15, 16])
 (.loop b151_0))))
 (.seq (.region [mv 33 6,
 mv 34 6,
 mv 35 1,
 op 36 (.bin .leq (.one .int) (tp 34) (tp 35)),
 mv 4 33,
 mv 5 36] [])
 (.ret))))⟩
def x152 : XFunc := ⟨2, [.tmp 4],
 .seq (.region [op 4 (.mov (.const (.int .i64 0)))] [])
 (.seq (.region [mv 6 0,
 mv 7 1,
 op 8 (.nilCheck (tp 7)),
 op 9 (.fieldAddr 0 (tp 8)),
 op 10 (.fieldAddr 0 (tp 9)),
 op 11 (.load (some 8) (tp 10)),
 op 12 (.call (.const (.func (.func 69) [])) [(tp 6), (tp 11)]),
 mv 5 12] [])
 (.seq (.seq (.region [mv 13 1,
 op 14 (.nilCheck (tp 13)),
 op 15 (.fieldAddr 0 (tp 14)),
 op 16 (.fieldAddr 8 (tp 15)),
 op 17 (.load none (tp 16)),
 op 18 (.bin .eql (.one .int) (tp 17) (.const (.int .i64 1)))] [])
 (.cond (tp 18) (.region [mv 19 0,
 op 20 (.nilCheck (tp 19)),
 op 21 (.fieldAddr 4 (tp 20)),
 op 22 (.load none (tp 21)),
 mv 23 5,
 op 24 (.indexAddr 1 (tp 22) (tp 23)),
 op 25 (.load none (tp 24)),
 mv 26 1,
 op 27 (.call (.const (.func (.func 206) [])) [(tp 26)]),
 op 28 (.bin .sub (.one .int) (tp 25) (tp 27)),
 op 29 (.indexAddr 1 (tp 22) (tp 23)),
 ⟨none, none, .store 1 (tp 29) (tp 28)⟩] [])
 (.skip)))
 (.seq (.region [mv 30 5,
 mv 4 30] [])
 (.ret))))⟩
def x153 : XFunc := ⟨1, [],
 .seq (.region [mv 3 0,
 op 4 (.len .slice (tp 3)),
 mv 2 4] [])
 (.region [mv 5 0,
 mv 6 2,
 mv 7 2,
 op 8 (.convInt .u64 (tp 7)),
 op 9 (.call (.const (.func (.func 118) [])) [(tp 8)]),
 op 10 (.call (.const (.func (.func 207) [])) [(tp 5), (.const (.int .i64 0)), (tp 6), (tp 9)])] [])⟩
def b154_0 : XCode := .seq (.seq (.seq (.region [mv 29 5,
 mv 30 4,
 op 31 (.len .slice (tp 30)),
 op 32 (.bin .lss (.one .int) (tp 29) (tp 31))] [])
 (.cond (tp 32) (.skip)
 (.exit 2)))
 (.seq (.block 3 (.seq (.region [mv 35 4,
 mv 36 5,
 op 37 (.indexAddr 1 (tp 35) (tp 36)),
 op 38 (.load none (tp 37)),
 mv 39 4,
 mv 40 5,
 op 41 (.bin .sub (.one .int) (tp 40) (.const (.int .i64 1))),
 op 42 (.indexAddr 1 (tp 39) (tp 41)),
 op 43 (.load none (tp 42)),
 op 44 (.bin .neq (.one .int) (tp 38) (tp 43))] [])
 (.cond (tp 44) (.seq (.region [mv 45 0,
 mv 46 3,
 mv 47 4,
 mv 48 5,
 op 49 (.indexAddr 1 (tp 47) (tp 48)),
 op 50 (.load none (tp 49)),
 op 51 (.indexAddr 1 (tp 45) (tp 46)),
 ⟨none, none, .store 1 (tp 51) (tp 50)⟩] [])
 (.region [mv 52 3,
 op 53 (.bin .add (.one .int) (tp 52) (.const (.int .i64 1))),
 mv 3 53] []))
 (.skip))))
 (.region [mv 33 5,
 op 34 (.bin .add (.one .int) (tp 33) (.const (.int .i64 1))),
 mv 5 34] [])))
 (.keep [0, 3, 4, 5])
def b154_1 : XCode := .seq (.seq (.seq (.region [mv 10 3,
 mv 11 0,
 op 12 (.len .slice (tp 11)),
 op 13 (.bin .lss (.one .int) (tp 10) (tp 12))] [])
 (.cond (tp 13) (.skip)
 (.exit 0)))
 (.seq (.block 1 (.seq (.region [mv 16 0,
 mv 17 3,
 op 18 (.indexAddr 1 (tp 16) (tp 17)),
 op 19 (.load none (tp 18)),
 mv 20 0,
 mv 21 3,
 op 22 (.bin .sub (.one .int) (tp 21) (.const (.int .i64 1))),
 op 23 (.indexAddr 1 (tp 20) (tp 22)),
 op 24 (.load none (tp 23)),
 op 25 (.bin .eql (.one .int) (tp 19) (tp 24))] [])
 (.cond (tp 25) (.seq (.region [mv 26 0,
 mv 27 3,
 op 28 (.sliceSl 1 (tp 26) (some (tp 27)) none),
 mv 4 28] [])
 (.seq (.seq (.region [op 5 (.mov (.const (.int .i64 1)))] [])
 (.block 2 (.seq (.keep [0, 3, 4, 5])
 (.loop b154_0))))
 (.seq (.region [mv 54 0,
 mv 55 3,
 op 56 (.sliceSl 1 (tp 54) (some (tp 55)) none),
 ⟨none, none, .clear 1 (.int .i64 0) (tp 56)⟩] [])
 (.seq (.region [mv 57 0,
 mv 58 3,
 op 59 (.sliceSl 1 (tp 57) none (some (tp 58))),
 mv 2 59] [])
 (.ret)))))
 (.skip))))
 (.region [mv 14 3,
 op 15 (.bin .add (.one .int) (tp 14) (.const (.int .i64 1))),
 mv 3 15] [])))
 (.keep [0, 3])
def x154 : XFunc := ⟨1, [.tmp 2],
 .seq (.region [op 2 (.mov (.const .nilslice))] [])
 (.seq (.seq (.region [mv 6 0,
 op 7 (.len .slice (tp 6)),
 op 8 (.bin .lss (.one .int) (tp 7) (.const (.int .i64 2)))] [])
 (.cond (tp 8) (.seq (.region [mv 9 0,
 mv 2 9] [])
 (.ret))
 (.skip)))
 (.seq (.seq (.region [op 3 (.mov (.const (.int .i64 1)))] [])
 (.block 0 (.seq (.keep [0, 3])
 (.loop b154_1))))
 (.seq (.region [mv 60 0,
 mv 2 60] [])
 (.ret))))⟩
def b155_0 : XCode := .seq (.seq (.region [op 15 (.bin .lss (.one .int) (tp 14) (tp 13))] [])
 (.seq (.cond (tp 15) (.skip)
 (.exit 0))
 (.seq (.block 1 (.seq (.region [op 16 (.indexAddr 1 (tp 12) (tp 14)),
 op 17 (.load none (tp 16)),
 mv 7 17] [])
 (.seq (.region [mv 18 0,
 mv 19 7,
 op 20 (.call (.const (.func (.func 208) [])) [(tp 18), (tp 19)])] [])
 (.cond (tp 20) (.seq (.region [mv 21 0,
 mv 22 7,
 mv 23 2,
 op 24 (.call (.const (.func (.func 157) [])) [(tp 21), (tp 22), (tp 23)])] [])
 (.region [mv 25 0,
 mv 26 0,
 op 27 (.nilCheck (tp 26)),
 op 28 (.fieldAddr 5 (tp 27)),
 op 29 (.load none (tp 28)),
 mv 30 7,
 op 31 (.nilCheck (tp 30)),
 op 32 (.fieldAddr 0 (tp 31)),
 op 33 (.load (some 10) (tp 32)),
 op 34 (.lit 10 [(.agg [(.str []), (.str []), (.str []), (.str []), (.int .i64 0), (.int .i64 0), (.int .i64 0), (.int .i64 0), (.int .i64 0), (.int .i64 0)])] [(0, (tp 33))] false),
 op 35 (.append 10 112 (tp 29) (tp 34)),
 op 36 (.nilCheck (tp 25)),
 op 37 (.fieldAddr 5 (tp 36)),
 ⟨none, none, .store 1 (tp 37) (tp 35)⟩] []))
 (.skip)))))
 (.region [op 38 (.bin .add (.one .int) (tp 14) (.const (.int .i64 1))),
 mv 14 38] []))))
 (.keep [0, 2, 12, 13, 14])
def x155 : XFunc := ⟨3, [],
 .seq (.seq (.region [mv 8 1,
 op 9 (.bin .lss (.one .int) (tp 8) (.const (.int .i64 0)))] [])
 (.cond (tp 9) (.ret)
 (.skip)))
 (.seq (.region [mv 10 0,
 mv 11 1,
 op 12 (.call (.const (.func (.func 68) [])) [(tp 10), (tp 11)]),
 op 13 (.len .slice (tp 12)),
 op 14 (.mov (.const (.int .i64 0)))] [])
 (.block 0 (.seq (.keep [0, 2, 12, 13, 14])
 (.loop b155_0))))⟩
def b156_0 : XCode := .seq (.seq (.region [op 36 (.bin .lss (.one .int) (tp 35) (tp 34))] [])
 (.seq (.cond (tp 36) (.skip)
 (.exit 0))
 (.seq (.block 1 (.seq (.region [op 37 (.indexAddr 1 (tp 33) (tp 35)),
 op 38 (.load none (tp 37)),
 mv 14 38] [])
 (.seq (.region [mv 39 14,
 op 40 (.nilCheck (tp 39)),
 op 41 (.fieldAddr 10 (tp 40)),
 op 42 (.load none (tp 41)),
 mv 43 42,
 ⟨(some 44), (some (43, true)), .mov (tp 14)⟩,
 ⟨(some 45), (some (43, true)), .nilCheck (tp 44)⟩,
 ⟨(some 46), (some (43, true)), .fieldAddr 0 (tp 45)⟩,
 ⟨(some 47), (some (43, true)), .fieldAddr 0 (tp 46)⟩,
 ⟨(some 48), (some (43, true)), .fieldAddr 1 (tp 47)⟩,
 ⟨(some 49), (some (43, true)), .load none (tp 48)⟩,
 ⟨(some 50), (some (43, true)), .fieldAddr 1 (tp 5)⟩,
 ⟨(some 51), (some (43, true)), .load none (tp 50)⟩,
 ⟨(some 52), (some (43, true)), .bin .eql (.one .str) (tp 49) (tp 51)⟩,
 op 53 (.pick (tp 43) (tp 52) (.const (.bool false))),
 mv 54 53,
 ⟨(some 55), (some (54, true)), .mov (tp 14)⟩,
 ⟨(some 56), (some (54, true)), .mov (tp 3)⟩,
 ⟨(some 57), (some (54, true)), .bin .neq .ptr (tp 55) (tp 56)⟩,
 op 58 (.pick (tp 54) (tp 57) (.const (.bool false)))] [])
 (.cond (tp 58) (.seq (.region [mv 59 11,
 op 60 (.bin .add (.one .int) (tp 59) (.const (.int .i64 1))),
 mv 11 60] [])
 (.region [mv 61 12,
 mv 62 14,
 op 63 (.call (.const (.func (.func 206) [])) [(tp 62)]),
 op 64 (.bin .add (.one .int) (tp 61) (tp 63)),
 mv 12 64] []))
 (.skip)))))
 (.region [op 65 (.bin .add (.one .int) (tp 35) (.const (.int .i64 1))),
 mv 35 65] []))))
 (.keep [2, 3, 5, 9, 10, 11, 12, 33, 34, 35])
def x156 : XFunc := ⟨4, [.tmp 8],
 .seq (.region [op 5 (.box 8 (tp 1)),
 op 8 (.mov (.const (.bool false)))] [])
 (.seq (.region [mv 16 0,
 op 17 (.nilCheck (tp 16)),
 op 18 (.fieldAddr 0 (tp 17)),
 op 19 (.load none (tp 18)),
 op 20 (.fieldAddr 1 (tp 5)),
 op 21 (.load none (tp 20)),
 op 22 (.lookup (.one .str) (.agg [(.str []), (.int .i64 0), (.int .i64 0)]) true (tp 19) (tp 21)),
 mv 15 22,
 op 23 (.extract (tp 15) 0),
 op 24 (.extract (tp 15) 1),
 op 9 (.box 3 (.const (.agg [(.str []), (.int .i64 0), (.int .i64 0)]))),
 ⟨none, none, .store 3 (tp 9) (tp 23)⟩,
 mv 10 24] [])
 (.seq (.region [op 25 (.fieldAddr 6 (tp 5)),
 op 26 (.load none (tp 25)),
 op 27 (.fieldAddr 7 (tp 5)),
 op 28 (.load none (tp 27)),
 op 29 (.bin .add (.one .int) (tp 26) (tp 28)),
 op 11 (.mov (.const (.int .i64 0))),
 mv 12 29] [])
 (.seq (.seq (.region [mv 30 0,
 op 31 (.nilCheck (tp 30)),
 op 32 (.fieldAddr 3 (tp 31)),
 op 33 (.load none (tp 32)),
 op 34 (.len .slice (tp 33)),
 op 35 (.mov (.const (.int .i64 0)))] [])
 (.block 0 (.seq (.keep [2, 3, 5, 9, 10, 11, 12, 33, 34, 35])
 (.loop b156_0))))
 (.seq (.region [mv 66 10,
 mv 67 66,
 ⟨(some 68), (some (67, true)), .mov (tp 3)⟩,
 ⟨(some 69), (some (67, true)), .bin .neq .ptr (tp 68) (.const .nilptr)⟩,
 ⟨(some 70), (some (67, true)), .mov (tp 69)⟩,
 ⟨(some 71), (some (70, false)), .mov (tp 11)⟩,
 ⟨(some 72), (some (70, false)), .fieldAddr 1 (tp 9)⟩,
 ⟨(some 73), (some (70, false)), .load none (tp 72)⟩,
 ⟨(some 74), (some (70, false)), .bin .lss (.one .int) (tp 71) (tp 73)⟩,
 ⟨(some 75), (some (67, true)), .pick (tp 70) (.const (.bool true)) (tp 74)⟩,
 op 76 (.pick (tp 67) (tp 75) (.const (.bool false))),
 mv 77 76,
 ⟨(some 78), (some (77, true)), .mov (tp 12)⟩,
 ⟨(some 79), (some (77, true)), .fieldAddr 2 (tp 9)⟩,
 ⟨(some 80), (some (77, true)), .load none (tp 79)⟩,
 ⟨(some 81), (some (77, true)), .bin .leq (.one .int) (tp 78) (tp 80)⟩,
 op 82 (.pick (tp 77) (tp 81) (.const (.bool false))),
 mv 83 82,
 ⟨(some 84), (some (83, true)), .fieldAddr 4 (tp 5)⟩,
 ⟨(some 85), (some (83, true)), .load none (tp 84)⟩,
 ⟨(some 86), (some (83, true)), .mov (tp 2)⟩,
 ⟨(some 87), (some (83, true)), .bin .geq (.one .int) (tp 85) (tp 86)⟩,
 op 88 (.pick (tp 83) (tp 87) (.const (.bool false))),
 mv 8 88] [])
 (.ret)))))⟩
def x157 : XFunc := ⟨3, [],
 .seq (.region [op 6 (.mov (.const (.int .i64 2)))] [])
 (.seq (.seq (.region [mv 7 0,
 mv 8 1,
 op 9 (.call (.const (.func (.func 208) [])) [(tp 7), (tp 8)])] [])
 (.cond (tp 9) (.seq (.region [op 6 (.mov (.const (.int .i64 1)))] [])
 (.region [mv 10 0,
 op 11 (.nilCheck (tp 10)),
 op 12 (.fieldAddr 4 (tp 11)),
 op 13 (.load none (tp 12)),
 mv 14 0,
 mv 15 1,
 op 16 (.nilCheck (tp 15)),
 op 17 (.fieldAddr 0 (tp 16)),
 op 18 (.fieldAddr 0 (tp 17)),
 op 19 (.load (some 8) (tp 18)),
 op 20 (.call (.const (.func (.func 69) [])) [(tp 14), (tp 19)]),
 op 21 (.indexAddr 1 (tp 13) (tp 20)),
 op 22 (.load none (tp 21)),
 mv 23 1,
 op 24 (.call (.const (.func (.func 206) [])) [(tp 23)]),
 op 25 (.bin .add (.one .int) (tp 22) (tp 24)),
 op 26 (.indexAddr 1 (tp 13) (tp 20)),
 ⟨none, none, .store 1 (tp 26) (tp 25)⟩] []))
 (.skip)))
 (.region [mv 27 1,
 mv 28 1,
 mv 29 6,
 mv 30 2,
 op 31 (.nilCheck (tp 27)),
 op 32 (.fieldAddr 0 (tp 31)),
 op 33 (.fieldAddr 8 (tp 32)),
 ⟨none, none, .store 1 (tp 33) (tp 29)⟩,
 op 34 (.nilCheck (tp 28)),
 op 35 (.fieldAddr 0 (tp 34)),
 op 36 (.fieldAddr 9 (tp 35)),
 ⟨none, none, .store 1 (tp 36) (tp 30)⟩] []))⟩
def b158_0 : XCode := .seq (.seq (.seq (.region [mv 18 9,
 mv 19 1,
 op 20 (.bin .gtr (.one .int) (tp 18) (tp 19)),
 mv 21 20,
 ⟨(some 22), (some (21, true)), .mov (tp 3)⟩,
 ⟨(some 23), (some (21, true)), .mov (tp 0)⟩,
 ⟨(some 24), (some (21, true)), .mov (tp 9)⟩,
 ⟨(some 25), (some (21, true)), .indexAddr 10 (tp 23) (tp 24)⟩,
 ⟨(some 26), (some (21, true)), .load (some 10) (tp 25)⟩,
 ⟨(some 27), (some (21, true)), .mov (tp 0)⟩,
 ⟨(some 28), (some (21, true)), .mov (tp 9)⟩,
 ⟨(some 29), (some (21, true)), .bin .sub (.one .int) (tp 28) (.const (.int .i64 1))⟩,
 ⟨(some 30), (some (21, true)), .indexAddr 10 (tp 27) (tp 29)⟩,
 ⟨(some 31), (some (21, true)), .load (some 10) (tp 30)⟩,
 ⟨(some 32), (some (21, true)), .call (tp 22) [(tp 26), (tp 31)]⟩,
 ⟨(some 33), (some (21, true)), .bin .lss (.one .int) (tp 32) (.const (.int .i64 0))⟩,
 op 34 (.pick (tp 21) (tp 33) (.const (.bool false)))] [])
 (.cond (tp 34) (.skip)
 (.exit 2)))
 (.seq (.block 3 (.region [mv 37 0,
 mv 38 9,
 mv 39 0,
 mv 40 9,
 op 41 (.bin .sub (.one .int) (tp 40) (.const (.int .i64 1))),
 mv 42 0,
 mv 43 9,
 op 44 (.bin .sub (.one .int) (tp 43) (.const (.int .i64 1))),
 op 45 (.indexAddr 10 (tp 42) (tp 44)),
 op 46 (.load (some 10) (tp 45)),
 mv 47 0,
 mv 48 9,
 op 49 (.indexAddr 10 (tp 47) (tp 48)),
 op 50 (.load (some 10) (tp 49)),
 op 51 (.indexAddr 10 (tp 37) (tp 38)),
 ⟨none, none, .store 10 (tp 51) (tp 46)⟩,
 op 52 (.indexAddr 10 (tp 39) (tp 41)),
 ⟨none, none, .store 10 (tp 52) (tp 50)⟩] []))
 (.region [mv 35 9,
 op 36 (.bin .sub (.one .int) (tp 35) (.const (.int .i64 1))),
 mv 9 36] [])))
 (.keep [0, 1, 2, 3, 8, 9])
def b158_1 : XCode := .seq (.seq (.seq (.region [mv 12 8,
 mv 13 2,
 op 14 (.bin .lss (.one .int) (tp 12) (tp 13))] [])
 (.cond (tp 14) (.skip)
 (.exit 0)))
 (.seq (.block 1 (.seq (.region [mv 17 8,
 mv 9 17] [])
 (.block 2 (.seq (.keep [0, 1, 2, 3, 8, 9])
 (.loop b158_0)))))
 (.region [mv 15 8,
 op 16 (.bin .add (.one .int) (tp 15) (.const (.int .i64 1))),
 mv 8 16] [])))
 (.keep [0, 1, 2, 3, 8])
def x158 : XFunc := ⟨4, [],
 .seq (.region [mv 10 1,
 op 11 (.bin .add (.one .int) (tp 10) (.const (.int .i64 1))),
 mv 8 11] [])
 (.block 0 (.seq (.keep [0, 1, 2, 3, 8])
 (.loop b158_1)))⟩
def x166 : XFunc := ⟨1, [.tmp 2],
 .seq (.region [op 2 (.mov (.const (.int .i64 0)))] [])
 (.seq (.seq (.region [mv 3 0,
 op 4 (.bin .geq (.one .int) (tp 3) (.const (.int .u32 65536)))] [])
 (.cond (tp 4) (.seq (.region [mv 5 0,
 op 6 (.bin .shr (.one .int) (tp 5) (.const (.int .u64 16))),
 mv 0 6] [])
 (.region [op 2 (.mov (.const (.int .i64 16)))] []))
 (.skip)))
 (.seq (.seq (.region [mv 7 0,
 op 8 (.bin .geq (.one .int) (tp 7) (.const (.int .u32 256)))] [])
 (.cond (tp 8) (.seq (.region [mv 9 0,
 op 10 (.bin .shr (.one .int) (tp 9) (.const (.int .u64 8))),
 mv 0 10] [])
 (.region [mv 11 2,
 op 12 (.bin .add (.one .int) (tp 11) (.const (.int .i64 8))),
 mv 2 12] []))
 (.skip)))
 (.seq (.region [mv 13 2,
 mv 14 0,
 op 15 (.convInt .u8 (tp 14)),
 op 16 (.indexStr (.const (.str [0, 1, 2, 2, 3, 3, 3, 3, 4, 4, 4, 4, 4, 4, 4, 4, 5, 5, 5, 5, 5, 5, 5, 5, 5, 5, 5, 5, 5, 5, 5, 5, 6, 6, 6, 6, 6, 6, 6, 6, 6, 6, 6, 6, 6, 6, 6, 6, 6, 6, 6, 6, 6, 6, 6, 6, 6, 6, 6, 6, 6, 6, 6, 6, 7, 7, 7, 7, 7, 7, 7, 7, 7, 7, 7, 7, 7, 7, 7, 7, 7, 7, 7, 7, 7, 7, 7, 7, 7, 7, 7, 7, 7, 7, 7, 7, 7, 7, 7, 7, 7, 7, 7, 7, 7, 7, 7, 7, 7, 7, 7, 7, 7, 7, 7, 7, 7, 7, 7, 7, 7, 7, 7, 7, 7, 7, 7, 7, 8, 8, 8, 8, 8, 8, 8, 8, 8, 8, 8, 8, 8, 8, 8, 8, 8, 8, 8, 8, 8, 8, 8, 8, 8, 8, 8, 8, 8, 8, 8, 8, 8, 8, 8, 8, 8, 8, 8, 8, 8, 8, 8, 8, 8, 8, 8, 8, 8, 8, 8, 8, 8, 8, 8, 8, 8, 8, 8, 8, 8, 8, 8, 8, 8, 8, 8, 8, 8, 8, 8, 8, 8, 8, 8, 8, 8, 8, 8, 8, 8, 8, 8, 8, 8, 8, 8, 8, 8, 8, 8, 8, 8, 8, 8, 8, 8, 8, 8, 8, 8, 8, 8, 8, 8, 8, 8, 8, 8, 8, 8, 8, 8, 8, 8, 8, 8, 8, 8, 8, 8, 8, 8, 8, 8, 8, 8, 8])) (tp 15)),
 op 17 (.convInt .i64 (tp 16)),
 op 18 (.bin .add (.one .int) (tp 13) (tp 17)),
 mv 2 18] [])
 (.ret))))⟩
def x167 : XFunc := ⟨1, [.tmp 2],
 .seq (.region [op 2 (.mov (.const (.int .i64 0)))] [])
 (.seq (.seq (.region [mv 3 0,
 op 4 (.bin .geq (.one .int) (tp 3) (.const (.int .u64 4294967296)))] [])
 (.cond (tp 4) (.seq (.region [mv 5 0,
 op 6 (.bin .shr (.one .int) (tp 5) (.const (.int .u64 32))),
 mv 0 6] [])
 (.region [op 2 (.mov (.const (.int .i64 32)))] []))
 (.skip)))
 (.seq (.seq (.region [mv 7 0,
 op 8 (.bin .geq (.one .int) (tp 7) (.const (.int .u64 65536)))] [])
 (.cond (tp 8) (.seq (.region [mv 9 0,
 op 10 (.bin .shr (.one .int) (tp 9) (.const (.int .u64 16))),
 mv 0 10] [])
 (.region [mv 11 2,
 op 12 (.bin .add (.one .int) (tp 11) (.const (.int .i64 16))),
 mv 2 12] []))
 (.skip)))
 (.seq (.seq (.region [mv 13 0,
 op 14 (.bin .geq (.one .int) (tp 13) (.const (.int .u64 256)))] [])
 (.cond (tp 14) (.seq (.region [mv 15 0,
 op 16 (.bin .shr (.one .int) (tp 15) (.const (.int .u64 8))),
 mv 0 16] [])
 (.region [mv 17 2,
 op 18 (.bin .add (.one .int) (tp 17) (.const (.int .i64 8))),
 mv 2 18] []))
 (.skip)))
 (.seq (.region [mv 19 2,
 mv 20 0,
 op 21 (.convInt .u8 (tp 20)),
 op 22 (.indexStr (.const (.str [0, 1, 2, 2, 3, 3, 3, 3, 4, 4, 4, 4, 4, 4, 4, 4, 5, 5, 5, 5, 5, 5, 5, 5, 5, 5, 5, 5, 5, 5, 5, 5, 6, 6, 6, 6, 6, 6, 6, 6, 6, 6, 6, 6, 6, 6, 6, 6, 6, 6, 6, 6, 6, 6, 6, 6, 6, 6, 6, 6, 6, 6, 6, 6, 7, 7, 7, 7, 7, 7, 7, 7, 7, 7, 7, 7, 7, 7, 7, 7, 7, 7, 7, 7, 7, 7, 7, 7, 7, 7, 7, 7, 7, 7, 7, 7, 7, 7, 7, 7, 7, 7, 7, 7, 7, 7, 7, 7, 7, 7, 7, 7, 7, 7, 7, 7, 7, 7, 7, 7, 7, 7, 7, 7, 7, 7, 7, 7, 8, 8, 8, 8, 8, 8, 8, 8, 8, 8, 8, 8, 8, 8, 8, 8, 8, 8, 8, 8, 8, 8, 8, 8, 8, 8, 8, 8, 8, 8, 8, 8, 8, 8, 8, 8, 8, 8, 8, 8, 8, 8, 8, 8, 8, 8, 8, 8, 8, 8, 8, 8, 8, 8, 8, 8, 8, 8, 8, 8, 8, 8, 8, 8, 8, 8, 8, 8, 8, 8, 8, 8, 8, 8, 8, 8, 8, 8, 8, 8, 8, 8, 8, 8, 8, 8, 8, 8, 8, 8, 8, 8, 8, 8, 8, 8, 8, 8, 8, 8, 8, 8, 8, 8, 8, 8, 8, 8, 8, 8, 8, 8, 8, 8, 8, 8, 8, 8, 8, 8, 8, 8, 8, 8, 8, 8, 8, 8])) (tp 21)),
 op 23 (.convInt .i64 (tp 22)),
 op 24 (.bin .add (.one .int) (tp 19) (tp 23)),
 mv 2 24] [])
 (.ret)))))⟩
def b169_0 : XCode := .seq (.block 1 (.seq (.region [mv 21 2,
 mv 22 1,
 op 23 (.bin .sub (.one .int) (tp 21) (tp 22)),
 mv 12 23] [])
 (.seq (.seq (.region [mv 24 12,
 op 25 (.bin .leq (.one .int) (tp 24) (.const (.int .i64 12)))] [])
 (.cond (tp 25) (.seq (.region [mv 26 0,
 mv 27 1,
 mv 28 2,
 mv 29 4,
 op 30 (.call (.const (.func (.func 214) [])) [(tp 26), (tp 27), (tp 28), (tp 29)])] [])
 (.ret))
 (.skip)))
 (.seq (.seq (.region [mv 31 3,
 op 32 (.bin .eql (.one .int) (tp 31) (.const (.int .i64 0)))] [])
 (.cond (tp 32) (.seq (.region [mv 33 0,
 mv 34 1,
 mv 35 2,
 mv 36 4,
 op 37 (.call (.const (.func (.func 215) [])) [(tp 33), (tp 34), (tp 35), (tp 36)])] [])
 (.ret))
 (.skip)))
 (.seq (.seq (.region [mv 38 10,
 op 39 (.un .not (tp 38))] [])
 (.cond (tp 39) (.seq (.region [mv 40 0,
 mv 41 1,
 mv 42 2,
 mv 43 4,
 op 44 (.call (.const (.func (.func 216) [])) [(tp 40), (tp 41), (tp 42), (tp 43)])] [])
 (.region [mv 45 3,
 op 46 (.bin .sub (.one .int) (tp 45) (.const (.int .i64 1))),
 mv 3 46] []))
 (.skip)))
 (.seq (.region [mv 48 0,
 mv 49 1,
 mv 50 2,
 mv 51 4,
 op 52 (.call (.const (.func (.func 217) [])) [(tp 48), (tp 49), (tp 50), (tp 51)]),
 mv 47 52,
 op 53 (.extract (tp 47) 0),
 op 54 (.extract (tp 47) 1),
 mv 13 53,
 mv 14 54] [])
 (.seq (.seq (.region [mv 55 14,
 op 56 (.bin .eql (.one .int) (tp 55) (.const (.int .i64 2)))] [])
 (.cond (tp 56) (.seq (.region [mv 57 0,
 mv 58 1,
 mv 59 2,
 mv 60 4,
 op 61 (.call (.const (.func (.func 218) [])) [(tp 57), (tp 58), (tp 59), (tp 60)])] [])
 (.seq (.region [mv 62 2,
 op 63 (.bin .sub (.one .int) (tp 62) (.const (.int .i64 1))),
 mv 64 13,
 mv 65 1,
 op 66 (.bin .sub (.one .int) (tp 64) (tp 65)),
 op 67 (.bin .sub (.one .int) (tp 63) (tp 66)),
 mv 13 67] [])
 (.region [op 14 (.mov (.const (.int .i64 1)))] [])))
 (.skip)))
 (.seq (.seq (.region [mv 68 10,
 mv 69 68,
 ⟨(some 70), (some (69, true)), .mov (tp 11)⟩,
 op 71 (.pick (tp 69) (tp 70) (.const (.bool false))),
 mv 72 71,
 ⟨(some 73), (some (72, true)), .mov (tp 14)⟩,
 ⟨(some 74), (some (72, true)), .bin .eql (.one .int) (tp 73) (.const (.int .i64 1))⟩,
 op 75 (.pick (tp 72) (tp 74) (.const (.bool false)))] [])
 (.cond (tp 75) (.seq (.region [mv 76 0,
 mv 77 1,
 mv 78 2,
 mv 79 4,
 op 80 (.call (.const (.func (.func 219) [])) [(tp 76), (tp 77), (tp 78), (tp 79)])] [])
 (.cond (tp 80) (.ret)
 (.skip)))
 (.skip)))
 (.seq (.seq (.region [mv 81 1,
 op 82 (.bin .gtr (.one .int) (tp 81) (.const (.int .i64 0))),
 mv 83 82,
 ⟨(some 84), (some (83, true)), .mov (tp 4)⟩,
 ⟨(some 85), (some (83, true)), .mov (tp 0)⟩,
 ⟨(some 86), (some (83, true)), .mov (tp 1)⟩,
 ⟨(some 87), (some (83, true)), .bin .sub (.one .int) (tp 86) (.const (.int .i64 1))⟩,
 ⟨(some 88), (some (83, true)), .indexAddr 1 (tp 85) (tp 87)⟩,
 ⟨(some 89), (some (83, true)), .load none (tp 88)⟩,
 ⟨(some 90), (some (83, true)), .mov (tp 0)⟩,
 ⟨(some 91), (some (83, true)), .mov (tp 13)⟩,
 ⟨(some 92), (some (83, true)), .indexAddr 1 (tp 90) (tp 91)⟩,
 ⟨(some 93), (some (83, true)), .load none (tp 92)⟩,
 ⟨(some 94), (some (83, true)), .call (tp 84) [(tp 89), (tp 93)]⟩,
 ⟨(some 95), (some (83, true)), .bin .lss (.one .int) (tp 94) (.const (.int .i64 0))⟩,
 ⟨(some 96), (some (83, true)), .un .not (tp 95)⟩,
 op 97 (.pick (tp 83) (tp 96) (.const (.bool false)))] [])
 (.cond (tp 97) (.seq (.region [mv 98 0,
 mv 99 1,
 mv 100 2,
 mv 101 13,
 mv 102 4,
 op 103 (.call (.const (.func (.func 220) [])) [(tp 98), (tp 99), (tp 100), (tp 101), (tp 102)]),
 mv 15 103] [])
 (.seq (.region [mv 104 15,
 mv 1 104] [])
 (.exit 1)))
 (.skip)))
 (.seq (.region [mv 106 0,
 mv 107 1,
 mv 108 2,
 mv 109 13,
 mv 110 4,
 op 111 (.call (.const (.func (.func 221) [])) [(tp 106), (tp 107), (tp 108), (tp 109), (tp 110)]),
 mv 105 111,
 op 112 (.extract (tp 105) 0),
 op 113 (.extract (tp 105) 1),
 mv 16 112,
 mv 17 113] [])
 (.seq (.region [mv 114 17,
 mv 11 114] [])
 (.seq (.region [mv 115 16,
 mv 116 1,
 op 117 (.bin .sub (.one .int) (tp 115) (tp 116)),
 mv 118 2,
 mv 119 16,
 op 120 (.bin .sub (.one .int) (tp 118) (tp 119)),
 mv 18 117,
 mv 19 120] [])
 (.seq (.region [mv 121 12,
 op 122 (.bin .quo (.one .int) (tp 121) (.const (.int .i64 8))),
 mv 20 122] [])
 (.seq (.region [mv 123 18,
 mv 124 19,
 op 125 (.bin .lss (.one .int) (tp 123) (tp 124))] [])
 (.cond (tp 125) (.seq (.region [mv 126 18,
 mv 127 20,
 op 128 (.bin .geq (.one .int) (tp 126) (tp 127)),
 mv 10 128] [])
 (.seq (.region [mv 129 0,
 mv 130 1,
 mv 131 16,
 mv 132 3,
 mv 133 4,
 op 134 (.call (.const (.func (.func 169) [])) [(tp 129), (tp 130), (tp 131), (tp 132), (tp 133)])] [])
 (.region [mv 135 16,
 op 136 (.bin .add (.one .int) (tp 135) (.const (.int .i64 1))),
 mv 1 136] [])))
 (.seq (.region [mv 137 19,
 mv 138 20,
 op 139 (.bin .geq (.one .int) (tp 137) (tp 138)),
 mv 10 139] [])
 (.seq (.region [mv 140 0,
 mv 141 16,
 op 142 (.bin .add (.one .int) (tp 141) (.const (.int .i64 1))),
 mv 143 2,
 mv 144 3,
 mv 145 4,
 op 146 (.call (.const (.func (.func 169) [])) [(tp 140), (tp 142), (tp 143), (tp 144), (tp 145)])] [])
 (.region [mv 147 16,
 mv 2 147] []))))))))))))))))))
 (.keep [0, 1, 2, 3, 4, 10, 11])
def x169 : XFunc := ⟨5, [],
 .seq (.region [op 10 (.mov (.const (.bool true)))] [])
 (.seq (.region [op 11 (.mov (.const (.bool true)))] [])
 (.block 0 (.seq (.keep [0, 1, 2, 3, 4, 10, 11])
 (.loop b169_0))))⟩
def x170 : XFunc := ⟨1, [.tmp 2],
 .seq (.region [op 1 (.box 14 (tp 0)),
 op 2 (.mov (.const (.int .i64 0)))] [])
 (.seq (.block 0 (.seq (.region [op 4 (.fieldAddr 0 (tp 1)),
 op 5 (.load none (tp 4)),
 op 6 (.fieldAddr 1 (tp 1)),
 op 7 (.load none (tp 6)),
 op 8 (.fieldAddr 2 (tp 1)),
 op 9 (.load none (tp 8)),
 op 10 (.fieldAddr 3 (tp 1)),
 op 11 (.load none (tp 10)),
 op 12 (.lit 1 [(.str []), (.str []), (.str []), (.str [])] [(0, (tp 5)), (1, (tp 7)), (2, (tp 9)), (3, (tp 11))] false),
 op 13 (.call (.const (.func (.func 139) [])) [(tp 12)]),
 op 14 (.un .not (tp 13)),
 mv 3 14] [])
 (.cond (tp 3) (.seq (.region [op 2 (.mov (.const (.int .i64 5)))] [])
 (.ret))
 (.seq (.region [op 16 (.fieldAddr 0 (tp 1)),
 op 17 (.load none (tp 16)),
 op 18 (.len (.one .str) (tp 17)),
 op 19 (.bin .gtr (.one .int) (tp 18) (.const (.int .i64 30))),
 mv 15 19] [])
 (.cond (tp 15) (.seq (.region [op 2 (.mov (.const (.int .i64 2)))] [])
 (.ret))
 (.seq (.region [op 21 (.fieldAddr 2 (tp 1)),
 op 22 (.load none (tp 21)),
 op 23 (.fieldAddr 3 (tp 1)),
 op 24 (.load none (tp 23)),
 op 25 (.bin .eql (.one .str) (tp 22) (tp 24)),
 mv 20 25] [])
 (.cond (tp 20) (.seq (.region [op 2 (.mov (.const (.int .i64 6)))] [])
 (.ret))
 (.seq (.region [op 27 (.fieldAddr 4 (tp 1)),
 op 28 (.load none (tp 27)),
 op 29 (.fieldAddr 5 (tp 1)),
 op 30 (.load none (tp 29)),
 op 31 (.call (.const (.func (.func 89) [])) [(tp 28), (.const (.int .i64 0)), (tp 30)]),
 mv 32 31,
 ⟨(some 33), (some (32, false)), .fieldAddr 5 (tp 1)⟩,
 ⟨(some 34), (some (32, false)), .load none (tp 33)⟩,
 ⟨(some 35), (some (32, false)), .bin .gtr (.one .int) (tp 34) (.const (.int .i64 4000))⟩,
 op 36 (.pick (tp 32) (.const (.bool true)) (tp 35)),
 mv 37 36,
 ⟨(some 38), (some (37, false)), .fieldAddr 6 (tp 1)⟩,
 ⟨(some 39), (some (37, false)), .load none (tp 38)⟩,
 ⟨(some 40), (some (37, false)), .call (.const (.func (.func 89) [])) [(tp 39), (.const (.int .i64 1)), (.const (.int .i64 52))]⟩,
 op 41 (.pick (tp 37) (.const (.bool true)) (tp 40)),
 mv 42 41,
 ⟨(some 43), (some (42, false)), .fieldAddr 7 (tp 1)⟩,
 ⟨(some 44), (some (42, false)), .load none (tp 43)⟩,
 ⟨(some 45), (some (42, false)), .call (.const (.func (.func 89) [])) [(tp 44), (.const (.int .i64 1)), (.const (.int .i64 127))]⟩,
 op 46 (.pick (tp 42) (.const (.bool true)) (tp 45)),
 mv 26 46] [])
 (.cond (tp 26) (.seq (.region [op 2 (.mov (.const (.int .i64 1)))] [])
 (.ret))
 (.seq (.region [op 48 (.fieldAddr 8 (tp 1)),
 op 49 (.load none (tp 48)),
 op 50 (.call (.const (.func (.func 89) [])) [(tp 49), (.const (.int .i64 0)), (.const (.int .i64 1439))]),
 mv 51 50,
 ⟨(some 52), (some (51, false)), .fieldAddr 9 (tp 1)⟩,
 ⟨(some 53), (some (51, false)), .load none (tp 52)⟩,
 ⟨(some 54), (some (51, false)), .fieldAddr 8 (tp 1)⟩,
 ⟨(some 55), (some (51, false)), .load none (tp 54)⟩,
 ⟨(some 56), (some (51, false)), .bin .add (.one .int) (tp 55) (.const (.int .i64 1))⟩,
 ⟨(some 57), (some (51, false)), .call (.const (.func (.func 89) [])) [(tp 53), (tp 56), (.const (.int .i64 2880))]⟩,
 op 58 (.pick (tp 51) (.const (.bool true)) (tp 57)),
 mv 59 58,
 ⟨(some 60), (some (59, false)), .fieldAddr 10 (tp 1)⟩,
 ⟨(some 61), (some (59, false)), .load none (tp 60)⟩,
 ⟨(some 62), (some (59, false)), .call (.const (.func (.func 89) [])) [(tp 61), (.const (.int .i64 (-1440))), (.const (.int .i64 1440))]⟩,
 op 63 (.pick (tp 59) (.const (.bool true)) (tp 62)),
 mv 47 63] [])
 (.cond (tp 47) (.seq (.region [op 2 (.mov (.const (.int .i64 1)))] [])
 (.ret))
 (.seq (.region [op 65 (.fieldAddr 11 (tp 1)),
 op 66 (.load none (tp 65)),
 op 67 (.call (.const (.func (.func 89) [])) [(tp 66), (.const (.int .i64 0)), (.const (.int .i64 60))]),
 mv 68 67,
 ⟨(some 69), (some (68, false)), .fieldAddr 12 (tp 1)⟩,
 ⟨(some 70), (some (68, false)), .load none (tp 69)⟩,
 ⟨(some 71), (some (68, false)), .call (.const (.func (.func 89) [])) [(tp 70), (.const (.int .i64 0)), (.const (.int .i64 60))]⟩,
 op 72 (.pick (tp 68) (.const (.bool true)) (tp 71)),
 mv 64 72] [])
 (.cond (tp 64) (.seq (.region [op 2 (.mov (.const (.int .i64 1)))] [])
 (.ret))
 (.seq (.region [op 74 (.fieldAddr 11 (tp 1)),
 op 75 (.load none (tp 74)),
 op 76 (.fieldAddr 12 (tp 1)),
 op 77 (.load none (tp 76)),
 op 78 (.bin .add (.one .int) (tp 75) (tp 77)),
 op 79 (.bin .eql (.one .int) (tp 78) (.const (.int .i64 0))),
 mv 73 79] [])
 (.cond (tp 73) (.seq (.region [op 2 (.mov (.const (.int .i64 3)))] [])
 (.ret))
 (.skip))))))))))))))))
 (.seq (.region [op 80 (.fieldAddr 13 (tp 1)),
 op 81 (.load none (tp 80)),
 op 82 (.call (.const (.func (.func 222) [])) [(tp 81)]),
 mv 2 82] [])
 (.ret)))⟩
def b171_0 : XCode := .seq (.seq (.seq (.region [mv 15 9,
 mv 16 10,
 op 17 (.bin .lss (.one .int) (tp 15) (tp 16))] [])
 (.cond (tp 17) (.skip)
 (.exit 0)))
 (.block 1 (.seq (.region [mv 18 9,
 mv 19 10,
 op 20 (.bin .add (.one .int) (tp 18) (tp 19)),
 op 21 (.convInt .u64 (tp 20)),
 op 22 (.bin .shr (.one .int) (tp 21) (.const (.int .u64 1))),
 op 23 (.convInt .i64 (tp 22)),
 mv 11 23] [])
 (.seq (.region [mv 24 2,
 mv 25 0,
 mv 26 11,
 op 27 (.indexAddr 3 (tp 25) (tp 26)),
 op 28 (.load (some 3) (tp 27)),
 mv 29 1,
 op 30 (.call (tp 24) [(tp 28), (tp 29)]),
 op 31 (.bin .lss (.one .int) (tp 30) (.const (.int .i64 0)))] [])
 (.cond (tp 31) (.region [mv 32 11,
 op 33 (.bin .add (.one .int) (tp 32) (.const (.int .i64 1))),
 mv 9 33] [])
 (.region [mv 34 11,
 mv 10 34] []))))))
 (.keep [0, 1, 2, 8, 9, 10])
def x171 : XFunc := ⟨3, [.tmp 6, .tmp 7],
 .seq (.region [op 6 (.mov (.const (.int .i64 0))),
 op 7 (.mov (.const (.bool false)))] [])
 (.seq (.region [mv 12 0,
 op 13 (.len .slice (tp 12)),
 mv 8 13] [])
 (.seq (.region [mv 14 8,
 op 9 (.mov (.const (.int .i64 0))),
 mv 10 14] [])
 (.seq (.block 0 (.seq (.keep [0, 1, 2, 8, 9, 10])
 (.loop b171_0)))
 (.seq (.region [mv 35 9,
 mv 36 9,
 mv 37 8,
 op 38 (.bin .lss (.one .int) (tp 36) (tp 37)),
 mv 39 38,
 ⟨(some 40), (some (39, true)), .mov (tp 2)⟩,
 ⟨(some 41), (some (39, true)), .mov (tp 0)⟩,
 ⟨(some 42), (some (39, true)), .mov (tp 9)⟩,
 ⟨(some 43), (some (39, true)), .indexAddr 3 (tp 41) (tp 42)⟩,
 ⟨(some 44), (some (39, true)), .load (some 3) (tp 43)⟩,
 ⟨(some 45), (some (39, true)), .mov (tp 1)⟩,
 ⟨(some 46), (some (39, true)), .call (tp 40) [(tp 44), (tp 45)]⟩,
 ⟨(some 47), (some (39, true)), .bin .eql (.one .int) (tp 46) (.const (.int .i64 0))⟩,
 op 48 (.pick (tp 39) (tp 47) (.const (.bool false))),
 mv 6 35,
 mv 7 48] [])
 (.ret)))))⟩
def x172 : XFunc := ⟨2, [.tmp 4],
 .seq (.region [op 2 (.box 3 (tp 0)),
 op 4 (.mov (.const (.int .i64 0)))] [])
 (.seq (.region [op 5 (.fieldAddr 0 (tp 2)),
 op 6 (.load none (tp 5)),
 mv 7 1,
 op 8 (.call (.const (.func (.func 85) [])) [(tp 6), (tp 7)]),
 mv 4 8] [])
 (.ret))⟩
def x173 : XFunc := ⟨1, [.tmp 2],
 .seq (.region [op 2 (.mov (.const (.str [])))] [])
 (.seq (.region [mv 3 0,
 op 4 (.call (.const (.func (.func 223) [])) [(tp 3)]),
 mv 2 4] [])
 (.ret))⟩
def x174 : XFunc := ⟨4, [.tmp 5],
 .seq (.region [op 5 (.mov (.const (.int .i64 0)))] [])
 (.seq (.region [op 6 (.load none (tp 1)),
 op 7 (.bin .mul (.one .int) (tp 6) (.const (.int .i64 86400000))),
 mv 8 0,
 op 9 (.load none (tp 2)),
 op 10 (.nilCheck (tp 9)),
 op 11 (.fieldAddr 10 (tp 10)),
 op 12 (.load none (tp 11)),
 op 13 (.bin .sub (.one .int) (tp 8) (tp 12)),
 op 14 (.load none (tp 3)),
 op 15 (.bin .add (.one .int) (tp 13) (tp 14)),
 op 16 (.bin .mul (.one .int) (tp 15) (.const (.int .i64 60000))),
 op 17 (.bin .add (.one .int) (tp 7) (tp 16)),
 mv 5 17] [])
 (.ret))⟩
def b175_0 : XCode := .seq (.seq (.seq (.region [op 111 (.call (.const (.func (.func 228) [])) [(tp 9)]),
 mv 112 7,
 op 113 (.bin .lss (.one .int) (tp 111) (tp 112))] [])
 (.cond (tp 113) (.skip)
 (.exit 3)))
 (.block 4 (.seq (.region [mv 114 7,
 op 115 (.call (.const (.func (.func 228) [])) [(tp 9)]),
 op 116 (.bin .sub (.one .int) (tp 114) (tp 115)),
 op 117 (.call (.const (.func (.func 228) [])) [(tp 9)]),
 mv 118 8,
 op 119 (.mm false [(tp 116), (tp 117), (tp 118)]),
 mv 10 119] [])
 (.region [op 120 (.call (.const (.func (.func 229) [])) [(tp 9)]),
 mv 121 10,
 op 122 (.sliceStr (tp 120) none (some (tp 121))),
 op 123 (.call (.const (.func (.func 227) [])) [(tp 9), (tp 122)])] []))))
 (.keep [7, 8, 9])
def x175 : XFunc := ⟨2, [.tmp 4],
 .seq (.region [op 4 (.mov (.const (.str [])))] [])
 (.seq (.seq (.region [mv 11 1] [])
 (.block 0 (.seq (.region [op 13 (.bin .eql (.one .int) (tp 11) (.const (.int .i64 0))),
 mv 12 13] [])
 (.cond (tp 12) (.seq (.region [op 4 (.mov (.const (.str [])))] [])
 (.ret))
 (.seq (.region [op 15 (.bin .eql (.one .int) (tp 11) (.const (.int .i64 1))),
 mv 14 15] [])
 (.cond (tp 14) (.seq (.region [mv 16 0,
 mv 4 16] [])
 (.ret))
 (.skip)))))))
 (.seq (.seq (.region [mv 17 1,
 op 18 (.bin .lss (.one .int) (tp 17) (.const (.int .i64 0)))] [])
 (.cond (tp 18) (.region [op 19 (.mkIface 9 (.const (.str [115, 116, 114, 105, 110, 103, 115, 58, 32, 110, 101, 103, 97, 116, 105, 118, 101, 32, 82, 101, 112, 101, 97, 116, 32, 99, 111, 117, 110, 116]))),
 ⟨none, none, .fail⟩] [])
 (.skip)))
 (.seq (.region [mv 21 0,
 op 22 (.len (.one .str) (tp 21)),
 op 23 (.convInt .u64 (tp 22)),
 mv 24 1,
 op 25 (.convInt .u64 (tp 24)),
 op 26 (.call (.const (.func (.func 224) [])) [(tp 23), (tp 25)]),
 mv 20 26,
 op 27 (.extract (tp 20) 0),
 op 28 (.extract (tp 20) 1),
 mv 5 27,
 mv 6 28] [])
 (.seq (.seq (.region [mv 29 5,
 op 30 (.bin .gtr (.one .int) (tp 29) (.const (.int .u64 0))),
 mv 31 30,
 ⟨(some 32), (some (31, false)), .mov (tp 6)⟩,
 ⟨(some 33), (some (31, false)), .bin .gtr (.one .int) (tp 32) (.const (.int .u64 9223372036854775807))⟩,
 op 34 (.pick (tp 31) (.const (.bool true)) (tp 33))] [])
 (.cond (tp 34) (.region [op 35 (.mkIface 9 (.const (.str [115, 116, 114, 105, 110, 103, 115, 58, 32, 82, 101, 112, 101, 97, 116, 32, 111, 117, 116, 112, 117, 116, 32, 108, 101, 110, 103, 116, 104, 32, 111, 118, 101, 114, 102, 108, 111, 119]))),
 ⟨none, none, .fail⟩] [])
 (.skip)))
 (.seq (.region [mv 36 6,
 op 37 (.convInt .i64 (tp 36)),
 mv 7 37] [])
 (.seq (.seq (.region [mv 38 0,
 op 39 (.len (.one .str) (tp 38)),
 op 40 (.bin .eql (.one .int) (tp 39) (.const (.int .i64 0)))] [])
 (.cond (tp 40) (.seq (.region [op 4 (.mov (.const (.str [])))] [])
 (.ret))
 (.skip)))
 (.seq (.seq (.region [mv 41 0,
 op 42 (.indexStr (tp 41) (.const (.int .i64 0)))] [])
 (.block 1 (.seq (.seq (.region [op 44 (.bin .eql (.one .int) (tp 42) (.const (.int .u8 32))),
 mv 43 44] [])
 (.cond (tp 43) (.skip)
 (.seq (.region [op 45 (.bin .eql (.one .int) (tp 42) (.const (.int .u8 45))),
 mv 43 45] [])
 (.cond (tp 43) (.skip)
 (.seq (.region [op 46 (.bin .eql (.one .int) (tp 42) (.const (.int .u8 48))),
 mv 43 46] [])
 (.cond (tp 43) (.skip)
 (.seq (.region [op 47 (.bin .eql (.one .int) (tp 42) (.const (.int .u8 61))),
 mv 43 47] [])
 (.cond (tp 43) (.skip)
 (.region [op 48 (.bin .eql (.one .int) (tp 42) (.const (.int .u8 9))),
 mv 43 48] [])))))))))
 (.cond (tp 43) (.block 2 (.seq (.region [mv 50 7,
 op 51 (.bin .leq (.one .int) (tp 50) (.const (.int .i64 128))),
 mv 52 51,
 ⟨(some 53), (some (52, true)), .mov (tp 0)⟩,
 ⟨(some 54), (some (52, true)), .call (.const (.func (.func 225) [])) [(.const (.str [32, 32, 32, 32, 32, 32, 32, 32, 32, 32, 32, 32, 32, 32, 32, 32, 32, 32, 32, 32, 32, 32, 32, 32, 32, 32, 32, 32, 32, 32, 32, 32, 32, 32, 32, 32, 32, 32, 32, 32, 32, 32, 32, 32, 32, 32, 32, 32, 32, 32, 32, 32, 32, 32, 32, 32, 32, 32, 32, 32, 32, 32, 32, 32, 32, 32, 32, 32, 32, 32, 32, 32, 32, 32, 32, 32, 32, 32, 32, 32, 32, 32, 32, 32, 32, 32, 32, 32, 32, 32, 32, 32, 32, 32, 32, 32, 32, 32, 32, 32, 32, 32, 32, 32, 32, 32, 32, 32, 32, 32, 32, 32, 32, 32, 32, 32, 32, 32, 32, 32, 32, 32, 32, 32, 32, 32, 32, 32])), (tp 53)]⟩,
 op 55 (.pick (tp 52) (tp 54) (.const (.bool false))),
 mv 49 55] [])
 (.cond (tp 49) (.seq (.region [mv 56 7,
 op 57 (.sliceStr (.const (.str [32, 32, 32, 32, 32, 32, 32, 32, 32, 32, 32, 32, 32, 32, 32, 32, 32, 32, 32, 32, 32, 32, 32, 32, 32, 32, 32, 32, 32, 32, 32, 32, 32, 32, 32, 32, 32, 32, 32, 32, 32, 32, 32, 32, 32, 32, 32, 32, 32, 32, 32, 32, 32, 32, 32, 32, 32, 32, 32, 32, 32, 32, 32, 32, 32, 32, 32, 32, 32, 32, 32, 32, 32, 32, 32, 32, 32, 32, 32, 32, 32, 32, 32, 32, 32, 32, 32, 32, 32, 32, 32, 32, 32, 32, 32, 32, 32, 32, 32, 32, 32, 32, 32, 32, 32, 32, 32, 32, 32, 32, 32, 32, 32, 32, 32, 32, 32, 32, 32, 32, 32, 32, 32, 32, 32, 32, 32, 32])) none (some (tp 56))),
 mv 4 57] [])
 (.ret))
 (.seq (.region [mv 59 7,
 op 60 (.bin .leq (.one .int) (tp 59) (.const (.int .i64 128))),
 mv 61 60,
 ⟨(some 62), (some (61, true)), .mov (tp 0)⟩,
 ⟨(some 63), (some (61, true)), .call (.const (.func (.func 225) [])) [(.const (.str [45, 45, 45, 45, 45, 45, 45, 45, 45, 45, 45, 45, 45, 45, 45, 45, 45, 45, 45, 45, 45, 45, 45, 45, 45, 45, 45, 45, 45, 45, 45, 45, 45, 45, 45, 45, 45, 45, 45, 45, 45, 45, 45, 45, 45, 45, 45, 45, 45, 45, 45, 45, 45, 45, 45, 45, 45, 45, 45, 45, 45, 45, 45, 45, 45, 45, 45, 45, 45, 45, 45, 45, 45, 45, 45, 45, 45, 45, 45, 45, 45, 45, 45, 45, 45, 45, 45, 45, 45, 45, 45, 45, 45, 45, 45, 45, 45, 45, 45, 45, 45, 45, 45, 45, 45, 45, 45, 45, 45, 45, 45, 45, 45, 45, 45, 45, 45, 45, 45, 45, 45, 45, 45, 45, 45, 45, 45, 45])), (tp 62)]⟩,
 op 64 (.pick (tp 61) (tp 63) (.const (.bool false))),
 mv 58 64] [])
 (.cond (tp 58) (.seq (.region [mv 65 7,
 op 66 (.sliceStr (.const (.str [45, 45, 45, 45, 45, 45, 45, 45, 45, 45, 45, 45, 45, 45, 45, 45, 45, 45, 45, 45, 45, 45, 45, 45, 45, 45, 45, 45, 45, 45, 45, 45, 45, 45, 45, 45, 45, 45, 45, 45, 45, 45, 45, 45, 45, 45, 45, 45, 45, 45, 45, 45, 45, 45, 45, 45, 45, 45, 45, 45, 45, 45, 45, 45, 45, 45, 45, 45, 45, 45, 45, 45, 45, 45, 45, 45, 45, 45, 45, 45, 45, 45, 45, 45, 45, 45, 45, 45, 45, 45, 45, 45, 45, 45, 45, 45, 45, 45, 45, 45, 45, 45, 45, 45, 45, 45, 45, 45, 45, 45, 45, 45, 45, 45, 45, 45, 45, 45, 45, 45, 45, 45, 45, 45, 45, 45, 45, 45])) none (some (tp 65))),
 mv 4 66] [])
 (.ret))
 (.seq (.region [mv 68 7,
 op 69 (.bin .leq (.one .int) (tp 68) (.const (.int .i64 64))),
 mv 70 69,
 ⟨(some 71), (some (70, true)), .mov (tp 0)⟩,
 ⟨(some 72), (some (70, true)), .call (.const (.func (.func 225) [])) [(.const (.str [48, 48, 48, 48, 48, 48, 48, 48, 48, 48, 48, 48, 48, 48, 48, 48, 48, 48, 48, 48, 48, 48, 48, 48, 48, 48, 48, 48, 48, 48, 48, 48, 48, 48, 48, 48, 48, 48, 48, 48, 48, 48, 48, 48, 48, 48, 48, 48, 48, 48, 48, 48, 48, 48, 48, 48, 48, 48, 48, 48, 48, 48, 48, 48])), (tp 71)]⟩,
 op 73 (.pick (tp 70) (tp 72) (.const (.bool false))),
 mv 67 73] [])
 (.cond (tp 67) (.seq (.region [mv 74 7,
 op 75 (.sliceStr (.const (.str [48, 48, 48, 48, 48, 48, 48, 48, 48, 48, 48, 48, 48, 48, 48, 48, 48, 48, 48, 48, 48, 48, 48, 48, 48, 48, 48, 48, 48, 48, 48, 48, 48, 48, 48, 48, 48, 48, 48, 48, 48, 48, 48, 48, 48, 48, 48, 48, 48, 48, 48, 48, 48, 48, 48, 48, 48, 48, 48, 48, 48, 48, 48, 48])) none (some (tp 74))),
 mv 4 75] [])
 (.ret))
 (.seq (.region [mv 77 7,
 op 78 (.bin .leq (.one .int) (tp 77) (.const (.int .i64 128))),
 mv 79 78,
 ⟨(some 80), (some (79, true)), .mov (tp 0)⟩,
 ⟨(some 81), (some (79, true)), .call (.const (.func (.func 225) [])) [(.const (.str [61, 61, 61, 61, 61, 61, 61, 61, 61, 61, 61, 61, 61, 61, 61, 61, 61, 61, 61, 61, 61, 61, 61, 61, 61, 61, 61, 61, 61, 61, 61, 61, 61, 61, 61, 61, 61, 61, 61, 61, 61, 61, 61, 61, 61, 61, 61, 61, 61, 61, 61, 61, 61, 61, 61, 61, 61, 61, 61, 61, 61, 61, 61, 61, 61, 61, 61, 61, 61, 61, 61, 61, 61, 61, 61, 61, 61, 61, 61, 61, 61, 61, 61, 61, 61, 61, 61, 61, 61, 61, 61, 61, 61, 61, 61, 61, 61, 61, 61, 61, 61, 61, 61, 61, 61, 61, 61, 61, 61, 61, 61, 61, 61, 61, 61, 61, 61, 61, 61, 61, 61, 61, 61, 61, 61, 61, 61, 61])), (tp 80)]⟩,
 op 82 (.pick (tp 79) (tp 81) (.const (.bool false))),
 mv 76 82] [])
 (.cond (tp 76) (.seq (.region [mv 83 7,
 op 84 (.sliceStr (.const (.str [61, 61, 61, 61, 61, 61, 61, 61, 61, 61, 61, 61, 61, 61, 61, 61, 61, 61, 61, 61, 61, 61, 61, 61, 61, 61, 61, 61, 61, 61, 61, 61, 61, 61, 61, 61, 61, 61, 61, 61, 61, 61, 61, 61, 61, 61, 61, 61, 61, 61, 61, 61, 61, 61, 61, 61, 61, 61, 61, 61, 61, 61, 61, 61, 61, 61, 61, 61, 61, 61, 61, 61, 61, 61, 61, 61, 61, 61, 61, 61, 61, 61, 61, 61, 61, 61, 61, 61, 61, 61, 61, 61, 61, 61, 61, 61, 61, 61, 61, 61, 61, 61, 61, 61, 61, 61, 61, 61, 61, 61, 61, 61, 61, 61, 61, 61, 61, 61, 61, 61, 61, 61, 61, 61, 61, 61, 61, 61])) none (some (tp 83))),
 mv 4 84] [])
 (.ret))
 (.seq (.region [mv 86 7,
 op 87 (.bin .leq (.one .int) (tp 86) (.const (.int .i64 64))),
 mv 88 87,
 ⟨(some 89), (some (88, true)), .mov (tp 0)⟩,
 ⟨(some 90), (some (88, true)), .call (.const (.func (.func 225) [])) [(.const (.str [9, 9, 9, 9, 9, 9, 9, 9, 9, 9, 9, 9, 9, 9, 9, 9, 9, 9, 9, 9, 9, 9, 9, 9, 9, 9, 9, 9, 9, 9, 9, 9, 9, 9, 9, 9, 9, 9, 9, 9, 9, 9, 9, 9, 9, 9, 9, 9, 9, 9, 9, 9, 9, 9, 9, 9, 9, 9, 9, 9, 9, 9, 9, 9])), (tp 89)]⟩,
 op 91 (.pick (tp 88) (tp 90) (.const (.bool false))),
 mv 85 91] [])
 (.cond (tp 85) (.seq (.region [mv 92 7,
 op 93 (.sliceStr (.const (.str [9, 9, 9, 9, 9, 9, 9, 9, 9, 9, 9, 9, 9, 9, 9, 9, 9, 9, 9, 9, 9, 9, 9, 9, 9, 9, 9, 9, 9, 9, 9, 9, 9, 9, 9, 9, 9, 9, 9, 9, 9, 9, 9, 9, 9, 9, 9, 9, 9, 9, 9, 9, 9, 9, 9, 9, 9, 9, 9, 9, 9, 9, 9, 9])) none (some (tp 92))),
 mv 4 93] [])
 (.ret))
 (.skip))))))))))))
 (.skip)))))
 (.seq (.region [mv 94 7,
 mv 8 94] [])
 (.seq (.seq (.region [mv 95 7,
 op 96 (.bin .gtr (.one .int) (tp 95) (.const (.int .i64 8192)))] [])
 (.cond (tp 96) (.seq (.region [mv 97 0,
 op 98 (.len (.one .str) (tp 97)),
 op 99 (.bin .quo (.one .int) (.const (.int .i64 8192)) (tp 98)),
 mv 100 0,
 op 101 (.len (.one .str) (tp 100)),
 op 102 (.bin .mul (.one .int) (tp 99) (tp 101)),
 mv 8 102] [])
 (.seq (.region [mv 103 8,
 op 104 (.bin .eql (.one .int) (tp 103) (.const (.int .i64 0)))] [])
 (.cond (tp 104) (.region [mv 105 0,
 op 106 (.len (.one .str) (tp 105)),
 mv 8 106] [])
 (.skip))))
 (.skip)))
 (.seq (.region [op 9 (.box 2 (.const (.agg [.nilptr, .nilslice])))] [])
 (.seq (.region [mv 107 7,
 op 108 (.call (.const (.func (.func 226) [])) [(tp 9), (tp 107)])] [])
 (.seq (.region [mv 109 0,
 op 110 (.call (.const (.func (.func 227) [])) [(tp 9), (tp 109)])] [])
 (.seq (.block 3 (.seq (.keep [7, 8, 9])
 (.loop b175_0)))
 (.seq (.region [op 124 (.call (.const (.func (.func 229) [])) [(tp 9)]),
 mv 4 124] [])
 (.ret)))))))))))))))⟩
def x178 : XFunc := ⟨2, [.tmp 4],
 .seq (.region [op 4 (.mov (.const (.int .i64 0)))] [])
 (.seq (.region [mv 5 0,
 mv 6 1,
 op 7 (.call (.const (.func (.func 239) [])) [(tp 5), (tp 6)]),
 mv 4 7] [])
 (.ret))⟩
def b183_0 : XCode := .seq (.seq (.seq (.region [mv 18 9,
 mv 19 1,
 op 20 (.bin .gtr (.one .int) (tp 18) (tp 19)),
 mv 21 20,
 ⟨(some 22), (some (21, true)), .mov (tp 3)⟩,
 ⟨(some 23), (some (21, true)), .mov (tp 0)⟩,
 ⟨(some 24), (some (21, true)), .mov (tp 9)⟩,
 ⟨(some 25), (some (21, true)), .indexAddr 8 (tp 23) (tp 24)⟩,
 ⟨(some 26), (some (21, true)), .load (some 8) (tp 25)⟩,
 ⟨(some 27), (some (21, true)), .mov (tp 0)⟩,
 ⟨(some 28), (some (21, true)), .mov (tp 9)⟩,
 ⟨(some 29), (some (21, true)), .bin .sub (.one .int) (tp 28) (.const (.int .i64 1))⟩,
 ⟨(some 30), (some (21, true)), .indexAddr 8 (tp 27) (tp 29)⟩,
 ⟨(some 31), (some (21, true)), .load (some 8) (tp 30)⟩,
 ⟨(some 32), (some (21, true)), .call (tp 22) [(tp 26), (tp 31)]⟩,
 ⟨(some 33), (some (21, true)), .bin .lss (.one .int) (tp 32) (.const (.int .i64 0))⟩,
 op 34 (.pick (tp 21) (tp 33) (.const (.bool false)))] [])
 (.cond (tp 34) (.skip)
 (.exit 2)))
 (.seq (.block 3 (.region [mv 37 0,
 mv 38 9,
 mv 39 0,
 mv 40 9,
 op 41 (.bin .sub (.one .int) (tp 40) (.const (.int .i64 1))),
 mv 42 0,
 mv 43 9,
 op 44 (.bin .sub (.one .int) (tp 43) (.const (.int .i64 1))),
 op 45 (.indexAddr 8 (tp 42) (tp 44)),
 op 46 (.load (some 8) (tp 45)),
 mv 47 0,
 mv 48 9,
 op 49 (.indexAddr 8 (tp 47) (tp 48)),
 op 50 (.load (some 8) (tp 49)),
 op 51 (.indexAddr 8 (tp 37) (tp 38)),
 ⟨none, none, .store 8 (tp 51) (tp 46)⟩,
 op 52 (.indexAddr 8 (tp 39) (tp 41)),
 ⟨none, none, .store 8 (tp 52) (tp 50)⟩] []))
 (.region [mv 35 9,
 op 36 (.bin .sub (.one .int) (tp 35) (.const (.int .i64 1))),
 mv 9 36] [])))
 (.keep [0, 1, 2, 3, 8, 9])
def b183_1 : XCode := .seq (.seq (.seq (.region [mv 12 8,
 mv 13 2,
 op 14 (.bin .lss (.one .int) (tp 12) (tp 13))] [])
 (.cond (tp 14) (.skip)
 (.exit 0)))
 (.seq (.block 1 (.seq (.region [mv 17 8,
 mv 9 17] [])
 (.block 2 (.seq (.keep [0, 1, 2, 3, 8, 9])
 (.loop b183_0)))))
 (.region [mv 15 8,
 op 16 (.bin .add (.one .int) (tp 15) (.const (.int .i64 1))),
 mv 8 16] [])))
 (.keep [0, 1, 2, 3, 8])
def x183 : XFunc := ⟨4, [],
 .seq (.region [mv 10 1,
 op 11 (.bin .add (.one .int) (tp 10) (.const (.int .i64 1))),
 mv 8 11] [])
 (.block 0 (.seq (.keep [0, 1, 2, 3, 8])
 (.loop b183_1)))⟩
def x191 : XFunc := ⟨2, [.tmp 4],
 .seq (.region [op 4 (.mov (.const (.bool false)))] [])
 (.seq (.region [mv 5 0,
 mv 6 1,
 op 7 (.call (.const (.func (.func 243) [])) [(tp 5), (tp 6)]),
 op 8 (.bin .geq (.one .int) (tp 7) (.const (.int .i64 0))),
 mv 4 8] [])
 (.ret))⟩
def x192 : XFunc := ⟨1, [.tmp 2],
 .seq (.region [op 2 (.mov (.const (.bool false)))] [])
 (.seq (.region [mv 3 0,
 op 4 (.call (.const (.func (.func 88) [])) [(tp 3)]),
 op 5 (.un .not (tp 4)),
 mv 2 5] [])
 (.ret))⟩
def x193 : XFunc := ⟨2, [.tmp 4],
 .seq (.region [op 2 (.box 3 (tp 0)),
 op 3 (.box 3 (tp 1)),
 op 4 (.mov (.const (.int .i64 0)))] [])
 (.seq (.region [op 5 (.fieldAddr 0 (tp 2)),
 op 6 (.load none (tp 5)),
 op 7 (.fieldAddr 0 (tp 3)),
 op 8 (.load none (tp 7)),
 op 9 (.call (.const (.func (.func 66) [])) [(tp 6), (tp 8)]),
 op 10 (.fieldAddr 1 (tp 2)),
 op 11 (.load none (tp 10)),
 op 12 (.fieldAddr 1 (tp 3)),
 op 13 (.load none (tp 12)),
 op 14 (.call (.const (.func (.func 66) [])) [(tp 11), (tp 13)]),
 op 15 (.lit 1 [(.int .i64 0), (.int .i64 0)] [(0, (tp 9)), (1, (tp 14))] false),
 op 16 (.call (.const (.func (.func 84) [])) [(tp 15)]),
 mv 4 16] [])
 (.ret))⟩
def x194 : XFunc := ⟨1, [.tmp 2],
 .seq (.region [op 2 (.mov (.const .nilslice))] [])
 (.seq (.region [mv 3 0,
 op 4 (.call (.const (.func (.func 244) [])) [(tp 3), (.const (.func (.func 245) []))]),
 mv 2 4] [])
 (.ret))⟩
def x195 : XFunc := ⟨1, [.tmp 2],
 .seq (.region [op 2 (.mov (.const .nilslice))] [])
 (.seq (.region [mv 3 0,
 op 4 (.call (.const (.func (.func 244) [])) [(tp 3), (.const (.func (.func 246) []))]),
 mv 2 4] [])
 (.ret))⟩
def b196_0 : XCode := .seq (.seq (.seq (.region [mv 34 8,
 mv 35 7,
 op 36 (.len .slice (tp 35)),
 op 37 (.bin .lss (.one .int) (tp 34) (tp 36))] [])
 (.cond (tp 37) (.skip)
 (.exit 0)))
 (.block 1 (.region [mv 38 8,
 mv 39 7,
 mv 40 8,
 op 41 (.sliceSl 1 (tp 39) (some (tp 40)) none),
 mv 42 7,
 mv 43 8,
 op 44 (.sliceSl 1 (tp 42) none (some (tp 43))),
 op 45 (.copy 1 (tp 41) (tp 44)),
 op 46 (.bin .add (.one .int) (tp 38) (tp 45)),
 mv 8 46] [])))
 (.keep [7, 8])
def x196 : XFunc := ⟨2, [.tmp 4],
 .seq (.region [op 4 (.mov (.const .nilslice))] [])
 (.seq (.seq (.region [mv 9 1,
 op 10 (.bin .lss (.one .int) (tp 9) (.const (.int .i64 0)))] [])
 (.cond (tp 10) (.region [op 11 (.mkIface 9 (.const (.str [99, 97, 110, 110, 111, 116, 32, 98, 101, 32, 110, 101, 103, 97, 116, 105, 118, 101]))),
 ⟨none, none, .fail⟩] [])
 (.skip)))
 (.seq (.region [mv 13 0,
 op 14 (.len .slice (tp 13)),
 op 15 (.convInt .u64 (tp 14)),
 mv 16 1,
 op 17 (.convInt .u64 (tp 16)),
 op 18 (.call (.const (.func (.func 224) [])) [(tp 15), (tp 17)]),
 mv 12 18,
 op 19 (.extract (tp 12) 0),
 op 20 (.extract (tp 12) 1),
 mv 5 19,
 mv 6 20] [])
 (.seq (.seq (.region [mv 21 5,
 op 22 (.bin .gtr (.one .int) (tp 21) (.const (.int .u64 0))),
 mv 23 22,
 ⟨(some 24), (some (23, false)), .mov (tp 6)⟩,
 ⟨(some 25), (some (23, false)), .bin .gtr (.one .int) (tp 24) (.const (.int .u64 9223372036854775807))⟩,
 op 26 (.pick (tp 23) (.const (.bool true)) (tp 25))] [])
 (.cond (tp 26) (.region [op 27 (.mkIface 9 (.const (.str [116, 104, 101, 32, 114, 101, 115, 117, 108, 116, 32, 111, 102, 32, 40, 108, 101, 110, 40, 120, 41, 32, 42, 32, 99, 111, 117, 110, 116, 41, 32, 111, 118, 101, 114, 102, 108, 111, 119, 115]))),
 ⟨none, none, .fail⟩] [])
 (.skip)))
 (.seq (.region [mv 28 6,
 op 29 (.convInt .i64 (tp 28)),
 op 30 (.mkSlice 1 8 (.int .i64 0) (tp 29) (tp 29)),
 mv 7 30] [])
 (.seq (.region [mv 31 7,
 mv 32 0,
 op 33 (.copy 1 (tp 31) (tp 32)),
 mv 8 33] [])
 (.seq (.block 0 (.seq (.keep [7, 8])
 (.loop b196_0)))
 (.seq (.region [mv 47 7,
 mv 4 47] [])
 (.ret))))))))⟩
def b197_0 : XCode := .seq (.seq (.seq (.region [mv 13 7,
 mv 14 8,
 op 15 (.bin .lss (.one .int) (tp 13) (tp 14))] [])
 (.cond (tp 15) (.skip)
 (.exit 0)))
 (.block 1 (.seq (.region [mv 16 7,
 mv 17 8,
 op 18 (.bin .add (.one .int) (tp 16) (tp 17)),
 op 19 (.convInt .u64 (tp 18)),
 op 20 (.bin .shr (.one .int) (tp 19) (.const (.int .u64 1))),
 op 21 (.convInt .i64 (tp 20)),
 mv 9 21] [])
 (.seq (.region [mv 22 0,
 mv 23 9,
 op 24 (.indexAddr 1 (tp 22) (tp 23)),
 op 25 (.load none (tp 24)),
 mv 26 1,
 op 27 (.call (.const (.func (.func 247) [])) [(tp 25), (tp 26)])] [])
 (.cond (tp 27) (.region [mv 28 9,
 op 29 (.bin .add (.one .int) (tp 28) (.const (.int .i64 1))),
 mv 7 29] [])
 (.region [mv 30 9,
 mv 8 30] []))))))
 (.keep [0, 1, 6, 7, 8])
def x197 : XFunc := ⟨2, [.tmp 4, .tmp 5],
 .seq (.region [op 4 (.mov (.const (.int .i64 0))),
 op 5 (.mov (.const (.bool false)))] [])
 (.seq (.region [mv 10 0,
 op 11 (.len .slice (tp 10)),
 mv 6 11] [])
 (.seq (.region [mv 12 6,
 op 7 (.mov (.const (.int .i64 0))),
 mv 8 12] [])
 (.seq (.block 0 (.seq (.keep [0, 1, 6, 7, 8])
 (.loop b197_0)))
 (.seq (.region [mv 31 7,
 mv 32 7,
 mv 33 6,
 op 34 (.bin .lss (.one .int) (tp 32) (tp 33)),
 mv 35 34,
 ⟨(some 36), (some (35, true)), .mov (tp 0)⟩,
 ⟨(some 37), (some (35, true)), .mov (tp 7)⟩,
 ⟨(some 38), (some (35, true)), .indexAddr 1 (tp 36) (tp 37)⟩,
 ⟨(some 39), (some (35, true)), .load none (tp 38)⟩,
 ⟨(some 40), (some (35, true)), .mov (tp 1)⟩,
 ⟨(some 41), (some (35, true)), .bin .eql (.one .str) (tp 39) (tp 40)⟩,
 ⟨(some 42), (some (35, true)), .mov (tp 41)⟩,
 ⟨(some 43), (some (42, false)), .mov (tp 0)⟩,
 ⟨(some 44), (some (42, false)), .mov (tp 7)⟩,
 ⟨(some 45), (some (42, false)), .indexAddr 1 (tp 43) (tp 44)⟩,
 ⟨(some 46), (some (42, false)), .load none (tp 45)⟩,
 ⟨(some 47), (some (42, false)), .call (.const (.func (.func 248) [])) [(tp 46)]⟩,
 ⟨(some 48), (some (42, false)), .mov (tp 47)⟩,
 ⟨(some 49), (some (48, true)), .mov (tp 1)⟩,
 ⟨(some 50), (some (48, true)), .call (.const (.func (.func 248) [])) [(tp 49)]⟩,
 ⟨(some 51), (some (42, false)), .pick (tp 48) (tp 50) (.const (.bool false))⟩,
 ⟨(some 52), (some (35, true)), .pick (tp 42) (.const (.bool true)) (tp 51)⟩,
 op 53 (.pick (tp 35) (tp 52) (.const (.bool false))),
 mv 4 31,
 mv 5 53] [])
 (.ret)))))⟩
def b198_0 : XCode := .seq (.seq (.region [op 18 (.bin .lss (.one .int) (tp 17) (tp 16))] [])
 (.seq (.cond (tp 18) (.skip)
 (.exit 0))
 (.seq (.block 1 (.seq (.region [op 19 (.indexAddr 1 (tp 15) (tp 17)),
 op 20 (.load none (tp 19)),
 mv 8 20] [])
 (.seq (.seq (.region [mv 21 2,
 mv 22 8,
 op 23 (.indexAddr 1 (tp 21) (tp 22)),
 op 24 (.load none (tp 23))] [])
 (.cond (tp 24) (.exit 1)
 (.skip)))
 (.seq (.region [mv 25 2,
 mv 26 8,
 op 27 (.indexAddr 1 (tp 25) (tp 26)),
 ⟨none, none, .store 1 (tp 27) (.const (.bool true))⟩] [])
 (.seq (.region [mv 28 0,
 op 29 (.nilCheck (tp 28)),
 op 30 (.fieldAddr 3 (tp 29)),
 op 31 (.load none (tp 30)),
 mv 32 8,
 op 33 (.indexAddr 1 (tp 31) (tp 32)),
 op 34 (.load none (tp 33)),
 op 35 (.bin .lss (.one .int) (tp 34) (.const (.int .i64 0))),
 mv 36 35,
 ⟨(some 37), (some (36, false)), .mov (tp 0)⟩,
 ⟨(some 38), (some (36, false)), .mov (tp 0)⟩,
 ⟨(some 39), (some (36, false)), .nilCheck (tp 38)⟩,
 ⟨(some 40), (some (36, false)), .fieldAddr 3 (tp 39)⟩,
 ⟨(some 41), (some (36, false)), .load none (tp 40)⟩,
 ⟨(some 42), (some (36, false)), .mov (tp 8)⟩,
 ⟨(some 43), (some (36, false)), .indexAddr 1 (tp 41) (tp 42)⟩,
 ⟨(some 44), (some (36, false)), .load none (tp 43)⟩,
 ⟨(some 45), (some (36, false)), .mov (tp 2)⟩,
 ⟨(some 46), (some (36, false)), .call (.const (.func (.func 198) [])) [(tp 37), (tp 44), (tp 45)]⟩,
 op 47 (.pick (tp 36) (.const (.bool true)) (tp 46))] [])
 (.cond (tp 47) (.seq (.region [mv 48 0,
 op 49 (.nilCheck (tp 48)),
 op 50 (.fieldAddr 3 (tp 49)),
 op 51 (.load none (tp 50)),
 mv 52 8,
 mv 53 0,
 op 54 (.nilCheck (tp 53)),
 op 55 (.fieldAddr 4 (tp 54)),
 op 56 (.load none (tp 55)),
 mv 57 1,
 mv 58 1,
 mv 59 8,
 op 60 (.indexAddr 1 (tp 51) (tp 52)),
 ⟨none, none, .store 1 (tp 60) (tp 58)⟩,
 op 61 (.indexAddr 1 (tp 56) (tp 57)),
 ⟨none, none, .store 1 (tp 61) (tp 59)⟩] [])
 (.seq (.region [op 6 (.mov (.const (.bool true)))] [])
 (.ret)))
 (.skip)))))))
 (.region [op 62 (.bin .add (.one .int) (tp 17) (.const (.int .i64 1))),
 mv 17 62] []))))
 (.keep [0, 1, 2, 15, 16, 17])
def x198 : XFunc := ⟨3, [.tmp 6],
 .seq (.region [op 6 (.mov (.const (.bool false)))] [])
 (.seq (.seq (.region [mv 9 0,
 op 10 (.nilCheck (tp 9)),
 op 11 (.fieldAddr 2 (tp 10)),
 op 12 (.load none (tp 11)),
 mv 13 1,
 op 14 (.indexAddr 1 (tp 12) (tp 13)),
 op 15 (.load none (tp 14)),
 op 16 (.len .slice (tp 15)),
 op 17 (.mov (.const (.int .i64 0)))] [])
 (.block 0 (.seq (.keep [0, 1, 2, 15, 16, 17])
 (.loop b198_0))))
 (.seq (.region [op 6 (.mov (.const (.bool false)))] [])
 (.ret)))⟩
def x199 : XFunc := ⟨2, [.tmp 4],
 .seq (.region [op 2 (.box 2 (tp 0)),
 op 3 (.box 2 (tp 1)),
 op 4 (.mov (.const (.int .i64 0)))] [])
 (.seq (.region [op 5 (.fieldAddr 0 (tp 2)),
 op 6 (.load none (tp 5)),
 op 7 (.fieldAddr 0 (tp 3)),
 op 8 (.load none (tp 7)),
 op 9 (.call (.const (.func (.func 85) [])) [(tp 6), (tp 8)]),
 op 10 (.fieldAddr 1 (tp 2)),
 op 11 (.load none (tp 10)),
 op 12 (.fieldAddr 1 (tp 3)),
 op 13 (.load none (tp 12)),
 op 14 (.call (.const (.func (.func 85) [])) [(tp 11), (tp 13)]),
 op 15 (.lit 1 [(.int .i64 0), (.int .i64 0)] [(0, (tp 9)), (1, (tp 14))] false),
 op 16 (.call (.const (.func (.func 84) [])) [(tp 15)]),
 mv 4 16] [])
 (.ret))⟩
def b200_0 : XCode := .seq (.seq (.region [op 9 (.bin .lss (.one .int) (tp 8) (tp 7))] [])
 (.seq (.cond (tp 9) (.skip)
 (.exit 0))
 (.seq (.block 1 (.seq (.region [mv 10 8,
 mv 5 10] [])
 (.seq (.region [mv 11 1,
 mv 12 0,
 mv 13 5,
 op 14 (.indexAddr 1 (tp 12) (tp 13)),
 op 15 (.load none (tp 14)),
 op 16 (.call (tp 11) [(tp 15)])] [])
 (.cond (tp 16) (.seq (.region [mv 17 5,
 mv 4 17] [])
 (.ret))
 (.skip)))))
 (.region [op 18 (.bin .add (.one .int) (tp 8) (.const (.int .i64 1))),
 mv 8 18] []))))
 (.keep [0, 1, 7, 8])
def x200 : XFunc := ⟨2, [.tmp 4],
 .seq (.region [op 4 (.mov (.const (.int .i64 0)))] [])
 (.seq (.seq (.region [mv 6 0,
 op 7 (.len .slice (tp 6)),
 op 8 (.mov (.const (.int .i64 0)))] [])
 (.block 0 (.seq (.keep [0, 1, 7, 8])
 (.loop b200_0))))
 (.seq (.region [op 4 (.mov (.const (.int .i64 (-1))))] [])
 (.ret)))⟩
def x201 : XFunc := ⟨2, [.tmp 3],
 .seq (.region [op 3 (.mov (.const (.bool false)))] [])
 (.seq (.region [mv 4 0,
 op 5 (.fieldAddr 0 (tp 1)),
 op 6 (.load none (tp 5)),
 op 7 (.bin .leq (.one .int) (tp 4) (tp 6)),
 mv 3 7] [])
 (.ret))⟩
def x202 : XFunc := ⟨2, [.tmp 4],
 .seq (.region [op 2 (.box 5 (tp 0)),
 op 3 (.box 5 (tp 1)),
 op 4 (.mov (.const (.int .i64 0)))] [])
 (.seq (.region [op 5 (.load (some 5) (tp 2)),
 op 6 (.load (some 5) (tp 3)),
 op 7 (.call (.const (.func (.func 249) [])) [(tp 5), (tp 6)]),
 op 8 (.fieldAddr 4 (tp 2)),
 op 9 (.load none (tp 8)),
 op 10 (.fieldAddr 4 (tp 3)),
 op 11 (.load none (tp 10)),
 op 12 (.call (.const (.func (.func 85) [])) [(tp 9), (tp 11)]),
 op 13 (.lit 1 [(.int .i64 0), (.int .i64 0)] [(0, (tp 7)), (1, (tp 12))] false),
 op 14 (.call (.const (.func (.func 84) [])) [(tp 13)]),
 mv 4 14] [])
 (.ret))⟩
def b203_0 : XCode := .seq (.seq (.region [op 12 (.bin .lss (.one .int) (tp 11) (tp 10))] [])
 (.seq (.cond (tp 12) (.skip)
 (.exit 0))
 (.seq (.block 1 (.seq (.region [op 13 (.indexAddr 5 (tp 9) (tp 11)),
 op 14 (.load (some 5) (tp 13)),
 op 7 (.box 5 (.const (.agg [(.str []), (.str []), (.str []), (.int .i64 0), (.int .i64 0)]))),
 ⟨none, none, .store 5 (tp 7) (tp 14)⟩] [])
 (.seq (.region [mv 15 5,
 op 16 (.len .slice (tp 15)),
 op 17 (.bin .sub (.one .int) (tp 16) (.const (.int .i64 1))),
 mv 8 17] [])
 (.block 2 (.seq (.region [op 23 (.fieldAddr 4 (tp 7)),
 op 24 (.load none (tp 23)),
 mv 25 1,
 op 26 (.bin .gtr (.one .int) (tp 24) (tp 25)),
 mv 22 26] [])
 (.cond (tp 22) (.skip)
 (.seq (.region [mv 28 8,
 op 29 (.bin .geq (.one .int) (tp 28) (.const (.int .i64 0))),
 mv 30 29,
 ⟨(some 31), (some (30, true)), .mov (tp 5)⟩,
 ⟨(some 32), (some (30, true)), .mov (tp 8)⟩,
 ⟨(some 33), (some (30, true)), .indexAddr 5 (tp 31) (tp 32)⟩,
 ⟨(some 34), (some (30, true)), .load (some 5) (tp 33)⟩,
 ⟨(some 35), (some (30, true)), .load (some 5) (tp 7)⟩,
 ⟨(some 36), (some (30, true)), .call (.const (.func (.func 249) [])) [(tp 34), (tp 35)]⟩,
 ⟨(some 37), (some (30, true)), .bin .eql (.one .int) (tp 36) (.const (.int .i64 0))⟩,
 op 38 (.pick (tp 30) (tp 37) (.const (.bool false))),
 mv 27 38] [])
 (.cond (tp 27) (.region [mv 39 5,
 mv 40 8,
 op 41 (.load (some 5) (tp 7)),
 op 42 (.indexAddr 5 (tp 39) (tp 40)),
 ⟨none, none, .store 5 (tp 42) (tp 41)⟩] [])
 (.region [mv 18 5,
 op 19 (.load (some 5) (tp 7)),
 op 20 (.lit 5 [(.agg [(.str []), (.str []), (.str []), (.int .i64 0), (.int .i64 0)])] [(0, (tp 19))] false),
 op 21 (.append 5 64 (tp 18) (tp 20)),
 mv 5 21] [])))))))))
 (.region [op 43 (.bin .add (.one .int) (tp 11) (.const (.int .i64 1))),
 mv 11 43] []))))
 (.keep [1, 5, 9, 10, 11])
def x203 : XFunc := ⟨2, [.tmp 4],
 .seq (.region [op 4 (.mov (.const .nilslice))] [])
 (.seq (.region [op 5 (.mov (.const .nilslice))] [])
 (.seq (.seq (.region [mv 9 0,
 op 10 (.len .slice (tp 9)),
 op 11 (.mov (.const (.int .i64 0)))] [])
 (.block 0 (.seq (.keep [1, 5, 9, 10, 11])
 (.loop b203_0))))
 (.seq (.region [mv 44 5,
 mv 4 44] [])
 (.ret))))⟩
def x204 : XFunc := ⟨2, [.cell 4 (some 2)],
 .seq (.region [op 4 (.box 2 (.const (.agg [(.int .i64 0), (.int .i64 0)])))] [])
 (.seq (.region [mv 6 0,
 mv 7 0,
 op 8 (.un .neg (tp 7)),
 op 9 (.mm true [(tp 6), (tp 8)]),
 mv 10 1,
 op 11 (.call (.const (.func (.func 250) [])) [(tp 9), (tp 10)]),
 mv 5 11] [])
 (.seq (.region [mv 12 0,
 mv 13 5,
 op 14 (.bin .quo (.one .int) (tp 12) (tp 13)),
 mv 15 1,
 mv 16 5,
 op 17 (.bin .quo (.one .int) (tp 15) (tp 16)),
 op 18 (.build [(.int .i64 0), (.int .i64 0)] [(0, 1, (tp 14)), (1, 1, (tp 17))]),
 ⟨none, none, .store 2 (tp 4) (tp 18)⟩] [])
 (.ret)))⟩
def x206 : XFunc := ⟨1, [.tmp 2],
 .seq (.region [op 2 (.mov (.const (.int .i64 0)))] [])
 (.seq (.region [mv 3 0,
 op 4 (.nilCheck (tp 3)),
 op 5 (.fieldAddr 0 (tp 4)),
 op 6 (.fieldAddr 0 (tp 5)),
 op 7 (.fieldAddr 6 (tp 6)),
 op 8 (.load none (tp 7)),
 mv 9 0,
 op 10 (.nilCheck (tp 9)),
 op 11 (.fieldAddr 0 (tp 10)),
 op 12 (.fieldAddr 0 (tp 11)),
 op 13 (.fieldAddr 7 (tp 12)),
 op 14 (.load none (tp 13)),
 op 15 (.bin .add (.one .int) (tp 8) (tp 14)),
 mv 2 15] [])
 (.ret))⟩
def b207_0 : XCode := .seq (.block 1 (.seq (.region [mv 19 2,
 mv 20 1,
 op 21 (.bin .sub (.one .int) (tp 19) (tp 20)),
 mv 10 21] [])
 (.seq (.seq (.region [mv 22 10,
 op 23 (.bin .leq (.one .int) (tp 22) (.const (.int .i64 12)))] [])
 (.cond (tp 23) (.seq (.region [mv 24 0,
 mv 25 1,
 mv 26 2,
 op 27 (.call (.const (.func (.func 252) [])) [(tp 24), (tp 25), (tp 26)])] [])
 (.ret))
 (.skip)))
 (.seq (.seq (.region [mv 28 3,
 op 29 (.bin .eql (.one .int) (tp 28) (.const (.int .i64 0)))] [])
 (.cond (tp 29) (.seq (.region [mv 30 0,
 mv 31 1,
 mv 32 2,
 op 33 (.call (.const (.func (.func 253) [])) [(tp 30), (tp 31), (tp 32)])] [])
 (.ret))
 (.skip)))
 (.seq (.seq (.region [mv 34 8,
 op 35 (.un .not (tp 34))] [])
 (.cond (tp 35) (.seq (.region [mv 36 0,
 mv 37 1,
 mv 38 2,
 op 39 (.call (.const (.func (.func 254) [])) [(tp 36), (tp 37), (tp 38)])] [])
 (.region [mv 40 3,
 op 41 (.bin .sub (.one .int) (tp 40) (.const (.int .i64 1))),
 mv 3 41] []))
 (.skip)))
 (.seq (.region [mv 43 0,
 mv 44 1,
 mv 45 2,
 op 46 (.call (.const (.func (.func 255) [])) [(tp 43), (tp 44), (tp 45)]),
 mv 42 46,
 op 47 (.extract (tp 42) 0),
 op 48 (.extract (tp 42) 1),
 mv 11 47,
 mv 12 48] [])
 (.seq (.seq (.region [mv 49 12,
 op 50 (.bin .eql (.one .int) (tp 49) (.const (.int .i64 2)))] [])
 (.cond (tp 50) (.seq (.region [mv 51 0,
 mv 52 1,
 mv 53 2,
 op 54 (.call (.const (.func (.func 256) [])) [(tp 51), (tp 52), (tp 53)])] [])
 (.seq (.region [mv 55 2,
 op 56 (.bin .sub (.one .int) (tp 55) (.const (.int .i64 1))),
 mv 57 11,
 mv 58 1,
 op 59 (.bin .sub (.one .int) (tp 57) (tp 58)),
 op 60 (.bin .sub (.one .int) (tp 56) (tp 59)),
 mv 11 60] [])
 (.region [op 12 (.mov (.const (.int .i64 1)))] [])))
 (.skip)))
 (.seq (.seq (.region [mv 61 8,
 mv 62 61,
 ⟨(some 63), (some (62, true)), .mov (tp 9)⟩,
 op 64 (.pick (tp 62) (tp 63) (.const (.bool false))),
 mv 65 64,
 ⟨(some 66), (some (65, true)), .mov (tp 12)⟩,
 ⟨(some 67), (some (65, true)), .bin .eql (.one .int) (tp 66) (.const (.int .i64 1))⟩,
 op 68 (.pick (tp 65) (tp 67) (.const (.bool false)))] [])
 (.cond (tp 68) (.seq (.region [mv 69 0,
 mv 70 1,
 mv 71 2,
 op 72 (.call (.const (.func (.func 257) [])) [(tp 69), (tp 70), (tp 71)])] [])
 (.cond (tp 72) (.ret)
 (.skip)))
 (.skip)))
 (.seq (.seq (.region [mv 73 1,
 op 74 (.bin .gtr (.one .int) (tp 73) (.const (.int .i64 0))),
 mv 75 74,
 ⟨(some 76), (some (75, true)), .mov (tp 0)⟩,
 ⟨(some 77), (some (75, true)), .mov (tp 1)⟩,
 ⟨(some 78), (some (75, true)), .bin .sub (.one .int) (tp 77) (.const (.int .i64 1))⟩,
 ⟨(some 79), (some (75, true)), .indexAddr 1 (tp 76) (tp 78)⟩,
 ⟨(some 80), (some (75, true)), .load none (tp 79)⟩,
 ⟨(some 81), (some (75, true)), .mov (tp 0)⟩,
 ⟨(some 82), (some (75, true)), .mov (tp 11)⟩,
 ⟨(some 83), (some (75, true)), .indexAddr 1 (tp 81) (tp 82)⟩,
 ⟨(some 84), (some (75, true)), .load none (tp 83)⟩,
 ⟨(some 85), (some (75, true)), .call (.const (.func (.func 258) [])) [(tp 80), (tp 84)]⟩,
 ⟨(some 86), (some (75, true)), .un .not (tp 85)⟩,
 op 87 (.pick (tp 75) (tp 86) (.const (.bool false)))] [])
 (.cond (tp 87) (.seq (.region [mv 88 0,
 mv 89 1,
 mv 90 2,
 mv 91 11,
 op 92 (.call (.const (.func (.func 259) [])) [(tp 88), (tp 89), (tp 90), (tp 91)]),
 mv 13 92] [])
 (.seq (.region [mv 93 13,
 mv 1 93] [])
 (.exit 1)))
 (.skip)))
 (.seq (.region [mv 95 0,
 mv 96 1,
 mv 97 2,
 mv 98 11,
 op 99 (.call (.const (.func (.func 260) [])) [(tp 95), (tp 96), (tp 97), (tp 98)]),
 mv 94 99,
 op 100 (.extract (tp 94) 0),
 op 101 (.extract (tp 94) 1),
 mv 14 100,
 mv 15 101] [])
 (.seq (.region [mv 102 15,
 mv 9 102] [])
 (.seq (.region [mv 103 14,
 mv 104 1,
 op 105 (.bin .sub (.one .int) (tp 103) (tp 104)),
 mv 106 2,
 mv 107 14,
 op 108 (.bin .sub (.one .int) (tp 106) (tp 107)),
 mv 16 105,
 mv 17 108] [])
 (.seq (.region [mv 109 10,
 op 110 (.bin .quo (.one .int) (tp 109) (.const (.int .i64 8))),
 mv 18 110] [])
 (.seq (.region [mv 111 16,
 mv 112 17,
 op 113 (.bin .lss (.one .int) (tp 111) (tp 112))] [])
 (.cond (tp 113) (.seq (.region [mv 114 16,
 mv 115 18,
 op 116 (.bin .geq (.one .int) (tp 114) (tp 115)),
 mv 8 116] [])
 (.seq (.region [mv 117 0,
 mv 118 1,
 mv 119 14,
 mv 120 3,
 op 121 (.call (.const (.func (.func 207) [])) [(tp 117), (tp 118), (tp 119), (tp 120)])] [])
 (.region [mv 122 14,
 op 123 (.bin .add (.one .int) (tp 122) (.const (.int .i64 1))),
 mv 1 123] [])))
 (.seq (.region [mv 124 17,
 mv 125 18,
 op 126 (.bin .geq (.one .int) (tp 124) (tp 125)),
 mv 8 126] [])
 (.seq (.region [mv 127 0,
 mv 128 14,
 op 129 (.bin .add (.one .int) (tp 128) (.const (.int .i64 1))),
 mv 130 2,
 mv 131 3,
 op 132 (.call (.const (.func (.func 207) [])) [(tp 127), (tp 129), (tp 130), (tp 131)])] [])
 (.region [mv 133 14,
 mv 2 133] []))))))))))))))))))
 (.keep [0, 1, 2, 3, 8, 9])
def x207 : XFunc := ⟨4, [],
 .seq (.region [op 8 (.mov (.const (.bool true)))] [])
 (.seq (.region [op 9 (.mov (.const (.bool true)))] [])
 (.block 0 (.seq (.keep [0, 1, 2, 3, 8, 9])
 (.loop b207_0))))⟩
def x208 : XFunc := ⟨2, [.tmp 4],
 .seq (.region [op 4 (.mov (.const (.bool false)))] [])
 (.seq (.region [mv 6 0,
 mv 7 1,
 op 8 (.nilCheck (tp 7)),
 op 9 (.fieldAddr 0 (tp 8)),
 op 10 (.fieldAddr 0 (tp 9)),
 op 11 (.load (some 8) (tp 10)),
 op 12 (.call (.const (.func (.func 69) [])) [(tp 6), (tp 11)]),
 mv 5 12] [])
 (.seq (.region [mv 13 5,
 op 14 (.bin .geq (.one .int) (tp 13) (.const (.int .i64 0))),
 mv 15 14,
 ⟨(some 16), (some (15, true)), .mov (tp 0)⟩,
 ⟨(some 17), (some (15, true)), .nilCheck (tp 16)⟩,
 ⟨(some 18), (some (15, true)), .fieldAddr 4 (tp 17)⟩,
 ⟨(some 19), (some (15, true)), .load none (tp 18)⟩,
 ⟨(some 20), (some (15, true)), .mov (tp 5)⟩,
 ⟨(some 21), (some (15, true)), .indexAddr 1 (tp 19) (tp 20)⟩,
 ⟨(some 22), (some (15, true)), .load none (tp 21)⟩,
 ⟨(some 23), (some (15, true)), .mov (tp 1)⟩,
 ⟨(some 24), (some (15, true)), .call (.const (.func (.func 206) [])) [(tp 23)]⟩,
 ⟨(some 25), (some (15, true)), .bin .add (.one .int) (tp 22) (tp 24)⟩,
 ⟨(some 26), (some (15, true)), .mov (tp 0)⟩,
 ⟨(some 27), (some (15, true)), .nilCheck (tp 26)⟩,
 ⟨(some 28), (some (15, true)), .fieldAddr 1 (tp 27)⟩,
 ⟨(some 29), (some (15, true)), .load none (tp 28)⟩,
 ⟨(some 30), (some (15, true)), .mov (tp 5)⟩,
 ⟨(some 31), (some (15, true)), .indexAddr 3 (tp 29) (tp 30)⟩,
 ⟨(some 32), (some (15, true)), .fieldAddr 2 (tp 31)⟩,
 ⟨(some 33), (some (15, true)), .load none (tp 32)⟩,
 ⟨(some 34), (some (15, true)), .bin .leq (.one .int) (tp 25) (tp 33)⟩,
 op 35 (.pick (tp 15) (tp 34) (.const (.bool false))),
 mv 4 35] [])
 (.ret)))⟩
def b214_0 : XCode := .seq (.seq (.seq (.region [mv 18 9,
 mv 19 1,
 op 20 (.bin .gtr (.one .int) (tp 18) (tp 19)),
 mv 21 20,
 ⟨(some 22), (some (21, true)), .mov (tp 3)⟩,
 ⟨(some 23), (some (21, true)), .mov (tp 0)⟩,
 ⟨(some 24), (some (21, true)), .mov (tp 9)⟩,
 ⟨(some 25), (some (21, true)), .indexAddr 1 (tp 23) (tp 24)⟩,
 ⟨(some 26), (some (21, true)), .load none (tp 25)⟩,
 ⟨(some 27), (some (21, true)), .mov (tp 0)⟩,
 ⟨(some 28), (some (21, true)), .mov (tp 9)⟩,
 ⟨(some 29), (some (21, true)), .bin .sub (.one .int) (tp 28) (.const (.int .i64 1))⟩,
 ⟨(some 30), (some (21, true)), .indexAddr 1 (tp 27) (tp 29)⟩,
 ⟨(some 31), (some (21, true)), .load none (tp 30)⟩,
 ⟨(some 32), (some (21, true)), .call (tp 22) [(tp 26), (tp 31)]⟩,
 ⟨(some 33), (some (21, true)), .bin .lss (.one .int) (tp 32) (.const (.int .i64 0))⟩,
 op 34 (.pick (tp 21) (tp 33) (.const (.bool false)))] [])
 (.cond (tp 34) (.skip)
 (.exit 2)))
 (.seq (.block 3 (.region [mv 37 0,
 mv 38 9,
 mv 39 0,
 mv 40 9,
 op 41 (.bin .sub (.one .int) (tp 40) (.const (.int .i64 1))),
 mv 42 0,
 mv 43 9,
 op 44 (.bin .sub (.one .int) (tp 43) (.const (.int .i64 1))),
 op 45 (.indexAddr 1 (tp 42) (tp 44)),
 op 46 (.load none (tp 45)),
 mv 47 0,
 mv 48 9,
 op 49 (.indexAddr 1 (tp 47) (tp 48)),
 op 50 (.load none (tp 49)),
 op 51 (.indexAddr 1 (tp 37) (tp 38)),
 ⟨none, none, .store 1 (tp 51) (tp 46)⟩,
 op 52 (.indexAddr 1 (tp 39) (tp 41)),
 ⟨none, none, .store 1 (tp 52) (tp 50)⟩] []))
 (.region [mv 35 9,
 op 36 (.bin .sub (.one .int) (tp 35) (.const (.int .i64 1))),
 mv 9 36] [])))
 (.keep [0, 1, 2, 3, 8, 9])
def b214_1 : XCode := .seq (.seq (.seq (.region [mv 12 8,
 mv 13 2,
 op 14 (.bin .lss (.one .int) (tp 12) (tp 13))] [])
 (.cond (tp 14) (.skip)
 (.exit 0)))
 (.seq (.block 1 (.seq (.region [mv 17 8,
 mv 9 17] [])
 (.block 2 (.seq (.keep [0, 1, 2, 3, 8, 9])
 (.loop b214_0)))))
 (.region [mv 15 8,
 op 16 (.bin .add (.one .int) (tp 15) (.const (.int .i64 1))),
 mv 8 16] [])))
 (.keep [0, 1, 2, 3, 8])
def x214 : XFunc := ⟨4, [],
 .seq (.region [mv 10 1,
 op 11 (.bin .add (.one .int) (tp 10) (.const (.int .i64 1))),
 mv 8 11] [])
 (.block 0 (.seq (.keep [0, 1, 2, 3, 8])
 (.loop b214_1)))⟩
def b222_0 : XCode := .seq (.seq (.region [op 11 (.bin .lss (.one .int) (tp 10) (tp 9))] [])
 (.seq (.cond (tp 11) (.skip)
 (.exit 0))
 (.seq (.block 1 (.seq (.region [mv 12 10,
 op 13 (.indexAddr 3 (tp 8) (tp 10)),
 op 14 (.load (some 3) (tp 13)),
 op 4 (.box 3 (.const (.agg [(.int .i64 0), (.bool false), (.int .i64 0)]))),
 mv 3 12,
 ⟨none, none, .store 3 (tp 4) (tp 14)⟩] [])
 (.block 2 (.seq (.region [op 16 (.fieldAddr 0 (tp 4)),
 op 17 (.load none (tp 16)),
 op 18 (.call (.const (.func (.func 89) [])) [(tp 17), (.const (.int .i64 0)), (.const (.int .i64 4000))]),
 mv 19 18,
 ⟨(some 20), (some (19, false)), .fieldAddr 2 (tp 4)⟩,
 ⟨(some 21), (some (19, false)), .load none (tp 20)⟩,
 ⟨(some 22), (some (19, false)), .call (.const (.func (.func 89) [])) [(tp 21), (.const (.int .i64 (-1440))), (.const (.int .i64 1440))]⟩,
 op 23 (.pick (tp 19) (.const (.bool true)) (tp 22)),
 mv 15 23] [])
 (.cond (tp 15) (.seq (.region [op 2 (.mov (.const (.int .i64 1)))] [])
 (.ret))
 (.seq (.region [op 25 (.fieldAddr 1 (tp 4)),
 op 26 (.load none (tp 25)),
 op 27 (.fieldAddr 2 (tp 4)),
 op 28 (.load none (tp 27)),
 op 29 (.bin .eql (.one .int) (tp 28) (.const (.int .i64 0))),
 op 30 (.bin .neq (.one .bool) (tp 26) (tp 29)),
 mv 24 30] [])
 (.cond (tp 24) (.seq (.region [op 2 (.mov (.const (.int .i64 3)))] [])
 (.ret))
 (.seq (.region [mv 32 3,
 op 33 (.bin .gtr (.one .int) (tp 32) (.const (.int .i64 0))),
 mv 34 33,
 ⟨(some 35), (some (34, true)), .fieldAddr 0 (tp 4)⟩,
 ⟨(some 36), (some (34, true)), .load none (tp 35)⟩,
 ⟨(some 37), (some (34, true)), .mov (tp 0)⟩,
 ⟨(some 38), (some (34, true)), .mov (tp 3)⟩,
 ⟨(some 39), (some (34, true)), .bin .sub (.one .int) (tp 38) (.const (.int .i64 1))⟩,
 ⟨(some 40), (some (34, true)), .indexAddr 3 (tp 37) (tp 39)⟩,
 ⟨(some 41), (some (34, true)), .fieldAddr 0 (tp 40)⟩,
 ⟨(some 42), (some (34, true)), .load none (tp 41)⟩,
 ⟨(some 43), (some (34, true)), .bin .leq (.one .int) (tp 36) (tp 42)⟩,
 op 44 (.pick (tp 34) (tp 43) (.const (.bool false))),
 mv 31 44] [])
 (.cond (tp 31) (.seq (.region [op 2 (.mov (.const (.int .i64 7)))] [])
 (.ret))
 (.skip))))))))))
 (.region [op 45 (.bin .add (.one .int) (tp 10) (.const (.int .i64 1))),
 mv 10 45] []))))
 (.keep [0, 8, 9, 10])
def x222 : XFunc := ⟨1, [.tmp 2],
 .seq (.region [op 2 (.mov (.const (.int .i64 0)))] [])
 (.seq (.seq (.region [mv 5 0,
 op 6 (.len .slice (tp 5)),
 op 7 (.bin .gtr (.one .int) (tp 6) (.const (.int .i64 200)))] [])
 (.cond (tp 7) (.seq (.region [op 2 (.mov (.const (.int .i64 2)))] [])
 (.ret))
 (.skip)))
 (.seq (.seq (.region [mv 8 0,
 op 9 (.len .slice (tp 8)),
 op 10 (.mov (.const (.int .i64 0)))] [])
 (.block 0 (.seq (.keep [0, 8, 9, 10])
 (.loop b222_0))))
 (.seq (.region [op 2 (.mov (.const (.int .i64 0)))] [])
 (.ret))))⟩
def x223 : XFunc := ⟨1, [.tmp 2],
 .seq (.region [op 2 (.mov (.const (.str [])))] [])
 (.seq (.region [mv 3 0,
 op 4 (.call (.const (.func (.func 265) [])) [(tp 3), (.const (.int .i64 10))]),
 mv 2 4] [])
 (.ret))⟩
def x224 : XFunc := ⟨2, [.tmp 4, .tmp 5],
 .seq (.region [op 4 (.mov (.const (.int .u64 0))),
 op 5 (.mov (.const (.int .u64 0)))] [])
 (.seq (.cond (.const (.bool false)) (.seq (.region [mv 11 0,
 op 12 (.convInt .u32 (tp 11)),
 mv 13 1,
 op 14 (.convInt .u32 (tp 13)),
 op 15 (.call (.const (.func (.func 266) [])) [(tp 12), (tp 14)]),
 mv 10 15,
 op 16 (.extract (tp 10) 0),
 op 17 (.extract (tp 10) 1),
 mv 6 16,
 mv 7 17] [])
 (.seq (.region [mv 18 6,
 op 19 (.convInt .u64 (tp 18)),
 mv 20 7,
 op 21 (.convInt .u64 (tp 20)),
 mv 4 19,
 mv 5 21] [])
 (.ret)))
 (.skip))
 (.seq (.region [mv 23 0,
 mv 24 1,
 op 25 (.call (.const (.func (.func 267) [])) [(tp 23), (tp 24)]),
 mv 22 25,
 op 26 (.extract (tp 22) 0),
 op 27 (.extract (tp 22) 1),
 mv 8 26,
 mv 9 27] [])
 (.seq (.region [mv 28 8,
 mv 29 9,
 mv 4 28,
 mv 5 29] [])
 (.ret))))⟩
def x225 : XFunc := ⟨2, [.tmp 4],
 .seq (.region [op 4 (.mov (.const (.bool false)))] [])
 (.seq (.region [mv 5 0,
 mv 6 1,
 op 7 (.call (.const (.func (.func 268) [])) [(tp 5), (tp 6)]),
 mv 4 7] [])
 (.ret))⟩
def x227 : XFunc := ⟨2, [.tmp 4, .tmp 5],
 .seq (.region [op 4 (.mov (.const (.int .i64 0))),
 op 5 (.mov (.const .niliface))] [])
 (.seq (.region [mv 6 0,
 op 7 (.call (.const (.func (.func 269) [])) [(tp 6)])] [])
 (.seq (.region [mv 8 0,
 mv 9 0,
 op 10 (.nilCheck (tp 9)),
 op 11 (.fieldAddr 1 (tp 10)),
 op 12 (.load none (tp 11)),
 mv 13 1,
 op 14 (.append 1 1 (tp 12) (tp 13)),
 op 15 (.nilCheck (tp 8)),
 op 16 (.fieldAddr 1 (tp 15)),
 ⟨none, none, .store 1 (tp 16) (tp 14)⟩] [])
 (.seq (.region [mv 17 1,
 op 18 (.len (.one .str) (tp 17)),
 mv 4 18,
 op 5 (.mov (.const .niliface))] [])
 (.ret))))⟩
def x228 : XFunc := ⟨1, [.tmp 2],
 .seq (.region [op 2 (.mov (.const (.int .i64 0)))] [])
 (.seq (.region [mv 3 0,
 op 4 (.nilCheck (tp 3)),
 op 5 (.fieldAddr 1 (tp 4)),
 op 6 (.load none (tp 5)),
 op 7 (.len .slice (tp 6)),
 mv 2 7] [])
 (.ret))⟩
def b243_0 : XCode := .seq (.seq (.region [op 9 (.bin .lss (.one .int) (tp 8) (tp 7))] [])
 (.seq (.cond (tp 9) (.skip)
 (.exit 0))
 (.seq (.block 1 (.seq (.region [mv 10 8,
 mv 5 10] [])
 (.seq (.region [mv 11 1,
 mv 12 0,
 mv 13 5,
 op 14 (.indexAddr 1 (tp 12) (tp 13)),
 op 15 (.load none (tp 14)),
 op 16 (.call (tp 11) [(tp 15)])] [])
 (.cond (tp 16) (.seq (.region [mv 17 5,
 mv 4 17] [])
 (.ret))
 (.skip)))))
 (.region [op 18 (.bin .add (.one .int) (tp 8) (.const (.int .i64 1))),
 mv 8 18] []))))
 (.keep [0, 1, 7, 8])
def x243 : XFunc := ⟨2, [.tmp 4],
 .seq (.region [op 4 (.mov (.const (.int .i64 0)))] [])
 (.seq (.seq (.region [mv 6 0,
 op 7 (.len .slice (tp 6)),
 op 8 (.mov (.const (.int .i64 0)))] [])
 (.block 0 (.seq (.keep [0, 1, 7, 8])
 (.loop b243_0))))
 (.seq (.region [op 4 (.mov (.const (.int .i64 (-1))))] [])
 (.ret)))⟩
def b244_0 : XCode := .seq (.seq (.region [op 11 (.bin .lss (.one .int) (tp 10) (tp 9))] [])
 (.seq (.cond (tp 11) (.skip)
 (.exit 0))
 (.seq (.block 1 (.seq (.region [op 12 (.indexAddr 3 (tp 8) (tp 10)),
 op 13 (.load (some 3) (tp 12)),
 op 7 (.box 3 (.const (.agg [(.str []), (.str []), (.int .i64 0)]))),
 ⟨none, none, .store 3 (tp 7) (tp 13)⟩] [])
 (.region [mv 14 5,
 mv 15 1,
 op 16 (.load (some 3) (tp 7)),
 op 17 (.call (tp 15) [(tp 16)]),
 op 18 (.lit 1 [(.str [])] [(0, (tp 17))] false),
 op 19 (.append 1 16 (tp 14) (tp 18)),
 mv 5 19] [])))
 (.region [op 20 (.bin .add (.one .int) (tp 10) (.const (.int .i64 1))),
 mv 10 20] []))))
 (.keep [1, 5, 8, 9, 10])
def x244 : XFunc := ⟨2, [.tmp 4],
 .seq (.region [op 4 (.mov (.const .nilslice))] [])
 (.seq (.region [op 5 (.mov (.const .nilslice))] [])
 (.seq (.seq (.region [mv 8 0,
 op 9 (.len .slice (tp 8)),
 op 10 (.mov (.const (.int .i64 0)))] [])
 (.block 0 (.seq (.keep [1, 5, 8, 9, 10])
 (.loop b244_0))))
 (.seq (.region [mv 21 5,
 op 22 (.call (.const (.func (.func 276) [])) [(tp 21)])] [])
 (.seq (.region [mv 23 5,
 op 24 (.call (.const (.func (.func 277) [])) [(tp 23)]),
 mv 4 24] [])
 (.ret)))))⟩
def x245 : XFunc := ⟨1, [.tmp 2],
 .seq (.region [op 1 (.box 3 (tp 0)),
 op 2 (.mov (.const (.str [])))] [])
 (.seq (.region [op 3 (.fieldAddr 0 (tp 1)),
 op 4 (.load none (tp 3)),
 mv 2 4] [])
 (.ret))⟩
def x246 : XFunc := ⟨1, [.tmp 2],
 .seq (.region [op 1 (.box 3 (tp 0)),
 op 2 (.mov (.const (.str [])))] [])
 (.seq (.region [op 3 (.fieldAddr 1 (tp 1)),
 op 4 (.load none (tp 3)),
 mv 2 4] [])
 (.ret))⟩
def x247 : XFunc := ⟨2, [.tmp 4],
 .seq (.region [op 4 (.mov (.const (.bool false)))] [])
 (.seq (.region [mv 5 0,
 op 6 (.call (.const (.func (.func 278) [])) [(tp 5)]),
 mv 7 6,
 ⟨(some 8), (some (7, true)), .mov (tp 1)⟩,
 ⟨(some 9), (some (7, true)), .call (.const (.func (.func 278) [])) [(tp 8)]⟩,
 ⟨(some 10), (some (7, true)), .un .not (tp 9)⟩,
 op 11 (.pick (tp 7) (tp 10) (.const (.bool false))),
 mv 12 11,
 ⟨(some 13), (some (12, false)), .mov (tp 0)⟩,
 ⟨(some 14), (some (12, false)), .mov (tp 1)⟩,
 ⟨(some 15), (some (12, false)), .bin .lss (.one .str) (tp 13) (tp 14)⟩,
 op 16 (.pick (tp 12) (.const (.bool true)) (tp 15)),
 mv 4 16] [])
 (.ret))⟩
def x248 : XFunc := ⟨1, [.tmp 2],
 .seq (.region [op 2 (.mov (.const (.bool false)))] [])
 (.seq (.region [mv 3 0,
 mv 4 0,
 op 5 (.bin .neq (.one .str) (tp 3) (tp 4)),
 mv 2 5] [])
 (.ret))⟩
def x249 : XFunc := ⟨2, [.tmp 4],
 .seq (.region [op 2 (.box 5 (tp 0)),
 op 3 (.box 5 (tp 1)),
 op 4 (.mov (.const (.int .i64 0)))] [])
 (.seq (.region [op 5 (.fieldAddr 2 (tp 2)),
 op 6 (.load none (tp 5)),
 op 7 (.fieldAddr 2 (tp 3)),
 op 8 (.load none (tp 7)),
 op 9 (.call (.const (.func (.func 66) [])) [(tp 6), (tp 8)]),
 op 10 (.fieldAddr 0 (tp 2)),
 op 11 (.load none (tp 10)),
 op 12 (.fieldAddr 0 (tp 3)),
 op 13 (.load none (tp 12)),
 op 14 (.call (.const (.func (.func 66) [])) [(tp 11), (tp 13)]),
 op 15 (.fieldAddr 1 (tp 2)),
 op 16 (.load none (tp 15)),
 op 17 (.fieldAddr 1 (tp 3)),
 op 18 (.load none (tp 17)),
 op 19 (.call (.const (.func (.func 66) [])) [(tp 16), (tp 18)]),
 op 20 (.lit 1 [(.int .i64 0), (.int .i64 0), (.int .i64 0)] [(0, (tp 9)), (1, (tp 14)), (2, (tp 19))] false),
 op 21 (.call (.const (.func (.func 84) [])) [(tp 20)]),
 mv 4 21] [])
 (.ret))⟩
def b250_0 : XCode := .seq (.seq (.seq (.region [mv 5 1,
 op 6 (.bin .neq (.one .int) (tp 5) (.const (.int .i64 0)))] [])
 (.cond (tp 6) (.skip)
 (.exit 0)))
 (.block 1 (.region [mv 7 1,
 mv 8 0,
 mv 9 1,
 op 10 (.bin .rem (.one .int) (tp 8) (tp 9)),
 mv 0 7,
 mv 1 10] [])))
 (.keep [0, 1])
def x250 : XFunc := ⟨2, [.tmp 4],
 .seq (.region [op 4 (.mov (.const (.int .i64 0)))] [])
 (.seq (.block 0 (.seq (.keep [0, 1])
 (.loop b250_0)))
 (.seq (.region [mv 11 0,
 mv 4 11] [])
 (.ret)))⟩
def b252_0 : XCode := .seq (.seq (.seq (.region [mv 16 7,
 mv 17 1,
 op 18 (.bin .gtr (.one .int) (tp 16) (tp 17)),
 mv 19 18,
 ⟨(some 20), (some (19, true)), .mov (tp 0)⟩,
 ⟨(some 21), (some (19, true)), .mov (tp 7)⟩,
 ⟨(some 22), (some (19, true)), .indexAddr 1 (tp 20) (tp 21)⟩,
 ⟨(some 23), (some (19, true)), .load none (tp 22)⟩,
 ⟨(some 24), (some (19, true)), .mov (tp 0)⟩,
 ⟨(some 25), (some (19, true)), .mov (tp 7)⟩,
 ⟨(some 26), (some (19, true)), .bin .sub (.one .int) (tp 25) (.const (.int .i64 1))⟩,
 ⟨(some 27), (some (19, true)), .indexAddr 1 (tp 24) (tp 26)⟩,
 ⟨(some 28), (some (19, true)), .load none (tp 27)⟩,
 ⟨(some 29), (some (19, true)), .call (.const (.func (.func 258) [])) [(tp 23), (tp 28)]⟩,
 op 30 (.pick (tp 19) (tp 29) (.const (.bool false)))] [])
 (.cond (tp 30) (.skip)
 (.exit 2)))
 (.seq (.block 3 (.region [mv 33 0,
 mv 34 7,
 mv 35 0,
 mv 36 7,
 op 37 (.bin .sub (.one .int) (tp 36) (.const (.int .i64 1))),
 mv 38 0,
 mv 39 7,
 op 40 (.bin .sub (.one .int) (tp 39) (.const (.int .i64 1))),
 op 41 (.indexAddr 1 (tp 38) (tp 40)),
 op 42 (.load none (tp 41)),
 mv 43 0,
 mv 44 7,
 op 45 (.indexAddr 1 (tp 43) (tp 44)),
 op 46 (.load none (tp 45)),
 op 47 (.indexAddr 1 (tp 33) (tp 34)),
 ⟨none, none, .store 1 (tp 47) (tp 42)⟩,
 op 48 (.indexAddr 1 (tp 35) (tp 37)),
 ⟨none, none, .store 1 (tp 48) (tp 46)⟩] []))
 (.region [mv 31 7,
 op 32 (.bin .sub (.one .int) (tp 31) (.const (.int .i64 1))),
 mv 7 32] [])))
 (.keep [0, 1, 2, 6, 7])
def b252_1 : XCode := .seq (.seq (.seq (.region [mv 10 6,
 mv 11 2,
 op 12 (.bin .lss (.one .int) (tp 10) (tp 11))] [])
 (.cond (tp 12) (.skip)
 (.exit 0)))
 (.seq (.block 1 (.seq (.region [mv 15 6,
 mv 7 15] [])
 (.block 2 (.seq (.keep [0, 1, 2, 6, 7])
 (.loop b252_0)))))
 (.region [mv 13 6,
 op 14 (.bin .add (.one .int) (tp 13) (.const (.int .i64 1))),
 mv 6 14] [])))
 (.keep [0, 1, 2, 6])
def x252 : XFunc := ⟨3, [],
 .seq (.region [mv 8 1,
 op 9 (.bin .add (.one .int) (tp 8) (.const (.int .i64 1))),
 mv 6 9] [])
 (.block 0 (.seq (.keep [0, 1, 2, 6])
 (.loop b252_1)))⟩
def x258 : XFunc := ⟨2, [.tmp 4],
 .seq (.region [op 4 (.mov (.const (.bool false)))] [])
 (.seq (.region [mv 5 0,
 op 6 (.call (.const (.func (.func 130) [])) [(tp 5)]),
 mv 7 6,
 ⟨(some 8), (some (7, true)), .mov (tp 1)⟩,
 ⟨(some 9), (some (7, true)), .call (.const (.func (.func 130) [])) [(tp 8)]⟩,
 ⟨(some 10), (some (7, true)), .un .not (tp 9)⟩,
 op 11 (.pick (tp 7) (tp 10) (.const (.bool false))),
 mv 12 11,
 ⟨(some 13), (some (12, false)), .mov (tp 0)⟩,
 ⟨(some 14), (some (12, false)), .mov (tp 1)⟩,
 ⟨(some 15), (some (12, false)), .bin .lss (.one .int) (tp 13) (tp 14)⟩,
 op 16 (.pick (tp 12) (.const (.bool true)) (tp 15)),
 mv 4 16] [])
 (.ret))⟩
def x265 : XFunc := ⟨2, [.tmp 4],
 .seq (.region [op 4 (.mov (.const (.str [])))] [])
 (.seq (.seq (.region [mv 10 1,
 op 11 (.bin .eql (.one .int) (tp 10) (.const (.int .i64 10)))] [])
 (.cond (tp 11) (.seq (.seq (.region [mv 12 0,
 op 13 (.bin .leq (.one .int) (.const (.int .i64 0)) (tp 12)),
 mv 14 13,
 ⟨(some 15), (some (14, true)), .mov (tp 0)⟩,
 ⟨(some 16), (some (14, true)), .bin .lss (.one .int) (tp 15) (.const (.int .i64 100))⟩,
 op 17 (.pick (tp 14) (tp 16) (.const (.bool false)))] [])
 (.cond (tp 17) (.seq (.region [mv 18 0,
 op 19 (.call (.const (.func (.func 283) [])) [(tp 18)]),
 mv 4 19] [])
 (.ret))
 (.skip)))
 (.seq (.region [op 5 (.box 24 (.const (.agg [(.int .u8 0), (.int .u8 0), (.int .u8 0), (.int .u8 0), (.int .u8 0), (.int .u8 0), (.int .u8 0), (.int .u8 0), (.int .u8 0), (.int .u8 0), (.int .u8 0), (.int .u8 0), (.int .u8 0), (.int .u8 0), (.int .u8 0), (.int .u8 0), (.int .u8 0), (.int .u8 0), (.int .u8 0), (.int .u8 0), (.int .u8 0), (.int .u8 0), (.int .u8 0), (.int .u8 0)])))] [])
 (.seq (.region [mv 20 0,
 op 21 (.convInt .u64 (tp 20)),
 mv 6 21] [])
 (.seq (.seq (.region [mv 22 0,
 op 23 (.bin .lss (.one .int) (tp 22) (.const (.int .i64 0)))] [])
 (.cond (tp 23) (.region [mv 24 6,
 op 25 (.un .neg (tp 24)),
 mv 6 25] [])
 (.skip)))
 (.seq (.region [mv 26 6,
 op 27 (.call (.const (.func (.func 284) [])) [(tp 26)]),
 mv 7 27] [])
 (.seq (.region [mv 28 7,
 op 29 (.bin .add (.one .int) (.const (.int .i64 1)) (tp 28)),
 op 30 (.fail),
 mv 31 6,
 op 32 (.call (.const (.func (.func 285) [])) [(tp 30), (tp 31)])] [])
 (.seq (.seq (.region [mv 33 0,
 op 34 (.bin .lss (.one .int) (tp 33) (.const (.int .i64 0)))] [])
 (.cond (tp 34) (.seq (.region [op 35 (.fail),
 ⟨none, none, .store 1 (tp 35) (.const (.int .u8 45))⟩] [])
 (.seq (.region [mv 36 7,
 op 37 (.bin .add (.one .int) (.const (.int .i64 1)) (tp 36)),
 op 38 (.fail),
 op 39 (.fail),
 mv 4 39] [])
 (.ret)))
 (.skip)))
 (.seq (.region [mv 40 7,
 op 41 (.bin .add (.one .int) (.const (.int .i64 1)) (tp 40)),
 op 42 (.fail),
 op 43 (.fail),
 mv 4 43] [])
 (.ret)))))))))
 (.skip)))
 (.seq (.region [mv 45 0,
 op 46 (.convInt .u64 (tp 45)),
 mv 47 1,
 mv 48 0,
 op 49 (.bin .lss (.one .int) (tp 48) (.const (.int .i64 0))),
 op 50 (.call (.const (.func (.func 286) [])) [(.const .nilslice), (tp 46), (tp 47), (tp 49), (.const (.bool false))]),
 mv 44 50,
 op 51 (.extract (tp 44) 0),
 op 52 (.extract (tp 44) 1),
 mv 8 51,
 mv 9 52] [])
 (.seq (.region [mv 53 9,
 mv 4 53] [])
 (.ret))))⟩
def x266 : XFunc := ⟨2, [.tmp 4, .tmp 5],
 .seq (.region [op 4 (.mov (.const (.int .u32 0))),
 op 5 (.mov (.const (.int .u32 0)))] [])
 (.seq (.region [mv 7 0,
 op 8 (.convInt .u64 (tp 7)),
 mv 9 1,
 op 10 (.convInt .u64 (tp 9)),
 op 11 (.bin .mul (.one .int) (tp 8) (tp 10)),
 mv 6 11] [])
 (.seq (.region [mv 12 6,
 op 13 (.bin .shr (.one .int) (tp 12) (.const (.int .u64 32))),
 op 14 (.convInt .u32 (tp 13)),
 mv 15 6,
 op 16 (.convInt .u32 (tp 15)),
 mv 4 14,
 mv 5 16] [])
 (.ret)))⟩
def x267 : XFunc := ⟨2, [.tmp 4, .tmp 5],
 .seq (.region [op 4 (.mov (.const (.int .u64 0))),
 op 5 (.mov (.const (.int .u64 0)))] [])
 (.seq (.region [mv 14 0,
 op 15 (.bin .and (.one .int) (tp 14) (.const (.int .u64 4294967295))),
 mv 6 15] [])
 (.seq (.region [mv 16 0,
 op 17 (.bin .shr (.one .int) (tp 16) (.const (.int .u64 32))),
 mv 7 17] [])
 (.seq (.region [mv 18 1,
 op 19 (.bin .and (.one .int) (tp 18) (.const (.int .u64 4294967295))),
 mv 8 19] [])
 (.seq (.region [mv 20 1,
 op 21 (.bin .shr (.one .int) (tp 20) (.const (.int .u64 32))),
 mv 9 21] [])
 (.seq (.region [mv 22 6,
 mv 23 8,
 op 24 (.bin .mul (.one .int) (tp 22) (tp 23)),
 mv 10 24] [])
 (.seq (.region [mv 25 7,
 mv 26 8,
 op 27 (.bin .mul (.one .int) (tp 25) (tp 26)),
 mv 28 10,
 op 29 (.bin .shr (.one .int) (tp 28) (.const (.int .u64 32))),
 op 30 (.bin .add (.one .int) (tp 27) (tp 29)),
 mv 11 30] [])
 (.seq (.region [mv 31 11,
 op 32 (.bin .and (.one .int) (tp 31) (.const (.int .u64 4294967295))),
 mv 12 32] [])
 (.seq (.region [mv 33 11,
 op 34 (.bin .shr (.one .int) (tp 33) (.const (.int .u64 32))),
 mv 13 34] [])
 (.seq (.region [mv 35 12,
 mv 36 6,
 mv 37 9,
 op 38 (.bin .mul (.one .int) (tp 36) (tp 37)),
 op 39 (.bin .add (.one .int) (tp 35) (tp 38)),
 mv 12 39] [])
 (.seq (.region [mv 40 7,
 mv 41 9,
 op 42 (.bin .mul (.one .int) (tp 40) (tp 41)),
 mv 43 13,
 op 44 (.bin .add (.one .int) (tp 42) (tp 43)),
 mv 45 12,
 op 46 (.bin .shr (.one .int) (tp 45) (.const (.int .u64 32))),
 op 47 (.bin .add (.one .int) (tp 44) (tp 46)),
 mv 4 47] [])
 (.seq (.region [mv 48 0,
 mv 49 1,
 op 50 (.bin .mul (.one .int) (tp 48) (tp 49)),
 mv 5 50] [])
 (.ret))))))))))))⟩
def x268 : XFunc := ⟨2, [.tmp 4],
 .seq (.region [op 4 (.mov (.const (.bool false)))] [])
 (.seq (.region [mv 5 0,
 op 6 (.len (.one .str) (tp 5)),
 mv 7 1,
 op 8 (.len (.one .str) (tp 7)),
 op 9 (.bin .geq (.one .int) (tp 6) (tp 8)),
 mv 10 9,
 ⟨(some 11), (some (10, true)), .mov (tp 0)⟩,
 ⟨(some 12), (some (10, true)), .mov (tp 1)⟩,
 ⟨(some 13), (some (10, true)), .len (.one .str) (tp 12)⟩,
 ⟨(some 14), (some (10, true)), .sliceStr (tp 11) none (some (tp 13))⟩,
 ⟨(some 15), (some (10, true)), .mov (tp 1)⟩,
 ⟨(some 16), (some (10, true)), .bin .eql (.one .str) (tp 14) (tp 15)⟩,
 op 17 (.pick (tp 10) (tp 16) (.const (.bool false))),
 mv 4 17] [])
 (.ret))⟩
def x269 : XFunc := ⟨1, [],
 .seq (.region [mv 2 0,
 op 3 (.nilCheck (tp 2)),
 op 4 (.fieldAddr 0 (tp 3)),
 op 5 (.load none (tp 4)),
 op 6 (.bin .eql .ptr (tp 5) (.const .nilptr))] [])
 (.cond (tp 6) (.region [mv 7 0,
 mv 8 0,
 op 9 (.fail),
 op 10 (.call (.const (.func (.func 287) [])) [(tp 9)]),
 op 11 (.fail),
 op 12 (.nilCheck (tp 7)),
 op 13 (.fieldAddr 0 (tp 12)),
 ⟨none, none, .store 1 (tp 13) (tp 11)⟩] [])
 (.seq (.region [mv 14 0,
 op 15 (.nilCheck (tp 14)),
 op 16 (.fieldAddr 0 (tp 15)),
 op 17 (.load none (tp 16)),
 mv 18 0,
 op 19 (.bin .neq .ptr (tp 17) (tp 18))] [])
 (.cond (tp 19) (.fail)
 (.skip))))⟩
def x276 : XFunc := ⟨1, [],
 .seq (.region [mv 3 0,
 op 4 (.len .slice (tp 3)),
 mv 2 4] [])
 (.region [mv 5 0,
 mv 6 2,
 mv 7 2,
 op 8 (.convInt .u64 (tp 7)),
 op 9 (.call (.const (.func (.func 118) [])) [(tp 8)]),
 op 10 (.call (.const (.func (.func 290) [])) [(tp 5), (.const (.int .i64 0)), (tp 6), (tp 9)])] [])⟩
def b277_0 : XCode := .seq (.seq (.seq (.region [mv 29 5,
 mv 30 4,
 op 31 (.len .slice (tp 30)),
 op 32 (.bin .lss (.one .int) (tp 29) (tp 31))] [])
 (.cond (tp 32) (.skip)
 (.exit 2)))
 (.seq (.block 3 (.seq (.region [mv 35 4,
 mv 36 5,
 op 37 (.indexAddr 1 (tp 35) (tp 36)),
 op 38 (.load none (tp 37)),
 mv 39 4,
 mv 40 5,
 op 41 (.bin .sub (.one .int) (tp 40) (.const (.int .i64 1))),
 op 42 (.indexAddr 1 (tp 39) (tp 41)),
 op 43 (.load none (tp 42)),
 op 44 (.bin .neq (.one .str) (tp 38) (tp 43))] [])
 (.cond (tp 44) (.seq (.region [mv 45 0,
 mv 46 3,
 mv 47 4,
 mv 48 5,
 op 49 (.indexAddr 1 (tp 47) (tp 48)),
 op 50 (.load none (tp 49)),
 op 51 (.indexAddr 1 (tp 45) (tp 46)),
 ⟨none, none, .store 1 (tp 51) (tp 50)⟩] [])
 (.region [mv 52 3,
 op 53 (.bin .add (.one .int) (tp 52) (.const (.int .i64 1))),
 mv 3 53] []))
 (.skip))))
 (.region [mv 33 5,
 op 34 (.bin .add (.one .int) (tp 33) (.const (.int .i64 1))),
 mv 5 34] [])))
 (.keep [0, 3, 4, 5])
def b277_1 : XCode := .seq (.seq (.seq (.region [mv 10 3,
 mv 11 0,
 op 12 (.len .slice (tp 11)),
 op 13 (.bin .lss (.one .int) (tp 10) (tp 12))] [])
 (.cond (tp 13) (.skip)
 (.exit 0)))
 (.seq (.block 1 (.seq (.region [mv 16 0,
 mv 17 3,
 op 18 (.indexAddr 1 (tp 16) (tp 17)),
 op 19 (.load none (tp 18)),
 mv 20 0,
 mv 21 3,
 op 22 (.bin .sub (.one .int) (tp 21) (.const (.int .i64 1))),
 op 23 (.indexAddr 1 (tp 20) (tp 22)),
 op 24 (.load none (tp 23)),
 op 25 (.bin .eql (.one .str) (tp 19) (tp 24))] [])
 (.cond (tp 25) (.seq (.region [mv 26 0,
 mv 27 3,
 op 28 (.sliceSl 1 (tp 26) (some (tp 27)) none),
 mv 4 28] [])
 (.seq (.seq (.region [op 5 (.mov (.const (.int .i64 1)))] [])
 (.block 2 (.seq (.keep [0, 3, 4, 5])
 (.loop b277_0))))
 (.seq (.region [mv 54 0,
 mv 55 3,
 op 56 (.sliceSl 1 (tp 54) (some (tp 55)) none),
 ⟨none, none, .clear 1 (.str []) (tp 56)⟩] [])
 (.seq (.region [mv 57 0,
 mv 58 3,
 op 59 (.sliceSl 1 (tp 57) none (some (tp 58))),
 mv 2 59] [])
 (.ret)))))
 (.skip))))
 (.region [mv 14 3,
 op 15 (.bin .add (.one .int) (tp 14) (.const (.int .i64 1))),
 mv 3 15] [])))
 (.keep [0, 3])
def x277 : XFunc := ⟨1, [.tmp 2],
 .seq (.region [op 2 (.mov (.const .nilslice))] [])
 (.seq (.seq (.region [mv 6 0,
 op 7 (.len .slice (tp 6)),
 op 8 (.bin .lss (.one .int) (tp 7) (.const (.int .i64 2)))] [])
 (.cond (tp 8) (.seq (.region [mv 9 0,
 mv 2 9] [])
 (.ret))
 (.skip)))
 (.seq (.seq (.region [op 3 (.mov (.const (.int .i64 1)))] [])
 (.block 0 (.seq (.keep [0, 3])
 (.loop b277_1))))
 (.seq (.region [mv 60 0,
 mv 2 60] [])
 (.ret))))⟩
def x278 : XFunc := ⟨1, [.tmp 2],
 .seq (.region [op 2 (.mov (.const (.bool false)))] [])
 (.seq (.region [mv 3 0,
 mv 4 0,
 op 5 (.bin .neq (.one .str) (tp 3) (tp 4)),
 mv 2 5] [])
 (.ret))⟩
def x283 : XFunc := ⟨1, [.tmp 2],
 .seq (.region [op 2 (.mov (.const (.str [])))] [])
 (.seq (.seq (.region [mv 3 0,
 op 4 (.bin .lss (.one .int) (tp 3) (.const (.int .i64 10)))] [])
 (.cond (tp 4) (.seq (.region [mv 5 0,
 mv 6 0,
 op 7 (.bin .add (.one .int) (tp 6) (.const (.int .i64 1))),
 op 8 (.sliceStr (.const (.str [48, 49, 50, 51, 52, 53, 54, 55, 56, 57, 97, 98, 99, 100, 101, 102, 103, 104, 105, 106, 107, 108, 109, 110, 111, 112, 113, 114, 115, 116, 117, 118, 119, 120, 121, 122])) (some (tp 5)) (some (tp 7))),
 mv 2 8] [])
 (.ret))
 (.skip)))
 (.seq (.region [mv 9 0,
 op 10 (.bin .mul (.one .int) (tp 9) (.const (.int .i64 2))),
 mv 11 0,
 op 12 (.bin .mul (.one .int) (tp 11) (.const (.int .i64 2))),
 op 13 (.bin .add (.one .int) (tp 12) (.const (.int .i64 2))),
 op 14 (.sliceStr (.const (.str [48, 48, 48, 49, 48, 50, 48, 51, 48, 52, 48, 53, 48, 54, 48, 55, 48, 56, 48, 57, 49, 48, 49, 49, 49, 50, 49, 51, 49, 52, 49, 53, 49, 54, 49, 55, 49, 56, 49, 57, 50, 48, 50, 49, 50, 50, 50, 51, 50, 52, 50, 53, 50, 54, 50, 55, 50, 56, 50, 57, 51, 48, 51, 49, 51, 50, 51, 51, 51, 52, 51, 53, 51, 54, 51, 55, 51, 56, 51, 57, 52, 48, 52, 49, 52, 50, 52, 51, 52, 52, 52, 53, 52, 54, 52, 55, 52, 56, 52, 57, 53, 48, 53, 49, 53, 50, 53, 51, 53, 52, 53, 53, 53, 54, 53, 55, 53, 56, 53, 57, 54, 48, 54, 49, 54, 50, 54, 51, 54, 52, 54, 53, 54, 54, 54, 55, 54, 56, 54, 57, 55, 48, 55, 49, 55, 50, 55, 51, 55, 52, 55, 53, 55, 54, 55, 55, 55, 56, 55, 57, 56, 48, 56, 49, 56, 50, 56, 51, 56, 52, 56, 53, 56, 54, 56, 55, 56, 56, 56, 57, 57, 48, 57, 49, 57, 50, 57, 51, 57, 52, 57, 53, 57, 54, 57, 55, 57, 56, 57, 57])) (some (tp 10)) (some (tp 13))),
 mv 2 14] [])
 (.ret)))⟩
def x284 : XFunc := ⟨1, [.tmp 2],
 .seq (.region [op 2 (.mov (.const (.int .i64 0)))] [])
 (.seq (.region [mv 4 0,
 op 5 (.call (.const (.func (.func 167) [])) [(tp 4)]),
 op 6 (.call (.const (.func (.func 292) [])) [(tp 5)]),
 mv 3 6] [])
 (.seq (.region [mv 7 3,
 mv 8 0,
 mv 9 3,
 op 10 (.fail),
 op 11 (.load none (tp 10)),
 op 12 (.bin .geq (.one .int) (tp 8) (tp 11)),
 op 13 (.call (.const (.func (.func 293) [])) [(tp 12)]),
 op 14 (.bin .add (.one .int) (tp 7) (tp 13)),
 mv 2 14] [])
 (.ret)))⟩
def b285_0 : XCode := .seq (.seq (.seq (.region [mv 19 4,
 op 20 (.bin .geq (.one .int) (tp 19) (.const (.int .i64 8)))] [])
 (.cond (tp 20) (.skip)
 (.exit 0)))
 (.block 1 (.seq (.region [mv 21 1,
 op 22 (.bin .rem (.one .int) (tp 21) (.const (.int .u64 100000000))),
 op 23 (.convInt .u32 (tp 22)),
 mv 5 23] [])
 (.seq (.region [mv 24 1,
 op 25 (.bin .quo (.one .int) (tp 24) (.const (.int .u64 100000000))),
 mv 1 25] [])
 (.seq (.region [mv 26 5,
 op 27 (.bin .quo (.one .int) (tp 26) (.const (.int .u32 10000))),
 mv 28 5,
 op 29 (.bin .rem (.one .int) (tp 28) (.const (.int .u32 10000))),
 mv 6 27,
 mv 7 29] [])
 (.seq (.region [mv 30 7,
 op 31 (.bin .quo (.one .int) (tp 30) (.const (.int .u32 100))),
 op 32 (.bin .mul (.one .int) (tp 31) (.const (.int .u32 2))),
 mv 33 7,
 op 34 (.bin .rem (.one .int) (tp 33) (.const (.int .u32 100))),
 op 35 (.bin .mul (.one .int) (tp 34) (.const (.int .u32 2))),
 mv 8 32,
 mv 9 35] [])
 (.seq (.region [mv 36 6,
 op 37 (.bin .quo (.one .int) (tp 36) (.const (.int .u32 100))),
 op 38 (.bin .mul (.one .int) (tp 37) (.const (.int .u32 2))),
 mv 39 6,
 op 40 (.bin .rem (.one .int) (tp 39) (.const (.int .u32 100))),
 op 41 (.bin .mul (.one .int) (tp 40) (.const (.int .u32 2))),
 mv 10 38,
 mv 11 41] [])
 (.seq (.region [mv 42 0,
 mv 43 4,
 op 44 (.bin .sub (.one .int) (tp 43) (.const (.int .i64 1))),
 mv 45 0,
 mv 46 4,
 op 47 (.bin .sub (.one .int) (tp 46) (.const (.int .i64 2))),
 mv 48 9,
 op 49 (.bin .add (.one .int) (tp 48) (.const (.int .u32 1))),
 op 50 (.indexStr (.const (.str [48, 48, 48, 49, 48, 50, 48, 51, 48, 52, 48, 53, 48, 54, 48, 55, 48, 56, 48, 57, 49, 48, 49, 49, 49, 50, 49, 51, 49, 52, 49, 53, 49, 54, 49, 55, 49, 56, 49, 57, 50, 48, 50, 49, 50, 50, 50, 51, 50, 52, 50, 53, 50, 54, 50, 55, 50, 56, 50, 57, 51, 48, 51, 49, 51, 50, 51, 51, 51, 52, 51, 53, 51, 54, 51, 55, 51, 56, 51, 57, 52, 48, 52, 49, 52, 50, 52, 51, 52, 52, 52, 53, 52, 54, 52, 55, 52, 56, 52, 57, 53, 48, 53, 49, 53, 50, 53, 51, 53, 52, 53, 53, 53, 54, 53, 55, 53, 56, 53, 57, 54, 48, 54, 49, 54, 50, 54, 51, 54, 52, 54, 53, 54, 54, 54, 55, 54, 56, 54, 57, 55, 48, 55, 49, 55, 50, 55, 51, 55, 52, 55, 53, 55, 54, 55, 55, 55, 56, 55, 57, 56, 48, 56, 49, 56, 50, 56, 51, 56, 52, 56, 53, 56, 54, 56, 55, 56, 56, 56, 57, 57, 48, 57, 49, 57, 50, 57, 51, 57, 52, 57, 53, 57, 54, 57, 55, 57, 56, 57, 57])) (tp 49)),
 mv 51 9,
 op 52 (.indexStr (.const (.str [48, 48, 48, 49, 48, 50, 48, 51, 48, 52, 48, 53, 48, 54, 48, 55, 48, 56, 48, 57, 49, 48, 49, 49, 49, 50, 49, 51, 49, 52, 49, 53, 49, 54, 49, 55, 49, 56, 49, 57, 50, 48, 50, 49, 50, 50, 50, 51, 50, 52, 50, 53, 50, 54, 50, 55, 50, 56, 50, 57, 51, 48, 51, 49, 51, 50, 51, 51, 51, 52, 51, 53, 51, 54, 51, 55, 51, 56, 51, 57, 52, 48, 52, 49, 52, 50, 52, 51, 52, 52, 52, 53, 52, 54, 52, 55, 52, 56, 52, 57, 53, 48, 53, 49, 53, 50, 53, 51, 53, 52, 53, 53, 53, 54, 53, 55, 53, 56, 53, 57, 54, 48, 54, 49, 54, 50, 54, 51, 54, 52, 54, 53, 54, 54, 54, 55, 54, 56, 54, 57, 55, 48, 55, 49, 55, 50, 55, 51, 55, 52, 55, 53, 55, 54, 55, 55, 55, 56, 55, 57, 56, 48, 56, 49, 56, 50, 56, 51, 56, 52, 56, 53, 56, 54, 56, 55, 56, 56, 56, 57, 57, 48, 57, 49, 57, 50, 57, 51, 57, 52, 57, 53, 57, 54, 57, 55, 57, 56, 57, 57])) (tp 51)),
 op 53 (.indexAddr 1 (tp 42) (tp 44)),
 ⟨none, none, .store 1 (tp 53) (tp 50)⟩,
 op 54 (.indexAddr 1 (tp 45) (tp 47)),
 ⟨none, none, .store 1 (tp 54) (tp 52)⟩] [])
 (.seq (.region [mv 55 0,
 mv 56 4,
 op 57 (.bin .sub (.one .int) (tp 56) (.const (.int .i64 3))),
 mv 58 0,
 mv 59 4,
 op 60 (.bin .sub (.one .int) (tp 59) (.const (.int .i64 4))),
 mv 61 8,
 op 62 (.bin .add (.one .int) (tp 61) (.const (.int .u32 1))),
 op 63 (.indexStr (.const (.str [48, 48, 48, 49, 48, 50, 48, 51, 48, 52, 48, 53, 48, 54, 48, 55, 48, 56, 48, 57, 49, 48, 49, 49, 49, 50, 49, 51, 49, 52, 49, 53, 49, 54, 49, 55, 49, 56, 49, 57, 50, 48, 50, 49, 50, 50, 50, 51, 50, 52, 50, 53, 50, 54, 50, 55, 50, 56, 50, 57, 51, 48, 51, 49, 51, 50, 51, 51, 51, 52, 51, 53, 51, 54, 51, 55, 51, 56, 51, 57, 52, 48, 52, 49, 52, 50, 52, 51, 52, 52, 52, 53, 52, 54, 52, 55, 52, 56, 52, 57, 53, 48, 53, 49, 53, 50, 53, 51, 53, 52, 53, 53, 53, 54, 53, 55, 53, 56, 53, 57, 54, 48, 54, 49, 54, 50, 54, 51, 54, 52, 54, 53, 54, 54, 54, 55, 54, 56, 54, 57, 55, 48, 55, 49, 55, 50, 55, 51, 55, 52, 55, 53, 55, 54, 55, 55, 55, 56, 55, 57, 56, 48, 56, 49, 56, 50, 56, 51, 56, 52, 56, 53, 56, 54, 56, 55, 56, 56, 56, 57, 57, 48, 57, 49, 57, 50, 57, 51, 57, 52, 57, 53, 57, 54, 57, 55, 57, 56, 57, 57])) (tp 62)),
 mv 64 8,
 op 65 (.indexStr (.const (.str [48, 48, 48, 49, 48, 50, 48, 51, 48, 52, 48, 53, 48, 54, 48, 55, 48, 56, 48, 57, 49, 48, 49, 49, 49, 50, 49, 51, 49, 52, 49, 53, 49, 54, 49, 55, 49, 56, 49, 57, 50, 48, 50, 49, 50, 50, 50, 51, 50, 52, 50, 53, 50, 54, 50, 55, 50, 56, 50, 57, 51, 48, 51, 49, 51, 50, 51, 51, 51, 52, 51, 53, 51, 54, 51, 55, 51, 56, 51, 57, 52, 48, 52, 49, 52, 50, 52, 51, 52, 52, 52, 53, 52, 54, 52, 55, 52, 56, 52, 57, 53, 48, 53, 49, 53, 50, 53, 51, 53, 52, 53, 53, 53, 54, 53, 55, 53, 56, 53, 57, 54, 48, 54, 49, 54, 50, 54, 51, 54, 52, 54, 53, 54, 54, 54, 55, 54, 56, 54, 57, 55, 48, 55, 49, 55, 50, 55, 51, 55, 52, 55, 53, 55, 54, 55, 55, 55, 56, 55, 57, 56, 48, 56, 49, 56, 50, 56, 51, 56, 52, 56, 53, 56, 54, 56, 55, 56, 56, 56, 57, 57, 48, 57, 49, 57, 50, 57, 51, 57, 52, 57, 53, 57, 54, 57, 55, 57, 56, 57, 57])) (tp 64)),
 op 66 (.indexAddr 1 (tp 55) (tp 57)),
 ⟨none, none, .store 1 (tp 66) (tp 63)⟩,
 op 67 (.indexAddr 1 (tp 58) (tp 60)),
 ⟨none, none, .store 1 (tp 67) (tp 65)⟩] [])
 (.seq (.region [mv 68 0,
 mv 69 4,
 op 70 (.bin .sub (.one .int) (tp 69) (.const (.int .i64 5))),
 mv 71 0,
 mv 72 4,
 op 73 (.bin .sub (.one .int) (tp 72) (.const (.int .i64 6))),
 mv 74 11,
 op 75 (.bin .add (.one .int) (tp 74) (.const (.int .u32 1))),
 op 76 (.indexStr (.const (.str [48, 48, 48, 49, 48, 50, 48, 51, 48, 52, 48, 53, 48, 54, 48, 55, 48, 56, 48, 57, 49, 48, 49, 49, 49, 50, 49, 51, 49, 52, 49, 53, 49, 54, 49, 55, 49, 56, 49, 57, 50, 48, 50, 49, 50, 50, 50, 51, 50, 52, 50, 53, 50, 54, 50, 55, 50, 56, 50, 57, 51, 48, 51, 49, 51, 50, 51, 51, 51, 52, 51, 53, 51, 54, 51, 55, 51, 56, 51, 57, 52, 48, 52, 49, 52, 50, 52, 51, 52, 52, 52, 53, 52, 54, 52, 55, 52, 56, 52, 57, 53, 48, 53, 49, 53, 50, 53, 51, 53, 52, 53, 53, 53, 54, 53, 55, 53, 56, 53, 57, 54, 48, 54, 49, 54, 50, 54, 51, 54, 52, 54, 53, 54, 54, 54, 55, 54, 56, 54, 57, 55, 48, 55, 49, 55, 50, 55, 51, 55, 52, 55, 53, 55, 54, 55, 55, 55, 56, 55, 57, 56, 48, 56, 49, 56, 50, 56, 51, 56, 52, 56, 53, 56, 54, 56, 55, 56, 56, 56, 57, 57, 48, 57, 49, 57, 50, 57, 51, 57, 52, 57, 53, 57, 54, 57, 55, 57, 56, 57, 57])) (tp 75)),
 mv 77 11,
 op 78 (.indexStr (.const (.str [48, 48, 48, 49, 48, 50, 48, 51, 48, 52, 48, 53, 48, 54, 48, 55, 48, 56, 48, 57, 49, 48, 49, 49, 49, 50, 49, 51, 49, 52, 49, 53, 49, 54, 49, 55, 49, 56, 49, 57, 50, 48, 50, 49, 50, 50, 50, 51, 50, 52, 50, 53, 50, 54, 50, 55, 50, 56, 50, 57, 51, 48, 51, 49, 51, 50, 51, 51, 51, 52, 51, 53, 51, 54, 51, 55, 51, 56, 51, 57, 52, 48, 52, 49, 52, 50, 52, 51, 52, 52, 52, 53, 52, 54, 52, 55, 52, 56, 52, 57, 53, 48, 53, 49, 53, 50, 53, 51, 53, 52, 53, 53, 53, 54, 53, 55, 53, 56, 53, 57, 54, 48, 54, 49, 54, 50, 54, 51, 54, 52, 54, 53, 54, 54, 54, 55, 54, 56, 54, 57, 55, 48, 55, 49, 55, 50, 55, 51, 55, 52, 55, 53, 55, 54, 55, 55, 55, 56, 55, 57, 56, 48, 56, 49, 56, 50, 56, 51, 56, 52, 56, 53, 56, 54, 56, 55, 56, 56, 56, 57, 57, 48, 57, 49, 57, 50, 57, 51, 57, 52, 57, 53, 57, 54, 57, 55, 57, 56, 57, 57])) (tp 77)),
 op 79 (.indexAddr 1 (tp 68) (tp 70)),
 ⟨none, none, .store 1 (tp 79) (tp 76)⟩,
 op 80 (.indexAddr 1 (tp 71) (tp 73)),
 ⟨none, none, .store 1 (tp 80) (tp 78)⟩] [])
 (.seq (.region [mv 81 0,
 mv 82 4,
 op 83 (.bin .sub (.one .int) (tp 82) (.const (.int .i64 7))),
 mv 84 0,
 mv 85 4,
 op 86 (.bin .sub (.one .int) (tp 85) (.const (.int .i64 8))),
 mv 87 10,
 op 88 (.bin .add (.one .int) (tp 87) (.const (.int .u32 1))),
 op 89 (.indexStr (.const (.str [48, 48, 48, 49, 48, 50, 48, 51, 48, 52, 48, 53, 48, 54, 48, 55, 48, 56, 48, 57, 49, 48, 49, 49, 49, 50, 49, 51, 49, 52, 49, 53, 49, 54, 49, 55, 49, 56, 49, 57, 50, 48, 50, 49, 50, 50, 50, 51, 50, 52, 50, 53, 50, 54, 50, 55, 50, 56, 50, 57, 51, 48, 51, 49, 51, 50, 51, 51, 51, 52, 51, 53, 51, 54, 51, 55, 51, 56, 51, 57, 52, 48, 52, 49, 52, 50, 52, 51, 52, 52, 52, 53, 52, 54, 52, 55, 52, 56, 52, 57, 53, 48, 53, 49, 53, 50, 53, 51, 53, 52, 53, 53, 53, 54, 53, 55, 53, 56, 53, 57, 54, 48, 54, 49, 54, 50, 54, 51, 54, 52, 54, 53, 54, 54, 54, 55, 54, 56, 54, 57, 55, 48, 55, 49, 55, 50, 55, 51, 55, 52, 55, 53, 55, 54, 55, 55, 55, 56, 55, 57, 56, 48, 56, 49, 56, 50, 56, 51, 56, 52, 56, 53, 56, 54, 56, 55, 56, 56, 56, 57, 57, 48, 57, 49, 57, 50, 57, 51, 57, 52, 57, 53, 57, 54, 57, 55, 57, 56, 57, 57])) (tp 88)),
 mv 90 10,
 op 91 (.indexStr (.const (.str [48, 48, 48, 49, 48, 50, 48, 51, 48, 52, 48, 53, 48, 54, 48, 55, 48, 56, 48, 57, 49, 48, 49, 49, 49, 50, 49, 51, 49, 52, 49, 53, 49, 54, 49, 55, 49, 56, 49, 57, 50, 48, 50, 49, 50, 50, 50, 51, 50, 52, 50, 53, 50, 54, 50, 55, 50, 56, 50, 57, 51, 48, 51, 49, 51, 50, 51, 51, 51, 52, 51, 53, 51, 54, 51, 55, 51, 56, 51, 57, 52, 48, 52, 49, 52, 50, 52, 51, 52, 52, 52, 53, 52, 54, 52, 55, 52, 56, 52, 57, 53, 48, 53, 49, 53, 50, 53, 51, 53, 52, 53, 53, 53, 54, 53, 55, 53, 56, 53, 57, 54, 48, 54, 49, 54, 50, 54, 51, 54, 52, 54, 53, 54, 54, 54, 55, 54, 56, 54, 57, 55, 48, 55, 49, 55, 50, 55, 51, 55, 52, 55, 53, 55, 54, 55, 55, 55, 56, 55, 57, 56, 48, 56, 49, 56, 50, 56, 51, 56, 52, 56, 53, 56, 54, 56, 55, 56, 56, 56, 57, 57, 48, 57, 49, 57, 50, 57, 51, 57, 52, 57, 53, 57, 54, 57, 55, 57, 56, 57, 57])) (tp 90)),
 op 92 (.indexAddr 1 (tp 81) (tp 83)),
 ⟨none, none, .store 1 (tp 92) (tp 89)⟩,
 op 93 (.indexAddr 1 (tp 84) (tp 86)),
 ⟨none, none, .store 1 (tp 93) (tp 91)⟩] [])
 (.region [mv 94 4,
 op 95 (.bin .sub (.one .int) (tp 94) (.const (.int .i64 8))),
 mv 4 95] []))))))))))))
 (.keep [0, 1, 4])
def x285 : XFunc := ⟨2, [],
 .seq (.region [mv 17 0,
 op 18 (.len .slice (tp 17)),
 mv 4 18] [])
 (.seq (.block 0 (.seq (.keep [0, 1, 4])
 (.loop b285_0)))
 (.seq (.region [mv 96 1,
 op 97 (.convInt .u32 (tp 96)),
 mv 12 97] [])
 (.seq (.seq (.region [mv 98 4,
 op 99 (.bin .geq (.one .int) (tp 98) (.const (.int .i64 4)))] [])
 (.cond (tp 99) (.seq (.region [mv 100 12,
 op 101 (.bin .rem (.one .int) (tp 100) (.const (.int .u32 10000))),
 mv 13 101] [])
 (.seq (.region [mv 102 12,
 op 103 (.bin .quo (.one .int) (tp 102) (.const (.int .u32 10000))),
 mv 12 103] [])
 (.seq (.region [mv 104 13,
 op 105 (.bin .quo (.one .int) (tp 104) (.const (.int .u32 100))),
 op 106 (.bin .mul (.one .int) (tp 105) (.const (.int .u32 2))),
 mv 107 13,
 op 108 (.bin .rem (.one .int) (tp 107) (.const (.int .u32 100))),
 op 109 (.bin .mul (.one .int) (tp 108) (.const (.int .u32 2))),
 mv 14 106,
 mv 15 109] [])
 (.seq (.region [mv 110 0,
 mv 111 4,
 op 112 (.bin .sub (.one .int) (tp 111) (.const (.int .i64 1))),
 mv 113 0,
 mv 114 4,
 op 115 (.bin .sub (.one .int) (tp 114) (.const (.int .i64 2))),
 mv 116 15,
 op 117 (.bin .add (.one .int) (tp 116) (.const (.int .u32 1))),
 op 118 (.indexStr (.const (.str [48, 48, 48, 49, 48, 50, 48, 51, 48, 52, 48, 53, 48, 54, 48, 55, 48, 56, 48, 57, 49, 48, 49, 49, 49, 50, 49, 51, 49, 52, 49, 53, 49, 54, 49, 55, 49, 56, 49, 57, 50, 48, 50, 49, 50, 50, 50, 51, 50, 52, 50, 53, 50, 54, 50, 55, 50, 56, 50, 57, 51, 48, 51, 49, 51, 50, 51, 51, 51, 52, 51, 53, 51, 54, 51, 55, 51, 56, 51, 57, 52, 48, 52, 49, 52, 50, 52, 51, 52, 52, 52, 53, 52, 54, 52, 55, 52, 56, 52, 57, 53, 48, 53, 49, 53, 50, 53, 51, 53, 52, 53, 53, 53, 54, 53, 55, 53, 56, 53, 57, 54, 48, 54, 49, 54, 50, 54, 51, 54, 52, 54, 53, 54, 54, 54, 55, 54, 56, 54, 57, 55, 48, 55, 49, 55, 50, 55, 51, 55, 52, 55, 53, 55, 54, 55, 55, 55, 56, 55, 57, 56, 48, 56, 49, 56, 50, 56, 51, 56, 52, 56, 53, 56, 54, 56, 55, 56, 56, 56, 57, 57, 48, 57, 49, 57, 50, 57, 51, 57, 52, 57, 53, 57, 54, 57, 55, 57, 56, 57, 57])) (tp 117)),
 mv 119 15,
 op 120 (.indexStr (.const (.str [48, 48, 48, 49, 48, 50, 48, 51, 48, 52, 48, 53, 48, 54, 48, 55, 48, 56, 48, 57, 49, 48, 49, 49, 49, 50, 49, 51, 49, 52, 49, 53, 49, 54, 49, 55, 49, 56, 49, 57, 50, 48, 50, 49, 50, 50, 50, 51, 50, 52, 50, 53, 50, 54, 50, 55, 50, 56, 50, 57, 51, 48, 51, 49, 51, 50, 51, 51, 51, 52, 51, 53, 51, 54, 51, 55, 51, 56, 51, 57, 52, 48, 52, 49, 52, 50, 52, 51, 52, 52, 52, 53, 52, 54, 52, 55, 52, 56, 52, 57, 53, 48, 53, 49, 53, 50, 53, 51, 53, 52, 53, 53, 53, 54, 53, 55, 53, 56, 53, 57, 54, 48, 54, 49, 54, 50, 54, 51, 54, 52, 54, 53, 54, 54, 54, 55, 54, 56, 54, 57, 55, 48, 55, 49, 55, 50, 55, 51, 55, 52, 55, 53, 55, 54, 55, 55, 55, 56, 55, 57, 56, 48, 56, 49, 56, 50, 56, 51, 56, 52, 56, 53, 56, 54, 56, 55, 56, 56, 56, 57, 57, 48, 57, 49, 57, 50, 57, 51, 57, 52, 57, 53, 57, 54, 57, 55, 57, 56, 57, 57])) (tp 119)),
 op 121 (.indexAddr 1 (tp 110) (tp 112)),
 ⟨none, none, .store 1 (tp 121) (tp 118)⟩,
 op 122 (.indexAddr 1 (tp 113) (tp 115)),
 ⟨none, none, .store 1 (tp 122) (tp 120)⟩] [])
 (.seq (.region [mv 123 0,
 mv 124 4,
 op 125 (.bin .sub (.one .int) (tp 124) (.const (.int .i64 3))),
 mv 126 0,
 mv 127 4,
 op 128 (.bin .sub (.one .int) (tp 127) (.const (.int .i64 4))),
 mv 129 14,
 op 130 (.bin .add (.one .int) (tp 129) (.const (.int .u32 1))),
 op 131 (.indexStr (.const (.str [48, 48, 48, 49, 48, 50, 48, 51, 48, 52, 48, 53, 48, 54, 48, 55, 48, 56, 48, 57, 49, 48, 49, 49, 49, 50, 49, 51, 49, 52, 49, 53, 49, 54, 49, 55, 49, 56, 49, 57, 50, 48, 50, 49, 50, 50, 50, 51, 50, 52, 50, 53, 50, 54, 50, 55, 50, 56, 50, 57, 51, 48, 51, 49, 51, 50, 51, 51, 51, 52, 51, 53, 51, 54, 51, 55, 51, 56, 51, 57, 52, 48, 52, 49, 52, 50, 52, 51, 52, 52, 52, 53, 52, 54, 52, 55, 52, 56, 52, 57, 53, 48, 53, 49, 53, 50, 53, 51, 53, 52, 53, 53, 53, 54, 53, 55, 53, 56, 53, 57, 54, 48, 54, 49, 54, 50, 54, 51, 54, 52, 54, 53, 54, 54, 54, 55, 54, 56, 54, 57, 55, 48, 55, 49, 55, 50, 55, 51, 55, 52, 55, 53, 55, 54, 55, 55, 55, 56, 55, 57, 56, 48, 56, 49, 56, 50, 56, 51, 56, 52, 56, 53, 56, 54, 56, 55, 56, 56, 56, 57, 57, 48, 57, 49, 57, 50, 57, 51, 57, 52, 57, 53, 57, 54, 57, 55, 57, 56, 57, 57])) (tp 130)),
 mv 132 14,
 op 133 (.indexStr (.const (.str [48, 48, 48, 49, 48, 50, 48, 51, 48, 52, 48, 53, 48, 54, 48, 55, 48, 56, 48, 57, 49, 48, 49, 49, 49, 50, 49, 51, 49, 52, 49, 53, 49, 54, 49, 55, 49, 56, 49, 57, 50, 48, 50, 49, 50, 50, 50, 51, 50, 52, 50, 53, 50, 54, 50, 55, 50, 56, 50, 57, 51, 48, 51, 49, 51, 50, 51, 51, 51, 52, 51, 53, 51, 54, 51, 55, 51, 56, 51, 57, 52, 48, 52, 49, 52, 50, 52, 51, 52, 52, 52, 53, 52, 54, 52, 55, 52, 56, 52, 57, 53, 48, 53, 49, 53, 50, 53, 51, 53, 52, 53, 53, 53, 54, 53, 55, 53, 56, 53, 57, 54, 48, 54, 49, 54, 50, 54, 51, 54, 52, 54, 53, 54, 54, 54, 55, 54, 56, 54, 57, 55, 48, 55, 49, 55, 50, 55, 51, 55, 52, 55, 53, 55, 54, 55, 55, 55, 56, 55, 57, 56, 48, 56, 49, 56, 50, 56, 51, 56, 52, 56, 53, 56, 54, 56, 55, 56, 56, 56, 57, 57, 48, 57, 49, 57, 50, 57, 51, 57, 52, 57, 53, 57, 54, 57, 55, 57, 56, 57, 57])) (tp 132)),
 op 134 (.indexAddr 1 (tp 123) (tp 125)),
 ⟨none, none, .store 1 (tp 134) (tp 131)⟩,
 op 135 (.indexAddr 1 (tp 126) (tp 128)),
 ⟨none, none, .store 1 (tp 135) (tp 133)⟩] [])
 (.region [mv 136 4,
 op 137 (.bin .sub (.one .int) (tp 136) (.const (.int .i64 4))),
 mv 4 137] []))))))
 (.skip)))
 (.seq (.seq (.region [mv 138 4,
 op 139 (.bin .geq (.one .int) (tp 138) (.const (.int .i64 2)))] [])
 (.cond (tp 139) (.seq (.region [mv 140 12,
 op 141 (.bin .rem (.one .int) (tp 140) (.const (.int .u32 100))),
 op 142 (.bin .mul (.one .int) (tp 141) (.const (.int .u32 2))),
 mv 16 142] [])
 (.seq (.region [mv 143 12,
 op 144 (.bin .quo (.one .int) (tp 143) (.const (.int .u32 100))),
 mv 12 144] [])
 (.seq (.region [mv 145 0,
 mv 146 4,
 op 147 (.bin .sub (.one .int) (tp 146) (.const (.int .i64 1))),
 mv 148 0,
 mv 149 4,
 op 150 (.bin .sub (.one .int) (tp 149) (.const (.int .i64 2))),
 mv 151 16,
 op 152 (.bin .add (.one .int) (tp 151) (.const (.int .u32 1))),
 op 153 (.indexStr (.const (.str [48, 48, 48, 49, 48, 50, 48, 51, 48, 52, 48, 53, 48, 54, 48, 55, 48, 56, 48, 57, 49, 48, 49, 49, 49, 50, 49, 51, 49, 52, 49, 53, 49, 54, 49, 55, 49, 56, 49, 57, 50, 48, 50, 49, 50, 50, 50, 51, 50, 52, 50, 53, 50, 54, 50, 55, 50, 56, 50, 57, 51, 48, 51, 49, 51, 50, 51, 51, 51, 52, 51, 53, 51, 54, 51, 55, 51, 56, 51, 57, 52, 48, 52, 49, 52, 50, 52, 51, 52, 52, 52, 53, 52, 54, 52, 55, 52, 56, 52, 57, 53, 48, 53, 49, 53, 50, 53, 51, 53, 52, 53, 53, 53, 54, 53, 55, 53, 56, 53, 57, 54, 48, 54, 49, 54, 50, 54, 51, 54, 52, 54, 53, 54, 54, 54, 55, 54, 56, 54, 57, 55, 48, 55, 49, 55, 50, 55, 51, 55, 52, 55, 53, 55, 54, 55, 55, 55, 56, 55, 57, 56, 48, 56, 49, 56, 50, 56, 51, 56, 52, 56, 53, 56, 54, 56, 55, 56, 56, 56, 57, 57, 48, 57, 49, 57, 50, 57, 51, 57, 52, 57, 53, 57, 54, 57, 55, 57, 56, 57, 57])) (tp 152)),
 mv 154 16,
 op 155 (.indexStr (.const (.str [48, 48, 48, 49, 48, 50, 48, 51, 48, 52, 48, 53, 48, 54, 48, 55, 48, 56, 48, 57, 49, 48, 49, 49, 49, 50, 49, 51, 49, 52, 49, 53, 49, 54, 49, 55, 49, 56, 49, 57, 50, 48, 50, 49, 50, 50, 50, 51, 50, 52, 50, 53, 50, 54, 50, 55, 50, 56, 50, 57, 51, 48, 51, 49, 51, 50, 51, 51, 51, 52, 51, 53, 51, 54, 51, 55, 51, 56, 51, 57, 52, 48, 52, 49, 52, 50, 52, 51, 52, 52, 52, 53, 52, 54, 52, 55, 52, 56, 52, 57, 53, 48, 53, 49, 53, 50, 53, 51, 53, 52, 53, 53, 53, 54, 53, 55, 53, 56, 53, 57, 54, 48, 54, 49, 54, 50, 54, 51, 54, 52, 54, 53, 54, 54, 54, 55, 54, 56, 54, 57, 55, 48, 55, 49, 55, 50, 55, 51, 55, 52, 55, 53, 55, 54, 55, 55, 55, 56, 55, 57, 56, 48, 56, 49, 56, 50, 56, 51, 56, 52, 56, 53, 56, 54, 56, 55, 56, 56, 56, 57, 57, 48, 57, 49, 57, 50, 57, 51, 57, 52, 57, 53, 57, 54, 57, 55, 57, 56, 57, 57])) (tp 154)),
 op 156 (.indexAddr 1 (tp 145) (tp 147)),
 ⟨none, none, .store 1 (tp 156) (tp 153)⟩,
 op 157 (.indexAddr 1 (tp 148) (tp 150)),
 ⟨none, none, .store 1 (tp 157) (tp 155)⟩] [])
 (.region [mv 158 4,
 op 159 (.bin .sub (.one .int) (tp 158) (.const (.int .i64 2))),
 mv 4 159] []))))
 (.skip)))
 (.seq (.region [mv 160 4,
 op 161 (.bin .gtr (.one .int) (tp 160) (.const (.int .i64 0)))] [])
 (.cond (tp 161) (.region [mv 162 0,
 mv 163 12,
 op 164 (.bin .add (.one .int) (.const (.int .u32 48)) (tp 163)),
 op 165 (.convInt .u8 (tp 164)),
 op 166 (.indexAddr 1 (tp 162) (.const (.int .i64 0))),
 ⟨none, none, .store 1 (tp 166) (tp 165)⟩] [])
 (.skip)))))))⟩
def b286_0 : XCode := .seq (.seq (.seq (.region [mv 44 1,
 mv 45 15,
 op 46 (.bin .geq (.one .int) (tp 44) (tp 45))] [])
 (.cond (tp 46) (.skip)
 (.exit 0)))
 (.block 1 (.seq (.region [mv 47 13,
 op 48 (.bin .sub (.one .int) (tp 47) (.const (.int .i64 1))),
 mv 13 48] [])
 (.seq (.region [mv 49 13,
 mv 50 1,
 mv 51 16,
 op 52 (.bin .and (.one .int) (tp 50) (tp 51)),
 op 53 (.indexStr (.const (.str [48, 49, 50, 51, 52, 53, 54, 55, 56, 57, 97, 98, 99, 100, 101, 102, 103, 104, 105, 106, 107, 108, 109, 110, 111, 112, 113, 114, 115, 116, 117, 118, 119, 120, 121, 122])) (tp 52)),
 op 54 (.fail),
 ⟨none, none, .store 1 (tp 54) (tp 53)⟩] [])
 (.region [mv 55 1,
 mv 56 14,
 op 57 (.bin .shr (.one .int) (tp 55) (tp 56)),
 mv 1 57] [])))))
 (.keep [0, 1, 3, 4, 10, 11, 13, 14, 15, 16])
def b286_1 : XCode := .seq (.seq (.seq (.region [mv 66 1,
 mv 67 17,
 op 68 (.bin .geq (.one .int) (tp 66) (tp 67))] [])
 (.cond (tp 68) (.skip)
 (.exit 2)))
 (.block 3 (.seq (.region [mv 69 13,
 op 70 (.bin .sub (.one .int) (tp 69) (.const (.int .i64 1))),
 mv 13 70] [])
 (.seq (.region [mv 71 1,
 mv 72 17,
 op 73 (.bin .quo (.one .int) (tp 71) (tp 72)),
 mv 18 73] [])
 (.seq (.region [mv 74 13,
 mv 75 1,
 mv 76 18,
 mv 77 17,
 op 78 (.bin .mul (.one .int) (tp 76) (tp 77)),
 op 79 (.bin .sub (.one .int) (tp 75) (tp 78)),
 op 80 (.indexStr (.const (.str [48, 49, 50, 51, 52, 53, 54, 55, 56, 57, 97, 98, 99, 100, 101, 102, 103, 104, 105, 106, 107, 108, 109, 110, 111, 112, 113, 114, 115, 116, 117, 118, 119, 120, 121, 122])) (tp 79)),
 op 81 (.fail),
 ⟨none, none, .store 1 (tp 81) (tp 80)⟩] [])
 (.region [mv 82 18,
 mv 1 82] []))))))
 (.keep [0, 1, 3, 4, 10, 11, 13, 17])
def x286 : XFunc := ⟨5, [.tmp 10, .tmp 11],
 .seq (.region [op 10 (.mov (.const .nilslice)),
 op 11 (.mov (.const (.str [])))] [])
 (.seq (.seq (.region [mv 19 2,
 op 20 (.bin .lss (.one .int) (tp 19) (.const (.int .i64 2))),
 mv 21 20,
 ⟨(some 22), (some (21, false)), .mov (tp 2)⟩,
 ⟨(some 23), (some (21, false)), .bin .eql (.one .int) (tp 22) (.const (.int .i64 10))⟩,
 op 24 (.pick (tp 21) (.const (.bool true)) (tp 23)),
 mv 25 24,
 ⟨(some 26), (some (25, false)), .mov (tp 2)⟩,
 ⟨(some 27), (some (25, false)), .bin .gtr (.one .int) (tp 26) (.const (.int .i64 36))⟩,
 op 28 (.pick (tp 25) (.const (.bool true)) (tp 27))] [])
 (.cond (tp 28) (.region [op 29 (.mkIface 9 (.const (.str [115, 116, 114, 99, 111, 110, 118, 58, 32, 105, 108, 108, 101, 103, 97, 108, 32, 65, 112, 112, 101, 110, 100, 73, 110, 116, 47, 70, 111, 114, 109, 97, 116, 73, 110, 116, 32, 98, 97, 115, 101]))),
 ⟨none, none, .fail⟩] [])
 (.skip)))
 (.seq (.region [op 12 (.box 65 (.const (.agg [(.int .u8 0), (.int .u8 0), (.int .u8 0), (.int .u8 0), (.int .u8 0), (.int .u8 0), (.int .u8 0), (.int .u8 0), (.int .u8 0), (.int .u8 0), (.int .u8 0), (.int .u8 0), (.int .u8 0), (.int .u8 0), (.int .u8 0), (.int .u8 0), (.int .u8 0), (.int .u8 0), (.int .u8 0), (.int .u8 0), (.int .u8 0), (.int .u8 0), (.int .u8 0), (.int .u8 0), (.int .u8 0), (.int .u8 0), (.int .u8 0), (.int .u8 0), (.int .u8 0), (.int .u8 0), (.int .u8 0), (.int .u8 0), (.int .u8 0), (.int .u8 0), (.int .u8 0), (.int .u8 0), (.int .u8 0), (.int .u8 0), (.int .u8 0), (.int .u8 0), (.int .u8 0), (.int .u8 0), (.int .u8 0), (.int .u8 0), (.int .u8 0), (.int .u8 0), (.int .u8 0), (.int .u8 0), (.int .u8 0), (.int .u8 0), (.int .u8 0), (.int .u8 0), (.int .u8 0), (.int .u8 0), (.int .u8 0), (.int .u8 0), (.int .u8 0), (.int .u8 0), (.int .u8 0), (.int .u8 0), (.int .u8 0), (.int .u8 0), (.int .u8 0), (.int .u8 0), (.int .u8 0)])))] [])
 (.seq (.region [op 13 (.mov (.const (.int .i64 65)))] [])
 (.seq (.seq (.region [mv 30 3] [])
 (.cond (tp 30) (.region [mv 31 1,
 op 32 (.un .neg (tp 31)),
 mv 1 32] [])
 (.skip)))
 (.seq (.seq (.region [mv 33 2,
 op 34 (.call (.const (.func (.func 294) [])) [(tp 33)])] [])
 (.cond (tp 34) (.seq (.region [mv 35 2,
 op 36 (.convInt .u64 (tp 35)),
 op 37 (.call (.const (.func (.func 295) [])) [(tp 36)]),
 op 38 (.convInt .u64 (tp 37)),
 mv 14 38] [])
 (.seq (.region [mv 39 2,
 op 40 (.convInt .u64 (tp 39)),
 mv 15 40] [])
 (.seq (.region [mv 41 2,
 op 42 (.convInt .u64 (tp 41)),
 op 43 (.bin .sub (.one .int) (tp 42) (.const (.int .u64 1))),
 mv 16 43] [])
 (.seq (.block 0 (.seq (.keep [0, 1, 3, 4, 10, 11, 13, 14, 15, 16])
 (.loop b286_0)))
 (.seq (.region [mv 58 13,
 op 59 (.bin .sub (.one .int) (tp 58) (.const (.int .i64 1))),
 mv 13 59] [])
 (.region [mv 60 13,
 mv 61 1,
 op 62 (.indexStr (.const (.str [48, 49, 50, 51, 52, 53, 54, 55, 56, 57, 97, 98, 99, 100, 101, 102, 103, 104, 105, 106, 107, 108, 109, 110, 111, 112, 113, 114, 115, 116, 117, 118, 119, 120, 121, 122])) (tp 61)),
 op 63 (.fail),
 ⟨none, none, .store 1 (tp 63) (tp 62)⟩] []))))))
 (.seq (.region [mv 64 2,
 op 65 (.convInt .u64 (tp 64)),
 mv 17 65] [])
 (.seq (.block 2 (.seq (.keep [0, 1, 3, 4, 10, 11, 13, 17])
 (.loop b286_1)))
 (.seq (.region [mv 83 13,
 op 84 (.bin .sub (.one .int) (tp 83) (.const (.int .i64 1))),
 mv 13 84] [])
 (.region [mv 85 13,
 mv 86 1,
 op 87 (.indexStr (.const (.str [48, 49, 50, 51, 52, 53, 54, 55, 56, 57, 97, 98, 99, 100, 101, 102, 103, 104, 105, 106, 107, 108, 109, 110, 111, 112, 113, 114, 115, 116, 117, 118, 119, 120, 121, 122])) (tp 86)),
 op 88 (.fail),
 ⟨none, none, .store 1 (tp 88) (tp 87)⟩] []))))))
 (.seq (.seq (.region [mv 89 3] [])
 (.cond (tp 89) (.seq (.region [mv 90 13,
 op 91 (.bin .sub (.one .int) (tp 90) (.const (.int .i64 1))),
 mv 13 91] [])
 (.region [mv 92 13,
 op 93 (.fail),
 ⟨none, none, .store 1 (tp 93) (.const (.int .u8 45))⟩] []))
 (.skip)))
 (.seq (.seq (.region [mv 94 4] [])
 (.cond (tp 94) (.seq (.region [mv 95 0,
 mv 96 13,
 op 97 (.fail),
 op 98 (.append 1 1 (tp 95) (tp 97)),
 mv 10 98] [])
 (.ret))
 (.skip)))
 (.seq (.region [mv 99 13,
 op 100 (.fail),
 op 101 (.fail),
 mv 11 101] [])
 (.ret)))))))))⟩
def b290_0 : XCode := .seq (.block 1 (.seq (.region [mv 19 2,
 mv 20 1,
 op 21 (.bin .sub (.one .int) (tp 19) (tp 20)),
 mv 10 21] [])
 (.seq (.seq (.region [mv 22 10,
 op 23 (.bin .leq (.one .int) (tp 22) (.const (.int .i64 12)))] [])
 (.cond (tp 23) (.seq (.region [mv 24 0,
 mv 25 1,
 mv 26 2,
 op 27 (.call (.const (.func (.func 296) [])) [(tp 24), (tp 25), (tp 26)])] [])
 (.ret))
 (.skip)))
 (.seq (.seq (.region [mv 28 3,
 op 29 (.bin .eql (.one .int) (tp 28) (.const (.int .i64 0)))] [])
 (.cond (tp 29) (.seq (.region [mv 30 0,
 mv 31 1,
 mv 32 2,
 op 33 (.call (.const (.func (.func 297) [])) [(tp 30), (tp 31), (tp 32)])] [])
 (.ret))
 (.skip)))
 (.seq (.seq (.region [mv 34 8,
 op 35 (.un .not (tp 34))] [])
 (.cond (tp 35) (.seq (.region [mv 36 0,
 mv 37 1,
 mv 38 2,
 op 39 (.call (.const (.func (.func 298) [])) [(tp 36), (tp 37), (tp 38)])] [])
 (.region [mv 40 3,
 op 41 (.bin .sub (.one .int) (tp 40) (.const (.int .i64 1))),
 mv 3 41] []))
 (.skip)))
 (.seq (.region [mv 43 0,
 mv 44 1,
 mv 45 2,
 op 46 (.call (.const (.func (.func 299) [])) [(tp 43), (tp 44), (tp 45)]),
 mv 42 46,
 op 47 (.extract (tp 42) 0),
 op 48 (.extract (tp 42) 1),
 mv 11 47,
 mv 12 48] [])
 (.seq (.seq (.region [mv 49 12,
 op 50 (.bin .eql (.one .int) (tp 49) (.const (.int .i64 2)))] [])
 (.cond (tp 50) (.seq (.region [mv 51 0,
 mv 52 1,
 mv 53 2,
 op 54 (.call (.const (.func (.func 300) [])) [(tp 51), (tp 52), (tp 53)])] [])
 (.seq (.region [mv 55 2,
 op 56 (.bin .sub (.one .int) (tp 55) (.const (.int .i64 1))),
 mv 57 11,
 mv 58 1,
 op 59 (.bin .sub (.one .int) (tp 57) (tp 58)),
 op 60 (.bin .sub (.one .int) (tp 56) (tp 59)),
 mv 11 60] [])
 (.region [op 12 (.mov (.const (.int .i64 1)))] [])))
 (.skip)))
 (.seq (.seq (.region [mv 61 8,
 mv 62 61,
 ⟨(some 63), (some (62, true)), .mov (tp 9)⟩,
 op 64 (.pick (tp 62) (tp 63) (.const (.bool false))),
 mv 65 64,
 ⟨(some 66), (some (65, true)), .mov (tp 12)⟩,
 ⟨(some 67), (some (65, true)), .bin .eql (.one .int) (tp 66) (.const (.int .i64 1))⟩,
 op 68 (.pick (tp 65) (tp 67) (.const (.bool false)))] [])
 (.cond (tp 68) (.seq (.region [mv 69 0,
 mv 70 1,
 mv 71 2,
 op 72 (.call (.const (.func (.func 301) [])) [(tp 69), (tp 70), (tp 71)])] [])
 (.cond (tp 72) (.ret)
 (.skip)))
 (.skip)))
 (.seq (.seq (.region [mv 73 1,
 op 74 (.bin .gtr (.one .int) (tp 73) (.const (.int .i64 0))),
 mv 75 74,
 ⟨(some 76), (some (75, true)), .mov (tp 0)⟩,
 ⟨(some 77), (some (75, true)), .mov (tp 1)⟩,
 ⟨(some 78), (some (75, true)), .bin .sub (.one .int) (tp 77) (.const (.int .i64 1))⟩,
 ⟨(some 79), (some (75, true)), .indexAddr 1 (tp 76) (tp 78)⟩,
 ⟨(some 80), (some (75, true)), .load none (tp 79)⟩,
 ⟨(some 81), (some (75, true)), .mov (tp 0)⟩,
 ⟨(some 82), (some (75, true)), .mov (tp 11)⟩,
 ⟨(some 83), (some (75, true)), .indexAddr 1 (tp 81) (tp 82)⟩,
 ⟨(some 84), (some (75, true)), .load none (tp 83)⟩,
 ⟨(some 85), (some (75, true)), .call (.const (.func (.func 247) [])) [(tp 80), (tp 84)]⟩,
 ⟨(some 86), (some (75, true)), .un .not (tp 85)⟩,
 op 87 (.pick (tp 75) (tp 86) (.const (.bool false)))] [])
 (.cond (tp 87) (.seq (.region [mv 88 0,
 mv 89 1,
 mv 90 2,
 mv 91 11,
 op 92 (.call (.const (.func (.func 302) [])) [(tp 88), (tp 89), (tp 90), (tp 91)]),
 mv 13 92] [])
 (.seq (.region [mv 93 13,
 mv 1 93] [])
 (.exit 1)))
 (.skip)))
 (.seq (.region [mv 95 0,
 mv 96 1,
 mv 97 2,
 mv 98 11,
 op 99 (.call (.const (.func (.func 303) [])) [(tp 95), (tp 96), (tp 97), (tp 98)]),
 mv 94 99,
 op 100 (.extract (tp 94) 0),
 op 101 (.extract (tp 94) 1),
 mv 14 100,
 mv 15 101] [])
 (.seq (.region [mv 102 15,
 mv 9 102] [])
 (.seq (.region [mv 103 14,
 mv 104 1,
 op 105 (.bin .sub (.one .int) (tp 103) (tp 104)),
 mv 106 2,
 mv 107 14,
 op 108 (.bin .sub (.one .int) (tp 106) (tp 107)),
 mv 16 105,
 mv 17 108] [])
 (.seq (.region [mv 109 10,
 op 110 (.bin .quo (.one .int) (tp 109) (.const (.int .i64 8))),
 mv 18 110] [])
 (.seq (.region [mv 111 16,
 mv 112 17,
 op 113 (.bin .lss (.one .int) (tp 111) (tp 112))] [])
 (.cond (tp 113) (.seq (.region [mv 114 16,
 mv 115 18,
 op 116 (.bin .geq (.one .int) (tp 114) (tp 115)),
 mv 8 116] [])
 (.seq (.region [mv 117 0,
 mv 118 1,
 mv 119 14,
 mv 120 3,
 op 121 (.call (.const (.func (.func 290) [])) [(tp 117), (tp 118), (tp 119), (tp 120)])] [])
 (.region [mv 122 14,
 op 123 (.bin .add (.one .int) (tp 122) (.const (.int .i64 1))),
 mv 1 123] [])))
 (.seq (.region [mv 124 17,
 mv 125 18,
 op 126 (.bin .geq (.one .int) (tp 124) (tp 125)),
 mv 8 126] [])
 (.seq (.region [mv 127 0,
 mv 128 14,
 op 129 (.bin .add (.one .int) (tp 128) (.const (.int .i64 1))),
 mv 130 2,
 mv 131 3,
 op 132 (.call (.const (.func (.func 290) [])) [(tp 127), (tp 129), (tp 130), (tp 131)])] [])
 (.region [mv 133 14,
 mv 2 133] []))))))))))))))))))
 (.keep [0, 1, 2, 3, 8, 9])
def x290 : XFunc := ⟨4, [],
 .seq (.region [op 8 (.mov (.const (.bool true)))] [])
 (.seq (.region [op 9 (.mov (.const (.bool true)))] [])
 (.block 0 (.seq (.keep [0, 1, 2, 3, 8, 9])
 (.loop b290_0))))⟩
def x292 : XFunc := ⟨1, [.tmp 2],
 .seq (.region [op 2 (.mov (.const (.int .i64 0)))] [])
 (.seq (.region [mv 3 0,
 op 4 (.bin .mul (.one .int) (tp 3) (.const (.int .i64 78913))),
 op 5 (.bin .shr (.one .int) (tp 4) (.const (.int .u64 18))),
 mv 2 5] [])
 (.ret))⟩
def x293 : XFunc := ⟨1, [.tmp 2],
 .seq (.region [op 2 (.mov (.const (.int .i64 0)))] [])
 (.seq (.seq (.region [mv 3 0] [])
 (.cond (tp 3) (.seq (.region [op 2 (.mov (.const (.int .i64 1)))] [])
 (.ret))
 (.skip)))
 (.seq (.region [op 2 (.mov (.const (.int .i64 0)))] [])
 (.ret)))⟩
def x294 : XFunc := ⟨1, [.tmp 2],
 .seq (.region [op 2 (.mov (.const (.bool false)))] [])
 (.seq (.region [mv 3 0,
 mv 4 0,
 op 5 (.bin .sub (.one .int) (tp 4) (.const (.int .i64 1))),
 op 6 (.bin .and (.one .int) (tp 3) (tp 5)),
 op 7 (.bin .eql (.one .int) (tp 6) (.const (.int .i64 0))),
 mv 2 7] [])
 (.ret))⟩
def x295 : XFunc := ⟨1, [.tmp 2],
 .seq (.region [op 2 (.mov (.const (.int .i64 0)))] [])
 (.seq (.cond (.const (.bool false)) (.seq (.region [mv 3 0,
 op 4 (.convInt .u32 (tp 3)),
 op 5 (.call (.const (.func (.func 304) [])) [(tp 4)]),
 mv 2 5] [])
 (.ret))
 (.skip))
 (.seq (.region [mv 6 0,
 op 7 (.call (.const (.func (.func 305) [])) [(tp 6)]),
 mv 2 7] [])
 (.ret)))⟩
def b296_0 : XCode := .seq (.seq (.seq (.region [mv 16 7,
 mv 17 1,
 op 18 (.bin .gtr (.one .int) (tp 16) (tp 17)),
 mv 19 18,
 ⟨(some 20), (some (19, true)), .mov (tp 0)⟩,
 ⟨(some 21), (some (19, true)), .mov (tp 7)⟩,
 ⟨(some 22), (some (19, true)), .indexAddr 1 (tp 20) (tp 21)⟩,
 ⟨(some 23), (some (19, true)), .load none (tp 22)⟩,
 ⟨(some 24), (some (19, true)), .mov (tp 0)⟩,
 ⟨(some 25), (some (19, true)), .mov (tp 7)⟩,
 ⟨(some 26), (some (19, true)), .bin .sub (.one .int) (tp 25) (.const (.int .i64 1))⟩,
 ⟨(some 27), (some (19, true)), .indexAddr 1 (tp 24) (tp 26)⟩,
 ⟨(some 28), (some (19, true)), .load none (tp 27)⟩,
 ⟨(some 29), (some (19, true)), .call (.const (.func (.func 247) [])) [(tp 23), (tp 28)]⟩,
 op 30 (.pick (tp 19) (tp 29) (.const (.bool false)))] [])
 (.cond (tp 30) (.skip)
 (.exit 2)))
 (.seq (.block 3 (.region [mv 33 0,
 mv 34 7,
 mv 35 0,
 mv 36 7,
 op 37 (.bin .sub (.one .int) (tp 36) (.const (.int .i64 1))),
 mv 38 0,
 mv 39 7,
 op 40 (.bin .sub (.one .int) (tp 39) (.const (.int .i64 1))),
 op 41 (.indexAddr 1 (tp 38) (tp 40)),
 op 42 (.load none (tp 41)),
 mv 43 0,
 mv 44 7,
 op 45 (.indexAddr 1 (tp 43) (tp 44)),
 op 46 (.load none (tp 45)),
 op 47 (.indexAddr 1 (tp 33) (tp 34)),
 ⟨none, none, .store 1 (tp 47) (tp 42)⟩,
 op 48 (.indexAddr 1 (tp 35) (tp 37)),
 ⟨none, none, .store 1 (tp 48) (tp 46)⟩] []))
 (.region [mv 31 7,
 op 32 (.bin .sub (.one .int) (tp 31) (.const (.int .i64 1))),
 mv 7 32] [])))
 (.keep [0, 1, 2, 6, 7])
def b296_1 : XCode := .seq (.seq (.seq (.region [mv 10 6,
 mv 11 2,
 op 12 (.bin .lss (.one .int) (tp 10) (tp 11))] [])
 (.cond (tp 12) (.skip)
 (.exit 0)))
 (.seq (.block 1 (.seq (.region [mv 15 6,
 mv 7 15] [])
 (.block 2 (.seq (.keep [0, 1, 2, 6, 7])
 (.loop b296_0)))))
 (.region [mv 13 6,
 op 14 (.bin .add (.one .int) (tp 13) (.const (.int .i64 1))),
 mv 6 14] [])))
 (.keep [0, 1, 2, 6])
def x296 : XFunc := ⟨3, [],
 .seq (.region [mv 8 1,
 op 9 (.bin .add (.one .int) (tp 8) (.const (.int .i64 1))),
 mv 6 9] [])
 (.block 0 (.seq (.keep [0, 1, 2, 6])
 (.loop b296_1)))⟩
def x304 : XFunc := ⟨1, [.tmp 2],
 .seq (.region [op 2 (.mov (.const (.int .i64 0)))] [])
 (.seq (.seq (.region [mv 3 0,
 op 4 (.bin .eql (.one .int) (tp 3) (.const (.int .u32 0)))] [])
 (.cond (tp 4) (.seq (.region [op 2 (.mov (.const (.int .i64 32)))] [])
 (.ret))
 (.skip)))
 (.seq (.region [mv 5 0,
 mv 6 0,
 op 7 (.un .neg (tp 6)),
 op 8 (.bin .and (.one .int) (tp 5) (tp 7)),
 op 9 (.bin .mul (.one .int) (tp 8) (.const (.int .u32 125613361))),
 op 10 (.bin .shr (.one .int) (tp 9) (.const (.int .u64 27))),
 op 11 (.fail),
 op 12 (.load none (tp 11)),
 op 13 (.convInt .i64 (tp 12)),
 mv 2 13] [])
 (.ret)))⟩
def x305 : XFunc := ⟨1, [.tmp 2],
 .seq (.region [op 2 (.mov (.const (.int .i64 0)))] [])
 (.seq (.seq (.region [mv 3 0,
 op 4 (.bin .eql (.one .int) (tp 3) (.const (.int .u64 0)))] [])
 (.cond (tp 4) (.seq (.region [op 2 (.mov (.const (.int .i64 64)))] [])
 (.ret))
 (.skip)))
 (.seq (.region [mv 5 0,
 mv 6 0,
 op 7 (.un .neg (tp 6)),
 op 8 (.bin .and (.one .int) (tp 5) (tp 7)),
 op 9 (.bin .mul (.one .int) (tp 8) (.const (.int .u64 285870213051353865))),
 op 10 (.bin .shr (.one .int) (tp 9) (.const (.int .u64 58))),
 op 11 (.fail),
 op 12 (.load none (tp 11)),
 op 13 (.convInt .i64 (tp 12)),
 mv 2 13] [])
 (.ret)))⟩
def fnOf (f : Nat) : Option XFunc :=
 bif Nat.beq f 6 then some x6 else
 bif Nat.beq f 10 then some x10 else
 bif Nat.beq f 11 then some x11 else
 bif Nat.beq f 12 then some x12 else
 bif Nat.beq f 13 then some x13 else
 bif Nat.beq f 14 then some x14 else
 bif Nat.beq f 19 then some x19 else
 bif Nat.beq f 30 then some x30 else
 bif Nat.beq f 33 then some x33 else
 bif Nat.beq f 35 then some x35 else
 bif Nat.beq f 38 then some x38 else
 bif Nat.beq f 39 then some x39 else
 bif Nat.beq f 46 then some x46 else
 bif Nat.beq f 47 then some x47 else
 bif Nat.beq f 48 then some x48 else
 bif Nat.beq f 49 then some x49 else
 bif Nat.beq f 50 then some x50 else
 bif Nat.beq f 51 then some x51 else
 bif Nat.beq f 52 then some x52 else
 bif Nat.beq f 54 then some x54 else
 bif Nat.beq f 55 then some x55 else
 bif Nat.beq f 56 then some x56 else
 bif Nat.beq f 57 then some x57 else
 bif Nat.beq f 58 then some x58 else
 bif Nat.beq f 59 then some x59 else
 bif Nat.beq f 60 then some x60 else
 bif Nat.beq f 61 then some x61 else
 bif Nat.beq f 62 then some x62 else
 bif Nat.beq f 63 then some x63 else
 bif Nat.beq f 64 then some x64 else
 bif Nat.beq f 65 then some x65 else
 bif Nat.beq f 66 then some x66 else
 bif Nat.beq f 68 then some x68 else
 bif Nat.beq f 69 then some x69 else
 bif Nat.beq f 70 then some x70 else
 bif Nat.beq f 71 then some x71 else
 bif Nat.beq f 72 then some x72 else
 bif Nat.beq f 73 then some x73 else
 bif Nat.beq f 84 then some x84 else
 bif Nat.beq f 85 then some x85 else
 bif Nat.beq f 86 then some x86 else
 bif Nat.beq f 87 then some x87 else
 bif Nat.beq f 88 then some x88 else
 bif Nat.beq f 89 then some x89 else
 bif Nat.beq f 90 then some x90 else
 bif Nat.beq f 95 then some x95 else
 bif Nat.beq f 97 then some x97 else
 bif Nat.beq f 99 then some x99 else
 bif Nat.beq f 101 then some x101 else
 bif Nat.beq f 102 then some x102 else
 bif Nat.beq f 103 then some x103 else
 bif Nat.beq f 105 then some x105 else
 bif Nat.beq f 106 then some x106 else
 bif Nat.beq f 107 then some x107 else
 bif Nat.beq f 108 then some x108 else
 bif Nat.beq f 109 then some x109 else
 bif Nat.beq f 110 then some x110 else
 bif Nat.beq f 112 then some x112 else
 bif Nat.beq f 113 then some x113 else
 bif Nat.beq f 114 then some x114 else
 bif Nat.beq f 115 then some x115 else
 bif Nat.beq f 116 then some x116 else
 bif Nat.beq f 117 then some x117 else
 bif Nat.beq f 118 then some x118 else
 bif Nat.beq f 119 then some x119 else
 bif Nat.beq f 120 then some x120 else
 bif Nat.beq f 121 then some x121 else
 bif Nat.beq f 122 then some x122 else
 bif Nat.beq f 123 then some x123 else
 bif Nat.beq f 124 then some x124 else
 bif Nat.beq f 130 then some x130 else
 bif Nat.beq f 131 then some x131 else
 bif Nat.beq f 137 then some x137 else
 bif Nat.beq f 138 then some x138 else
 bif Nat.beq f 139 then some x139 else
 bif Nat.beq f 140 then some x140 else
 bif Nat.beq f 141 then some x141 else
 bif Nat.beq f 142 then some x142 else
 bif Nat.beq f 143 then some x143 else
 bif Nat.beq f 144 then some x144 else
 bif Nat.beq f 145 then some x145 else
 bif Nat.beq f 146 then some x146 else
 bif Nat.beq f 147 then some x147 else
 bif Nat.beq f 148 then some x148 else
 bif Nat.beq f 149 then some x149 else
 bif Nat.beq f 151 then some x151 else
 bif Nat.beq f 152 then some x152 else
 bif Nat.beq f 153 then some x153 else
 bif Nat.beq f 154 then some x154 else
 bif Nat.beq f 155 then some x155 else
 bif Nat.beq f 156 then some x156 else
 bif Nat.beq f 157 then some x157 else
 bif Nat.beq f 158 then some x158 else
 bif Nat.beq f 166 then some x166 else
 bif Nat.beq f 167 then some x167 else
 bif Nat.beq f 169 then some x169 else
 bif Nat.beq f 170 then some x170 else
 bif Nat.beq f 171 then some x171 else
 bif Nat.beq f 172 then some x172 else
 bif Nat.beq f 173 then some x173 else
 bif Nat.beq f 174 then some x174 else
 bif Nat.beq f 175 then some x175 else
 bif Nat.beq f 178 then some x178 else
 bif Nat.beq f 183 then some x183 else
 bif Nat.beq f 191 then some x191 else
 bif Nat.beq f 192 then some x192 else
 bif Nat.beq f 193 then some x193 else
 bif Nat.beq f 194 then some x194 else
 bif Nat.beq f 195 then some x195 else
 bif Nat.beq f 196 then some x196 else
 bif Nat.beq f 197 then some x197 else
 bif Nat.beq f 198 then some x198 else
 bif Nat.beq f 199 then some x199 else
 bif Nat.beq f 200 then some x200 else
 bif Nat.beq f 201 then some x201 else
 bif Nat.beq f 202 then some x202 else
 bif Nat.beq f 203 then some x203 else
 bif Nat.beq f 204 then some x204 else
 bif Nat.beq f 206 then some x206 else
 bif Nat.beq f 207 then some x207 else
 bif Nat.beq f 208 then some x208 else
 bif Nat.beq f 214 then some x214 else
 bif Nat.beq f 222 then some x222 else
 bif Nat.beq f 223 then some x223 else
 bif Nat.beq f 224 then some x224 else
 bif Nat.beq f 225 then some x225 else
 bif Nat.beq f 227 then some x227 else
 bif Nat.beq f 228 then some x228 else
 bif Nat.beq f 243 then some x243 else
 bif Nat.beq f 244 then some x244 else
 bif Nat.beq f 245 then some x245 else
 bif Nat.beq f 246 then some x246 else
 bif Nat.beq f 247 then some x247 else
 bif Nat.beq f 248 then some x248 else
 bif Nat.beq f 249 then some x249 else
 bif Nat.beq f 250 then some x250 else
 bif Nat.beq f 252 then some x252 else
 bif Nat.beq f 258 then some x258 else
 bif Nat.beq f 265 then some x265 else
 bif Nat.beq f 266 then some x266 else
 bif Nat.beq f 267 then some x267 else
 bif Nat.beq f 268 then some x268 else
 bif Nat.beq f 269 then some x269 else
 bif Nat.beq f 276 then some x276 else
 bif Nat.beq f 277 then some x277 else
 bif Nat.beq f 278 then some x278 else
 bif Nat.beq f 283 then some x283 else
 bif Nat.beq f 284 then some x284 else
 bif Nat.beq f 285 then some x285 else
 bif Nat.beq f 286 then some x286 else
 bif Nat.beq f 290 then some x290 else
 bif Nat.beq f 292 then some x292 else
 bif Nat.beq f 293 then some x293 else
 bif Nat.beq f 294 then some x294 else
 bif Nat.beq f 295 then some x295 else
 bif Nat.beq f 296 then some x296 else
 bif Nat.beq f 304 then some x304 else
 bif Nat.beq f 305 then some x305 else
 none
def modeOf (f : Nat) : Mode :=
 bif Nat.beq f 10 then .cut else
 bif Nat.beq f 12 then .cut else
 bif Nat.beq f 13 then .cut else
 bif Nat.beq f 14 then .pure else
 bif Nat.beq f 19 then .pure else
 bif Nat.beq f 30 then .pure else
 bif Nat.beq f 38 then .pure else
 bif Nat.beq f 39 then .pure else
 bif Nat.beq f 46 then .cut else
 bif Nat.beq f 47 then .cut else
 bif Nat.beq f 48 then .cut else
 bif Nat.beq f 49 then .pure else
 bif Nat.beq f 50 then .pure else
 bif Nat.beq f 51 then .pure else
 bif Nat.beq f 52 then .pure else
 bif Nat.beq f 54 then .cut else
 bif Nat.beq f 55 then .cut else
 bif Nat.beq f 56 then .cut else
 bif Nat.beq f 58 then .pure else
 bif Nat.beq f 60 then .pure else
 bif Nat.beq f 61 then .pure else
 bif Nat.beq f 62 then .pure else
 bif Nat.beq f 65 then .pure else
 bif Nat.beq f 66 then .pure else
 bif Nat.beq f 69 then .pure else
 bif Nat.beq f 70 then .pure else
 bif Nat.beq f 71 then .pure else
 bif Nat.beq f 72 then .pure else
 bif Nat.beq f 84 then .pure else
 bif Nat.beq f 85 then .pure else
 bif Nat.beq f 86 then .pure else
 bif Nat.beq f 87 then .pure else
 bif Nat.beq f 88 then .pure else
 bif Nat.beq f 89 then .pure else
 bif Nat.beq f 90 then .pure else
 bif Nat.beq f 95 then .pure else
 bif Nat.beq f 97 then .pure else
 bif Nat.beq f 99 then .pure else
 bif Nat.beq f 102 then .pure else
 bif Nat.beq f 103 then .pure else
 bif Nat.beq f 105 then .pure else
 bif Nat.beq f 106 then .pure else
 bif Nat.beq f 107 then .pure else
 bif Nat.beq f 113 then .pure else
 bif Nat.beq f 118 then .pure else
 bif Nat.beq f 121 then .pure else
 bif Nat.beq f 122 then .pure else
 bif Nat.beq f 130 then .pure else
 bif Nat.beq f 131 then .pure else
 bif Nat.beq f 138 then .pure else
 bif Nat.beq f 139 then .pure else
 bif Nat.beq f 145 then .pure else
 bif Nat.beq f 146 then .pure else
 bif Nat.beq f 147 then .pure else
 bif Nat.beq f 148 then .pure else
 bif Nat.beq f 151 then .pure else
 bif Nat.beq f 156 then .cut else
 bif Nat.beq f 168 then .pure else
 bif Nat.beq f 172 then .pure else
 bif Nat.beq f 174 then .pure else
 bif Nat.beq f 175 then .pure else
 bif Nat.beq f 191 then .pure else
 bif Nat.beq f 192 then .pure else
 bif Nat.beq f 196 then .fresh else
 bif Nat.beq f 206 then .pure else
 bif Nat.beq f 208 then .pure else
 bif Nat.beq f 239 then .pure else
 bif Nat.beq f 243 then .pure else
 bif Nat.beq f 249 then .pure else
 bif Nat.beq f 258 then .pure else
 .shared
def noG : Nat → Option AV := fun _ => none
def ixB (a : List UInt8) (c : Int) : Int := match (List.range (ByteArray.mk a.toArray).size).find? (fun i => (ByteArray.mk a.toArray)[i]! == c.toNat.toUInt8) with | some i => (i : Int) | none => -1
def primOf (f : Nat) (vs : List AV) : Option AV :=
 bif Nat.beq f 168 then (match vs with | [.str a, .str b] => some (.int .i64 (Go.Extern.BytealgCompare.cmp ⟨a.toArray⟩ ⟨b.toArray⟩)) | _ => none) else bif Nat.beq f 239 then (match vs with | [.str a, .int .u8 c] => some (.int .i64 (ixB a c)) | _ => none) else none
def prog : Prog := ⟨fnOf, modeOf, primOf⟩
end X
end Go.Proofs.YtplginnkececaaaGreatDoor
