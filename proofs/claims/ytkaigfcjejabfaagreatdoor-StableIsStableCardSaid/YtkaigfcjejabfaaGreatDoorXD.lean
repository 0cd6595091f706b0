/- The engine's functions that jitney/jitkeep2.StableIsStable reaches. No condition. MADE BY PROGRAM (xgen). -/
import Derived.Test.YtkaigfcjejabfaaGreatDoorXDa
set_option maxRecDepth 100000
namespace Go.Proofs.YtkaigfcjejabfaaGreatDoor
open Go
namespace X
/-- jitney/fleet.byShift -/
def x94 : XFunc := ⟨2, [.tmp 4],
  .seq (.region [⟨(some 2), none, .box 2 (.tmp 0)⟩,
    ⟨(some 3), none, .box 2 (.tmp 1)⟩,
    ⟨(some 4), none, .mov (.const (.int .i64 0))⟩] [])
  (.seq (.region [⟨(some 5), none, .fieldAddr 0 (.tmp 2)⟩,
     ⟨(some 6), none, .load none (.tmp 5)⟩,
     ⟨(some 7), none, .fieldAddr 0 (.tmp 3)⟩,
     ⟨(some 8), none, .load none (.tmp 7)⟩,
     ⟨(some 9), none, .call (.const (.func (.func 90) [])) [(.tmp 6), (.tmp 8)]⟩,
     ⟨(some 10), none, .fieldAddr 1 (.tmp 2)⟩,
     ⟨(some 11), none, .load none (.tmp 10)⟩,
     ⟨(some 12), none, .fieldAddr 1 (.tmp 3)⟩,
     ⟨(some 13), none, .load none (.tmp 12)⟩,
     ⟨(some 14), none, .call (.const (.func (.func 90) [])) [(.tmp 11), (.tmp 13)]⟩,
     ⟨(some 15), none, .lit 1 [(.int .i64 0), (.int .i64 0)] [(0, (.tmp 9)), (1, (.tmp 14))] false⟩,
     ⟨(some 16), none, .call (.const (.func (.func 100) [])) [(.tmp 15)]⟩,
     ⟨(some 4), none, .mov (.tmp 16)⟩] [])
   (.ret))⟩
def b95_0 : XCode := .seq (.seq (.region [⟨(some 9), none, .bin .lss (.one .int) (.tmp 8) (.tmp 7)⟩] [])
   (.seq (.cond (.tmp 9) (.skip)
     (.exit 0))
    (.seq (.block 1 (.seq (.region [⟨(some 10), none, .mov (.tmp 8)⟩,
         ⟨(some 5), none, .mov (.tmp 10)⟩] [])
       (.seq (.region [⟨(some 11), none, .mov (.tmp 1)⟩,
          ⟨(some 12), none, .mov (.tmp 0)⟩,
          ⟨(some 13), none, .mov (.tmp 5)⟩,
          ⟨(some 14), none, .indexAddr 1 (.tmp 12) (.tmp 13)⟩,
          ⟨(some 15), none, .load none (.tmp 14)⟩,
          ⟨(some 16), none, .call (.tmp 11) [(.tmp 15)]⟩] [])
        (.cond (.tmp 16) (.seq (.region [⟨(some 17), none, .mov (.tmp 5)⟩,
            ⟨(some 4), none, .mov (.tmp 17)⟩] [])
          (.ret))
         (.skip)))))
     (.region [⟨(some 18), none, .bin .add (.one .int) (.tmp 8) (.const (.int .i64 1))⟩,
       ⟨(some 8), none, .mov (.tmp 18)⟩] []))))
  (.keep [0, 1, 7, 8])
/-- slices.IndexFunc[[]int,int] -/
def x95 : XFunc := ⟨2, [.tmp 4],
  .seq (.region [⟨(some 4), none, .mov (.const (.int .i64 0))⟩] [])
  (.seq (.seq (.region [⟨(some 6), none, .mov (.tmp 0)⟩,
      ⟨(some 7), none, .len .slice (.tmp 6)⟩,
      ⟨(some 8), none, .mov (.const (.int .i64 0))⟩] [])
    (.block 0 (.seq (.keep [0, 1, 7, 8])
      (.loop b95_0))))
   (.seq (.region [⟨(some 4), none, .mov (.const (.int .i64 (-1)))⟩] [])
    (.ret)))⟩
/-- jitney/fleet.rosters$1 -/
def x96 : XFunc := ⟨2, [.tmp 3],
  .seq (.region [⟨(some 3), none, .mov (.const (.bool false))⟩] [])
  (.seq (.region [⟨(some 4), none, .mov (.tmp 0)⟩,
     ⟨(some 5), none, .fieldAddr 0 (.tmp 1)⟩,
     ⟨(some 6), none, .load none (.tmp 5)⟩,
     ⟨(some 7), none, .bin .leq (.one .int) (.tmp 4) (.tmp 6)⟩,
     ⟨(some 3), none, .mov (.tmp 7)⟩] [])
   (.ret))⟩
/-- jitney/trust.byRating -/
def x97 : XFunc := ⟨2, [.tmp 4],
  .seq (.region [⟨(some 2), none, .box 5 (.tmp 0)⟩,
    ⟨(some 3), none, .box 5 (.tmp 1)⟩,
    ⟨(some 4), none, .mov (.const (.int .i64 0))⟩] [])
  (.seq (.region [⟨(some 5), none, .load (some 5) (.tmp 2)⟩,
     ⟨(some 6), none, .load (some 5) (.tmp 3)⟩,
     ⟨(some 7), none, .call (.const (.func (.func 122) [])) [(.tmp 5), (.tmp 6)]⟩,
     ⟨(some 8), none, .fieldAddr 4 (.tmp 2)⟩,
     ⟨(some 9), none, .load none (.tmp 8)⟩,
     ⟨(some 10), none, .fieldAddr 4 (.tmp 3)⟩,
     ⟨(some 11), none, .load none (.tmp 10)⟩,
     ⟨(some 12), none, .call (.const (.func (.func 90) [])) [(.tmp 9), (.tmp 11)]⟩,
     ⟨(some 13), none, .lit 1 [(.int .i64 0), (.int .i64 0)] [(0, (.tmp 7)), (1, (.tmp 12))] false⟩,
     ⟨(some 14), none, .call (.const (.func (.func 100) [])) [(.tmp 13)]⟩,
     ⟨(some 4), none, .mov (.tmp 14)⟩] [])
   (.ret))⟩
def b98_0 : XCode := .seq (.seq (.region [⟨(some 12), none, .bin .lss (.one .int) (.tmp 11) (.tmp 10)⟩] [])
   (.seq (.cond (.tmp 12) (.skip)
     (.exit 0))
    (.seq (.block 1 (.seq (.region [⟨(some 13), none, .indexAddr 5 (.tmp 9) (.tmp 11)⟩,
         ⟨(some 14), none, .load (some 5) (.tmp 13)⟩,
         ⟨(some 7), none, .box 5 (.const (.agg [(.str []), (.str []), (.str []), (.int .i64 0), (.int .i64 0)]))⟩,
         ⟨none, none, .store 5 (.tmp 7) (.tmp 14)⟩] [])
       (.seq (.region [⟨(some 15), none, .mov (.tmp 5)⟩,
          ⟨(some 16), none, .len .slice (.tmp 15)⟩,
          ⟨(some 17), none, .bin .sub (.one .int) (.tmp 16) (.const (.int .i64 1))⟩,
          ⟨(some 8), none, .mov (.tmp 17)⟩] [])
        (.block 2 (.seq (.region [⟨(some 23), none, .fieldAddr 4 (.tmp 7)⟩,
            ⟨(some 24), none, .load none (.tmp 23)⟩,
            ⟨(some 25), none, .mov (.tmp 1)⟩,
            ⟨(some 26), none, .bin .gtr (.one .int) (.tmp 24) (.tmp 25)⟩,
            ⟨(some 22), none, .mov (.tmp 26)⟩] [])
          (.cond (.tmp 22) (.skip)
           (.seq (.region [⟨(some 28), none, .mov (.tmp 8)⟩,
              ⟨(some 29), none, .bin .geq (.one .int) (.tmp 28) (.const (.int .i64 0))⟩,
              ⟨(some 30), none, .mov (.tmp 29)⟩,
              ⟨(some 31), (some (30, true)), .mov (.tmp 5)⟩,
              ⟨(some 32), (some (30, true)), .mov (.tmp 8)⟩,
              ⟨(some 33), (some (30, true)), .indexAddr 5 (.tmp 31) (.tmp 32)⟩,
              ⟨(some 34), (some (30, true)), .load (some 5) (.tmp 33)⟩,
              ⟨(some 35), (some (30, true)), .load (some 5) (.tmp 7)⟩,
              ⟨(some 36), (some (30, true)), .call (.const (.func (.func 122) [])) [(.tmp 34), (.tmp 35)]⟩,
              ⟨(some 37), (some (30, true)), .bin .eql (.one .int) (.tmp 36) (.const (.int .i64 0))⟩,
              ⟨(some 38), none, .pick (.tmp 30) (.tmp 37) (.const (.bool false))⟩,
              ⟨(some 27), none, .mov (.tmp 38)⟩] [])
            (.cond (.tmp 27) (.region [⟨(some 39), none, .mov (.tmp 5)⟩,
               ⟨(some 40), none, .mov (.tmp 8)⟩,
               ⟨(some 41), none, .load (some 5) (.tmp 7)⟩,
               ⟨(some 42), none, .indexAddr 5 (.tmp 39) (.tmp 40)⟩,
               ⟨none, none, .store 5 (.tmp 42) (.tmp 41)⟩] [])
             (.region [⟨(some 18), none, .mov (.tmp 5)⟩,
               ⟨(some 19), none, .load (some 5) (.tmp 7)⟩,
               ⟨(some 20), none, .lit 5 [(.agg [(.str []), (.str []), (.str []), (.int .i64 0), (.int .i64 0)])] [(0, (.tmp 19))] false⟩,
               ⟨(some 21), none, .append 5 64 (.tmp 18) (.tmp 20)⟩,
               ⟨(some 5), none, .mov (.tmp 21)⟩] [])))))))))
     (.region [⟨(some 43), none, .bin .add (.one .int) (.tmp 11) (.const (.int .i64 1))⟩,
       ⟨(some 11), none, .mov (.tmp 43)⟩] []))))
  (.keep [1, 5, 9, 10, 11])
/-- jitney/trust.counting -/
def x98 : XFunc := ⟨2, [.tmp 4],
  .seq (.region [⟨(some 4), none, .mov (.const .nilslice)⟩] [])
  (.seq (.region [⟨(some 5), none, .mov (.const .nilslice)⟩] [])
   (.seq (.seq (.region [⟨(some 9), none, .mov (.tmp 0)⟩,
       ⟨(some 10), none, .len .slice (.tmp 9)⟩,
       ⟨(some 11), none, .mov (.const (.int .i64 0))⟩] [])
     (.block 0 (.seq (.keep [1, 5, 9, 10, 11])
       (.loop b98_0))))
    (.seq (.region [⟨(some 44), none, .mov (.tmp 5)⟩,
       ⟨(some 4), none, .mov (.tmp 44)⟩] [])
     (.ret))))⟩
/-- jitney/base.Fraction -/
def x99 : XFunc := ⟨2, [.cell 4 (some 2)],
  .seq (.region [⟨(some 4), none, .box 2 (.const (.agg [(.int .i64 0), (.int .i64 0)]))⟩] [])
  (.seq (.region [⟨(some 6), none, .mov (.tmp 0)⟩,
     ⟨(some 7), none, .mov (.tmp 0)⟩,
     ⟨(some 8), none, .un .neg (.tmp 7)⟩,
     ⟨(some 9), none, .mm true [(.tmp 6), (.tmp 8)]⟩,
     ⟨(some 10), none, .mov (.tmp 1)⟩,
     ⟨(some 11), none, .call (.const (.func (.func 123) [])) [(.tmp 9), (.tmp 10)]⟩,
     ⟨(some 5), none, .mov (.tmp 11)⟩] [])
   (.seq (.region [⟨(some 12), none, .mov (.tmp 0)⟩,
      ⟨(some 13), none, .mov (.tmp 5)⟩,
      ⟨(some 14), none, .bin .quo (.one .int) (.tmp 12) (.tmp 13)⟩,
      ⟨(some 15), none, .mov (.tmp 1)⟩,
      ⟨(some 16), none, .mov (.tmp 5)⟩,
      ⟨(some 17), none, .bin .quo (.one .int) (.tmp 15) (.tmp 16)⟩,
      ⟨(some 18), none, .build [(.int .i64 0), (.int .i64 0)] [(0, 1, (.tmp 14)), (1, 1, (.tmp 17))]⟩,
      ⟨none, none, .store 2 (.tmp 4) (.tmp 18)⟩] [])
    (.ret)))⟩
def b100_0 : XCode := .seq (.seq (.region [⟨(some 9), none, .bin .lss (.one .int) (.tmp 8) (.tmp 7)⟩] [])
   (.seq (.cond (.tmp 9) (.skip)
     (.exit 0))
    (.seq (.block 1 (.seq (.region [⟨(some 10), none, .indexAddr 1 (.tmp 6) (.tmp 8)⟩,
         ⟨(some 11), none, .load none (.tmp 10)⟩,
         ⟨(some 5), none, .mov (.tmp 11)⟩] [])
       (.seq (.region [⟨(some 12), none, .mov (.tmp 5)⟩,
          ⟨(some 13), none, .mov (.tmp 3)⟩,
          ⟨(some 14), none, .bin .neq (.one .int) (.tmp 12) (.tmp 13)⟩] [])
        (.cond (.tmp 14) (.seq (.region [⟨(some 15), none, .mov (.tmp 5)⟩,
            ⟨(some 2), none, .mov (.tmp 15)⟩] [])
          (.ret))
         (.skip)))))
     (.region [⟨(some 16), none, .bin .add (.one .int) (.tmp 8) (.const (.int .i64 1))⟩,
       ⟨(some 8), none, .mov (.tmp 16)⟩] []))))
  (.keep [3, 6, 7, 8])
/-- cmp.Or[int] -/
def x100 : XFunc := ⟨1, [.tmp 2],
  .seq (.region [⟨(some 2), none, .mov (.const (.int .i64 0))⟩] [])
  (.seq (.region [⟨(some 3), none, .mov (.const (.int .i64 0))⟩] [])
   (.seq (.seq (.region [⟨(some 6), none, .mov (.tmp 0)⟩,
       ⟨(some 7), none, .len .slice (.tmp 6)⟩,
       ⟨(some 8), none, .mov (.const (.int .i64 0))⟩] [])
     (.block 0 (.seq (.keep [3, 6, 7, 8])
       (.loop b100_0))))
    (.seq (.region [⟨(some 17), none, .mov (.tmp 3)⟩,
       ⟨(some 2), none, .mov (.tmp 17)⟩] [])
     (.ret))))⟩
def b101_0 : XCode := .seq (.seq (.region [⟨(some 11), none, .bin .lss (.one .int) (.tmp 10) (.tmp 9)⟩] [])
   (.seq (.cond (.tmp 11) (.skip)
     (.exit 0))
    (.seq (.block 1 (.seq (.region [⟨(some 12), none, .indexAddr 3 (.tmp 8) (.tmp 10)⟩,
         ⟨(some 13), none, .load (some 3) (.tmp 12)⟩,
         ⟨(some 7), none, .box 3 (.const (.agg [(.str []), (.str []), (.int .i64 0)]))⟩,
         ⟨none, none, .store 3 (.tmp 7) (.tmp 13)⟩] [])
       (.region [⟨(some 14), none, .mov (.tmp 5)⟩,
         ⟨(some 15), none, .mov (.tmp 1)⟩,
         ⟨(some 16), none, .load (some 3) (.tmp 7)⟩,
         ⟨(some 17), none, .call (.tmp 15) [(.tmp 16)]⟩,
         ⟨(some 18), none, .lit 1 [(.str [])] [(0, (.tmp 17))] false⟩,
         ⟨(some 19), none, .append 1 16 (.tmp 14) (.tmp 18)⟩,
         ⟨(some 5), none, .mov (.tmp 19)⟩] [])))
     (.region [⟨(some 20), none, .bin .add (.one .int) (.tmp 10) (.const (.int .i64 1))⟩,
       ⟨(some 10), none, .mov (.tmp 20)⟩] []))))
  (.keep [1, 5, 8, 9, 10])
/-- jitney/match.names -/
def x101 : XFunc := ⟨2, [.tmp 4],
  .seq (.region [⟨(some 4), none, .mov (.const .nilslice)⟩] [])
  (.seq (.region [⟨(some 5), none, .mov (.const .nilslice)⟩] [])
   (.seq (.seq (.region [⟨(some 8), none, .mov (.tmp 0)⟩,
       ⟨(some 9), none, .len .slice (.tmp 8)⟩,
       ⟨(some 10), none, .mov (.const (.int .i64 0))⟩] [])
     (.block 0 (.seq (.keep [1, 5, 8, 9, 10])
       (.loop b101_0))))
    (.seq (.region [⟨(some 21), none, .mov (.tmp 5)⟩,
       ⟨(some 22), none, .call (.const (.func (.func 124) [])) [(.tmp 21)]⟩] [])
     (.seq (.region [⟨(some 23), none, .mov (.tmp 5)⟩,
        ⟨(some 24), none, .call (.const (.func (.func 125) [])) [(.tmp 23)]⟩,
        ⟨(some 4), none, .mov (.tmp 24)⟩] [])
      (.ret)))))⟩
/-- jitney/match.carsOf$1 -/
def x102 : XFunc := ⟨1, [.tmp 2],
  .seq (.region [⟨(some 1), none, .box 3 (.tmp 0)⟩,
    ⟨(some 2), none, .mov (.const (.str []))⟩] [])
  (.seq (.region [⟨(some 3), none, .fieldAddr 0 (.tmp 1)⟩,
     ⟨(some 4), none, .load none (.tmp 3)⟩,
     ⟨(some 2), none, .mov (.tmp 4)⟩] [])
   (.ret))⟩
/-- jitney/match.ridesOf$1 -/
def x103 : XFunc := ⟨1, [.tmp 2],
  .seq (.region [⟨(some 1), none, .box 3 (.tmp 0)⟩,
    ⟨(some 2), none, .mov (.const (.str []))⟩] [])
  (.seq (.region [⟨(some 3), none, .fieldAddr 1 (.tmp 1)⟩,
     ⟨(some 4), none, .load none (.tmp 3)⟩,
     ⟨(some 2), none, .mov (.tmp 4)⟩] [])
   (.ret))⟩
/-- cmp.Less[string] -/
def x104 : XFunc := ⟨2, [.tmp 4],
  .seq (.region [⟨(some 4), none, .mov (.const (.bool false))⟩] [])
  (.seq (.region [⟨(some 5), none, .mov (.tmp 0)⟩,
     ⟨(some 6), none, .call (.const (.func (.func 126) [])) [(.tmp 5)]⟩,
     ⟨(some 7), none, .mov (.tmp 6)⟩,
     ⟨(some 8), (some (7, true)), .mov (.tmp 1)⟩,
     ⟨(some 9), (some (7, true)), .call (.const (.func (.func 126) [])) [(.tmp 8)]⟩,
     ⟨(some 10), (some (7, true)), .un .not (.tmp 9)⟩,
     ⟨(some 11), none, .pick (.tmp 7) (.tmp 10) (.const (.bool false))⟩,
     ⟨(some 12), none, .mov (.tmp 11)⟩,
     ⟨(some 13), (some (12, false)), .mov (.tmp 0)⟩,
     ⟨(some 14), (some (12, false)), .mov (.tmp 1)⟩,
     ⟨(some 15), (some (12, false)), .bin .lss (.one .str) (.tmp 13) (.tmp 14)⟩,
     ⟨(some 16), none, .pick (.tmp 12) (.const (.bool true)) (.tmp 15)⟩,
     ⟨(some 4), none, .mov (.tmp 16)⟩] [])
   (.ret))⟩
/-- slices.isNaN[string] -/
def x105 : XFunc := ⟨1, [.tmp 2],
  .seq (.region [⟨(some 2), none, .mov (.const (.bool false))⟩] [])
  (.seq (.region [⟨(some 3), none, .mov (.tmp 0)⟩,
     ⟨(some 4), none, .mov (.tmp 0)⟩,
     ⟨(some 5), none, .bin .neq (.one .str) (.tmp 3) (.tmp 4)⟩,
     ⟨(some 2), none, .mov (.tmp 5)⟩] [])
   (.ret))⟩
/-- math/bits.Mul -/
def x107 : XFunc := ⟨2, [.tmp 4, .tmp 5],
  .seq (.region [⟨(some 4), none, .mov (.const (.int .u64 0))⟩,
    ⟨(some 5), none, .mov (.const (.int .u64 0))⟩] [])
  (.seq (.cond (.const (.bool false)) (.seq (.region [⟨(some 11), none, .mov (.tmp 0)⟩,
       ⟨(some 12), none, .convInt .u32 (.tmp 11)⟩,
       ⟨(some 13), none, .mov (.tmp 1)⟩,
       ⟨(some 14), none, .convInt .u32 (.tmp 13)⟩,
       ⟨(some 15), none, .call (.const (.func (.func 127) [])) [(.tmp 12), (.tmp 14)]⟩,
       ⟨(some 10), none, .mov (.tmp 15)⟩,
       ⟨(some 16), none, .extract (.tmp 10) 0⟩,
       ⟨(some 17), none, .extract (.tmp 10) 1⟩,
       ⟨(some 6), none, .mov (.tmp 16)⟩,
       ⟨(some 7), none, .mov (.tmp 17)⟩] [])
     (.seq (.region [⟨(some 18), none, .mov (.tmp 6)⟩,
        ⟨(some 19), none, .convInt .u64 (.tmp 18)⟩,
        ⟨(some 20), none, .mov (.tmp 7)⟩,
        ⟨(some 21), none, .convInt .u64 (.tmp 20)⟩,
        ⟨(some 4), none, .mov (.tmp 19)⟩,
        ⟨(some 5), none, .mov (.tmp 21)⟩] [])
      (.ret)))
    (.skip))
   (.seq (.region [⟨(some 23), none, .mov (.tmp 0)⟩,
      ⟨(some 24), none, .mov (.tmp 1)⟩,
      ⟨(some 25), none, .call (.const (.func (.func 128) [])) [(.tmp 23), (.tmp 24)]⟩,
      ⟨(some 22), none, .mov (.tmp 25)⟩,
      ⟨(some 26), none, .extract (.tmp 22) 0⟩,
      ⟨(some 27), none, .extract (.tmp 22) 1⟩,
      ⟨(some 8), none, .mov (.tmp 26)⟩,
      ⟨(some 9), none, .mov (.tmp 27)⟩] [])
    (.seq (.region [⟨(some 28), none, .mov (.tmp 8)⟩,
       ⟨(some 29), none, .mov (.tmp 9)⟩,
       ⟨(some 4), none, .mov (.tmp 28)⟩,
       ⟨(some 5), none, .mov (.tmp 29)⟩] [])
     (.ret))))⟩
def b108_0 : XCode := .seq (.block 1 (.seq (.region [⟨(some 13), none, .mov (.tmp 10)⟩,
      ⟨(some 14), none, .bin .mul (.one .int) (.const (.int .i64 2)) (.tmp 13)⟩,
      ⟨(some 15), none, .bin .add (.one .int) (.tmp 14) (.const (.int .i64 1))⟩,
      ⟨(some 11), none, .mov (.tmp 15)⟩] [])
    (.seq (.seq (.region [⟨(some 16), none, .mov (.tmp 11)⟩,
        ⟨(some 17), none, .mov (.tmp 2)⟩,
        ⟨(some 18), none, .bin .geq (.one .int) (.tmp 16) (.tmp 17)⟩] [])
      (.cond (.tmp 18) (.exit 0)
       (.skip)))
     (.seq (.seq (.region [⟨(some 19), none, .mov (.tmp 11)⟩,
         ⟨(some 20), none, .bin .add (.one .int) (.tmp 19) (.const (.int .i64 1))⟩,
         ⟨(some 21), none, .mov (.tmp 2)⟩,
         ⟨(some 22), none, .bin .lss (.one .int) (.tmp 20) (.tmp 21)⟩,
         ⟨(some 23), none, .mov (.tmp 22)⟩,
         ⟨(some 24), (some (23, true)), .mov (.tmp 4)⟩,
         ⟨(some 25), (some (23, true)), .mov (.tmp 0)⟩,
         ⟨(some 26), (some (23, true)), .mov (.tmp 3)⟩,
         ⟨(some 27), (some (23, true)), .mov (.tmp 11)⟩,
         ⟨(some 28), (some (23, true)), .bin .add (.one .int) (.tmp 26) (.tmp 27)⟩,
         ⟨(some 29), (some (23, true)), .indexAddr 2 (.tmp 25) (.tmp 28)⟩,
         ⟨(some 30), (some (23, true)), .load (some 2) (.tmp 29)⟩,
         ⟨(some 31), (some (23, true)), .mov (.tmp 0)⟩,
         ⟨(some 32), (some (23, true)), .mov (.tmp 3)⟩,
         ⟨(some 33), (some (23, true)), .mov (.tmp 11)⟩,
         ⟨(some 34), (some (23, true)), .bin .add (.one .int) (.tmp 32) (.tmp 33)⟩,
         ⟨(some 35), (some (23, true)), .bin .add (.one .int) (.tmp 34) (.const (.int .i64 1))⟩,
         ⟨(some 36), (some (23, true)), .indexAddr 2 (.tmp 31) (.tmp 35)⟩,
         ⟨(some 37), (some (23, true)), .load (some 2) (.tmp 36)⟩,
         ⟨(some 38), (some (23, true)), .call (.tmp 24) [(.tmp 30), (.tmp 37)]⟩,
         ⟨(some 39), (some (23, true)), .bin .lss (.one .int) (.tmp 38) (.const (.int .i64 0))⟩,
         ⟨(some 40), none, .pick (.tmp 23) (.tmp 39) (.const (.bool false))⟩] [])
       (.cond (.tmp 40) (.region [⟨(some 41), none, .mov (.tmp 11)⟩,
          ⟨(some 42), none, .bin .add (.one .int) (.tmp 41) (.const (.int .i64 1))⟩,
          ⟨(some 11), none, .mov (.tmp 42)⟩] [])
        (.skip)))
      (.seq (.seq (.region [⟨(some 43), none, .mov (.tmp 4)⟩,
          ⟨(some 44), none, .mov (.tmp 0)⟩,
          ⟨(some 45), none, .mov (.tmp 3)⟩,
          ⟨(some 46), none, .mov (.tmp 10)⟩,
          ⟨(some 47), none, .bin .add (.one .int) (.tmp 45) (.tmp 46)⟩,
          ⟨(some 48), none, .indexAddr 2 (.tmp 44) (.tmp 47)⟩,
          ⟨(some 49), none, .load (some 2) (.tmp 48)⟩,
          ⟨(some 50), none, .mov (.tmp 0)⟩,
          ⟨(some 51), none, .mov (.tmp 3)⟩,
          ⟨(some 52), none, .mov (.tmp 11)⟩,
          ⟨(some 53), none, .bin .add (.one .int) (.tmp 51) (.tmp 52)⟩,
          ⟨(some 54), none, .indexAddr 2 (.tmp 50) (.tmp 53)⟩,
          ⟨(some 55), none, .load (some 2) (.tmp 54)⟩,
          ⟨(some 56), none, .call (.tmp 43) [(.tmp 49), (.tmp 55)]⟩,
          ⟨(some 57), none, .bin .lss (.one .int) (.tmp 56) (.const (.int .i64 0))⟩,
          ⟨(some 58), none, .un .not (.tmp 57)⟩] [])
        (.cond (.tmp 58) (.ret)
         (.skip)))
       (.seq (.region [⟨(some 59), none, .mov (.tmp 0)⟩,
          ⟨(some 60), none, .mov (.tmp 3)⟩,
          ⟨(some 61), none, .mov (.tmp 10)⟩,
          ⟨(some 62), none, .bin .add (.one .int) (.tmp 60) (.tmp 61)⟩,
          ⟨(some 63), none, .mov (.tmp 0)⟩,
          ⟨(some 64), none, .mov (.tmp 3)⟩,
          ⟨(some 65), none, .mov (.tmp 11)⟩,
          ⟨(some 66), none, .bin .add (.one .int) (.tmp 64) (.tmp 65)⟩,
          ⟨(some 67), none, .mov (.tmp 0)⟩,
          ⟨(some 68), none, .mov (.tmp 3)⟩,
          ⟨(some 69), none, .mov (.tmp 11)⟩,
          ⟨(some 70), none, .bin .add (.one .int) (.tmp 68) (.tmp 69)⟩,
          ⟨(some 71), none, .indexAddr 2 (.tmp 67) (.tmp 70)⟩,
          ⟨(some 72), none, .load (some 2) (.tmp 71)⟩,
          ⟨(some 73), none, .mov (.tmp 0)⟩,
          ⟨(some 74), none, .mov (.tmp 3)⟩,
          ⟨(some 75), none, .mov (.tmp 10)⟩,
          ⟨(some 76), none, .bin .add (.one .int) (.tmp 74) (.tmp 75)⟩,
          ⟨(some 77), none, .indexAddr 2 (.tmp 73) (.tmp 76)⟩,
          ⟨(some 78), none, .load (some 2) (.tmp 77)⟩,
          ⟨(some 79), none, .indexAddr 2 (.tmp 59) (.tmp 62)⟩,
          ⟨none, none, .store 2 (.tmp 79) (.tmp 72)⟩,
          ⟨(some 80), none, .indexAddr 2 (.tmp 63) (.tmp 66)⟩,
          ⟨none, none, .store 2 (.tmp 80) (.tmp 78)⟩] [])
        (.region [⟨(some 81), none, .mov (.tmp 11)⟩,
          ⟨(some 10), none, .mov (.tmp 81)⟩] [])))))))
  (.keep [0, 2, 3, 4, 10])
/-- slices.siftDownCmpFunc[jitney/api.Deal] -/
def x108 : XFunc := ⟨5, [],
  .seq (.region [⟨(some 12), none, .mov (.tmp 1)⟩,
    ⟨(some 10), none, .mov (.tmp 12)⟩] [])
  (.block 0 (.seq (.keep [0, 2, 3, 4, 10])
    (.loop b108_0)))⟩
/-- slices.nextPowerOfTwo -/
def x109 : XFunc := ⟨1, [.tmp 2],
  .seq (.region [⟨(some 2), none, .mov (.const (.int .u64 0))⟩] [])
  (.seq (.region [⟨(some 3), none, .mov (.tmp 0)⟩,
     ⟨(some 4), none, .convInt .u64 (.tmp 3)⟩,
     ⟨(some 5), none, .call (.const (.func (.func 53) [])) [(.tmp 4)]⟩,
     ⟨(some 6), none, .bin .shl (.one .int) (.const (.int .u64 1)) (.tmp 5)⟩,
     ⟨(some 2), none, .mov (.tmp 6)⟩] [])
   (.ret))⟩
/-- (*slices.xorshift).Next -/
def x110 : XFunc := ⟨1, [.tmp 2],
  .seq (.region [⟨(some 2), none, .mov (.const (.int .u64 0))⟩] [])
  (.seq (.region [⟨(some 3), none, .mov (.tmp 0)⟩,
     ⟨(some 4), none, .nilCheck (.tmp 3)⟩,
     ⟨(some 5), none, .load none (.tmp 4)⟩,
     ⟨(some 6), none, .mov (.tmp 0)⟩,
     ⟨(some 7), none, .nilCheck (.tmp 6)⟩,
     ⟨(some 8), none, .load none (.tmp 7)⟩,
     ⟨(some 9), none, .bin .shl (.one .int) (.tmp 8) (.const (.int .u64 13))⟩,
     ⟨(some 10), none, .bin .xor (.one .int) (.tmp 5) (.tmp 9)⟩,
     ⟨(some 11), none, .nilCheck (.tmp 3)⟩,
     ⟨none, none, .store 1 (.tmp 11) (.tmp 10)⟩] [])
   (.seq (.region [⟨(some 12), none, .mov (.tmp 0)⟩,
      ⟨(some 13), none, .nilCheck (.tmp 12)⟩,
      ⟨(some 14), none, .load none (.tmp 13)⟩,
      ⟨(some 15), none, .mov (.tmp 0)⟩,
      ⟨(some 16), none, .nilCheck (.tmp 15)⟩,
      ⟨(some 17), none, .load none (.tmp 16)⟩,
      ⟨(some 18), none, .bin .shr (.one .int) (.tmp 17) (.const (.int .u64 7))⟩,
      ⟨(some 19), none, .bin .xor (.one .int) (.tmp 14) (.tmp 18)⟩,
      ⟨(some 20), none, .nilCheck (.tmp 12)⟩,
      ⟨none, none, .store 1 (.tmp 20) (.tmp 19)⟩] [])
    (.seq (.region [⟨(some 21), none, .mov (.tmp 0)⟩,
       ⟨(some 22), none, .nilCheck (.tmp 21)⟩,
       ⟨(some 23), none, .load none (.tmp 22)⟩,
       ⟨(some 24), none, .mov (.tmp 0)⟩,
       ⟨(some 25), none, .nilCheck (.tmp 24)⟩,
       ⟨(some 26), none, .load none (.tmp 25)⟩,
       ⟨(some 27), none, .bin .shl (.one .int) (.tmp 26) (.const (.int .u64 17))⟩,
       ⟨(some 28), none, .bin .xor (.one .int) (.tmp 23) (.tmp 27)⟩,
       ⟨(some 29), none, .nilCheck (.tmp 21)⟩,
       ⟨none, none, .store 1 (.tmp 29) (.tmp 28)⟩] [])
     (.seq (.region [⟨(some 30), none, .mov (.tmp 0)⟩,
        ⟨(some 31), none, .nilCheck (.tmp 30)⟩,
        ⟨(some 32), none, .load none (.tmp 31)⟩,
        ⟨(some 2), none, .mov (.tmp 32)⟩] [])
      (.ret)))))⟩
/-- slices.medianAdjacentCmpFunc[jitney/api.Deal] -/
def x111 : XFunc := ⟨4, [.tmp 8],
  .seq (.region [⟨(some 8), none, .mov (.const (.int .i64 0))⟩] [])
  (.seq (.region [⟨(some 9), none, .mov (.tmp 0)⟩,
     ⟨(some 10), none, .mov (.tmp 1)⟩,
     ⟨(some 11), none, .bin .sub (.one .int) (.tmp 10) (.const (.int .i64 1))⟩,
     ⟨(some 12), none, .mov (.tmp 1)⟩,
     ⟨(some 13), none, .mov (.tmp 1)⟩,
     ⟨(some 14), none, .bin .add (.one .int) (.tmp 13) (.const (.int .i64 1))⟩,
     ⟨(some 15), none, .mov (.tmp 2)⟩,
     ⟨(some 16), none, .mov (.tmp 3)⟩,
     ⟨(some 17), none, .call (.const (.func (.func 112) [])) [(.tmp 9), (.tmp 11), (.tmp 12), (.tmp 14), (.tmp 15), (.tmp 16)]⟩,
     ⟨(some 8), none, .mov (.tmp 17)⟩] [])
   (.ret))⟩
/-- slices.medianCmpFunc[jitney/api.Deal] -/
def x112 : XFunc := ⟨6, [.tmp 12],
  .seq (.region [⟨(some 12), none, .mov (.const (.int .i64 0))⟩] [])
  (.seq (.region [⟨(some 14), none, .mov (.tmp 0)⟩,
     ⟨(some 15), none, .mov (.tmp 1)⟩,
     ⟨(some 16), none, .mov (.tmp 2)⟩,
     ⟨(some 17), none, .mov (.tmp 4)⟩,
     ⟨(some 18), none, .mov (.tmp 5)⟩,
     ⟨(some 19), none, .call (.const (.func (.func 129) [])) [(.tmp 14), (.tmp 15), (.tmp 16), (.tmp 17), (.tmp 18)]⟩,
     ⟨(some 13), none, .mov (.tmp 19)⟩,
     ⟨(some 20), none, .extract (.tmp 13) 0⟩,
     ⟨(some 21), none, .extract (.tmp 13) 1⟩,
     ⟨(some 1), none, .mov (.tmp 20)⟩,
     ⟨(some 2), none, .mov (.tmp 21)⟩] [])
   (.seq (.region [⟨(some 23), none, .mov (.tmp 0)⟩,
      ⟨(some 24), none, .mov (.tmp 2)⟩,
      ⟨(some 25), none, .mov (.tmp 3)⟩,
      ⟨(some 26), none, .mov (.tmp 4)⟩,
      ⟨(some 27), none, .mov (.tmp 5)⟩,
      ⟨(some 28), none, .call (.const (.func (.func 129) [])) [(.tmp 23), (.tmp 24), (.tmp 25), (.tmp 26), (.tmp 27)]⟩,
      ⟨(some 22), none, .mov (.tmp 28)⟩,
      ⟨(some 29), none, .extract (.tmp 22) 0⟩,
      ⟨(some 30), none, .extract (.tmp 22) 1⟩,
      ⟨(some 2), none, .mov (.tmp 29)⟩,
      ⟨(some 3), none, .mov (.tmp 30)⟩] [])
    (.seq (.region [⟨(some 32), none, .mov (.tmp 0)⟩,
       ⟨(some 33), none, .mov (.tmp 1)⟩,
       ⟨(some 34), none, .mov (.tmp 2)⟩,
       ⟨(some 35), none, .mov (.tmp 4)⟩,
       ⟨(some 36), none, .mov (.tmp 5)⟩,
       ⟨(some 37), none, .call (.const (.func (.func 129) [])) [(.tmp 32), (.tmp 33), (.tmp 34), (.tmp 35), (.tmp 36)]⟩,
       ⟨(some 31), none, .mov (.tmp 37)⟩,
       ⟨(some 38), none, .extract (.tmp 31) 0⟩,
       ⟨(some 39), none, .extract (.tmp 31) 1⟩,
       ⟨(some 1), none, .mov (.tmp 38)⟩,
       ⟨(some 2), none, .mov (.tmp 39)⟩] [])
     (.seq (.region [⟨(some 40), none, .mov (.tmp 2)⟩,
        ⟨(some 12), none, .mov (.tmp 40)⟩] [])
      (.ret)))))⟩
/-- jitney/request.allKeys -/
def x113 : XFunc := ⟨1, [.tmp 2],
  .seq (.region [⟨(some 2), none, .mov (.const (.bool false))⟩] [])
  (.seq (.region [⟨(some 3), none, .mov (.tmp 0)⟩,
     ⟨(some 4), none, .call (.const (.func (.func 130) [])) [(.tmp 3), (.const (.func (.func 131) []))]⟩,
     ⟨(some 5), none, .un .not (.tmp 4)⟩,
     ⟨(some 2), none, .mov (.tmp 5)⟩] [])
   (.ret))⟩
def b114_0 : XCode := .seq (.seq (.region [⟨(some 11), none, .bin .lss (.one .int) (.tmp 10) (.tmp 9)⟩] [])
   (.seq (.cond (.tmp 11) (.skip)
     (.exit 0))
    (.seq (.block 1 (.seq (.region [⟨(some 12), none, .mov (.tmp 10)⟩,
         ⟨(some 13), none, .indexAddr 3 (.tmp 8) (.tmp 10)⟩,
         ⟨(some 14), none, .load (some 3) (.tmp 13)⟩,
         ⟨(some 4), none, .box 3 (.const (.agg [(.int .i64 0), (.bool false), (.int .i64 0)]))⟩,
         ⟨(some 3), none, .mov (.tmp 12)⟩,
         ⟨none, none, .store 3 (.tmp 4) (.tmp 14)⟩] [])
       (.block 2 (.seq (.region [⟨(some 16), none, .fieldAddr 0 (.tmp 4)⟩,
           ⟨(some 17), none, .load none (.tmp 16)⟩,
           ⟨(some 18), none, .call (.const (.func (.func 65) [])) [(.tmp 17), (.const (.int .i64 0)), (.const (.int .i64 4000))]⟩,
           ⟨(some 19), none, .mov (.tmp 18)⟩,
           ⟨(some 20), (some (19, false)), .fieldAddr 2 (.tmp 4)⟩,
           ⟨(some 21), (some (19, false)), .load none (.tmp 20)⟩,
           ⟨(some 22), (some (19, false)), .call (.const (.func (.func 65) [])) [(.tmp 21), (.const (.int .i64 (-1440))), (.const (.int .i64 1440))]⟩,
           ⟨(some 23), none, .pick (.tmp 19) (.const (.bool true)) (.tmp 22)⟩,
           ⟨(some 15), none, .mov (.tmp 23)⟩] [])
         (.cond (.tmp 15) (.seq (.region [⟨(some 2), none, .mov (.const (.int .i64 1))⟩] [])
           (.ret))
          (.seq (.region [⟨(some 25), none, .fieldAddr 1 (.tmp 4)⟩,
             ⟨(some 26), none, .load none (.tmp 25)⟩,
             ⟨(some 27), none, .fieldAddr 2 (.tmp 4)⟩,
             ⟨(some 28), none, .load none (.tmp 27)⟩,
             ⟨(some 29), none, .bin .eql (.one .int) (.tmp 28) (.const (.int .i64 0))⟩,
             ⟨(some 30), none, .bin .neq (.one .bool) (.tmp 26) (.tmp 29)⟩,
             ⟨(some 24), none, .mov (.tmp 30)⟩] [])
           (.cond (.tmp 24) (.seq (.region [⟨(some 2), none, .mov (.const (.int .i64 3))⟩] [])
             (.ret))
            (.seq (.region [⟨(some 32), none, .mov (.tmp 3)⟩,
               ⟨(some 33), none, .bin .gtr (.one .int) (.tmp 32) (.const (.int .i64 0))⟩,
               ⟨(some 34), none, .mov (.tmp 33)⟩,
               ⟨(some 35), (some (34, true)), .fieldAddr 0 (.tmp 4)⟩,
               ⟨(some 36), (some (34, true)), .load none (.tmp 35)⟩,
               ⟨(some 37), (some (34, true)), .mov (.tmp 0)⟩,
               ⟨(some 38), (some (34, true)), .mov (.tmp 3)⟩,
               ⟨(some 39), (some (34, true)), .bin .sub (.one .int) (.tmp 38) (.const (.int .i64 1))⟩,
               ⟨(some 40), (some (34, true)), .indexAddr 3 (.tmp 37) (.tmp 39)⟩,
               ⟨(some 41), (some (34, true)), .fieldAddr 0 (.tmp 40)⟩,
               ⟨(some 42), (some (34, true)), .load none (.tmp 41)⟩,
               ⟨(some 43), (some (34, true)), .bin .leq (.one .int) (.tmp 36) (.tmp 42)⟩,
               ⟨(some 44), none, .pick (.tmp 34) (.tmp 43) (.const (.bool false))⟩,
               ⟨(some 31), none, .mov (.tmp 44)⟩] [])
             (.cond (.tmp 31) (.seq (.region [⟨(some 2), none, .mov (.const (.int .i64 7))⟩] [])
               (.ret))
              (.skip))))))))))
     (.region [⟨(some 45), none, .bin .add (.one .int) (.tmp 10) (.const (.int .i64 1))⟩,
       ⟨(some 10), none, .mov (.tmp 45)⟩] []))))
  (.keep [0, 8, 9, 10])
/-- jitney/request.changesFault -/
def x114 : XFunc := ⟨1, [.tmp 2],
  .seq (.region [⟨(some 2), none, .mov (.const (.int .i64 0))⟩] [])
  (.seq (.seq (.region [⟨(some 5), none, .mov (.tmp 0)⟩,
      ⟨(some 6), none, .len .slice (.tmp 5)⟩,
      ⟨(some 7), none, .bin .gtr (.one .int) (.tmp 6) (.const (.int .i64 200))⟩] [])
    (.cond (.tmp 7) (.seq (.region [⟨(some 2), none, .mov (.const (.int .i64 2))⟩] [])
      (.ret))
     (.skip)))
   (.seq (.seq (.region [⟨(some 8), none, .mov (.tmp 0)⟩,
       ⟨(some 9), none, .len .slice (.tmp 8)⟩,
       ⟨(some 10), none, .mov (.const (.int .i64 0))⟩] [])
     (.block 0 (.seq (.keep [0, 8, 9, 10])
       (.loop b114_0))))
    (.seq (.region [⟨(some 2), none, .mov (.const (.int .i64 0))⟩] [])
     (.ret))))⟩
/-- cmp.isNaN[int] -/
def x115 : XFunc := ⟨1, [.tmp 2],
  .seq (.region [⟨(some 2), none, .mov (.const (.bool false))⟩] [])
  (.seq (.region [⟨(some 3), none, .mov (.tmp 0)⟩,
     ⟨(some 4), none, .mov (.tmp 0)⟩,
     ⟨(some 5), none, .bin .neq (.one .int) (.tmp 3) (.tmp 4)⟩,
     ⟨(some 2), none, .mov (.tmp 5)⟩] [])
   (.ret))⟩
/-- internal/strconv.Itoa -/
def x116 : XFunc := ⟨1, [.tmp 2],
  .seq (.region [⟨(some 2), none, .mov (.const (.str []))⟩] [])
  (.seq (.region [⟨(some 3), none, .mov (.tmp 0)⟩,
     ⟨(some 4), none, .call (.const (.func (.func 132) [])) [(.tmp 3), (.const (.int .i64 10))]⟩,
     ⟨(some 2), none, .mov (.tmp 4)⟩] [])
   (.ret))⟩
/-- strings.HasPrefix -/
def x117 : XFunc := ⟨2, [.tmp 4],
  .seq (.region [⟨(some 4), none, .mov (.const (.bool false))⟩] [])
  (.seq (.region [⟨(some 5), none, .mov (.tmp 0)⟩,
     ⟨(some 6), none, .mov (.tmp 1)⟩,
     ⟨(some 7), none, .call (.const (.func (.func 133) [])) [(.tmp 5), (.tmp 6)]⟩,
     ⟨(some 4), none, .mov (.tmp 7)⟩] [])
   (.ret))⟩
-- F118 (*strings.Builder).Grow: none
/-- (*strings.Builder).WriteString -/
def x119 : XFunc := ⟨2, [.tmp 4, .tmp 5],
  .seq (.region [⟨(some 4), none, .mov (.const (.int .i64 0))⟩,
    ⟨(some 5), none, .mov (.const .niliface)⟩] [])
  (.seq (.region [⟨(some 6), none, .mov (.tmp 0)⟩,
     ⟨(some 7), none, .call (.const (.func (.func 134) [])) [(.tmp 6)]⟩] [])
   (.seq (.region [⟨(some 8), none, .mov (.tmp 0)⟩,
      ⟨(some 9), none, .mov (.tmp 0)⟩,
      ⟨(some 10), none, .nilCheck (.tmp 9)⟩,
      ⟨(some 11), none, .fieldAddr 1 (.tmp 10)⟩,
      ⟨(some 12), none, .load none (.tmp 11)⟩,
      ⟨(some 13), none, .mov (.tmp 1)⟩,
      ⟨(some 14), none, .append 1 1 (.tmp 12) (.tmp 13)⟩,
      ⟨(some 15), none, .nilCheck (.tmp 8)⟩,
      ⟨(some 16), none, .fieldAddr 1 (.tmp 15)⟩,
      ⟨none, none, .store 1 (.tmp 16) (.tmp 14)⟩] [])
    (.seq (.region [⟨(some 17), none, .mov (.tmp 1)⟩,
       ⟨(some 18), none, .len (.one .str) (.tmp 17)⟩,
       ⟨(some 4), none, .mov (.tmp 18)⟩,
       ⟨(some 5), none, .mov (.const .niliface)⟩] [])
     (.ret))))⟩
/-- (*strings.Builder).Len -/
def x120 : XFunc := ⟨1, [.tmp 2],
  .seq (.region [⟨(some 2), none, .mov (.const (.int .i64 0))⟩] [])
  (.seq (.region [⟨(some 3), none, .mov (.tmp 0)⟩,
     ⟨(some 4), none, .nilCheck (.tmp 3)⟩,
     ⟨(some 5), none, .fieldAddr 1 (.tmp 4)⟩,
     ⟨(some 6), none, .load none (.tmp 5)⟩,
     ⟨(some 7), none, .len .slice (.tmp 6)⟩,
     ⟨(some 2), none, .mov (.tmp 7)⟩] [])
   (.ret))⟩
-- F121 (*strings.Builder).String: none
/-- jitney/trust.sameWords -/
def x122 : XFunc := ⟨2, [.tmp 4],
  .seq (.region [⟨(some 2), none, .box 5 (.tmp 0)⟩,
    ⟨(some 3), none, .box 5 (.tmp 1)⟩,
    ⟨(some 4), none, .mov (.const (.int .i64 0))⟩] [])
  (.seq (.region [⟨(some 5), none, .fieldAddr 2 (.tmp 2)⟩,
     ⟨(some 6), none, .load none (.tmp 5)⟩,
     ⟨(some 7), none, .fieldAddr 2 (.tmp 3)⟩,
     ⟨(some 8), none, .load none (.tmp 7)⟩,
     ⟨(some 9), none, .call (.const (.func (.func 32) [])) [(.tmp 6), (.tmp 8)]⟩,
     ⟨(some 10), none, .fieldAddr 0 (.tmp 2)⟩,
     ⟨(some 11), none, .load none (.tmp 10)⟩,
     ⟨(some 12), none, .fieldAddr 0 (.tmp 3)⟩,
     ⟨(some 13), none, .load none (.tmp 12)⟩,
     ⟨(some 14), none, .call (.const (.func (.func 32) [])) [(.tmp 11), (.tmp 13)]⟩,
     ⟨(some 15), none, .fieldAddr 1 (.tmp 2)⟩,
     ⟨(some 16), none, .load none (.tmp 15)⟩,
     ⟨(some 17), none, .fieldAddr 1 (.tmp 3)⟩,
     ⟨(some 18), none, .load none (.tmp 17)⟩,
     ⟨(some 19), none, .call (.const (.func (.func 32) [])) [(.tmp 16), (.tmp 18)]⟩,
     ⟨(some 20), none, .lit 1 [(.int .i64 0), (.int .i64 0), (.int .i64 0)] [(0, (.tmp 9)), (1, (.tmp 14)), (2, (.tmp 19))] false⟩,
     ⟨(some 21), none, .call (.const (.func (.func 100) [])) [(.tmp 20)]⟩,
     ⟨(some 4), none, .mov (.tmp 21)⟩] [])
   (.ret))⟩
def b123_0 : XCode := .seq (.seq (.seq (.region [⟨(some 5), none, .mov (.tmp 1)⟩,
      ⟨(some 6), none, .bin .neq (.one .int) (.tmp 5) (.const (.int .i64 0))⟩] [])
    (.cond (.tmp 6) (.skip)
     (.exit 0)))
   (.block 1 (.region [⟨(some 7), none, .mov (.tmp 1)⟩,
      ⟨(some 8), none, .mov (.tmp 0)⟩,
      ⟨(some 9), none, .mov (.tmp 1)⟩,
      ⟨(some 10), none, .bin .rem (.one .int) (.tmp 8) (.tmp 9)⟩,
      ⟨(some 0), none, .mov (.tmp 7)⟩,
      ⟨(some 1), none, .mov (.tmp 10)⟩] [])))
  (.keep [0, 1])
/-- jitney/base.Gcd -/
def x123 : XFunc := ⟨2, [.tmp 4],
  .seq (.region [⟨(some 4), none, .mov (.const (.int .i64 0))⟩] [])
  (.seq (.block 0 (.seq (.keep [0, 1])
     (.loop b123_0)))
   (.seq (.region [⟨(some 11), none, .mov (.tmp 0)⟩,
      ⟨(some 4), none, .mov (.tmp 11)⟩] [])
    (.ret)))⟩
/-- slices.Sort[[]string,string] -/
def x124 : XFunc := ⟨1, [],
  .seq (.region [⟨(some 3), none, .mov (.tmp 0)⟩,
    ⟨(some 4), none, .len .slice (.tmp 3)⟩,
    ⟨(some 2), none, .mov (.tmp 4)⟩] [])
  (.region [⟨(some 5), none, .mov (.tmp 0)⟩,
    ⟨(some 6), none, .mov (.tmp 2)⟩,
    ⟨(some 7), none, .mov (.tmp 2)⟩,
    ⟨(some 8), none, .convInt .u64 (.tmp 7)⟩,
    ⟨(some 9), none, .call (.const (.func (.func 53) [])) [(.tmp 8)]⟩,
    ⟨(some 10), none, .call (.const (.func (.func 136) [])) [(.tmp 5), (.const (.int .i64 0)), (.tmp 6), (.tmp 9)]⟩] [])⟩
def b125_0 : XCode := .seq (.seq (.seq (.region [⟨(some 29), none, .mov (.tmp 5)⟩,
      ⟨(some 30), none, .mov (.tmp 4)⟩,
      ⟨(some 31), none, .len .slice (.tmp 30)⟩,
      ⟨(some 32), none, .bin .lss (.one .int) (.tmp 29) (.tmp 31)⟩] [])
    (.cond (.tmp 32) (.skip)
     (.exit 2)))
   (.seq (.block 3 (.seq (.region [⟨(some 35), none, .mov (.tmp 4)⟩,
        ⟨(some 36), none, .mov (.tmp 5)⟩,
        ⟨(some 37), none, .indexAddr 1 (.tmp 35) (.tmp 36)⟩,
        ⟨(some 38), none, .load none (.tmp 37)⟩,
        ⟨(some 39), none, .mov (.tmp 4)⟩,
        ⟨(some 40), none, .mov (.tmp 5)⟩,
        ⟨(some 41), none, .bin .sub (.one .int) (.tmp 40) (.const (.int .i64 1))⟩,
        ⟨(some 42), none, .indexAddr 1 (.tmp 39) (.tmp 41)⟩,
        ⟨(some 43), none, .load none (.tmp 42)⟩,
        ⟨(some 44), none, .bin .neq (.one .str) (.tmp 38) (.tmp 43)⟩] [])
      (.cond (.tmp 44) (.seq (.region [⟨(some 45), none, .mov (.tmp 0)⟩,
          ⟨(some 46), none, .mov (.tmp 3)⟩,
          ⟨(some 47), none, .mov (.tmp 4)⟩,
          ⟨(some 48), none, .mov (.tmp 5)⟩,
          ⟨(some 49), none, .indexAddr 1 (.tmp 47) (.tmp 48)⟩,
          ⟨(some 50), none, .load none (.tmp 49)⟩,
          ⟨(some 51), none, .indexAddr 1 (.tmp 45) (.tmp 46)⟩,
          ⟨none, none, .store 1 (.tmp 51) (.tmp 50)⟩] [])
        (.region [⟨(some 52), none, .mov (.tmp 3)⟩,
          ⟨(some 53), none, .bin .add (.one .int) (.tmp 52) (.const (.int .i64 1))⟩,
          ⟨(some 3), none, .mov (.tmp 53)⟩] []))
       (.skip))))
    (.region [⟨(some 33), none, .mov (.tmp 5)⟩,
      ⟨(some 34), none, .bin .add (.one .int) (.tmp 33) (.const (.int .i64 1))⟩,
      ⟨(some 5), none, .mov (.tmp 34)⟩] [])))
  (.keep [0, 3, 4, 5])
def b125_1 : XCode := .seq (.seq (.seq (.region [⟨(some 10), none, .mov (.tmp 3)⟩,
      ⟨(some 11), none, .mov (.tmp 0)⟩,
      ⟨(some 12), none, .len .slice (.tmp 11)⟩,
      ⟨(some 13), none, .bin .lss (.one .int) (.tmp 10) (.tmp 12)⟩] [])
    (.cond (.tmp 13) (.skip)
     (.exit 0)))
   (.seq (.block 1 (.seq (.region [⟨(some 16), none, .mov (.tmp 0)⟩,
        ⟨(some 17), none, .mov (.tmp 3)⟩,
        ⟨(some 18), none, .indexAddr 1 (.tmp 16) (.tmp 17)⟩,
        ⟨(some 19), none, .load none (.tmp 18)⟩,
        ⟨(some 20), none, .mov (.tmp 0)⟩,
        ⟨(some 21), none, .mov (.tmp 3)⟩,
        ⟨(some 22), none, .bin .sub (.one .int) (.tmp 21) (.const (.int .i64 1))⟩,
        ⟨(some 23), none, .indexAddr 1 (.tmp 20) (.tmp 22)⟩,
        ⟨(some 24), none, .load none (.tmp 23)⟩,
        ⟨(some 25), none, .bin .eql (.one .str) (.tmp 19) (.tmp 24)⟩] [])
      (.cond (.tmp 25) (.seq (.region [⟨(some 26), none, .mov (.tmp 0)⟩,
          ⟨(some 27), none, .mov (.tmp 3)⟩,
          ⟨(some 28), none, .sliceSl 1 (.tmp 26) (some (.tmp 27)) none⟩,
          ⟨(some 4), none, .mov (.tmp 28)⟩] [])
        (.seq (.seq (.region [⟨(some 5), none, .mov (.const (.int .i64 1))⟩] [])
          (.block 2 (.seq (.keep [0, 3, 4, 5])
            (.loop b125_0))))
         (.seq (.region [⟨(some 54), none, .mov (.tmp 0)⟩,
            ⟨(some 55), none, .mov (.tmp 3)⟩,
            ⟨(some 56), none, .sliceSl 1 (.tmp 54) (some (.tmp 55)) none⟩,
            ⟨none, none, .clear 1 (.str []) (.tmp 56)⟩] [])
          (.seq (.region [⟨(some 57), none, .mov (.tmp 0)⟩,
             ⟨(some 58), none, .mov (.tmp 3)⟩,
             ⟨(some 59), none, .sliceSl 1 (.tmp 57) none (some (.tmp 58))⟩,
             ⟨(some 2), none, .mov (.tmp 59)⟩] [])
           (.ret)))))
       (.skip))))
    (.region [⟨(some 14), none, .mov (.tmp 3)⟩,
      ⟨(some 15), none, .bin .add (.one .int) (.tmp 14) (.const (.int .i64 1))⟩,
      ⟨(some 3), none, .mov (.tmp 15)⟩] [])))
  (.keep [0, 3])
/-- slices.Compact[[]string,string] -/
def x125 : XFunc := ⟨1, [.tmp 2],
  .seq (.region [⟨(some 2), none, .mov (.const .nilslice)⟩] [])
  (.seq (.seq (.region [⟨(some 6), none, .mov (.tmp 0)⟩,
      ⟨(some 7), none, .len .slice (.tmp 6)⟩,
      ⟨(some 8), none, .bin .lss (.one .int) (.tmp 7) (.const (.int .i64 2))⟩] [])
    (.cond (.tmp 8) (.seq (.region [⟨(some 9), none, .mov (.tmp 0)⟩,
        ⟨(some 2), none, .mov (.tmp 9)⟩] [])
      (.ret))
     (.skip)))
   (.seq (.seq (.region [⟨(some 3), none, .mov (.const (.int .i64 1))⟩] [])
     (.block 0 (.seq (.keep [0, 3])
       (.loop b125_1))))
    (.seq (.region [⟨(some 60), none, .mov (.tmp 0)⟩,
       ⟨(some 2), none, .mov (.tmp 60)⟩] [])
     (.ret))))⟩
/-- cmp.isNaN[string] -/
def x126 : XFunc := ⟨1, [.tmp 2],
  .seq (.region [⟨(some 2), none, .mov (.const (.bool false))⟩] [])
  (.seq (.region [⟨(some 3), none, .mov (.tmp 0)⟩,
     ⟨(some 4), none, .mov (.tmp 0)⟩,
     ⟨(some 5), none, .bin .neq (.one .str) (.tmp 3) (.tmp 4)⟩,
     ⟨(some 2), none, .mov (.tmp 5)⟩] [])
   (.ret))⟩
/-- math/bits.Mul32 -/
def x127 : XFunc := ⟨2, [.tmp 4, .tmp 5],
  .seq (.region [⟨(some 4), none, .mov (.const (.int .u32 0))⟩,
    ⟨(some 5), none, .mov (.const (.int .u32 0))⟩] [])
  (.seq (.region [⟨(some 7), none, .mov (.tmp 0)⟩,
     ⟨(some 8), none, .convInt .u64 (.tmp 7)⟩,
     ⟨(some 9), none, .mov (.tmp 1)⟩,
     ⟨(some 10), none, .convInt .u64 (.tmp 9)⟩,
     ⟨(some 11), none, .bin .mul (.one .int) (.tmp 8) (.tmp 10)⟩,
     ⟨(some 6), none, .mov (.tmp 11)⟩] [])
   (.seq (.region [⟨(some 12), none, .mov (.tmp 6)⟩,
      ⟨(some 13), none, .bin .shr (.one .int) (.tmp 12) (.const (.int .u64 32))⟩,
      ⟨(some 14), none, .convInt .u32 (.tmp 13)⟩,
      ⟨(some 15), none, .mov (.tmp 6)⟩,
      ⟨(some 16), none, .convInt .u32 (.tmp 15)⟩,
      ⟨(some 4), none, .mov (.tmp 14)⟩,
      ⟨(some 5), none, .mov (.tmp 16)⟩] [])
    (.ret)))⟩
/-- math/bits.Mul64 -/
def x128 : XFunc := ⟨2, [.tmp 4, .tmp 5],
  .seq (.region [⟨(some 4), none, .mov (.const (.int .u64 0))⟩,
    ⟨(some 5), none, .mov (.const (.int .u64 0))⟩] [])
  (.seq (.region [⟨(some 14), none, .mov (.tmp 0)⟩,
     ⟨(some 15), none, .bin .and (.one .int) (.tmp 14) (.const (.int .u64 4294967295))⟩,
     ⟨(some 6), none, .mov (.tmp 15)⟩] [])
   (.seq (.region [⟨(some 16), none, .mov (.tmp 0)⟩,
      ⟨(some 17), none, .bin .shr (.one .int) (.tmp 16) (.const (.int .u64 32))⟩,
      ⟨(some 7), none, .mov (.tmp 17)⟩] [])
    (.seq (.region [⟨(some 18), none, .mov (.tmp 1)⟩,
       ⟨(some 19), none, .bin .and (.one .int) (.tmp 18) (.const (.int .u64 4294967295))⟩,
       ⟨(some 8), none, .mov (.tmp 19)⟩] [])
     (.seq (.region [⟨(some 20), none, .mov (.tmp 1)⟩,
        ⟨(some 21), none, .bin .shr (.one .int) (.tmp 20) (.const (.int .u64 32))⟩,
        ⟨(some 9), none, .mov (.tmp 21)⟩] [])
      (.seq (.region [⟨(some 22), none, .mov (.tmp 6)⟩,
         ⟨(some 23), none, .mov (.tmp 8)⟩,
         ⟨(some 24), none, .bin .mul (.one .int) (.tmp 22) (.tmp 23)⟩,
         ⟨(some 10), none, .mov (.tmp 24)⟩] [])
       (.seq (.region [⟨(some 25), none, .mov (.tmp 7)⟩,
          ⟨(some 26), none, .mov (.tmp 8)⟩,
          ⟨(some 27), none, .bin .mul (.one .int) (.tmp 25) (.tmp 26)⟩,
          ⟨(some 28), none, .mov (.tmp 10)⟩,
          ⟨(some 29), none, .bin .shr (.one .int) (.tmp 28) (.const (.int .u64 32))⟩,
          ⟨(some 30), none, .bin .add (.one .int) (.tmp 27) (.tmp 29)⟩,
          ⟨(some 11), none, .mov (.tmp 30)⟩] [])
        (.seq (.region [⟨(some 31), none, .mov (.tmp 11)⟩,
           ⟨(some 32), none, .bin .and (.one .int) (.tmp 31) (.const (.int .u64 4294967295))⟩,
           ⟨(some 12), none, .mov (.tmp 32)⟩] [])
         (.seq (.region [⟨(some 33), none, .mov (.tmp 11)⟩,
            ⟨(some 34), none, .bin .shr (.one .int) (.tmp 33) (.const (.int .u64 32))⟩,
            ⟨(some 13), none, .mov (.tmp 34)⟩] [])
          (.seq (.region [⟨(some 35), none, .mov (.tmp 12)⟩,
             ⟨(some 36), none, .mov (.tmp 6)⟩,
             ⟨(some 37), none, .mov (.tmp 9)⟩,
             ⟨(some 38), none, .bin .mul (.one .int) (.tmp 36) (.tmp 37)⟩,
             ⟨(some 39), none, .bin .add (.one .int) (.tmp 35) (.tmp 38)⟩,
             ⟨(some 12), none, .mov (.tmp 39)⟩] [])
           (.seq (.region [⟨(some 40), none, .mov (.tmp 7)⟩,
              ⟨(some 41), none, .mov (.tmp 9)⟩,
              ⟨(some 42), none, .bin .mul (.one .int) (.tmp 40) (.tmp 41)⟩,
              ⟨(some 43), none, .mov (.tmp 13)⟩,
              ⟨(some 44), none, .bin .add (.one .int) (.tmp 42) (.tmp 43)⟩,
              ⟨(some 45), none, .mov (.tmp 12)⟩,
              ⟨(some 46), none, .bin .shr (.one .int) (.tmp 45) (.const (.int .u64 32))⟩,
              ⟨(some 47), none, .bin .add (.one .int) (.tmp 44) (.tmp 46)⟩,
              ⟨(some 4), none, .mov (.tmp 47)⟩] [])
            (.seq (.region [⟨(some 48), none, .mov (.tmp 0)⟩,
               ⟨(some 49), none, .mov (.tmp 1)⟩,
               ⟨(some 50), none, .bin .mul (.one .int) (.tmp 48) (.tmp 49)⟩,
               ⟨(some 5), none, .mov (.tmp 50)⟩] [])
             (.ret))))))))))))⟩
/-- slices.order2CmpFunc[jitney/api.Deal] -/
def x129 : XFunc := ⟨5, [.tmp 10, .tmp 11],
  .seq (.region [⟨(some 10), none, .mov (.const (.int .i64 0))⟩,
    ⟨(some 11), none, .mov (.const (.int .i64 0))⟩] [])
  (.seq (.seq (.region [⟨(some 12), none, .mov (.tmp 4)⟩,
      ⟨(some 13), none, .mov (.tmp 0)⟩,
      ⟨(some 14), none, .mov (.tmp 2)⟩,
      ⟨(some 15), none, .indexAddr 2 (.tmp 13) (.tmp 14)⟩,
      ⟨(some 16), none, .load (some 2) (.tmp 15)⟩,
      ⟨(some 17), none, .mov (.tmp 0)⟩,
      ⟨(some 18), none, .mov (.tmp 1)⟩,
      ⟨(some 19), none, .indexAddr 2 (.tmp 17) (.tmp 18)⟩,
      ⟨(some 20), none, .load (some 2) (.tmp 19)⟩,
      ⟨(some 21), none, .call (.tmp 12) [(.tmp 16), (.tmp 20)]⟩,
      ⟨(some 22), none, .bin .lss (.one .int) (.tmp 21) (.const (.int .i64 0))⟩] [])
    (.cond (.tmp 22) (.seq (.region [⟨(some 23), none, .mov (.tmp 3)⟩,
        ⟨(some 24), none, .nilCheck (.tmp 23)⟩,
        ⟨(some 25), none, .load none (.tmp 24)⟩,
        ⟨(some 26), none, .bin .add (.one .int) (.tmp 25) (.const (.int .i64 1))⟩,
        ⟨(some 27), none, .nilCheck (.tmp 23)⟩,
        ⟨none, none, .store 1 (.tmp 27) (.tmp 26)⟩] [])
      (.seq (.region [⟨(some 28), none, .mov (.tmp 2)⟩,
         ⟨(some 29), none, .mov (.tmp 1)⟩,
         ⟨(some 10), none, .mov (.tmp 28)⟩,
         ⟨(some 11), none, .mov (.tmp 29)⟩] [])
       (.ret)))
     (.skip)))
   (.seq (.region [⟨(some 30), none, .mov (.tmp 1)⟩,
      ⟨(some 31), none, .mov (.tmp 2)⟩,
      ⟨(some 10), none, .mov (.tmp 30)⟩,
      ⟨(some 11), none, .mov (.tmp 31)⟩] [])
    (.ret)))⟩
/-- slices.ContainsFunc[[]string,string] -/
def x130 : XFunc := ⟨2, [.tmp 4],
  .seq (.region [⟨(some 4), none, .mov (.const (.bool false))⟩] [])
  (.seq (.region [⟨(some 5), none, .mov (.tmp 0)⟩,
     ⟨(some 6), none, .mov (.tmp 1)⟩,
     ⟨(some 7), none, .call (.const (.func (.func 137) [])) [(.tmp 5), (.tmp 6)]⟩,
     ⟨(some 8), none, .bin .geq (.one .int) (.tmp 7) (.const (.int .i64 0))⟩,
     ⟨(some 4), none, .mov (.tmp 8)⟩] [])
   (.ret))⟩
/-- jitney/request.allKeys$1 -/
def x131 : XFunc := ⟨1, [.tmp 2],
  .seq (.region [⟨(some 2), none, .mov (.const (.bool false))⟩] [])
  (.seq (.region [⟨(some 3), none, .mov (.tmp 0)⟩,
     ⟨(some 4), none, .call (.const (.func (.func 50) [])) [(.tmp 3)]⟩,
     ⟨(some 5), none, .un .not (.tmp 4)⟩,
     ⟨(some 2), none, .mov (.tmp 5)⟩] [])
   (.ret))⟩
/-- internal/strconv.FormatInt -/
def x132 : XFunc := ⟨2, [.tmp 4],
  .seq (.region [⟨(some 4), none, .mov (.const (.str []))⟩] [])
  (.seq (.seq (.region [⟨(some 10), none, .mov (.tmp 1)⟩,
      ⟨(some 11), none, .bin .eql (.one .int) (.tmp 10) (.const (.int .i64 10))⟩] [])
    (.cond (.tmp 11) (.seq (.seq (.region [⟨(some 12), none, .mov (.tmp 0)⟩,
         ⟨(some 13), none, .bin .leq (.one .int) (.const (.int .i64 0)) (.tmp 12)⟩,
         ⟨(some 14), none, .mov (.tmp 13)⟩,
         ⟨(some 15), (some (14, true)), .mov (.tmp 0)⟩,
         ⟨(some 16), (some (14, true)), .bin .lss (.one .int) (.tmp 15) (.const (.int .i64 100))⟩,
         ⟨(some 17), none, .pick (.tmp 14) (.tmp 16) (.const (.bool false))⟩] [])
       (.cond (.tmp 17) (.seq (.region [⟨(some 18), none, .mov (.tmp 0)⟩,
           ⟨(some 19), none, .call (.const (.func (.func 138) [])) [(.tmp 18)]⟩,
           ⟨(some 4), none, .mov (.tmp 19)⟩] [])
         (.ret))
        (.skip)))
      (.seq (.region [⟨(some 5), none, .box 24 (.const (.agg [(.int .u8 0), (.int .u8 0), (.int .u8 0), (.int .u8 0), (.int .u8 0), (.int .u8 0), (.int .u8 0), (.int .u8 0), (.int .u8 0), (.int .u8 0), (.int .u8 0), (.int .u8 0), (.int .u8 0), (.int .u8 0), (.int .u8 0), (.int .u8 0), (.int .u8 0), (.int .u8 0), (.int .u8 0), (.int .u8 0), (.int .u8 0), (.int .u8 0), (.int .u8 0), (.int .u8 0)]))⟩] [])
       (.seq (.region [⟨(some 20), none, .mov (.tmp 0)⟩,
          ⟨(some 21), none, .convInt .u64 (.tmp 20)⟩,
          ⟨(some 6), none, .mov (.tmp 21)⟩] [])
        (.seq (.seq (.region [⟨(some 22), none, .mov (.tmp 0)⟩,
            ⟨(some 23), none, .bin .lss (.one .int) (.tmp 22) (.const (.int .i64 0))⟩] [])
          (.cond (.tmp 23) (.region [⟨(some 24), none, .mov (.tmp 6)⟩,
             ⟨(some 25), none, .un .neg (.tmp 24)⟩,
             ⟨(some 6), none, .mov (.tmp 25)⟩] [])
           (.skip)))
         (.seq (.region [⟨(some 26), none, .mov (.tmp 6)⟩,
            ⟨(some 27), none, .call (.const (.func (.func 139) [])) [(.tmp 26)]⟩,
            ⟨(some 7), none, .mov (.tmp 27)⟩] [])
          (.seq (.region [⟨(some 28), none, .mov (.tmp 7)⟩,
             ⟨(some 29), none, .bin .add (.one .int) (.const (.int .i64 1)) (.tmp 28)⟩,
             ⟨(some 30), none, .fail⟩,
             ⟨(some 31), none, .mov (.tmp 6)⟩,
             ⟨(some 32), none, .call (.const (.func (.func 140) [])) [(.tmp 30), (.tmp 31)]⟩] [])
           (.seq (.seq (.region [⟨(some 33), none, .mov (.tmp 0)⟩,
               ⟨(some 34), none, .bin .lss (.one .int) (.tmp 33) (.const (.int .i64 0))⟩] [])
             (.cond (.tmp 34) (.seq (.region [⟨(some 35), none, .fail⟩,
                 ⟨none, none, .store 1 (.tmp 35) (.const (.int .u8 45))⟩] [])
               (.seq (.region [⟨(some 36), none, .mov (.tmp 7)⟩,
                  ⟨(some 37), none, .bin .add (.one .int) (.const (.int .i64 1)) (.tmp 36)⟩,
                  ⟨(some 38), none, .fail⟩,
                  ⟨(some 39), none, .fail⟩,
                  ⟨(some 4), none, .mov (.tmp 39)⟩] [])
                (.ret)))
              (.skip)))
            (.seq (.region [⟨(some 40), none, .mov (.tmp 7)⟩,
               ⟨(some 41), none, .bin .add (.one .int) (.const (.int .i64 1)) (.tmp 40)⟩,
               ⟨(some 42), none, .fail⟩,
               ⟨(some 43), none, .fail⟩,
               ⟨(some 4), none, .mov (.tmp 43)⟩] [])
             (.ret)))))))))
     (.skip)))
   (.seq (.region [⟨(some 45), none, .mov (.tmp 0)⟩,
      ⟨(some 46), none, .convInt .u64 (.tmp 45)⟩,
      ⟨(some 47), none, .mov (.tmp 1)⟩,
      ⟨(some 48), none, .mov (.tmp 0)⟩,
      ⟨(some 49), none, .bin .lss (.one .int) (.tmp 48) (.const (.int .i64 0))⟩,
      ⟨(some 50), none, .call (.const (.func (.func 141) [])) [(.const .nilslice), (.tmp 46), (.tmp 47), (.tmp 49), (.const (.bool false))]⟩,
      ⟨(some 44), none, .mov (.tmp 50)⟩,
      ⟨(some 51), none, .extract (.tmp 44) 0⟩,
      ⟨(some 52), none, .extract (.tmp 44) 1⟩,
      ⟨(some 8), none, .mov (.tmp 51)⟩,
      ⟨(some 9), none, .mov (.tmp 52)⟩] [])
    (.seq (.region [⟨(some 53), none, .mov (.tmp 9)⟩,
       ⟨(some 4), none, .mov (.tmp 53)⟩] [])
     (.ret))))⟩
/-- internal/stringslite.HasPrefix -/
def x133 : XFunc := ⟨2, [.tmp 4],
  .seq (.region [⟨(some 4), none, .mov (.const (.bool false))⟩] [])
  (.seq (.region [⟨(some 5), none, .mov (.tmp 0)⟩,
     ⟨(some 6), none, .len (.one .str) (.tmp 5)⟩,
     ⟨(some 7), none, .mov (.tmp 1)⟩,
     ⟨(some 8), none, .len (.one .str) (.tmp 7)⟩,
     ⟨(some 9), none, .bin .geq (.one .int) (.tmp 6) (.tmp 8)⟩,
     ⟨(some 10), none, .mov (.tmp 9)⟩,
     ⟨(some 11), (some (10, true)), .mov (.tmp 0)⟩,
     ⟨(some 12), (some (10, true)), .mov (.tmp 1)⟩,
     ⟨(some 13), (some (10, true)), .len (.one .str) (.tmp 12)⟩,
     ⟨(some 14), (some (10, true)), .sliceStr (.tmp 11) none (some (.tmp 13))⟩,
     ⟨(some 15), (some (10, true)), .mov (.tmp 1)⟩,
     ⟨(some 16), (some (10, true)), .bin .eql (.one .str) (.tmp 14) (.tmp 15)⟩,
     ⟨(some 17), none, .pick (.tmp 10) (.tmp 16) (.const (.bool false))⟩,
     ⟨(some 4), none, .mov (.tmp 17)⟩] [])
   (.ret))⟩
/-- (*strings.Builder).copyCheck -/
def x134 : XFunc := ⟨1, [],
  .seq (.region [⟨(some 2), none, .mov (.tmp 0)⟩,
    ⟨(some 3), none, .nilCheck (.tmp 2)⟩,
    ⟨(some 4), none, .fieldAddr 0 (.tmp 3)⟩,
    ⟨(some 5), none, .load none (.tmp 4)⟩,
    ⟨(some 6), none, .bin .eql .ptr (.tmp 5) (.const .nilptr)⟩] [])
  (.cond (.tmp 6) (.region [⟨(some 7), none, .mov (.tmp 0)⟩,
     ⟨(some 8), none, .mov (.tmp 0)⟩,
     ⟨(some 9), none, .fail⟩,
     ⟨(some 10), none, .call (.const (.func (.func 142) [])) [(.tmp 9)]⟩,
     ⟨(some 11), none, .fail⟩,
     ⟨(some 12), none, .nilCheck (.tmp 7)⟩,
     ⟨(some 13), none, .fieldAddr 0 (.tmp 12)⟩,
     ⟨none, none, .store 1 (.tmp 13) (.tmp 11)⟩] [])
   (.seq (.region [⟨(some 14), none, .mov (.tmp 0)⟩,
      ⟨(some 15), none, .nilCheck (.tmp 14)⟩,
      ⟨(some 16), none, .fieldAddr 0 (.tmp 15)⟩,
      ⟨(some 17), none, .load none (.tmp 16)⟩,
      ⟨(some 18), none, .mov (.tmp 0)⟩,
      ⟨(some 19), none, .bin .neq .ptr (.tmp 17) (.tmp 18)⟩] [])
    (.cond (.tmp 19) (.fail)
     (.skip))))⟩
def b136_0 : XCode := .seq (.block 1 (.seq (.region [⟨(some 19), none, .mov (.tmp 2)⟩,
      ⟨(some 20), none, .mov (.tmp 1)⟩,
      ⟨(some 21), none, .bin .sub (.one .int) (.tmp 19) (.tmp 20)⟩,
      ⟨(some 10), none, .mov (.tmp 21)⟩] [])
    (.seq (.seq (.region [⟨(some 22), none, .mov (.tmp 10)⟩,
        ⟨(some 23), none, .bin .leq (.one .int) (.tmp 22) (.const (.int .i64 12))⟩] [])
      (.cond (.tmp 23) (.seq (.region [⟨(some 24), none, .mov (.tmp 0)⟩,
          ⟨(some 25), none, .mov (.tmp 1)⟩,
          ⟨(some 26), none, .mov (.tmp 2)⟩,
          ⟨(some 27), none, .call (.const (.func (.func 144) [])) [(.tmp 24), (.tmp 25), (.tmp 26)]⟩] [])
        (.ret))
       (.skip)))
     (.seq (.seq (.region [⟨(some 28), none, .mov (.tmp 3)⟩,
         ⟨(some 29), none, .bin .eql (.one .int) (.tmp 28) (.const (.int .i64 0))⟩] [])
       (.cond (.tmp 29) (.seq (.region [⟨(some 30), none, .mov (.tmp 0)⟩,
           ⟨(some 31), none, .mov (.tmp 1)⟩,
           ⟨(some 32), none, .mov (.tmp 2)⟩,
           ⟨(some 33), none, .call (.const (.func (.func 145) [])) [(.tmp 30), (.tmp 31), (.tmp 32)]⟩] [])
         (.ret))
        (.skip)))
      (.seq (.seq (.region [⟨(some 34), none, .mov (.tmp 8)⟩,
          ⟨(some 35), none, .un .not (.tmp 34)⟩] [])
        (.cond (.tmp 35) (.seq (.region [⟨(some 36), none, .mov (.tmp 0)⟩,
            ⟨(some 37), none, .mov (.tmp 1)⟩,
            ⟨(some 38), none, .mov (.tmp 2)⟩,
            ⟨(some 39), none, .call (.const (.func (.func 146) [])) [(.tmp 36), (.tmp 37), (.tmp 38)]⟩] [])
          (.region [⟨(some 40), none, .mov (.tmp 3)⟩,
            ⟨(some 41), none, .bin .sub (.one .int) (.tmp 40) (.const (.int .i64 1))⟩,
            ⟨(some 3), none, .mov (.tmp 41)⟩] []))
         (.skip)))
       (.seq (.region [⟨(some 43), none, .mov (.tmp 0)⟩,
          ⟨(some 44), none, .mov (.tmp 1)⟩,
          ⟨(some 45), none, .mov (.tmp 2)⟩,
          ⟨(some 46), none, .call (.const (.func (.func 147) [])) [(.tmp 43), (.tmp 44), (.tmp 45)]⟩,
          ⟨(some 42), none, .mov (.tmp 46)⟩,
          ⟨(some 47), none, .extract (.tmp 42) 0⟩,
          ⟨(some 48), none, .extract (.tmp 42) 1⟩,
          ⟨(some 11), none, .mov (.tmp 47)⟩,
          ⟨(some 12), none, .mov (.tmp 48)⟩] [])
        (.seq (.seq (.region [⟨(some 49), none, .mov (.tmp 12)⟩,
            ⟨(some 50), none, .bin .eql (.one .int) (.tmp 49) (.const (.int .i64 2))⟩] [])
          (.cond (.tmp 50) (.seq (.region [⟨(some 51), none, .mov (.tmp 0)⟩,
              ⟨(some 52), none, .mov (.tmp 1)⟩,
              ⟨(some 53), none, .mov (.tmp 2)⟩,
              ⟨(some 54), none, .call (.const (.func (.func 148) [])) [(.tmp 51), (.tmp 52), (.tmp 53)]⟩] [])
            (.seq (.region [⟨(some 55), none, .mov (.tmp 2)⟩,
               ⟨(some 56), none, .bin .sub (.one .int) (.tmp 55) (.const (.int .i64 1))⟩,
               ⟨(some 57), none, .mov (.tmp 11)⟩,
               ⟨(some 58), none, .mov (.tmp 1)⟩,
               ⟨(some 59), none, .bin .sub (.one .int) (.tmp 57) (.tmp 58)⟩,
               ⟨(some 60), none, .bin .sub (.one .int) (.tmp 56) (.tmp 59)⟩,
               ⟨(some 11), none, .mov (.tmp 60)⟩] [])
             (.region [⟨(some 12), none, .mov (.const (.int .i64 1))⟩] [])))
           (.skip)))
         (.seq (.seq (.region [⟨(some 61), none, .mov (.tmp 8)⟩,
             ⟨(some 62), none, .mov (.tmp 61)⟩,
             ⟨(some 63), (some (62, true)), .mov (.tmp 9)⟩,
             ⟨(some 64), none, .pick (.tmp 62) (.tmp 63) (.const (.bool false))⟩,
             ⟨(some 65), none, .mov (.tmp 64)⟩,
             ⟨(some 66), (some (65, true)), .mov (.tmp 12)⟩,
             ⟨(some 67), (some (65, true)), .bin .eql (.one .int) (.tmp 66) (.const (.int .i64 1))⟩,
             ⟨(some 68), none, .pick (.tmp 65) (.tmp 67) (.const (.bool false))⟩] [])
           (.cond (.tmp 68) (.seq (.region [⟨(some 69), none, .mov (.tmp 0)⟩,
               ⟨(some 70), none, .mov (.tmp 1)⟩,
               ⟨(some 71), none, .mov (.tmp 2)⟩,
               ⟨(some 72), none, .call (.const (.func (.func 149) [])) [(.tmp 69), (.tmp 70), (.tmp 71)]⟩] [])
             (.cond (.tmp 72) (.ret)
              (.skip)))
            (.skip)))
          (.seq (.seq (.region [⟨(some 73), none, .mov (.tmp 1)⟩,
              ⟨(some 74), none, .bin .gtr (.one .int) (.tmp 73) (.const (.int .i64 0))⟩,
              ⟨(some 75), none, .mov (.tmp 74)⟩,
              ⟨(some 76), (some (75, true)), .mov (.tmp 0)⟩,
              ⟨(some 77), (some (75, true)), .mov (.tmp 1)⟩,
              ⟨(some 78), (some (75, true)), .bin .sub (.one .int) (.tmp 77) (.const (.int .i64 1))⟩,
              ⟨(some 79), (some (75, true)), .indexAddr 1 (.tmp 76) (.tmp 78)⟩,
              ⟨(some 80), (some (75, true)), .load none (.tmp 79)⟩,
              ⟨(some 81), (some (75, true)), .mov (.tmp 0)⟩,
              ⟨(some 82), (some (75, true)), .mov (.tmp 11)⟩,
              ⟨(some 83), (some (75, true)), .indexAddr 1 (.tmp 81) (.tmp 82)⟩,
              ⟨(some 84), (some (75, true)), .load none (.tmp 83)⟩,
              ⟨(some 85), (some (75, true)), .call (.const (.func (.func 104) [])) [(.tmp 80), (.tmp 84)]⟩,
              ⟨(some 86), (some (75, true)), .un .not (.tmp 85)⟩,
              ⟨(some 87), none, .pick (.tmp 75) (.tmp 86) (.const (.bool false))⟩] [])
            (.cond (.tmp 87) (.seq (.region [⟨(some 88), none, .mov (.tmp 0)⟩,
                ⟨(some 89), none, .mov (.tmp 1)⟩,
                ⟨(some 90), none, .mov (.tmp 2)⟩,
                ⟨(some 91), none, .mov (.tmp 11)⟩,
                ⟨(some 92), none, .call (.const (.func (.func 150) [])) [(.tmp 88), (.tmp 89), (.tmp 90), (.tmp 91)]⟩,
                ⟨(some 13), none, .mov (.tmp 92)⟩] [])
              (.seq (.region [⟨(some 93), none, .mov (.tmp 13)⟩,
                 ⟨(some 1), none, .mov (.tmp 93)⟩] [])
               (.exit 1)))
             (.skip)))
           (.seq (.region [⟨(some 95), none, .mov (.tmp 0)⟩,
              ⟨(some 96), none, .mov (.tmp 1)⟩,
              ⟨(some 97), none, .mov (.tmp 2)⟩,
              ⟨(some 98), none, .mov (.tmp 11)⟩,
              ⟨(some 99), none, .call (.const (.func (.func 151) [])) [(.tmp 95), (.tmp 96), (.tmp 97), (.tmp 98)]⟩,
              ⟨(some 94), none, .mov (.tmp 99)⟩,
              ⟨(some 100), none, .extract (.tmp 94) 0⟩,
              ⟨(some 101), none, .extract (.tmp 94) 1⟩,
              ⟨(some 14), none, .mov (.tmp 100)⟩,
              ⟨(some 15), none, .mov (.tmp 101)⟩] [])
            (.seq (.region [⟨(some 102), none, .mov (.tmp 15)⟩,
               ⟨(some 9), none, .mov (.tmp 102)⟩] [])
             (.seq (.region [⟨(some 103), none, .mov (.tmp 14)⟩,
                ⟨(some 104), none, .mov (.tmp 1)⟩,
                ⟨(some 105), none, .bin .sub (.one .int) (.tmp 103) (.tmp 104)⟩,
                ⟨(some 106), none, .mov (.tmp 2)⟩,
                ⟨(some 107), none, .mov (.tmp 14)⟩,
                ⟨(some 108), none, .bin .sub (.one .int) (.tmp 106) (.tmp 107)⟩,
                ⟨(some 16), none, .mov (.tmp 105)⟩,
                ⟨(some 17), none, .mov (.tmp 108)⟩] [])
              (.seq (.region [⟨(some 109), none, .mov (.tmp 10)⟩,
                 ⟨(some 110), none, .bin .quo (.one .int) (.tmp 109) (.const (.int .i64 8))⟩,
                 ⟨(some 18), none, .mov (.tmp 110)⟩] [])
               (.seq (.region [⟨(some 111), none, .mov (.tmp 16)⟩,
                  ⟨(some 112), none, .mov (.tmp 17)⟩,
                  ⟨(some 113), none, .bin .lss (.one .int) (.tmp 111) (.tmp 112)⟩] [])
                (.cond (.tmp 113) (.seq (.region [⟨(some 114), none, .mov (.tmp 16)⟩,
                    ⟨(some 115), none, .mov (.tmp 18)⟩,
                    ⟨(some 116), none, .bin .geq (.one .int) (.tmp 114) (.tmp 115)⟩,
                    ⟨(some 8), none, .mov (.tmp 116)⟩] [])
                  (.seq (.region [⟨(some 117), none, .mov (.tmp 0)⟩,
                     ⟨(some 118), none, .mov (.tmp 1)⟩,
                     ⟨(some 119), none, .mov (.tmp 14)⟩,
                     ⟨(some 120), none, .mov (.tmp 3)⟩,
                     ⟨(some 121), none, .call (.const (.func (.func 136) [])) [(.tmp 117), (.tmp 118), (.tmp 119), (.tmp 120)]⟩] [])
                   (.region [⟨(some 122), none, .mov (.tmp 14)⟩,
                     ⟨(some 123), none, .bin .add (.one .int) (.tmp 122) (.const (.int .i64 1))⟩,
                     ⟨(some 1), none, .mov (.tmp 123)⟩] [])))
                 (.seq (.region [⟨(some 124), none, .mov (.tmp 17)⟩,
                    ⟨(some 125), none, .mov (.tmp 18)⟩,
                    ⟨(some 126), none, .bin .geq (.one .int) (.tmp 124) (.tmp 125)⟩,
                    ⟨(some 8), none, .mov (.tmp 126)⟩] [])
                  (.seq (.region [⟨(some 127), none, .mov (.tmp 0)⟩,
                     ⟨(some 128), none, .mov (.tmp 14)⟩,
                     ⟨(some 129), none, .bin .add (.one .int) (.tmp 128) (.const (.int .i64 1))⟩,
                     ⟨(some 130), none, .mov (.tmp 2)⟩,
                     ⟨(some 131), none, .mov (.tmp 3)⟩,
                     ⟨(some 132), none, .call (.const (.func (.func 136) [])) [(.tmp 127), (.tmp 129), (.tmp 130), (.tmp 131)]⟩] [])
                   (.region [⟨(some 133), none, .mov (.tmp 14)⟩,
                     ⟨(some 2), none, .mov (.tmp 133)⟩] []))))))))))))))))))
  (.keep [0, 1, 2, 3, 8, 9])
/-- slices.pdqsortOrdered[string] -/
def x136 : XFunc := ⟨4, [],
  .seq (.region [⟨(some 8), none, .mov (.const (.bool true))⟩] [])
  (.seq (.region [⟨(some 9), none, .mov (.const (.bool true))⟩] [])
   (.block 0 (.seq (.keep [0, 1, 2, 3, 8, 9])
     (.loop b136_0))))⟩
def b137_0 : XCode := .seq (.seq (.region [⟨(some 9), none, .bin .lss (.one .int) (.tmp 8) (.tmp 7)⟩] [])
   (.seq (.cond (.tmp 9) (.skip)
     (.exit 0))
    (.seq (.block 1 (.seq (.region [⟨(some 10), none, .mov (.tmp 8)⟩,
         ⟨(some 5), none, .mov (.tmp 10)⟩] [])
       (.seq (.region [⟨(some 11), none, .mov (.tmp 1)⟩,
          ⟨(some 12), none, .mov (.tmp 0)⟩,
          ⟨(some 13), none, .mov (.tmp 5)⟩,
          ⟨(some 14), none, .indexAddr 1 (.tmp 12) (.tmp 13)⟩,
          ⟨(some 15), none, .load none (.tmp 14)⟩,
          ⟨(some 16), none, .call (.tmp 11) [(.tmp 15)]⟩] [])
        (.cond (.tmp 16) (.seq (.region [⟨(some 17), none, .mov (.tmp 5)⟩,
            ⟨(some 4), none, .mov (.tmp 17)⟩] [])
          (.ret))
         (.skip)))))
     (.region [⟨(some 18), none, .bin .add (.one .int) (.tmp 8) (.const (.int .i64 1))⟩,
       ⟨(some 8), none, .mov (.tmp 18)⟩] []))))
  (.keep [0, 1, 7, 8])
/-- slices.IndexFunc[[]string,string] -/
def x137 : XFunc := ⟨2, [.tmp 4],
  .seq (.region [⟨(some 4), none, .mov (.const (.int .i64 0))⟩] [])
  (.seq (.seq (.region [⟨(some 6), none, .mov (.tmp 0)⟩,
      ⟨(some 7), none, .len .slice (.tmp 6)⟩,
      ⟨(some 8), none, .mov (.const (.int .i64 0))⟩] [])
    (.block 0 (.seq (.keep [0, 1, 7, 8])
      (.loop b137_0))))
   (.seq (.region [⟨(some 4), none, .mov (.const (.int .i64 (-1)))⟩] [])
    (.ret)))⟩
/-- internal/strconv.small -/
def x138 : XFunc := ⟨1, [.tmp 2],
  .seq (.region [⟨(some 2), none, .mov (.const (.str []))⟩] [])
  (.seq (.seq (.region [⟨(some 3), none, .mov (.tmp 0)⟩,
      ⟨(some 4), none, .bin .lss (.one .int) (.tmp 3) (.const (.int .i64 10))⟩] [])
    (.cond (.tmp 4) (.seq (.region [⟨(some 5), none, .mov (.tmp 0)⟩,
        ⟨(some 6), none, .mov (.tmp 0)⟩,
        ⟨(some 7), none, .bin .add (.one .int) (.tmp 6) (.const (.int .i64 1))⟩,
        ⟨(some 8), none, .sliceStr (.const (.str [48, 49, 50, 51, 52, 53, 54, 55, 56, 57, 97, 98, 99, 100, 101, 102, 103, 104, 105, 106, 107, 108, 109, 110, 111, 112, 113, 114, 115, 116, 117, 118, 119, 120, 121, 122])) (some (.tmp 5)) (some (.tmp 7))⟩,
        ⟨(some 2), none, .mov (.tmp 8)⟩] [])
      (.ret))
     (.skip)))
   (.seq (.region [⟨(some 9), none, .mov (.tmp 0)⟩,
      ⟨(some 10), none, .bin .mul (.one .int) (.tmp 9) (.const (.int .i64 2))⟩,
      ⟨(some 11), none, .mov (.tmp 0)⟩,
      ⟨(some 12), none, .bin .mul (.one .int) (.tmp 11) (.const (.int .i64 2))⟩,
      ⟨(some 13), none, .bin .add (.one .int) (.tmp 12) (.const (.int .i64 2))⟩,
      ⟨(some 14), none, .sliceStr (.const (.str [48, 48, 48, 49, 48, 50, 48, 51, 48, 52, 48, 53, 48, 54, 48, 55, 48, 56, 48, 57, 49, 48, 49, 49, 49, 50, 49, 51, 49, 52, 49, 53, 49, 54, 49, 55, 49, 56, 49, 57, 50, 48, 50, 49, 50, 50, 50, 51, 50, 52, 50, 53, 50, 54, 50, 55, 50, 56, 50, 57, 51, 48, 51, 49, 51, 50, 51, 51, 51, 52, 51, 53, 51, 54, 51, 55, 51, 56, 51, 57, 52, 48, 52, 49, 52, 50, 52, 51, 52, 52, 52, 53, 52, 54, 52, 55, 52, 56, 52, 57, 53, 48, 53, 49, 53, 50, 53, 51, 53, 52, 53, 53, 53, 54, 53, 55, 53, 56, 53, 57, 54, 48, 54, 49, 54, 50, 54, 51, 54, 52, 54, 53, 54, 54, 54, 55, 54, 56, 54, 57, 55, 48, 55, 49, 55, 50, 55, 51, 55, 52, 55, 53, 55, 54, 55, 55, 55, 56, 55, 57, 56, 48, 56, 49, 56, 50, 56, 51, 56, 52, 56, 53, 56, 54, 56, 55, 56, 56, 56, 57, 57, 48, 57, 49, 57, 50, 57, 51, 57, 52, 57, 53, 57, 54, 57, 55, 57, 56, 57, 57])) (some (.tmp 10)) (some (.tmp 13))⟩,
      ⟨(some 2), none, .mov (.tmp 14)⟩] [])
    (.ret)))⟩
/-- internal/strconv.numDigits -/
def x139 : XFunc := ⟨1, [.tmp 2],
  .seq (.region [⟨(some 2), none, .mov (.const (.int .i64 0))⟩] [])
  (.seq (.region [⟨(some 4), none, .mov (.tmp 0)⟩,
     ⟨(some 5), none, .call (.const (.func (.func 85) [])) [(.tmp 4)]⟩,
     ⟨(some 6), none, .call (.const (.func (.func 152) [])) [(.tmp 5)]⟩,
     ⟨(some 3), none, .mov (.tmp 6)⟩] [])
   (.seq (.region [⟨(some 7), none, .mov (.tmp 3)⟩,
      ⟨(some 8), none, .mov (.tmp 0)⟩,
      ⟨(some 9), none, .mov (.tmp 3)⟩,
      ⟨(some 10), none, .fail⟩,
      ⟨(some 11), none, .load none (.tmp 10)⟩,
      ⟨(some 12), none, .bin .geq (.one .int) (.tmp 8) (.tmp 11)⟩,
      ⟨(some 13), none, .call (.const (.func (.func 153) [])) [(.tmp 12)]⟩,
      ⟨(some 14), none, .bin .add (.one .int) (.tmp 7) (.tmp 13)⟩,
      ⟨(some 2), none, .mov (.tmp 14)⟩] [])
    (.ret)))⟩
def b140_0 : XCode := .seq (.seq (.seq (.region [⟨(some 19), none, .mov (.tmp 4)⟩,
      ⟨(some 20), none, .bin .geq (.one .int) (.tmp 19) (.const (.int .i64 8))⟩] [])
    (.cond (.tmp 20) (.skip)
     (.exit 0)))
   (.block 1 (.seq (.region [⟨(some 21), none, .mov (.tmp 1)⟩,
       ⟨(some 22), none, .bin .rem (.one .int) (.tmp 21) (.const (.int .u64 100000000))⟩,
       ⟨(some 23), none, .convInt .u32 (.tmp 22)⟩,
       ⟨(some 5), none, .mov (.tmp 23)⟩] [])
     (.seq (.region [⟨(some 24), none, .mov (.tmp 1)⟩,
        ⟨(some 25), none, .bin .quo (.one .int) (.tmp 24) (.const (.int .u64 100000000))⟩,
        ⟨(some 1), none, .mov (.tmp 25)⟩] [])
      (.seq (.region [⟨(some 26), none, .mov (.tmp 5)⟩,
         ⟨(some 27), none, .bin .quo (.one .int) (.tmp 26) (.const (.int .u32 10000))⟩,
         ⟨(some 28), none, .mov (.tmp 5)⟩,
         ⟨(some 29), none, .bin .rem (.one .int) (.tmp 28) (.const (.int .u32 10000))⟩,
         ⟨(some 6), none, .mov (.tmp 27)⟩,
         ⟨(some 7), none, .mov (.tmp 29)⟩] [])
       (.seq (.region [⟨(some 30), none, .mov (.tmp 7)⟩,
          ⟨(some 31), none, .bin .quo (.one .int) (.tmp 30) (.const (.int .u32 100))⟩,
          ⟨(some 32), none, .bin .mul (.one .int) (.tmp 31) (.const (.int .u32 2))⟩,
          ⟨(some 33), none, .mov (.tmp 7)⟩,
          ⟨(some 34), none, .bin .rem (.one .int) (.tmp 33) (.const (.int .u32 100))⟩,
          ⟨(some 35), none, .bin .mul (.one .int) (.tmp 34) (.const (.int .u32 2))⟩,
          ⟨(some 8), none, .mov (.tmp 32)⟩,
          ⟨(some 9), none, .mov (.tmp 35)⟩] [])
        (.seq (.region [⟨(some 36), none, .mov (.tmp 6)⟩,
           ⟨(some 37), none, .bin .quo (.one .int) (.tmp 36) (.const (.int .u32 100))⟩,
           ⟨(some 38), none, .bin .mul (.one .int) (.tmp 37) (.const (.int .u32 2))⟩,
           ⟨(some 39), none, .mov (.tmp 6)⟩,
           ⟨(some 40), none, .bin .rem (.one .int) (.tmp 39) (.const (.int .u32 100))⟩,
           ⟨(some 41), none, .bin .mul (.one .int) (.tmp 40) (.const (.int .u32 2))⟩,
           ⟨(some 10), none, .mov (.tmp 38)⟩,
           ⟨(some 11), none, .mov (.tmp 41)⟩] [])
         (.seq (.region [⟨(some 42), none, .mov (.tmp 0)⟩,
            ⟨(some 43), none, .mov (.tmp 4)⟩,
            ⟨(some 44), none, .bin .sub (.one .int) (.tmp 43) (.const (.int .i64 1))⟩,
            ⟨(some 45), none, .mov (.tmp 0)⟩,
            ⟨(some 46), none, .mov (.tmp 4)⟩,
            ⟨(some 47), none, .bin .sub (.one .int) (.tmp 46) (.const (.int .i64 2))⟩,
            ⟨(some 48), none, .mov (.tmp 9)⟩,
            ⟨(some 49), none, .bin .add (.one .int) (.tmp 48) (.const (.int .u32 1))⟩,
            ⟨(some 50), none, .indexStr (.const (.str [48, 48, 48, 49, 48, 50, 48, 51, 48, 52, 48, 53, 48, 54, 48, 55, 48, 56, 48, 57, 49, 48, 49, 49, 49, 50, 49, 51, 49, 52, 49, 53, 49, 54, 49, 55, 49, 56, 49, 57, 50, 48, 50, 49, 50, 50, 50, 51, 50, 52, 50, 53, 50, 54, 50, 55, 50, 56, 50, 57, 51, 48, 51, 49, 51, 50, 51, 51, 51, 52, 51, 53, 51, 54, 51, 55, 51, 56, 51, 57, 52, 48, 52, 49, 52, 50, 52, 51, 52, 52, 52, 53, 52, 54, 52, 55, 52, 56, 52, 57, 53, 48, 53, 49, 53, 50, 53, 51, 53, 52, 53, 53, 53, 54, 53, 55, 53, 56, 53, 57, 54, 48, 54, 49, 54, 50, 54, 51, 54, 52, 54, 53, 54, 54, 54, 55, 54, 56, 54, 57, 55, 48, 55, 49, 55, 50, 55, 51, 55, 52, 55, 53, 55, 54, 55, 55, 55, 56, 55, 57, 56, 48, 56, 49, 56, 50, 56, 51, 56, 52, 56, 53, 56, 54, 56, 55, 56, 56, 56, 57, 57, 48, 57, 49, 57, 50, 57, 51, 57, 52, 57, 53, 57, 54, 57, 55, 57, 56, 57, 57])) (.tmp 49)⟩,
            ⟨(some 51), none, .mov (.tmp 9)⟩,
            ⟨(some 52), none, .indexStr (.const (.str [48, 48, 48, 49, 48, 50, 48, 51, 48, 52, 48, 53, 48, 54, 48, 55, 48, 56, 48, 57, 49, 48, 49, 49, 49, 50, 49, 51, 49, 52, 49, 53, 49, 54, 49, 55, 49, 56, 49, 57, 50, 48, 50, 49, 50, 50, 50, 51, 50, 52, 50, 53, 50, 54, 50, 55, 50, 56, 50, 57, 51, 48, 51, 49, 51, 50, 51, 51, 51, 52, 51, 53, 51, 54, 51, 55, 51, 56, 51, 57, 52, 48, 52, 49, 52, 50, 52, 51, 52, 52, 52, 53, 52, 54, 52, 55, 52, 56, 52, 57, 53, 48, 53, 49, 53, 50, 53, 51, 53, 52, 53, 53, 53, 54, 53, 55, 53, 56, 53, 57, 54, 48, 54, 49, 54, 50, 54, 51, 54, 52, 54, 53, 54, 54, 54, 55, 54, 56, 54, 57, 55, 48, 55, 49, 55, 50, 55, 51, 55, 52, 55, 53, 55, 54, 55, 55, 55, 56, 55, 57, 56, 48, 56, 49, 56, 50, 56, 51, 56, 52, 56, 53, 56, 54, 56, 55, 56, 56, 56, 57, 57, 48, 57, 49, 57, 50, 57, 51, 57, 52, 57, 53, 57, 54, 57, 55, 57, 56, 57, 57])) (.tmp 51)⟩,
            ⟨(some 53), none, .indexAddr 1 (.tmp 42) (.tmp 44)⟩,
            ⟨none, none, .store 1 (.tmp 53) (.tmp 50)⟩,
            ⟨(some 54), none, .indexAddr 1 (.tmp 45) (.tmp 47)⟩,
            ⟨none, none, .store 1 (.tmp 54) (.tmp 52)⟩] [])
          (.seq (.region [⟨(some 55), none, .mov (.tmp 0)⟩,
             ⟨(some 56), none, .mov (.tmp 4)⟩,
             ⟨(some 57), none, .bin .sub (.one .int) (.tmp 56) (.const (.int .i64 3))⟩,
             ⟨(some 58), none, .mov (.tmp 0)⟩,
             ⟨(some 59), none, .mov (.tmp 4)⟩,
             ⟨(some 60), none, .bin .sub (.one .int) (.tmp 59) (.const (.int .i64 4))⟩,
             ⟨(some 61), none, .mov (.tmp 8)⟩,
             ⟨(some 62), none, .bin .add (.one .int) (.tmp 61) (.const (.int .u32 1))⟩,
             ⟨(some 63), none, .indexStr (.const (.str [48, 48, 48, 49, 48, 50, 48, 51, 48, 52, 48, 53, 48, 54, 48, 55, 48, 56, 48, 57, 49, 48, 49, 49, 49, 50, 49, 51, 49, 52, 49, 53, 49, 54, 49, 55, 49, 56, 49, 57, 50, 48, 50, 49, 50, 50, 50, 51, 50, 52, 50, 53, 50, 54, 50, 55, 50, 56, 50, 57, 51, 48, 51, 49, 51, 50, 51, 51, 51, 52, 51, 53, 51, 54, 51, 55, 51, 56, 51, 57, 52, 48, 52, 49, 52, 50, 52, 51, 52, 52, 52, 53, 52, 54, 52, 55, 52, 56, 52, 57, 53, 48, 53, 49, 53, 50, 53, 51, 53, 52, 53, 53, 53, 54, 53, 55, 53, 56, 53, 57, 54, 48, 54, 49, 54, 50, 54, 51, 54, 52, 54, 53, 54, 54, 54, 55, 54, 56, 54, 57, 55, 48, 55, 49, 55, 50, 55, 51, 55, 52, 55, 53, 55, 54, 55, 55, 55, 56, 55, 57, 56, 48, 56, 49, 56, 50, 56, 51, 56, 52, 56, 53, 56, 54, 56, 55, 56, 56, 56, 57, 57, 48, 57, 49, 57, 50, 57, 51, 57, 52, 57, 53, 57, 54, 57, 55, 57, 56, 57, 57])) (.tmp 62)⟩,
             ⟨(some 64), none, .mov (.tmp 8)⟩,
             ⟨(some 65), none, .indexStr (.const (.str [48, 48, 48, 49, 48, 50, 48, 51, 48, 52, 48, 53, 48, 54, 48, 55, 48, 56, 48, 57, 49, 48, 49, 49, 49, 50, 49, 51, 49, 52, 49, 53, 49, 54, 49, 55, 49, 56, 49, 57, 50, 48, 50, 49, 50, 50, 50, 51, 50, 52, 50, 53, 50, 54, 50, 55, 50, 56, 50, 57, 51, 48, 51, 49, 51, 50, 51, 51, 51, 52, 51, 53, 51, 54, 51, 55, 51, 56, 51, 57, 52, 48, 52, 49, 52, 50, 52, 51, 52, 52, 52, 53, 52, 54, 52, 55, 52, 56, 52, 57, 53, 48, 53, 49, 53, 50, 53, 51, 53, 52, 53, 53, 53, 54, 53, 55, 53, 56, 53, 57, 54, 48, 54, 49, 54, 50, 54, 51, 54, 52, 54, 53, 54, 54, 54, 55, 54, 56, 54, 57, 55, 48, 55, 49, 55, 50, 55, 51, 55, 52, 55, 53, 55, 54, 55, 55, 55, 56, 55, 57, 56, 48, 56, 49, 56, 50, 56, 51, 56, 52, 56, 53, 56, 54, 56, 55, 56, 56, 56, 57, 57, 48, 57, 49, 57, 50, 57, 51, 57, 52, 57, 53, 57, 54, 57, 55, 57, 56, 57, 57])) (.tmp 64)⟩,
             ⟨(some 66), none, .indexAddr 1 (.tmp 55) (.tmp 57)⟩,
             ⟨none, none, .store 1 (.tmp 66) (.tmp 63)⟩,
             ⟨(some 67), none, .indexAddr 1 (.tmp 58) (.tmp 60)⟩,
             ⟨none, none, .store 1 (.tmp 67) (.tmp 65)⟩] [])
           (.seq (.region [⟨(some 68), none, .mov (.tmp 0)⟩,
              ⟨(some 69), none, .mov (.tmp 4)⟩,
              ⟨(some 70), none, .bin .sub (.one .int) (.tmp 69) (.const (.int .i64 5))⟩,
              ⟨(some 71), none, .mov (.tmp 0)⟩,
              ⟨(some 72), none, .mov (.tmp 4)⟩,
              ⟨(some 73), none, .bin .sub (.one .int) (.tmp 72) (.const (.int .i64 6))⟩,
              ⟨(some 74), none, .mov (.tmp 11)⟩,
              ⟨(some 75), none, .bin .add (.one .int) (.tmp 74) (.const (.int .u32 1))⟩,
              ⟨(some 76), none, .indexStr (.const (.str [48, 48, 48, 49, 48, 50, 48, 51, 48, 52, 48, 53, 48, 54, 48, 55, 48, 56, 48, 57, 49, 48, 49, 49, 49, 50, 49, 51, 49, 52, 49, 53, 49, 54, 49, 55, 49, 56, 49, 57, 50, 48, 50, 49, 50, 50, 50, 51, 50, 52, 50, 53, 50, 54, 50, 55, 50, 56, 50, 57, 51, 48, 51, 49, 51, 50, 51, 51, 51, 52, 51, 53, 51, 54, 51, 55, 51, 56, 51, 57, 52, 48, 52, 49, 52, 50, 52, 51, 52, 52, 52, 53, 52, 54, 52, 55, 52, 56, 52, 57, 53, 48, 53, 49, 53, 50, 53, 51, 53, 52, 53, 53, 53, 54, 53, 55, 53, 56, 53, 57, 54, 48, 54, 49, 54, 50, 54, 51, 54, 52, 54, 53, 54, 54, 54, 55, 54, 56, 54, 57, 55, 48, 55, 49, 55, 50, 55, 51, 55, 52, 55, 53, 55, 54, 55, 55, 55, 56, 55, 57, 56, 48, 56, 49, 56, 50, 56, 51, 56, 52, 56, 53, 56, 54, 56, 55, 56, 56, 56, 57, 57, 48, 57, 49, 57, 50, 57, 51, 57, 52, 57, 53, 57, 54, 57, 55, 57, 56, 57, 57])) (.tmp 75)⟩,
              ⟨(some 77), none, .mov (.tmp 11)⟩,
              ⟨(some 78), none, .indexStr (.const (.str [48, 48, 48, 49, 48, 50, 48, 51, 48, 52, 48, 53, 48, 54, 48, 55, 48, 56, 48, 57, 49, 48, 49, 49, 49, 50, 49, 51, 49, 52, 49, 53, 49, 54, 49, 55, 49, 56, 49, 57, 50, 48, 50, 49, 50, 50, 50, 51, 50, 52, 50, 53, 50, 54, 50, 55, 50, 56, 50, 57, 51, 48, 51, 49, 51, 50, 51, 51, 51, 52, 51, 53, 51, 54, 51, 55, 51, 56, 51, 57, 52, 48, 52, 49, 52, 50, 52, 51, 52, 52, 52, 53, 52, 54, 52, 55, 52, 56, 52, 57, 53, 48, 53, 49, 53, 50, 53, 51, 53, 52, 53, 53, 53, 54, 53, 55, 53, 56, 53, 57, 54, 48, 54, 49, 54, 50, 54, 51, 54, 52, 54, 53, 54, 54, 54, 55, 54, 56, 54, 57, 55, 48, 55, 49, 55, 50, 55, 51, 55, 52, 55, 53, 55, 54, 55, 55, 55, 56, 55, 57, 56, 48, 56, 49, 56, 50, 56, 51, 56, 52, 56, 53, 56, 54, 56, 55, 56, 56, 56, 57, 57, 48, 57, 49, 57, 50, 57, 51, 57, 52, 57, 53, 57, 54, 57, 55, 57, 56, 57, 57])) (.tmp 77)⟩,
              ⟨(some 79), none, .indexAddr 1 (.tmp 68) (.tmp 70)⟩,
              ⟨none, none, .store 1 (.tmp 79) (.tmp 76)⟩,
              ⟨(some 80), none, .indexAddr 1 (.tmp 71) (.tmp 73)⟩,
              ⟨none, none, .store 1 (.tmp 80) (.tmp 78)⟩] [])
            (.seq (.region [⟨(some 81), none, .mov (.tmp 0)⟩,
               ⟨(some 82), none, .mov (.tmp 4)⟩,
               ⟨(some 83), none, .bin .sub (.one .int) (.tmp 82) (.const (.int .i64 7))⟩,
               ⟨(some 84), none, .mov (.tmp 0)⟩,
               ⟨(some 85), none, .mov (.tmp 4)⟩,
               ⟨(some 86), none, .bin .sub (.one .int) (.tmp 85) (.const (.int .i64 8))⟩,
               ⟨(some 87), none, .mov (.tmp 10)⟩,
               ⟨(some 88), none, .bin .add (.one .int) (.tmp 87) (.const (.int .u32 1))⟩,
               ⟨(some 89), none, .indexStr (.const (.str [48, 48, 48, 49, 48, 50, 48, 51, 48, 52, 48, 53, 48, 54, 48, 55, 48, 56, 48, 57, 49, 48, 49, 49, 49, 50, 49, 51, 49, 52, 49, 53, 49, 54, 49, 55, 49, 56, 49, 57, 50, 48, 50, 49, 50, 50, 50, 51, 50, 52, 50, 53, 50, 54, 50, 55, 50, 56, 50, 57, 51, 48, 51, 49, 51, 50, 51, 51, 51, 52, 51, 53, 51, 54, 51, 55, 51, 56, 51, 57, 52, 48, 52, 49, 52, 50, 52, 51, 52, 52, 52, 53, 52, 54, 52, 55, 52, 56, 52, 57, 53, 48, 53, 49, 53, 50, 53, 51, 53, 52, 53, 53, 53, 54, 53, 55, 53, 56, 53, 57, 54, 48, 54, 49, 54, 50, 54, 51, 54, 52, 54, 53, 54, 54, 54, 55, 54, 56, 54, 57, 55, 48, 55, 49, 55, 50, 55, 51, 55, 52, 55, 53, 55, 54, 55, 55, 55, 56, 55, 57, 56, 48, 56, 49, 56, 50, 56, 51, 56, 52, 56, 53, 56, 54, 56, 55, 56, 56, 56, 57, 57, 48, 57, 49, 57, 50, 57, 51, 57, 52, 57, 53, 57, 54, 57, 55, 57, 56, 57, 57])) (.tmp 88)⟩,
               ⟨(some 90), none, .mov (.tmp 10)⟩,
               ⟨(some 91), none, .indexStr (.const (.str [48, 48, 48, 49, 48, 50, 48, 51, 48, 52, 48, 53, 48, 54, 48, 55, 48, 56, 48, 57, 49, 48, 49, 49, 49, 50, 49, 51, 49, 52, 49, 53, 49, 54, 49, 55, 49, 56, 49, 57, 50, 48, 50, 49, 50, 50, 50, 51, 50, 52, 50, 53, 50, 54, 50, 55, 50, 56, 50, 57, 51, 48, 51, 49, 51, 50, 51, 51, 51, 52, 51, 53, 51, 54, 51, 55, 51, 56, 51, 57, 52, 48, 52, 49, 52, 50, 52, 51, 52, 52, 52, 53, 52, 54, 52, 55, 52, 56, 52, 57, 53, 48, 53, 49, 53, 50, 53, 51, 53, 52, 53, 53, 53, 54, 53, 55, 53, 56, 53, 57, 54, 48, 54, 49, 54, 50, 54, 51, 54, 52, 54, 53, 54, 54, 54, 55, 54, 56, 54, 57, 55, 48, 55, 49, 55, 50, 55, 51, 55, 52, 55, 53, 55, 54, 55, 55, 55, 56, 55, 57, 56, 48, 56, 49, 56, 50, 56, 51, 56, 52, 56, 53, 56, 54, 56, 55, 56, 56, 56, 57, 57, 48, 57, 49, 57, 50, 57, 51, 57, 52, 57, 53, 57, 54, 57, 55, 57, 56, 57, 57])) (.tmp 90)⟩,
               ⟨(some 92), none, .indexAddr 1 (.tmp 81) (.tmp 83)⟩,
               ⟨none, none, .store 1 (.tmp 92) (.tmp 89)⟩,
               ⟨(some 93), none, .indexAddr 1 (.tmp 84) (.tmp 86)⟩,
               ⟨none, none, .store 1 (.tmp 93) (.tmp 91)⟩] [])
             (.region [⟨(some 94), none, .mov (.tmp 4)⟩,
               ⟨(some 95), none, .bin .sub (.one .int) (.tmp 94) (.const (.int .i64 8))⟩,
               ⟨(some 4), none, .mov (.tmp 95)⟩] []))))))))))))
  (.keep [0, 1, 4])
/-- internal/strconv.formatBase10 -/
def x140 : XFunc := ⟨2, [],
  .seq (.region [⟨(some 17), none, .mov (.tmp 0)⟩,
    ⟨(some 18), none, .len .slice (.tmp 17)⟩,
    ⟨(some 4), none, .mov (.tmp 18)⟩] [])
  (.seq (.block 0 (.seq (.keep [0, 1, 4])
     (.loop b140_0)))
   (.seq (.region [⟨(some 96), none, .mov (.tmp 1)⟩,
      ⟨(some 97), none, .convInt .u32 (.tmp 96)⟩,
      ⟨(some 12), none, .mov (.tmp 97)⟩] [])
    (.seq (.seq (.region [⟨(some 98), none, .mov (.tmp 4)⟩,
        ⟨(some 99), none, .bin .geq (.one .int) (.tmp 98) (.const (.int .i64 4))⟩] [])
      (.cond (.tmp 99) (.seq (.region [⟨(some 100), none, .mov (.tmp 12)⟩,
          ⟨(some 101), none, .bin .rem (.one .int) (.tmp 100) (.const (.int .u32 10000))⟩,
          ⟨(some 13), none, .mov (.tmp 101)⟩] [])
        (.seq (.region [⟨(some 102), none, .mov (.tmp 12)⟩,
           ⟨(some 103), none, .bin .quo (.one .int) (.tmp 102) (.const (.int .u32 10000))⟩,
           ⟨(some 12), none, .mov (.tmp 103)⟩] [])
         (.seq (.region [⟨(some 104), none, .mov (.tmp 13)⟩,
            ⟨(some 105), none, .bin .quo (.one .int) (.tmp 104) (.const (.int .u32 100))⟩,
            ⟨(some 106), none, .bin .mul (.one .int) (.tmp 105) (.const (.int .u32 2))⟩,
            ⟨(some 107), none, .mov (.tmp 13)⟩,
            ⟨(some 108), none, .bin .rem (.one .int) (.tmp 107) (.const (.int .u32 100))⟩,
            ⟨(some 109), none, .bin .mul (.one .int) (.tmp 108) (.const (.int .u32 2))⟩,
            ⟨(some 14), none, .mov (.tmp 106)⟩,
            ⟨(some 15), none, .mov (.tmp 109)⟩] [])
          (.seq (.region [⟨(some 110), none, .mov (.tmp 0)⟩,
             ⟨(some 111), none, .mov (.tmp 4)⟩,
             ⟨(some 112), none, .bin .sub (.one .int) (.tmp 111) (.const (.int .i64 1))⟩,
             ⟨(some 113), none, .mov (.tmp 0)⟩,
             ⟨(some 114), none, .mov (.tmp 4)⟩,
             ⟨(some 115), none, .bin .sub (.one .int) (.tmp 114) (.const (.int .i64 2))⟩,
             ⟨(some 116), none, .mov (.tmp 15)⟩,
             ⟨(some 117), none, .bin .add (.one .int) (.tmp 116) (.const (.int .u32 1))⟩,
             ⟨(some 118), none, .indexStr (.const (.str [48, 48, 48, 49, 48, 50, 48, 51, 48, 52, 48, 53, 48, 54, 48, 55, 48, 56, 48, 57, 49, 48, 49, 49, 49, 50, 49, 51, 49, 52, 49, 53, 49, 54, 49, 55, 49, 56, 49, 57, 50, 48, 50, 49, 50, 50, 50, 51, 50, 52, 50, 53, 50, 54, 50, 55, 50, 56, 50, 57, 51, 48, 51, 49, 51, 50, 51, 51, 51, 52, 51, 53, 51, 54, 51, 55, 51, 56, 51, 57, 52, 48, 52, 49, 52, 50, 52, 51, 52, 52, 52, 53, 52, 54, 52, 55, 52, 56, 52, 57, 53, 48, 53, 49, 53, 50, 53, 51, 53, 52, 53, 53, 53, 54, 53, 55, 53, 56, 53, 57, 54, 48, 54, 49, 54, 50, 54, 51, 54, 52, 54, 53, 54, 54, 54, 55, 54, 56, 54, 57, 55, 48, 55, 49, 55, 50, 55, 51, 55, 52, 55, 53, 55, 54, 55, 55, 55, 56, 55, 57, 56, 48, 56, 49, 56, 50, 56, 51, 56, 52, 56, 53, 56, 54, 56, 55, 56, 56, 56, 57, 57, 48, 57, 49, 57, 50, 57, 51, 57, 52, 57, 53, 57, 54, 57, 55, 57, 56, 57, 57])) (.tmp 117)⟩,
             ⟨(some 119), none, .mov (.tmp 15)⟩,
             ⟨(some 120), none, .indexStr (.const (.str [48, 48, 48, 49, 48, 50, 48, 51, 48, 52, 48, 53, 48, 54, 48, 55, 48, 56, 48, 57, 49, 48, 49, 49, 49, 50, 49, 51, 49, 52, 49, 53, 49, 54, 49, 55, 49, 56, 49, 57, 50, 48, 50, 49, 50, 50, 50, 51, 50, 52, 50, 53, 50, 54, 50, 55, 50, 56, 50, 57, 51, 48, 51, 49, 51, 50, 51, 51, 51, 52, 51, 53, 51, 54, 51, 55, 51, 56, 51, 57, 52, 48, 52, 49, 52, 50, 52, 51, 52, 52, 52, 53, 52, 54, 52, 55, 52, 56, 52, 57, 53, 48, 53, 49, 53, 50, 53, 51, 53, 52, 53, 53, 53, 54, 53, 55, 53, 56, 53, 57, 54, 48, 54, 49, 54, 50, 54, 51, 54, 52, 54, 53, 54, 54, 54, 55, 54, 56, 54, 57, 55, 48, 55, 49, 55, 50, 55, 51, 55, 52, 55, 53, 55, 54, 55, 55, 55, 56, 55, 57, 56, 48, 56, 49, 56, 50, 56, 51, 56, 52, 56, 53, 56, 54, 56, 55, 56, 56, 56, 57, 57, 48, 57, 49, 57, 50, 57, 51, 57, 52, 57, 53, 57, 54, 57, 55, 57, 56, 57, 57])) (.tmp 119)⟩,
             ⟨(some 121), none, .indexAddr 1 (.tmp 110) (.tmp 112)⟩,
             ⟨none, none, .store 1 (.tmp 121) (.tmp 118)⟩,
             ⟨(some 122), none, .indexAddr 1 (.tmp 113) (.tmp 115)⟩,
             ⟨none, none, .store 1 (.tmp 122) (.tmp 120)⟩] [])
           (.seq (.region [⟨(some 123), none, .mov (.tmp 0)⟩,
              ⟨(some 124), none, .mov (.tmp 4)⟩,
              ⟨(some 125), none, .bin .sub (.one .int) (.tmp 124) (.const (.int .i64 3))⟩,
              ⟨(some 126), none, .mov (.tmp 0)⟩,
              ⟨(some 127), none, .mov (.tmp 4)⟩,
              ⟨(some 128), none, .bin .sub (.one .int) (.tmp 127) (.const (.int .i64 4))⟩,
              ⟨(some 129), none, .mov (.tmp 14)⟩,
              ⟨(some 130), none, .bin .add (.one .int) (.tmp 129) (.const (.int .u32 1))⟩,
              ⟨(some 131), none, .indexStr (.const (.str [48, 48, 48, 49, 48, 50, 48, 51, 48, 52, 48, 53, 48, 54, 48, 55, 48, 56, 48, 57, 49, 48, 49, 49, 49, 50, 49, 51, 49, 52, 49, 53, 49, 54, 49, 55, 49, 56, 49, 57, 50, 48, 50, 49, 50, 50, 50, 51, 50, 52, 50, 53, 50, 54, 50, 55, 50, 56, 50, 57, 51, 48, 51, 49, 51, 50, 51, 51, 51, 52, 51, 53, 51, 54, 51, 55, 51, 56, 51, 57, 52, 48, 52, 49, 52, 50, 52, 51, 52, 52, 52, 53, 52, 54, 52, 55, 52, 56, 52, 57, 53, 48, 53, 49, 53, 50, 53, 51, 53, 52, 53, 53, 53, 54, 53, 55, 53, 56, 53, 57, 54, 48, 54, 49, 54, 50, 54, 51, 54, 52, 54, 53, 54, 54, 54, 55, 54, 56, 54, 57, 55, 48, 55, 49, 55, 50, 55, 51, 55, 52, 55, 53, 55, 54, 55, 55, 55, 56, 55, 57, 56, 48, 56, 49, 56, 50, 56, 51, 56, 52, 56, 53, 56, 54, 56, 55, 56, 56, 56, 57, 57, 48, 57, 49, 57, 50, 57, 51, 57, 52, 57, 53, 57, 54, 57, 55, 57, 56, 57, 57])) (.tmp 130)⟩,
              ⟨(some 132), none, .mov (.tmp 14)⟩,
              ⟨(some 133), none, .indexStr (.const (.str [48, 48, 48, 49, 48, 50, 48, 51, 48, 52, 48, 53, 48, 54, 48, 55, 48, 56, 48, 57, 49, 48, 49, 49, 49, 50, 49, 51, 49, 52, 49, 53, 49, 54, 49, 55, 49, 56, 49, 57, 50, 48, 50, 49, 50, 50, 50, 51, 50, 52, 50, 53, 50, 54, 50, 55, 50, 56, 50, 57, 51, 48, 51, 49, 51, 50, 51, 51, 51, 52, 51, 53, 51, 54, 51, 55, 51, 56, 51, 57, 52, 48, 52, 49, 52, 50, 52, 51, 52, 52, 52, 53, 52, 54, 52, 55, 52, 56, 52, 57, 53, 48, 53, 49, 53, 50, 53, 51, 53, 52, 53, 53, 53, 54, 53, 55, 53, 56, 53, 57, 54, 48, 54, 49, 54, 50, 54, 51, 54, 52, 54, 53, 54, 54, 54, 55, 54, 56, 54, 57, 55, 48, 55, 49, 55, 50, 55, 51, 55, 52, 55, 53, 55, 54, 55, 55, 55, 56, 55, 57, 56, 48, 56, 49, 56, 50, 56, 51, 56, 52, 56, 53, 56, 54, 56, 55, 56, 56, 56, 57, 57, 48, 57, 49, 57, 50, 57, 51, 57, 52, 57, 53, 57, 54, 57, 55, 57, 56, 57, 57])) (.tmp 132)⟩,
              ⟨(some 134), none, .indexAddr 1 (.tmp 123) (.tmp 125)⟩,
              ⟨none, none, .store 1 (.tmp 134) (.tmp 131)⟩,
              ⟨(some 135), none, .indexAddr 1 (.tmp 126) (.tmp 128)⟩,
              ⟨none, none, .store 1 (.tmp 135) (.tmp 133)⟩] [])
            (.region [⟨(some 136), none, .mov (.tmp 4)⟩,
              ⟨(some 137), none, .bin .sub (.one .int) (.tmp 136) (.const (.int .i64 4))⟩,
              ⟨(some 4), none, .mov (.tmp 137)⟩] []))))))
       (.skip)))
     (.seq (.seq (.region [⟨(some 138), none, .mov (.tmp 4)⟩,
         ⟨(some 139), none, .bin .geq (.one .int) (.tmp 138) (.const (.int .i64 2))⟩] [])
       (.cond (.tmp 139) (.seq (.region [⟨(some 140), none, .mov (.tmp 12)⟩,
           ⟨(some 141), none, .bin .rem (.one .int) (.tmp 140) (.const (.int .u32 100))⟩,
           ⟨(some 142), none, .bin .mul (.one .int) (.tmp 141) (.const (.int .u32 2))⟩,
           ⟨(some 16), none, .mov (.tmp 142)⟩] [])
         (.seq (.region [⟨(some 143), none, .mov (.tmp 12)⟩,
            ⟨(some 144), none, .bin .quo (.one .int) (.tmp 143) (.const (.int .u32 100))⟩,
            ⟨(some 12), none, .mov (.tmp 144)⟩] [])
          (.seq (.region [⟨(some 145), none, .mov (.tmp 0)⟩,
             ⟨(some 146), none, .mov (.tmp 4)⟩,
             ⟨(some 147), none, .bin .sub (.one .int) (.tmp 146) (.const (.int .i64 1))⟩,
             ⟨(some 148), none, .mov (.tmp 0)⟩,
             ⟨(some 149), none, .mov (.tmp 4)⟩,
             ⟨(some 150), none, .bin .sub (.one .int) (.tmp 149) (.const (.int .i64 2))⟩,
             ⟨(some 151), none, .mov (.tmp 16)⟩,
             ⟨(some 152), none, .bin .add (.one .int) (.tmp 151) (.const (.int .u32 1))⟩,
             ⟨(some 153), none, .indexStr (.const (.str [48, 48, 48, 49, 48, 50, 48, 51, 48, 52, 48, 53, 48, 54, 48, 55, 48, 56, 48, 57, 49, 48, 49, 49, 49, 50, 49, 51, 49, 52, 49, 53, 49, 54, 49, 55, 49, 56, 49, 57, 50, 48, 50, 49, 50, 50, 50, 51, 50, 52, 50, 53, 50, 54, 50, 55, 50, 56, 50, 57, 51, 48, 51, 49, 51, 50, 51, 51, 51, 52, 51, 53, 51, 54, 51, 55, 51, 56, 51, 57, 52, 48, 52, 49, 52, 50, 52, 51, 52, 52, 52, 53, 52, 54, 52, 55, 52, 56, 52, 57, 53, 48, 53, 49, 53, 50, 53, 51, 53, 52, 53, 53, 53, 54, 53, 55, 53, 56, 53, 57, 54, 48, 54, 49, 54, 50, 54, 51, 54, 52, 54, 53, 54, 54, 54, 55, 54, 56, 54, 57, 55, 48, 55, 49, 55, 50, 55, 51, 55, 52, 55, 53, 55, 54, 55, 55, 55, 56, 55, 57, 56, 48, 56, 49, 56, 50, 56, 51, 56, 52, 56, 53, 56, 54, 56, 55, 56, 56, 56, 57, 57, 48, 57, 49, 57, 50, 57, 51, 57, 52, 57, 53, 57, 54, 57, 55, 57, 56, 57, 57])) (.tmp 152)⟩,
             ⟨(some 154), none, .mov (.tmp 16)⟩,
             ⟨(some 155), none, .indexStr (.const (.str [48, 48, 48, 49, 48, 50, 48, 51, 48, 52, 48, 53, 48, 54, 48, 55, 48, 56, 48, 57, 49, 48, 49, 49, 49, 50, 49, 51, 49, 52, 49, 53, 49, 54, 49, 55, 49, 56, 49, 57, 50, 48, 50, 49, 50, 50, 50, 51, 50, 52, 50, 53, 50, 54, 50, 55, 50, 56, 50, 57, 51, 48, 51, 49, 51, 50, 51, 51, 51, 52, 51, 53, 51, 54, 51, 55, 51, 56, 51, 57, 52, 48, 52, 49, 52, 50, 52, 51, 52, 52, 52, 53, 52, 54, 52, 55, 52, 56, 52, 57, 53, 48, 53, 49, 53, 50, 53, 51, 53, 52, 53, 53, 53, 54, 53, 55, 53, 56, 53, 57, 54, 48, 54, 49, 54, 50, 54, 51, 54, 52, 54, 53, 54, 54, 54, 55, 54, 56, 54, 57, 55, 48, 55, 49, 55, 50, 55, 51, 55, 52, 55, 53, 55, 54, 55, 55, 55, 56, 55, 57, 56, 48, 56, 49, 56, 50, 56, 51, 56, 52, 56, 53, 56, 54, 56, 55, 56, 56, 56, 57, 57, 48, 57, 49, 57, 50, 57, 51, 57, 52, 57, 53, 57, 54, 57, 55, 57, 56, 57, 57])) (.tmp 154)⟩,
             ⟨(some 156), none, .indexAddr 1 (.tmp 145) (.tmp 147)⟩,
             ⟨none, none, .store 1 (.tmp 156) (.tmp 153)⟩,
             ⟨(some 157), none, .indexAddr 1 (.tmp 148) (.tmp 150)⟩,
             ⟨none, none, .store 1 (.tmp 157) (.tmp 155)⟩] [])
           (.region [⟨(some 158), none, .mov (.tmp 4)⟩,
             ⟨(some 159), none, .bin .sub (.one .int) (.tmp 158) (.const (.int .i64 2))⟩,
             ⟨(some 4), none, .mov (.tmp 159)⟩] []))))
        (.skip)))
      (.seq (.region [⟨(some 160), none, .mov (.tmp 4)⟩,
         ⟨(some 161), none, .bin .gtr (.one .int) (.tmp 160) (.const (.int .i64 0))⟩] [])
       (.cond (.tmp 161) (.region [⟨(some 162), none, .mov (.tmp 0)⟩,
          ⟨(some 163), none, .mov (.tmp 12)⟩,
          ⟨(some 164), none, .bin .add (.one .int) (.const (.int .u32 48)) (.tmp 163)⟩,
          ⟨(some 165), none, .convInt .u8 (.tmp 164)⟩,
          ⟨(some 166), none, .indexAddr 1 (.tmp 162) (.const (.int .i64 0))⟩,
          ⟨none, none, .store 1 (.tmp 166) (.tmp 165)⟩] [])
        (.skip)))))))⟩
def b141_0 : XCode := .seq (.seq (.seq (.region [⟨(some 44), none, .mov (.tmp 1)⟩,
      ⟨(some 45), none, .mov (.tmp 15)⟩,
      ⟨(some 46), none, .bin .geq (.one .int) (.tmp 44) (.tmp 45)⟩] [])
    (.cond (.tmp 46) (.skip)
     (.exit 0)))
   (.block 1 (.seq (.region [⟨(some 47), none, .mov (.tmp 13)⟩,
       ⟨(some 48), none, .bin .sub (.one .int) (.tmp 47) (.const (.int .i64 1))⟩,
       ⟨(some 13), none, .mov (.tmp 48)⟩] [])
     (.seq (.region [⟨(some 49), none, .mov (.tmp 13)⟩,
        ⟨(some 50), none, .mov (.tmp 1)⟩,
        ⟨(some 51), none, .mov (.tmp 16)⟩,
        ⟨(some 52), none, .bin .and (.one .int) (.tmp 50) (.tmp 51)⟩,
        ⟨(some 53), none, .indexStr (.const (.str [48, 49, 50, 51, 52, 53, 54, 55, 56, 57, 97, 98, 99, 100, 101, 102, 103, 104, 105, 106, 107, 108, 109, 110, 111, 112, 113, 114, 115, 116, 117, 118, 119, 120, 121, 122])) (.tmp 52)⟩,
        ⟨(some 54), none, .fail⟩,
        ⟨none, none, .store 1 (.tmp 54) (.tmp 53)⟩] [])
      (.region [⟨(some 55), none, .mov (.tmp 1)⟩,
        ⟨(some 56), none, .mov (.tmp 14)⟩,
        ⟨(some 57), none, .bin .shr (.one .int) (.tmp 55) (.tmp 56)⟩,
        ⟨(some 1), none, .mov (.tmp 57)⟩] [])))))
  (.keep [0, 1, 3, 4, 10, 11, 13, 14, 15, 16])
def b141_1 : XCode := .seq (.seq (.seq (.region [⟨(some 66), none, .mov (.tmp 1)⟩,
      ⟨(some 67), none, .mov (.tmp 17)⟩,
      ⟨(some 68), none, .bin .geq (.one .int) (.tmp 66) (.tmp 67)⟩] [])
    (.cond (.tmp 68) (.skip)
     (.exit 2)))
   (.block 3 (.seq (.region [⟨(some 69), none, .mov (.tmp 13)⟩,
       ⟨(some 70), none, .bin .sub (.one .int) (.tmp 69) (.const (.int .i64 1))⟩,
       ⟨(some 13), none, .mov (.tmp 70)⟩] [])
     (.seq (.region [⟨(some 71), none, .mov (.tmp 1)⟩,
        ⟨(some 72), none, .mov (.tmp 17)⟩,
        ⟨(some 73), none, .bin .quo (.one .int) (.tmp 71) (.tmp 72)⟩,
        ⟨(some 18), none, .mov (.tmp 73)⟩] [])
      (.seq (.region [⟨(some 74), none, .mov (.tmp 13)⟩,
         ⟨(some 75), none, .mov (.tmp 1)⟩,
         ⟨(some 76), none, .mov (.tmp 18)⟩,
         ⟨(some 77), none, .mov (.tmp 17)⟩,
         ⟨(some 78), none, .bin .mul (.one .int) (.tmp 76) (.tmp 77)⟩,
         ⟨(some 79), none, .bin .sub (.one .int) (.tmp 75) (.tmp 78)⟩,
         ⟨(some 80), none, .indexStr (.const (.str [48, 49, 50, 51, 52, 53, 54, 55, 56, 57, 97, 98, 99, 100, 101, 102, 103, 104, 105, 106, 107, 108, 109, 110, 111, 112, 113, 114, 115, 116, 117, 118, 119, 120, 121, 122])) (.tmp 79)⟩,
         ⟨(some 81), none, .fail⟩,
         ⟨none, none, .store 1 (.tmp 81) (.tmp 80)⟩] [])
       (.region [⟨(some 82), none, .mov (.tmp 18)⟩,
         ⟨(some 1), none, .mov (.tmp 82)⟩] []))))))
  (.keep [0, 1, 3, 4, 10, 11, 13, 17])
/-- internal/strconv.formatBits -/
def x141 : XFunc := ⟨5, [.tmp 10, .tmp 11],
  .seq (.region [⟨(some 10), none, .mov (.const .nilslice)⟩,
    ⟨(some 11), none, .mov (.const (.str []))⟩] [])
  (.seq (.seq (.region [⟨(some 19), none, .mov (.tmp 2)⟩,
      ⟨(some 20), none, .bin .lss (.one .int) (.tmp 19) (.const (.int .i64 2))⟩,
      ⟨(some 21), none, .mov (.tmp 20)⟩,
      ⟨(some 22), (some (21, false)), .mov (.tmp 2)⟩,
      ⟨(some 23), (some (21, false)), .bin .eql (.one .int) (.tmp 22) (.const (.int .i64 10))⟩,
      ⟨(some 24), none, .pick (.tmp 21) (.const (.bool true)) (.tmp 23)⟩,
      ⟨(some 25), none, .mov (.tmp 24)⟩,
      ⟨(some 26), (some (25, false)), .mov (.tmp 2)⟩,
      ⟨(some 27), (some (25, false)), .bin .gtr (.one .int) (.tmp 26) (.const (.int .i64 36))⟩,
      ⟨(some 28), none, .pick (.tmp 25) (.const (.bool true)) (.tmp 27)⟩] [])
    (.cond (.tmp 28) (.region [⟨(some 29), none, .mkIface 9 (.const (.str [115, 116, 114, 99, 111, 110, 118, 58, 32, 105, 108, 108, 101, 103, 97, 108, 32, 65, 112, 112, 101, 110, 100, 73, 110, 116, 47, 70, 111, 114, 109, 97, 116, 73, 110, 116, 32, 98, 97, 115, 101]))⟩,
       ⟨none, none, .fail⟩] [])
     (.skip)))
   (.seq (.region [⟨(some 12), none, .box 65 (.const (.agg [(.int .u8 0), (.int .u8 0), (.int .u8 0), (.int .u8 0), (.int .u8 0), (.int .u8 0), (.int .u8 0), (.int .u8 0), (.int .u8 0), (.int .u8 0), (.int .u8 0), (.int .u8 0), (.int .u8 0), (.int .u8 0), (.int .u8 0), (.int .u8 0), (.int .u8 0), (.int .u8 0), (.int .u8 0), (.int .u8 0), (.int .u8 0), (.int .u8 0), (.int .u8 0), (.int .u8 0), (.int .u8 0), (.int .u8 0), (.int .u8 0), (.int .u8 0), (.int .u8 0), (.int .u8 0), (.int .u8 0), (.int .u8 0), (.int .u8 0), (.int .u8 0), (.int .u8 0), (.int .u8 0), (.int .u8 0), (.int .u8 0), (.int .u8 0), (.int .u8 0), (.int .u8 0), (.int .u8 0), (.int .u8 0), (.int .u8 0), (.int .u8 0), (.int .u8 0), (.int .u8 0), (.int .u8 0), (.int .u8 0), (.int .u8 0), (.int .u8 0), (.int .u8 0), (.int .u8 0), (.int .u8 0), (.int .u8 0), (.int .u8 0), (.int .u8 0), (.int .u8 0), (.int .u8 0), (.int .u8 0), (.int .u8 0), (.int .u8 0), (.int .u8 0), (.int .u8 0), (.int .u8 0)]))⟩] [])
    (.seq (.region [⟨(some 13), none, .mov (.const (.int .i64 65))⟩] [])
     (.seq (.seq (.region [⟨(some 30), none, .mov (.tmp 3)⟩] [])
       (.cond (.tmp 30) (.region [⟨(some 31), none, .mov (.tmp 1)⟩,
          ⟨(some 32), none, .un .neg (.tmp 31)⟩,
          ⟨(some 1), none, .mov (.tmp 32)⟩] [])
        (.skip)))
      (.seq (.seq (.region [⟨(some 33), none, .mov (.tmp 2)⟩,
          ⟨(some 34), none, .call (.const (.func (.func 154) [])) [(.tmp 33)]⟩] [])
        (.cond (.tmp 34) (.seq (.region [⟨(some 35), none, .mov (.tmp 2)⟩,
            ⟨(some 36), none, .convInt .u64 (.tmp 35)⟩,
            ⟨(some 37), none, .call (.const (.func (.func 155) [])) [(.tmp 36)]⟩,
            ⟨(some 38), none, .convInt .u64 (.tmp 37)⟩,
            ⟨(some 14), none, .mov (.tmp 38)⟩] [])
          (.seq (.region [⟨(some 39), none, .mov (.tmp 2)⟩,
             ⟨(some 40), none, .convInt .u64 (.tmp 39)⟩,
             ⟨(some 15), none, .mov (.tmp 40)⟩] [])
           (.seq (.region [⟨(some 41), none, .mov (.tmp 2)⟩,
              ⟨(some 42), none, .convInt .u64 (.tmp 41)⟩,
              ⟨(some 43), none, .bin .sub (.one .int) (.tmp 42) (.const (.int .u64 1))⟩,
              ⟨(some 16), none, .mov (.tmp 43)⟩] [])
            (.seq (.block 0 (.seq (.keep [0, 1, 3, 4, 10, 11, 13, 14, 15, 16])
               (.loop b141_0)))
             (.seq (.region [⟨(some 58), none, .mov (.tmp 13)⟩,
                ⟨(some 59), none, .bin .sub (.one .int) (.tmp 58) (.const (.int .i64 1))⟩,
                ⟨(some 13), none, .mov (.tmp 59)⟩] [])
              (.region [⟨(some 60), none, .mov (.tmp 13)⟩,
                ⟨(some 61), none, .mov (.tmp 1)⟩,
                ⟨(some 62), none, .indexStr (.const (.str [48, 49, 50, 51, 52, 53, 54, 55, 56, 57, 97, 98, 99, 100, 101, 102, 103, 104, 105, 106, 107, 108, 109, 110, 111, 112, 113, 114, 115, 116, 117, 118, 119, 120, 121, 122])) (.tmp 61)⟩,
                ⟨(some 63), none, .fail⟩,
                ⟨none, none, .store 1 (.tmp 63) (.tmp 62)⟩] []))))))
         (.seq (.region [⟨(some 64), none, .mov (.tmp 2)⟩,
            ⟨(some 65), none, .convInt .u64 (.tmp 64)⟩,
            ⟨(some 17), none, .mov (.tmp 65)⟩] [])
          (.seq (.block 2 (.seq (.keep [0, 1, 3, 4, 10, 11, 13, 17])
             (.loop b141_1)))
           (.seq (.region [⟨(some 83), none, .mov (.tmp 13)⟩,
              ⟨(some 84), none, .bin .sub (.one .int) (.tmp 83) (.const (.int .i64 1))⟩,
              ⟨(some 13), none, .mov (.tmp 84)⟩] [])
            (.region [⟨(some 85), none, .mov (.tmp 13)⟩,
              ⟨(some 86), none, .mov (.tmp 1)⟩,
              ⟨(some 87), none, .indexStr (.const (.str [48, 49, 50, 51, 52, 53, 54, 55, 56, 57, 97, 98, 99, 100, 101, 102, 103, 104, 105, 106, 107, 108, 109, 110, 111, 112, 113, 114, 115, 116, 117, 118, 119, 120, 121, 122])) (.tmp 86)⟩,
              ⟨(some 88), none, .fail⟩,
              ⟨none, none, .store 1 (.tmp 88) (.tmp 87)⟩] []))))))
       (.seq (.seq (.region [⟨(some 89), none, .mov (.tmp 3)⟩] [])
         (.cond (.tmp 89) (.seq (.region [⟨(some 90), none, .mov (.tmp 13)⟩,
             ⟨(some 91), none, .bin .sub (.one .int) (.tmp 90) (.const (.int .i64 1))⟩,
             ⟨(some 13), none, .mov (.tmp 91)⟩] [])
           (.region [⟨(some 92), none, .mov (.tmp 13)⟩,
             ⟨(some 93), none, .fail⟩,
             ⟨none, none, .store 1 (.tmp 93) (.const (.int .u8 45))⟩] []))
          (.skip)))
        (.seq (.seq (.region [⟨(some 94), none, .mov (.tmp 4)⟩] [])
          (.cond (.tmp 94) (.seq (.region [⟨(some 95), none, .mov (.tmp 0)⟩,
              ⟨(some 96), none, .mov (.tmp 13)⟩,
              ⟨(some 97), none, .fail⟩,
              ⟨(some 98), none, .append 1 1 (.tmp 95) (.tmp 97)⟩,
              ⟨(some 10), none, .mov (.tmp 98)⟩] [])
            (.ret))
           (.skip)))
         (.seq (.region [⟨(some 99), none, .mov (.tmp 13)⟩,
            ⟨(some 100), none, .fail⟩,
            ⟨(some 101), none, .fail⟩,
            ⟨(some 11), none, .mov (.tmp 101)⟩] [])
          (.ret)))))))))⟩
-- F142 internal/abi.NoEscape: none
def b144_0 : XCode := .seq (.seq (.seq (.region [⟨(some 16), none, .mov (.tmp 7)⟩,
      ⟨(some 17), none, .mov (.tmp 1)⟩,
      ⟨(some 18), none, .bin .gtr (.one .int) (.tmp 16) (.tmp 17)⟩,
      ⟨(some 19), none, .mov (.tmp 18)⟩,
      ⟨(some 20), (some (19, true)), .mov (.tmp 0)⟩,
      ⟨(some 21), (some (19, true)), .mov (.tmp 7)⟩,
      ⟨(some 22), (some (19, true)), .indexAddr 1 (.tmp 20) (.tmp 21)⟩,
      ⟨(some 23), (some (19, true)), .load none (.tmp 22)⟩,
      ⟨(some 24), (some (19, true)), .mov (.tmp 0)⟩,
      ⟨(some 25), (some (19, true)), .mov (.tmp 7)⟩,
      ⟨(some 26), (some (19, true)), .bin .sub (.one .int) (.tmp 25) (.const (.int .i64 1))⟩,
      ⟨(some 27), (some (19, true)), .indexAddr 1 (.tmp 24) (.tmp 26)⟩,
      ⟨(some 28), (some (19, true)), .load none (.tmp 27)⟩,
      ⟨(some 29), (some (19, true)), .call (.const (.func (.func 104) [])) [(.tmp 23), (.tmp 28)]⟩,
      ⟨(some 30), none, .pick (.tmp 19) (.tmp 29) (.const (.bool false))⟩] [])
    (.cond (.tmp 30) (.skip)
     (.exit 2)))
   (.seq (.block 3 (.region [⟨(some 33), none, .mov (.tmp 0)⟩,
       ⟨(some 34), none, .mov (.tmp 7)⟩,
       ⟨(some 35), none, .mov (.tmp 0)⟩,
       ⟨(some 36), none, .mov (.tmp 7)⟩,
       ⟨(some 37), none, .bin .sub (.one .int) (.tmp 36) (.const (.int .i64 1))⟩,
       ⟨(some 38), none, .mov (.tmp 0)⟩,
       ⟨(some 39), none, .mov (.tmp 7)⟩,
       ⟨(some 40), none, .bin .sub (.one .int) (.tmp 39) (.const (.int .i64 1))⟩,
       ⟨(some 41), none, .indexAddr 1 (.tmp 38) (.tmp 40)⟩,
       ⟨(some 42), none, .load none (.tmp 41)⟩,
       ⟨(some 43), none, .mov (.tmp 0)⟩,
       ⟨(some 44), none, .mov (.tmp 7)⟩,
       ⟨(some 45), none, .indexAddr 1 (.tmp 43) (.tmp 44)⟩,
       ⟨(some 46), none, .load none (.tmp 45)⟩,
       ⟨(some 47), none, .indexAddr 1 (.tmp 33) (.tmp 34)⟩,
       ⟨none, none, .store 1 (.tmp 47) (.tmp 42)⟩,
       ⟨(some 48), none, .indexAddr 1 (.tmp 35) (.tmp 37)⟩,
       ⟨none, none, .store 1 (.tmp 48) (.tmp 46)⟩] []))
    (.region [⟨(some 31), none, .mov (.tmp 7)⟩,
      ⟨(some 32), none, .bin .sub (.one .int) (.tmp 31) (.const (.int .i64 1))⟩,
      ⟨(some 7), none, .mov (.tmp 32)⟩] [])))
  (.keep [0, 1, 2, 6, 7])
def b144_1 : XCode := .seq (.seq (.seq (.region [⟨(some 10), none, .mov (.tmp 6)⟩,
      ⟨(some 11), none, .mov (.tmp 2)⟩,
      ⟨(some 12), none, .bin .lss (.one .int) (.tmp 10) (.tmp 11)⟩] [])
    (.cond (.tmp 12) (.skip)
     (.exit 0)))
   (.seq (.block 1 (.seq (.region [⟨(some 15), none, .mov (.tmp 6)⟩,
        ⟨(some 7), none, .mov (.tmp 15)⟩] [])
      (.block 2 (.seq (.keep [0, 1, 2, 6, 7])
        (.loop b144_0)))))
    (.region [⟨(some 13), none, .mov (.tmp 6)⟩,
      ⟨(some 14), none, .bin .add (.one .int) (.tmp 13) (.const (.int .i64 1))⟩,
      ⟨(some 6), none, .mov (.tmp 14)⟩] [])))
  (.keep [0, 1, 2, 6])
/-- slices.insertionSortOrdered[string] -/
def x144 : XFunc := ⟨3, [],
  .seq (.region [⟨(some 8), none, .mov (.tmp 1)⟩,
    ⟨(some 9), none, .bin .add (.one .int) (.tmp 8) (.const (.int .i64 1))⟩,
    ⟨(some 6), none, .mov (.tmp 9)⟩] [])
  (.block 0 (.seq (.keep [0, 1, 2, 6])
    (.loop b144_1)))⟩
def b145_0 : XCode := .seq (.seq (.seq (.region [⟨(some 18), none, .mov (.tmp 9)⟩,
      ⟨(some 19), none, .bin .geq (.one .int) (.tmp 18) (.const (.int .i64 0))⟩] [])
    (.cond (.tmp 19) (.skip)
     (.exit 0)))
   (.seq (.block 1 (.region [⟨(some 22), none, .mov (.tmp 0)⟩,
       ⟨(some 23), none, .mov (.tmp 9)⟩,
       ⟨(some 24), none, .mov (.tmp 8)⟩,
       ⟨(some 25), none, .mov (.tmp 6)⟩,
       ⟨(some 26), none, .call (.const (.func (.func 156) [])) [(.tmp 22), (.tmp 23), (.tmp 24), (.tmp 25)]⟩] []))
    (.region [⟨(some 20), none, .mov (.tmp 9)⟩,
      ⟨(some 21), none, .bin .sub (.one .int) (.tmp 20) (.const (.int .i64 1))⟩,
      ⟨(some 9), none, .mov (.tmp 21)⟩] [])))
  (.keep [0, 6, 7, 8, 9])
def b145_1 : XCode := .seq (.seq (.seq (.region [⟨(some 29), none, .mov (.tmp 10)⟩,
      ⟨(some 30), none, .bin .geq (.one .int) (.tmp 29) (.const (.int .i64 0))⟩] [])
    (.cond (.tmp 30) (.skip)
     (.exit 2)))
   (.seq (.block 3 (.seq (.region [⟨(some 33), none, .mov (.tmp 0)⟩,
        ⟨(some 34), none, .mov (.tmp 6)⟩,
        ⟨(some 35), none, .mov (.tmp 0)⟩,
        ⟨(some 36), none, .mov (.tmp 6)⟩,
        ⟨(some 37), none, .mov (.tmp 10)⟩,
        ⟨(some 38), none, .bin .add (.one .int) (.tmp 36) (.tmp 37)⟩,
        ⟨(some 39), none, .mov (.tmp 0)⟩,
        ⟨(some 40), none, .mov (.tmp 6)⟩,
        ⟨(some 41), none, .mov (.tmp 10)⟩,
        ⟨(some 42), none, .bin .add (.one .int) (.tmp 40) (.tmp 41)⟩,
        ⟨(some 43), none, .indexAddr 1 (.tmp 39) (.tmp 42)⟩,
        ⟨(some 44), none, .load none (.tmp 43)⟩,
        ⟨(some 45), none, .mov (.tmp 0)⟩,
        ⟨(some 46), none, .mov (.tmp 6)⟩,
        ⟨(some 47), none, .indexAddr 1 (.tmp 45) (.tmp 46)⟩,
        ⟨(some 48), none, .load none (.tmp 47)⟩,
        ⟨(some 49), none, .indexAddr 1 (.tmp 33) (.tmp 34)⟩,
        ⟨none, none, .store 1 (.tmp 49) (.tmp 44)⟩,
        ⟨(some 50), none, .indexAddr 1 (.tmp 35) (.tmp 38)⟩,
        ⟨none, none, .store 1 (.tmp 50) (.tmp 48)⟩] [])
      (.region [⟨(some 51), none, .mov (.tmp 0)⟩,
        ⟨(some 52), none, .mov (.tmp 7)⟩,
        ⟨(some 53), none, .mov (.tmp 10)⟩,
        ⟨(some 54), none, .mov (.tmp 6)⟩,
        ⟨(some 55), none, .call (.const (.func (.func 156) [])) [(.tmp 51), (.tmp 52), (.tmp 53), (.tmp 54)]⟩] [])))
    (.region [⟨(some 31), none, .mov (.tmp 10)⟩,
      ⟨(some 32), none, .bin .sub (.one .int) (.tmp 31) (.const (.int .i64 1))⟩,
      ⟨(some 10), none, .mov (.tmp 32)⟩] [])))
  (.keep [0, 6, 7, 10])
/-- slices.heapSortOrdered[string] -/
def x145 : XFunc := ⟨3, [],
  .seq (.region [⟨(some 11), none, .mov (.tmp 1)⟩,
    ⟨(some 6), none, .mov (.tmp 11)⟩] [])
  (.seq (.region [⟨(some 7), none, .mov (.const (.int .i64 0))⟩] [])
   (.seq (.region [⟨(some 12), none, .mov (.tmp 2)⟩,
      ⟨(some 13), none, .mov (.tmp 1)⟩,
      ⟨(some 14), none, .bin .sub (.one .int) (.tmp 12) (.tmp 13)⟩,
      ⟨(some 8), none, .mov (.tmp 14)⟩] [])
    (.seq (.seq (.region [⟨(some 15), none, .mov (.tmp 8)⟩,
        ⟨(some 16), none, .bin .sub (.one .int) (.tmp 15) (.const (.int .i64 1))⟩,
        ⟨(some 17), none, .bin .quo (.one .int) (.tmp 16) (.const (.int .i64 2))⟩,
        ⟨(some 9), none, .mov (.tmp 17)⟩] [])
      (.block 0 (.seq (.keep [0, 6, 7, 8, 9])
        (.loop b145_0))))
     (.seq (.region [⟨(some 27), none, .mov (.tmp 8)⟩,
        ⟨(some 28), none, .bin .sub (.one .int) (.tmp 27) (.const (.int .i64 1))⟩,
        ⟨(some 10), none, .mov (.tmp 28)⟩] [])
      (.block 2 (.seq (.keep [0, 6, 7, 10])
        (.loop b145_1)))))))⟩
def b146_0 : XCode := .seq (.seq (.seq (.region [⟨(some 26), none, .mov (.tmp 9)⟩,
      ⟨(some 27), none, .mov (.tmp 1)⟩,
      ⟨(some 28), none, .mov (.tmp 6)⟩,
      ⟨(some 29), none, .bin .quo (.one .int) (.tmp 28) (.const (.int .i64 4))⟩,
      ⟨(some 30), none, .bin .mul (.one .int) (.tmp 29) (.const (.int .i64 2))⟩,
      ⟨(some 31), none, .bin .add (.one .int) (.tmp 27) (.tmp 30)⟩,
      ⟨(some 32), none, .bin .add (.one .int) (.tmp 31) (.const (.int .i64 1))⟩,
      ⟨(some 33), none, .bin .leq (.one .int) (.tmp 26) (.tmp 32)⟩] [])
    (.cond (.tmp 33) (.skip)
     (.exit 0)))
   (.seq (.block 1 (.seq (.region [⟨(some 36), none, .call (.const (.func (.func 110) [])) [(.tmp 7)]⟩,
        ⟨(some 37), none, .mov (.tmp 8)⟩,
        ⟨(some 38), none, .bin .sub (.one .int) (.tmp 37) (.const (.int .u64 1))⟩,
        ⟨(some 39), none, .bin .and (.one .int) (.tmp 36) (.tmp 38)⟩,
        ⟨(some 40), none, .convInt .i64 (.tmp 39)⟩,
        ⟨(some 10), none, .mov (.tmp 40)⟩] [])
      (.seq (.seq (.region [⟨(some 41), none, .mov (.tmp 10)⟩,
          ⟨(some 42), none, .mov (.tmp 6)⟩,
          ⟨(some 43), none, .bin .geq (.one .int) (.tmp 41) (.tmp 42)⟩] [])
        (.cond (.tmp 43) (.region [⟨(some 44), none, .mov (.tmp 10)⟩,
           ⟨(some 45), none, .mov (.tmp 6)⟩,
           ⟨(some 46), none, .bin .sub (.one .int) (.tmp 44) (.tmp 45)⟩,
           ⟨(some 10), none, .mov (.tmp 46)⟩] [])
         (.skip)))
       (.region [⟨(some 47), none, .mov (.tmp 0)⟩,
         ⟨(some 48), none, .mov (.tmp 9)⟩,
         ⟨(some 49), none, .mov (.tmp 0)⟩,
         ⟨(some 50), none, .mov (.tmp 1)⟩,
         ⟨(some 51), none, .mov (.tmp 10)⟩,
         ⟨(some 52), none, .bin .add (.one .int) (.tmp 50) (.tmp 51)⟩,
         ⟨(some 53), none, .mov (.tmp 0)⟩,
         ⟨(some 54), none, .mov (.tmp 1)⟩,
         ⟨(some 55), none, .mov (.tmp 10)⟩,
         ⟨(some 56), none, .bin .add (.one .int) (.tmp 54) (.tmp 55)⟩,
         ⟨(some 57), none, .indexAddr 1 (.tmp 53) (.tmp 56)⟩,
         ⟨(some 58), none, .load none (.tmp 57)⟩,
         ⟨(some 59), none, .mov (.tmp 0)⟩,
         ⟨(some 60), none, .mov (.tmp 9)⟩,
         ⟨(some 61), none, .indexAddr 1 (.tmp 59) (.tmp 60)⟩,
         ⟨(some 62), none, .load none (.tmp 61)⟩,
         ⟨(some 63), none, .indexAddr 1 (.tmp 47) (.tmp 48)⟩,
         ⟨none, none, .store 1 (.tmp 63) (.tmp 58)⟩,
         ⟨(some 64), none, .indexAddr 1 (.tmp 49) (.tmp 52)⟩,
         ⟨none, none, .store 1 (.tmp 64) (.tmp 62)⟩] []))))
    (.region [⟨(some 34), none, .mov (.tmp 9)⟩,
      ⟨(some 35), none, .bin .add (.one .int) (.tmp 34) (.const (.int .i64 1))⟩,
      ⟨(some 9), none, .mov (.tmp 35)⟩] [])))
  (.keep [0, 1, 6, 7, 8, 9])
/-- slices.breakPatternsOrdered[string] -/
def x146 : XFunc := ⟨3, [],
  .seq (.region [⟨(some 11), none, .mov (.tmp 2)⟩,
    ⟨(some 12), none, .mov (.tmp 1)⟩,
    ⟨(some 13), none, .bin .sub (.one .int) (.tmp 11) (.tmp 12)⟩,
    ⟨(some 6), none, .mov (.tmp 13)⟩] [])
  (.seq (.region [⟨(some 14), none, .mov (.tmp 6)⟩,
     ⟨(some 15), none, .bin .geq (.one .int) (.tmp 14) (.const (.int .i64 8))⟩] [])
   (.cond (.tmp 15) (.seq (.region [⟨(some 16), none, .mov (.tmp 6)⟩,
       ⟨(some 17), none, .convInt .u64 (.tmp 16)⟩,
       ⟨(some 7), none, .box 1 (.const (.int .u64 0))⟩,
       ⟨none, none, .store 1 (.tmp 7) (.tmp 17)⟩] [])
     (.seq (.region [⟨(some 18), none, .mov (.tmp 6)⟩,
        ⟨(some 19), none, .call (.const (.func (.func 109) [])) [(.tmp 18)]⟩,
        ⟨(some 8), none, .mov (.tmp 19)⟩] [])
      (.seq (.region [⟨(some 20), none, .mov (.tmp 1)⟩,
         ⟨(some 21), none, .mov (.tmp 6)⟩,
         ⟨(some 22), none, .bin .quo (.one .int) (.tmp 21) (.const (.int .i64 4))⟩,
         ⟨(some 23), none, .bin .mul (.one .int) (.tmp 22) (.const (.int .i64 2))⟩,
         ⟨(some 24), none, .bin .add (.one .int) (.tmp 20) (.tmp 23)⟩,
         ⟨(some 25), none, .bin .sub (.one .int) (.tmp 24) (.const (.int .i64 1))⟩,
         ⟨(some 9), none, .mov (.tmp 25)⟩] [])
       (.block 0 (.seq (.keep [0, 1, 6, 7, 8, 9])
         (.loop b146_0))))))
    (.skip)))⟩
/-- slices.choosePivotOrdered[string] -/
def x147 : XFunc := ⟨3, [.tmp 6, .tmp 7],
  .seq (.region [⟨(some 6), none, .mov (.const (.int .i64 0))⟩,
    ⟨(some 7), none, .mov (.const (.int .i64 0))⟩] [])
  (.seq (.region [⟨(some 13), none, .mov (.tmp 2)⟩,
     ⟨(some 14), none, .mov (.tmp 1)⟩,
     ⟨(some 15), none, .bin .sub (.one .int) (.tmp 13) (.tmp 14)⟩,
     ⟨(some 8), none, .mov (.tmp 15)⟩] [])
   (.seq (.region [⟨(some 9), none, .box 1 (.const (.int .i64 0))⟩] [])
    (.seq (.region [⟨(some 16), none, .mov (.tmp 1)⟩,
       ⟨(some 17), none, .mov (.tmp 8)⟩,
       ⟨(some 18), none, .bin .quo (.one .int) (.tmp 17) (.const (.int .i64 4))⟩,
       ⟨(some 19), none, .bin .mul (.one .int) (.tmp 18) (.const (.int .i64 1))⟩,
       ⟨(some 20), none, .bin .add (.one .int) (.tmp 16) (.tmp 19)⟩,
       ⟨(some 10), none, .mov (.tmp 20)⟩] [])
     (.seq (.region [⟨(some 21), none, .mov (.tmp 1)⟩,
        ⟨(some 22), none, .mov (.tmp 8)⟩,
        ⟨(some 23), none, .bin .quo (.one .int) (.tmp 22) (.const (.int .i64 4))⟩,
        ⟨(some 24), none, .bin .mul (.one .int) (.tmp 23) (.const (.int .i64 2))⟩,
        ⟨(some 25), none, .bin .add (.one .int) (.tmp 21) (.tmp 24)⟩,
        ⟨(some 11), none, .mov (.tmp 25)⟩] [])
      (.seq (.region [⟨(some 26), none, .mov (.tmp 1)⟩,
         ⟨(some 27), none, .mov (.tmp 8)⟩,
         ⟨(some 28), none, .bin .quo (.one .int) (.tmp 27) (.const (.int .i64 4))⟩,
         ⟨(some 29), none, .bin .mul (.one .int) (.tmp 28) (.const (.int .i64 3))⟩,
         ⟨(some 30), none, .bin .add (.one .int) (.tmp 26) (.tmp 29)⟩,
         ⟨(some 12), none, .mov (.tmp 30)⟩] [])
       (.seq (.seq (.region [⟨(some 31), none, .mov (.tmp 8)⟩,
           ⟨(some 32), none, .bin .geq (.one .int) (.tmp 31) (.const (.int .i64 8))⟩] [])
         (.cond (.tmp 32) (.seq (.seq (.region [⟨(some 33), none, .mov (.tmp 8)⟩,
              ⟨(some 34), none, .bin .geq (.one .int) (.tmp 33) (.const (.int .i64 50))⟩] [])
            (.cond (.tmp 34) (.seq (.region [⟨(some 35), none, .mov (.tmp 0)⟩,
                ⟨(some 36), none, .mov (.tmp 10)⟩,
                ⟨(some 37), none, .call (.const (.func (.func 157) [])) [(.tmp 35), (.tmp 36), (.tmp 9)]⟩,
                ⟨(some 10), none, .mov (.tmp 37)⟩] [])
              (.seq (.region [⟨(some 38), none, .mov (.tmp 0)⟩,
                 ⟨(some 39), none, .mov (.tmp 11)⟩,
                 ⟨(some 40), none, .call (.const (.func (.func 157) [])) [(.tmp 38), (.tmp 39), (.tmp 9)]⟩,
                 ⟨(some 11), none, .mov (.tmp 40)⟩] [])
               (.region [⟨(some 41), none, .mov (.tmp 0)⟩,
                 ⟨(some 42), none, .mov (.tmp 12)⟩,
                 ⟨(some 43), none, .call (.const (.func (.func 157) [])) [(.tmp 41), (.tmp 42), (.tmp 9)]⟩,
                 ⟨(some 12), none, .mov (.tmp 43)⟩] [])))
             (.skip)))
           (.region [⟨(some 44), none, .mov (.tmp 0)⟩,
             ⟨(some 45), none, .mov (.tmp 10)⟩,
             ⟨(some 46), none, .mov (.tmp 11)⟩,
             ⟨(some 47), none, .mov (.tmp 12)⟩,
             ⟨(some 48), none, .call (.const (.func (.func 158) [])) [(.tmp 44), (.tmp 45), (.tmp 46), (.tmp 47), (.tmp 9)]⟩,
             ⟨(some 11), none, .mov (.tmp 48)⟩] []))
          (.skip)))
        (.seq (.region [⟨(some 49), none, .load none (.tmp 9)⟩] [])
         (.block 0 (.seq (.region [⟨(some 52), none, .bin .eql (.one .int) (.tmp 49) (.const (.int .i64 0))⟩,
             ⟨(some 51), none, .mov (.tmp 52)⟩] [])
           (.cond (.tmp 51) (.seq (.region [⟨(some 53), none, .mov (.tmp 11)⟩,
               ⟨(some 6), none, .mov (.tmp 53)⟩,
               ⟨(some 7), none, .mov (.const (.int .i64 1))⟩] [])
             (.ret))
            (.seq (.region [⟨(some 55), none, .bin .eql (.one .int) (.tmp 49) (.const (.int .i64 12))⟩,
               ⟨(some 54), none, .mov (.tmp 55)⟩] [])
             (.cond (.tmp 54) (.seq (.region [⟨(some 56), none, .mov (.tmp 11)⟩,
                 ⟨(some 6), none, .mov (.tmp 56)⟩,
                 ⟨(some 7), none, .mov (.const (.int .i64 2))⟩] [])
               (.ret))
              (.seq (.region [⟨(some 50), none, .mov (.tmp 11)⟩,
                 ⟨(some 6), none, .mov (.tmp 50)⟩,
                 ⟨(some 7), none, .mov (.const (.int .i64 0))⟩] [])
               (.ret))))))))))))))⟩
def b148_0 : XCode := .seq (.seq (.seq (.region [⟨(some 11), none, .mov (.tmp 6)⟩,
      ⟨(some 12), none, .mov (.tmp 7)⟩,
      ⟨(some 13), none, .bin .lss (.one .int) (.tmp 11) (.tmp 12)⟩] [])
    (.cond (.tmp 13) (.skip)
     (.exit 0)))
   (.block 1 (.seq (.region [⟨(some 14), none, .mov (.tmp 0)⟩,
       ⟨(some 15), none, .mov (.tmp 6)⟩,
       ⟨(some 16), none, .mov (.tmp 0)⟩,
       ⟨(some 17), none, .mov (.tmp 7)⟩,
       ⟨(some 18), none, .mov (.tmp 0)⟩,
       ⟨(some 19), none, .mov (.tmp 7)⟩,
       ⟨(some 20), none, .indexAddr 1 (.tmp 18) (.tmp 19)⟩,
       ⟨(some 21), none, .load none (.tmp 20)⟩,
       ⟨(some 22), none, .mov (.tmp 0)⟩,
       ⟨(some 23), none, .mov (.tmp 6)⟩,
       ⟨(some 24), none, .indexAddr 1 (.tmp 22) (.tmp 23)⟩,
       ⟨(some 25), none, .load none (.tmp 24)⟩,
       ⟨(some 26), none, .indexAddr 1 (.tmp 14) (.tmp 15)⟩,
       ⟨none, none, .store 1 (.tmp 26) (.tmp 21)⟩,
       ⟨(some 27), none, .indexAddr 1 (.tmp 16) (.tmp 17)⟩,
       ⟨none, none, .store 1 (.tmp 27) (.tmp 25)⟩] [])
     (.seq (.region [⟨(some 28), none, .mov (.tmp 6)⟩,
        ⟨(some 29), none, .bin .add (.one .int) (.tmp 28) (.const (.int .i64 1))⟩,
        ⟨(some 6), none, .mov (.tmp 29)⟩] [])
      (.region [⟨(some 30), none, .mov (.tmp 7)⟩,
        ⟨(some 31), none, .bin .sub (.one .int) (.tmp 30) (.const (.int .i64 1))⟩,
        ⟨(some 7), none, .mov (.tmp 31)⟩] [])))))
  (.keep [0, 6, 7])
/-- slices.reverseRangeOrdered[string] -/
def x148 : XFunc := ⟨3, [],
  .seq (.region [⟨(some 8), none, .mov (.tmp 1)⟩,
    ⟨(some 6), none, .mov (.tmp 8)⟩] [])
  (.seq (.region [⟨(some 9), none, .mov (.tmp 2)⟩,
     ⟨(some 10), none, .bin .sub (.one .int) (.tmp 9) (.const (.int .i64 1))⟩,
     ⟨(some 7), none, .mov (.tmp 10)⟩] [])
   (.block 0 (.seq (.keep [0, 6, 7])
     (.loop b148_0))))⟩
def b149_0 : XCode := .seq (.seq (.seq (.region [⟨(some 17), none, .mov (.tmp 7)⟩,
      ⟨(some 18), none, .mov (.tmp 2)⟩,
      ⟨(some 19), none, .bin .lss (.one .int) (.tmp 17) (.tmp 18)⟩,
      ⟨(some 20), none, .mov (.tmp 19)⟩,
      ⟨(some 21), (some (20, true)), .mov (.tmp 0)⟩,
      ⟨(some 22), (some (20, true)), .mov (.tmp 7)⟩,
      ⟨(some 23), (some (20, true)), .indexAddr 1 (.tmp 21) (.tmp 22)⟩,
      ⟨(some 24), (some (20, true)), .load none (.tmp 23)⟩,
      ⟨(some 25), (some (20, true)), .mov (.tmp 0)⟩,
      ⟨(some 26), (some (20, true)), .mov (.tmp 7)⟩,
      ⟨(some 27), (some (20, true)), .bin .sub (.one .int) (.tmp 26) (.const (.int .i64 1))⟩,
      ⟨(some 28), (some (20, true)), .indexAddr 1 (.tmp 25) (.tmp 27)⟩,
      ⟨(some 29), (some (20, true)), .load none (.tmp 28)⟩,
      ⟨(some 30), (some (20, true)), .call (.const (.func (.func 104) [])) [(.tmp 24), (.tmp 29)]⟩,
      ⟨(some 31), (some (20, true)), .un .not (.tmp 30)⟩,
      ⟨(some 32), none, .pick (.tmp 20) (.tmp 31) (.const (.bool false))⟩] [])
    (.cond (.tmp 32) (.skip)
     (.exit 2)))
   (.block 3 (.region [⟨(some 33), none, .mov (.tmp 7)⟩,
      ⟨(some 34), none, .bin .add (.one .int) (.tmp 33) (.const (.int .i64 1))⟩,
      ⟨(some 7), none, .mov (.tmp 34)⟩] [])))
  (.keep [0, 1, 2, 7, 8])
def b149_1 : XCode := .seq (.seq (.seq (.region [⟨(some 64), none, .mov (.tmp 9)⟩,
      ⟨(some 65), none, .bin .geq (.one .int) (.tmp 64) (.const (.int .i64 1))⟩] [])
    (.cond (.tmp 65) (.skip)
     (.exit 4)))
   (.seq (.block 5 (.seq (.seq (.region [⟨(some 68), none, .mov (.tmp 0)⟩,
         ⟨(some 69), none, .mov (.tmp 9)⟩,
         ⟨(some 70), none, .indexAddr 1 (.tmp 68) (.tmp 69)⟩,
         ⟨(some 71), none, .load none (.tmp 70)⟩,
         ⟨(some 72), none, .mov (.tmp 0)⟩,
         ⟨(some 73), none, .mov (.tmp 9)⟩,
         ⟨(some 74), none, .bin .sub (.one .int) (.tmp 73) (.const (.int .i64 1))⟩,
         ⟨(some 75), none, .indexAddr 1 (.tmp 72) (.tmp 74)⟩,
         ⟨(some 76), none, .load none (.tmp 75)⟩,
         ⟨(some 77), none, .call (.const (.func (.func 104) [])) [(.tmp 71), (.tmp 76)]⟩,
         ⟨(some 78), none, .un .not (.tmp 77)⟩] [])
       (.cond (.tmp 78) (.exit 4)
        (.skip)))
      (.region [⟨(some 79), none, .mov (.tmp 0)⟩,
        ⟨(some 80), none, .mov (.tmp 9)⟩,
        ⟨(some 81), none, .mov (.tmp 0)⟩,
        ⟨(some 82), none, .mov (.tmp 9)⟩,
        ⟨(some 83), none, .bin .sub (.one .int) (.tmp 82) (.const (.int .i64 1))⟩,
        ⟨(some 84), none, .mov (.tmp 0)⟩,
        ⟨(some 85), none, .mov (.tmp 9)⟩,
        ⟨(some 86), none, .bin .sub (.one .int) (.tmp 85) (.const (.int .i64 1))⟩,
        ⟨(some 87), none, .indexAddr 1 (.tmp 84) (.tmp 86)⟩,
        ⟨(some 88), none, .load none (.tmp 87)⟩,
        ⟨(some 89), none, .mov (.tmp 0)⟩,
        ⟨(some 90), none, .mov (.tmp 9)⟩,
        ⟨(some 91), none, .indexAddr 1 (.tmp 89) (.tmp 90)⟩,
        ⟨(some 92), none, .load none (.tmp 91)⟩,
        ⟨(some 93), none, .indexAddr 1 (.tmp 79) (.tmp 80)⟩,
        ⟨none, none, .store 1 (.tmp 93) (.tmp 88)⟩,
        ⟨(some 94), none, .indexAddr 1 (.tmp 81) (.tmp 83)⟩,
        ⟨none, none, .store 1 (.tmp 94) (.tmp 92)⟩] [])))
    (.region [⟨(some 66), none, .mov (.tmp 9)⟩,
      ⟨(some 67), none, .bin .sub (.one .int) (.tmp 66) (.const (.int .i64 1))⟩,
      ⟨(some 9), none, .mov (.tmp 67)⟩] [])))
  (.keep [0, 1, 2, 7, 8, 9])
def b149_2 : XCode := .seq (.seq (.seq (.region [⟨(some 101), none, .mov (.tmp 10)⟩,
      ⟨(some 102), none, .mov (.tmp 2)⟩,
      ⟨(some 103), none, .bin .lss (.one .int) (.tmp 101) (.tmp 102)⟩] [])
    (.cond (.tmp 103) (.skip)
     (.exit 6)))
   (.seq (.block 7 (.seq (.seq (.region [⟨(some 106), none, .mov (.tmp 0)⟩,
         ⟨(some 107), none, .mov (.tmp 10)⟩,
         ⟨(some 108), none, .indexAddr 1 (.tmp 106) (.tmp 107)⟩,
         ⟨(some 109), none, .load none (.tmp 108)⟩,
         ⟨(some 110), none, .mov (.tmp 0)⟩,
         ⟨(some 111), none, .mov (.tmp 10)⟩,
         ⟨(some 112), none, .bin .sub (.one .int) (.tmp 111) (.const (.int .i64 1))⟩,
         ⟨(some 113), none, .indexAddr 1 (.tmp 110) (.tmp 112)⟩,
         ⟨(some 114), none, .load none (.tmp 113)⟩,
         ⟨(some 115), none, .call (.const (.func (.func 104) [])) [(.tmp 109), (.tmp 114)]⟩,
         ⟨(some 116), none, .un .not (.tmp 115)⟩] [])
       (.cond (.tmp 116) (.exit 6)
        (.skip)))
      (.region [⟨(some 117), none, .mov (.tmp 0)⟩,
        ⟨(some 118), none, .mov (.tmp 10)⟩,
        ⟨(some 119), none, .mov (.tmp 0)⟩,
        ⟨(some 120), none, .mov (.tmp 10)⟩,
        ⟨(some 121), none, .bin .sub (.one .int) (.tmp 120) (.const (.int .i64 1))⟩,
        ⟨(some 122), none, .mov (.tmp 0)⟩,
        ⟨(some 123), none, .mov (.tmp 10)⟩,
        ⟨(some 124), none, .bin .sub (.one .int) (.tmp 123) (.const (.int .i64 1))⟩,
        ⟨(some 125), none, .indexAddr 1 (.tmp 122) (.tmp 124)⟩,
        ⟨(some 126), none, .load none (.tmp 125)⟩,
        ⟨(some 127), none, .mov (.tmp 0)⟩,
        ⟨(some 128), none, .mov (.tmp 10)⟩,
        ⟨(some 129), none, .indexAddr 1 (.tmp 127) (.tmp 128)⟩,
        ⟨(some 130), none, .load none (.tmp 129)⟩,
        ⟨(some 131), none, .indexAddr 1 (.tmp 117) (.tmp 118)⟩,
        ⟨none, none, .store 1 (.tmp 131) (.tmp 126)⟩,
        ⟨(some 132), none, .indexAddr 1 (.tmp 119) (.tmp 121)⟩,
        ⟨none, none, .store 1 (.tmp 132) (.tmp 130)⟩] [])))
    (.region [⟨(some 104), none, .mov (.tmp 10)⟩,
      ⟨(some 105), none, .bin .add (.one .int) (.tmp 104) (.const (.int .i64 1))⟩,
      ⟨(some 10), none, .mov (.tmp 105)⟩] [])))
  (.keep [0, 1, 2, 7, 8, 10])
def b149_3 : XCode := .seq (.seq (.seq (.region [⟨(some 13), none, .mov (.tmp 8)⟩,
      ⟨(some 14), none, .bin .lss (.one .int) (.tmp 13) (.const (.int .i64 5))⟩] [])
    (.cond (.tmp 14) (.skip)
     (.exit 0)))
   (.seq (.block 1 (.seq (.block 2 (.seq (.keep [0, 1, 2, 7, 8])
        (.loop b149_0)))
      (.seq (.seq (.region [⟨(some 35), none, .mov (.tmp 7)⟩,
          ⟨(some 36), none, .mov (.tmp 2)⟩,
          ⟨(some 37), none, .bin .eql (.one .int) (.tmp 35) (.tmp 36)⟩] [])
        (.cond (.tmp 37) (.seq (.region [⟨(some 6), none, .mov (.const (.bool true))⟩] [])
          (.ret))
         (.skip)))
       (.seq (.seq (.region [⟨(some 38), none, .mov (.tmp 2)⟩,
           ⟨(some 39), none, .mov (.tmp 1)⟩,
           ⟨(some 40), none, .bin .sub (.one .int) (.tmp 38) (.tmp 39)⟩,
           ⟨(some 41), none, .bin .lss (.one .int) (.tmp 40) (.const (.int .i64 50))⟩] [])
         (.cond (.tmp 41) (.seq (.region [⟨(some 6), none, .mov (.const (.bool false))⟩] [])
           (.ret))
          (.skip)))
        (.seq (.region [⟨(some 42), none, .mov (.tmp 0)⟩,
           ⟨(some 43), none, .mov (.tmp 7)⟩,
           ⟨(some 44), none, .mov (.tmp 0)⟩,
           ⟨(some 45), none, .mov (.tmp 7)⟩,
           ⟨(some 46), none, .bin .sub (.one .int) (.tmp 45) (.const (.int .i64 1))⟩,
           ⟨(some 47), none, .mov (.tmp 0)⟩,
           ⟨(some 48), none, .mov (.tmp 7)⟩,
           ⟨(some 49), none, .bin .sub (.one .int) (.tmp 48) (.const (.int .i64 1))⟩,
           ⟨(some 50), none, .indexAddr 1 (.tmp 47) (.tmp 49)⟩,
           ⟨(some 51), none, .load none (.tmp 50)⟩,
           ⟨(some 52), none, .mov (.tmp 0)⟩,
           ⟨(some 53), none, .mov (.tmp 7)⟩,
           ⟨(some 54), none, .indexAddr 1 (.tmp 52) (.tmp 53)⟩,
           ⟨(some 55), none, .load none (.tmp 54)⟩,
           ⟨(some 56), none, .indexAddr 1 (.tmp 42) (.tmp 43)⟩,
           ⟨none, none, .store 1 (.tmp 56) (.tmp 51)⟩,
           ⟨(some 57), none, .indexAddr 1 (.tmp 44) (.tmp 46)⟩,
           ⟨none, none, .store 1 (.tmp 57) (.tmp 55)⟩] [])
         (.seq (.seq (.region [⟨(some 58), none, .mov (.tmp 7)⟩,
             ⟨(some 59), none, .mov (.tmp 1)⟩,
             ⟨(some 60), none, .bin .sub (.one .int) (.tmp 58) (.tmp 59)⟩,
             ⟨(some 61), none, .bin .geq (.one .int) (.tmp 60) (.const (.int .i64 2))⟩] [])
           (.cond (.tmp 61) (.seq (.region [⟨(some 62), none, .mov (.tmp 7)⟩,
               ⟨(some 63), none, .bin .sub (.one .int) (.tmp 62) (.const (.int .i64 1))⟩,
               ⟨(some 9), none, .mov (.tmp 63)⟩] [])
             (.block 4 (.seq (.keep [0, 1, 2, 7, 8, 9])
               (.loop b149_1))))
            (.skip)))
          (.seq (.region [⟨(some 95), none, .mov (.tmp 2)⟩,
             ⟨(some 96), none, .mov (.tmp 7)⟩,
             ⟨(some 97), none, .bin .sub (.one .int) (.tmp 95) (.tmp 96)⟩,
             ⟨(some 98), none, .bin .geq (.one .int) (.tmp 97) (.const (.int .i64 2))⟩] [])
           (.cond (.tmp 98) (.seq (.region [⟨(some 99), none, .mov (.tmp 7)⟩,
               ⟨(some 100), none, .bin .add (.one .int) (.tmp 99) (.const (.int .i64 1))⟩,
               ⟨(some 10), none, .mov (.tmp 100)⟩] [])
             (.block 6 (.seq (.keep [0, 1, 2, 7, 8, 10])
               (.loop b149_2))))
            (.skip)))))))))
    (.region [⟨(some 15), none, .mov (.tmp 8)⟩,
      ⟨(some 16), none, .bin .add (.one .int) (.tmp 15) (.const (.int .i64 1))⟩,
      ⟨(some 8), none, .mov (.tmp 16)⟩] [])))
  (.keep [0, 1, 2, 7, 8])
/-- slices.partialInsertionSortOrdered[string] -/
def x149 : XFunc := ⟨3, [.tmp 6],
  .seq (.region [⟨(some 6), none, .mov (.const (.bool false))⟩] [])
  (.seq (.region [⟨(some 11), none, .mov (.tmp 1)⟩,
     ⟨(some 12), none, .bin .add (.one .int) (.tmp 11) (.const (.int .i64 1))⟩,
     ⟨(some 7), none, .mov (.tmp 12)⟩] [])
   (.seq (.seq (.region [⟨(some 8), none, .mov (.const (.int .i64 0))⟩] [])
     (.block 0 (.seq (.keep [0, 1, 2, 7, 8])
       (.loop b149_3))))
    (.seq (.region [⟨(some 6), none, .mov (.const (.bool false))⟩] [])
     (.ret))))⟩
def b150_0 : XCode := .seq (.seq (.seq (.region [⟨(some 29), none, .mov (.tmp 9)⟩,
      ⟨(some 30), none, .mov (.tmp 10)⟩,
      ⟨(some 31), none, .bin .leq (.one .int) (.tmp 29) (.tmp 30)⟩,
      ⟨(some 32), none, .mov (.tmp 31)⟩,
      ⟨(some 33), (some (32, true)), .mov (.tmp 0)⟩,
      ⟨(some 34), (some (32, true)), .mov (.tmp 1)⟩,
      ⟨(some 35), (some (32, true)), .indexAddr 1 (.tmp 33) (.tmp 34)⟩,
      ⟨(some 36), (some (32, true)), .load none (.tmp 35)⟩,
      ⟨(some 37), (some (32, true)), .mov (.tmp 0)⟩,
      ⟨(some 38), (some (32, true)), .mov (.tmp 9)⟩,
      ⟨(some 39), (some (32, true)), .indexAddr 1 (.tmp 37) (.tmp 38)⟩,
      ⟨(some 40), (some (32, true)), .load none (.tmp 39)⟩,
      ⟨(some 41), (some (32, true)), .call (.const (.func (.func 104) [])) [(.tmp 36), (.tmp 40)]⟩,
      ⟨(some 42), (some (32, true)), .un .not (.tmp 41)⟩,
      ⟨(some 43), none, .pick (.tmp 32) (.tmp 42) (.const (.bool false))⟩] [])
    (.cond (.tmp 43) (.skip)
     (.exit 2)))
   (.block 3 (.region [⟨(some 44), none, .mov (.tmp 9)⟩,
      ⟨(some 45), none, .bin .add (.one .int) (.tmp 44) (.const (.int .i64 1))⟩,
      ⟨(some 9), none, .mov (.tmp 45)⟩] [])))
  (.keep [0, 1, 9, 10])
def b150_1 : XCode := .seq (.seq (.seq (.region [⟨(some 46), none, .mov (.tmp 9)⟩,
      ⟨(some 47), none, .mov (.tmp 10)⟩,
      ⟨(some 48), none, .bin .leq (.one .int) (.tmp 46) (.tmp 47)⟩,
      ⟨(some 49), none, .mov (.tmp 48)⟩,
      ⟨(some 50), (some (49, true)), .mov (.tmp 0)⟩,
      ⟨(some 51), (some (49, true)), .mov (.tmp 1)⟩,
      ⟨(some 52), (some (49, true)), .indexAddr 1 (.tmp 50) (.tmp 51)⟩,
      ⟨(some 53), (some (49, true)), .load none (.tmp 52)⟩,
      ⟨(some 54), (some (49, true)), .mov (.tmp 0)⟩,
      ⟨(some 55), (some (49, true)), .mov (.tmp 10)⟩,
      ⟨(some 56), (some (49, true)), .indexAddr 1 (.tmp 54) (.tmp 55)⟩,
      ⟨(some 57), (some (49, true)), .load none (.tmp 56)⟩,
      ⟨(some 58), (some (49, true)), .call (.const (.func (.func 104) [])) [(.tmp 53), (.tmp 57)]⟩,
      ⟨(some 59), none, .pick (.tmp 49) (.tmp 58) (.const (.bool false))⟩] [])
    (.cond (.tmp 59) (.skip)
     (.exit 4)))
   (.block 5 (.region [⟨(some 60), none, .mov (.tmp 10)⟩,
      ⟨(some 61), none, .bin .sub (.one .int) (.tmp 60) (.const (.int .i64 1))⟩,
      ⟨(some 10), none, .mov (.tmp 61)⟩] [])))
  (.keep [0, 1, 9, 10])
def b150_2 : XCode := .seq (.block 1 (.seq (.block 2 (.seq (.keep [0, 1, 9, 10])
      (.loop b150_0)))
    (.seq (.block 4 (.seq (.keep [0, 1, 9, 10])
       (.loop b150_1)))
     (.seq (.seq (.region [⟨(some 62), none, .mov (.tmp 9)⟩,
         ⟨(some 63), none, .mov (.tmp 10)⟩,
         ⟨(some 64), none, .bin .gtr (.one .int) (.tmp 62) (.tmp 63)⟩] [])
       (.cond (.tmp 64) (.exit 0)
        (.skip)))
      (.seq (.region [⟨(some 65), none, .mov (.tmp 0)⟩,
         ⟨(some 66), none, .mov (.tmp 9)⟩,
         ⟨(some 67), none, .mov (.tmp 0)⟩,
         ⟨(some 68), none, .mov (.tmp 10)⟩,
         ⟨(some 69), none, .mov (.tmp 0)⟩,
         ⟨(some 70), none, .mov (.tmp 10)⟩,
         ⟨(some 71), none, .indexAddr 1 (.tmp 69) (.tmp 70)⟩,
         ⟨(some 72), none, .load none (.tmp 71)⟩,
         ⟨(some 73), none, .mov (.tmp 0)⟩,
         ⟨(some 74), none, .mov (.tmp 9)⟩,
         ⟨(some 75), none, .indexAddr 1 (.tmp 73) (.tmp 74)⟩,
         ⟨(some 76), none, .load none (.tmp 75)⟩,
         ⟨(some 77), none, .indexAddr 1 (.tmp 65) (.tmp 66)⟩,
         ⟨none, none, .store 1 (.tmp 77) (.tmp 72)⟩,
         ⟨(some 78), none, .indexAddr 1 (.tmp 67) (.tmp 68)⟩,
         ⟨none, none, .store 1 (.tmp 78) (.tmp 76)⟩] [])
       (.seq (.region [⟨(some 79), none, .mov (.tmp 9)⟩,
          ⟨(some 80), none, .bin .add (.one .int) (.tmp 79) (.const (.int .i64 1))⟩,
          ⟨(some 9), none, .mov (.tmp 80)⟩] [])
        (.region [⟨(some 81), none, .mov (.tmp 10)⟩,
          ⟨(some 82), none, .bin .sub (.one .int) (.tmp 81) (.const (.int .i64 1))⟩,
          ⟨(some 10), none, .mov (.tmp 82)⟩] [])))))))
  (.keep [0, 1, 9, 10])
/-- slices.partitionEqualOrdered[string] -/
def x150 : XFunc := ⟨4, [.tmp 8],
  .seq (.region [⟨(some 8), none, .mov (.const (.int .i64 0))⟩] [])
  (.seq (.region [⟨(some 11), none, .mov (.tmp 0)⟩,
     ⟨(some 12), none, .mov (.tmp 1)⟩,
     ⟨(some 13), none, .mov (.tmp 0)⟩,
     ⟨(some 14), none, .mov (.tmp 3)⟩,
     ⟨(some 15), none, .mov (.tmp 0)⟩,
     ⟨(some 16), none, .mov (.tmp 3)⟩,
     ⟨(some 17), none, .indexAddr 1 (.tmp 15) (.tmp 16)⟩,
     ⟨(some 18), none, .load none (.tmp 17)⟩,
     ⟨(some 19), none, .mov (.tmp 0)⟩,
     ⟨(some 20), none, .mov (.tmp 1)⟩,
     ⟨(some 21), none, .indexAddr 1 (.tmp 19) (.tmp 20)⟩,
     ⟨(some 22), none, .load none (.tmp 21)⟩,
     ⟨(some 23), none, .indexAddr 1 (.tmp 11) (.tmp 12)⟩,
     ⟨none, none, .store 1 (.tmp 23) (.tmp 18)⟩,
     ⟨(some 24), none, .indexAddr 1 (.tmp 13) (.tmp 14)⟩,
     ⟨none, none, .store 1 (.tmp 24) (.tmp 22)⟩] [])
   (.seq (.region [⟨(some 25), none, .mov (.tmp 1)⟩,
      ⟨(some 26), none, .bin .add (.one .int) (.tmp 25) (.const (.int .i64 1))⟩,
      ⟨(some 27), none, .mov (.tmp 2)⟩,
      ⟨(some 28), none, .bin .sub (.one .int) (.tmp 27) (.const (.int .i64 1))⟩,
      ⟨(some 9), none, .mov (.tmp 26)⟩,
      ⟨(some 10), none, .mov (.tmp 28)⟩] [])
    (.seq (.block 0 (.seq (.keep [0, 1, 9, 10])
       (.loop b150_2)))
     (.seq (.region [⟨(some 83), none, .mov (.tmp 9)⟩,
        ⟨(some 8), none, .mov (.tmp 83)⟩] [])
      (.ret)))))⟩
def b151_0 : XCode := .seq (.seq (.seq (.region [⟨(some 30), none, .mov (.tmp 10)⟩,
      ⟨(some 31), none, .mov (.tmp 11)⟩,
      ⟨(some 32), none, .bin .leq (.one .int) (.tmp 30) (.tmp 31)⟩,
      ⟨(some 33), none, .mov (.tmp 32)⟩,
      ⟨(some 34), (some (33, true)), .mov (.tmp 0)⟩,
      ⟨(some 35), (some (33, true)), .mov (.tmp 10)⟩,
      ⟨(some 36), (some (33, true)), .indexAddr 1 (.tmp 34) (.tmp 35)⟩,
      ⟨(some 37), (some (33, true)), .load none (.tmp 36)⟩,
      ⟨(some 38), (some (33, true)), .mov (.tmp 0)⟩,
      ⟨(some 39), (some (33, true)), .mov (.tmp 1)⟩,
      ⟨(some 40), (some (33, true)), .indexAddr 1 (.tmp 38) (.tmp 39)⟩,
      ⟨(some 41), (some (33, true)), .load none (.tmp 40)⟩,
      ⟨(some 42), (some (33, true)), .call (.const (.func (.func 104) [])) [(.tmp 37), (.tmp 41)]⟩,
      ⟨(some 43), none, .pick (.tmp 33) (.tmp 42) (.const (.bool false))⟩] [])
    (.cond (.tmp 43) (.skip)
     (.exit 0)))
   (.block 1 (.region [⟨(some 44), none, .mov (.tmp 10)⟩,
      ⟨(some 45), none, .bin .add (.one .int) (.tmp 44) (.const (.int .i64 1))⟩,
      ⟨(some 10), none, .mov (.tmp 45)⟩] [])))
  (.keep [0, 1, 10, 11])
def b151_1 : XCode := .seq (.seq (.seq (.region [⟨(some 46), none, .mov (.tmp 10)⟩,
      ⟨(some 47), none, .mov (.tmp 11)⟩,
      ⟨(some 48), none, .bin .leq (.one .int) (.tmp 46) (.tmp 47)⟩,
      ⟨(some 49), none, .mov (.tmp 48)⟩,
      ⟨(some 50), (some (49, true)), .mov (.tmp 0)⟩,
      ⟨(some 51), (some (49, true)), .mov (.tmp 11)⟩,
      ⟨(some 52), (some (49, true)), .indexAddr 1 (.tmp 50) (.tmp 51)⟩,
      ⟨(some 53), (some (49, true)), .load none (.tmp 52)⟩,
      ⟨(some 54), (some (49, true)), .mov (.tmp 0)⟩,
      ⟨(some 55), (some (49, true)), .mov (.tmp 1)⟩,
      ⟨(some 56), (some (49, true)), .indexAddr 1 (.tmp 54) (.tmp 55)⟩,
      ⟨(some 57), (some (49, true)), .load none (.tmp 56)⟩,
      ⟨(some 58), (some (49, true)), .call (.const (.func (.func 104) [])) [(.tmp 53), (.tmp 57)]⟩,
      ⟨(some 59), (some (49, true)), .un .not (.tmp 58)⟩,
      ⟨(some 60), none, .pick (.tmp 49) (.tmp 59) (.const (.bool false))⟩] [])
    (.cond (.tmp 60) (.skip)
     (.exit 2)))
   (.block 3 (.region [⟨(some 61), none, .mov (.tmp 11)⟩,
      ⟨(some 62), none, .bin .sub (.one .int) (.tmp 61) (.const (.int .i64 1))⟩,
      ⟨(some 11), none, .mov (.tmp 62)⟩] [])))
  (.keep [0, 1, 10, 11])
def b151_2 : XCode := .seq (.seq (.seq (.region [⟨(some 99), none, .mov (.tmp 10)⟩,
      ⟨(some 100), none, .mov (.tmp 11)⟩,
      ⟨(some 101), none, .bin .leq (.one .int) (.tmp 99) (.tmp 100)⟩,
      ⟨(some 102), none, .mov (.tmp 101)⟩,
      ⟨(some 103), (some (102, true)), .mov (.tmp 0)⟩,
      ⟨(some 104), (some (102, true)), .mov (.tmp 10)⟩,
      ⟨(some 105), (some (102, true)), .indexAddr 1 (.tmp 103) (.tmp 104)⟩,
      ⟨(some 106), (some (102, true)), .load none (.tmp 105)⟩,
      ⟨(some 107), (some (102, true)), .mov (.tmp 0)⟩,
      ⟨(some 108), (some (102, true)), .mov (.tmp 1)⟩,
      ⟨(some 109), (some (102, true)), .indexAddr 1 (.tmp 107) (.tmp 108)⟩,
      ⟨(some 110), (some (102, true)), .load none (.tmp 109)⟩,
      ⟨(some 111), (some (102, true)), .call (.const (.func (.func 104) [])) [(.tmp 106), (.tmp 110)]⟩,
      ⟨(some 112), none, .pick (.tmp 102) (.tmp 111) (.const (.bool false))⟩] [])
    (.cond (.tmp 112) (.skip)
     (.exit 6)))
   (.block 7 (.region [⟨(some 113), none, .mov (.tmp 10)⟩,
      ⟨(some 114), none, .bin .add (.one .int) (.tmp 113) (.const (.int .i64 1))⟩,
      ⟨(some 10), none, .mov (.tmp 114)⟩] [])))
  (.keep [0, 1, 10, 11])
def b151_3 : XCode := .seq (.seq (.seq (.region [⟨(some 115), none, .mov (.tmp 10)⟩,
      ⟨(some 116), none, .mov (.tmp 11)⟩,
      ⟨(some 117), none, .bin .leq (.one .int) (.tmp 115) (.tmp 116)⟩,
      ⟨(some 118), none, .mov (.tmp 117)⟩,
      ⟨(some 119), (some (118, true)), .mov (.tmp 0)⟩,
      ⟨(some 120), (some (118, true)), .mov (.tmp 11)⟩,
      ⟨(some 121), (some (118, true)), .indexAddr 1 (.tmp 119) (.tmp 120)⟩,
      ⟨(some 122), (some (118, true)), .load none (.tmp 121)⟩,
      ⟨(some 123), (some (118, true)), .mov (.tmp 0)⟩,
      ⟨(some 124), (some (118, true)), .mov (.tmp 1)⟩,
      ⟨(some 125), (some (118, true)), .indexAddr 1 (.tmp 123) (.tmp 124)⟩,
      ⟨(some 126), (some (118, true)), .load none (.tmp 125)⟩,
      ⟨(some 127), (some (118, true)), .call (.const (.func (.func 104) [])) [(.tmp 122), (.tmp 126)]⟩,
      ⟨(some 128), (some (118, true)), .un .not (.tmp 127)⟩,
      ⟨(some 129), none, .pick (.tmp 118) (.tmp 128) (.const (.bool false))⟩] [])
    (.cond (.tmp 129) (.skip)
     (.exit 8)))
   (.block 9 (.region [⟨(some 130), none, .mov (.tmp 11)⟩,
      ⟨(some 131), none, .bin .sub (.one .int) (.tmp 130) (.const (.int .i64 1))⟩,
      ⟨(some 11), none, .mov (.tmp 131)⟩] [])))
  (.keep [0, 1, 10, 11])
def b151_4 : XCode := .seq (.block 5 (.seq (.block 6 (.seq (.keep [0, 1, 10, 11])
      (.loop b151_2)))
    (.seq (.block 8 (.seq (.keep [0, 1, 10, 11])
       (.loop b151_3)))
     (.seq (.seq (.region [⟨(some 132), none, .mov (.tmp 10)⟩,
         ⟨(some 133), none, .mov (.tmp 11)⟩,
         ⟨(some 134), none, .bin .gtr (.one .int) (.tmp 132) (.tmp 133)⟩] [])
       (.cond (.tmp 134) (.exit 4)
        (.skip)))
      (.seq (.region [⟨(some 135), none, .mov (.tmp 0)⟩,
         ⟨(some 136), none, .mov (.tmp 10)⟩,
         ⟨(some 137), none, .mov (.tmp 0)⟩,
         ⟨(some 138), none, .mov (.tmp 11)⟩,
         ⟨(some 139), none, .mov (.tmp 0)⟩,
         ⟨(some 140), none, .mov (.tmp 11)⟩,
         ⟨(some 141), none, .indexAddr 1 (.tmp 139) (.tmp 140)⟩,
         ⟨(some 142), none, .load none (.tmp 141)⟩,
         ⟨(some 143), none, .mov (.tmp 0)⟩,
         ⟨(some 144), none, .mov (.tmp 10)⟩,
         ⟨(some 145), none, .indexAddr 1 (.tmp 143) (.tmp 144)⟩,
         ⟨(some 146), none, .load none (.tmp 145)⟩,
         ⟨(some 147), none, .indexAddr 1 (.tmp 135) (.tmp 136)⟩,
         ⟨none, none, .store 1 (.tmp 147) (.tmp 142)⟩,
         ⟨(some 148), none, .indexAddr 1 (.tmp 137) (.tmp 138)⟩,
         ⟨none, none, .store 1 (.tmp 148) (.tmp 146)⟩] [])
       (.seq (.region [⟨(some 149), none, .mov (.tmp 10)⟩,
          ⟨(some 150), none, .bin .add (.one .int) (.tmp 149) (.const (.int .i64 1))⟩,
          ⟨(some 10), none, .mov (.tmp 150)⟩] [])
        (.region [⟨(some 151), none, .mov (.tmp 11)⟩,
          ⟨(some 152), none, .bin .sub (.one .int) (.tmp 151) (.const (.int .i64 1))⟩,
          ⟨(some 11), none, .mov (.tmp 152)⟩] [])))))))
  (.keep [0, 1, 10, 11])
/-- slices.partitionOrdered[string] -/
def x151 : XFunc := ⟨4, [.tmp 8, .tmp 9],
  .seq (.region [⟨(some 8), none, .mov (.const (.int .i64 0))⟩,
    ⟨(some 9), none, .mov (.const (.bool false))⟩] [])
  (.seq (.region [⟨(some 12), none, .mov (.tmp 0)⟩,
     ⟨(some 13), none, .mov (.tmp 1)⟩,
     ⟨(some 14), none, .mov (.tmp 0)⟩,
     ⟨(some 15), none, .mov (.tmp 3)⟩,
     ⟨(some 16), none, .mov (.tmp 0)⟩,
     ⟨(some 17), none, .mov (.tmp 3)⟩,
     ⟨(some 18), none, .indexAddr 1 (.tmp 16) (.tmp 17)⟩,
     ⟨(some 19), none, .load none (.tmp 18)⟩,
     ⟨(some 20), none, .mov (.tmp 0)⟩,
     ⟨(some 21), none, .mov (.tmp 1)⟩,
     ⟨(some 22), none, .indexAddr 1 (.tmp 20) (.tmp 21)⟩,
     ⟨(some 23), none, .load none (.tmp 22)⟩,
     ⟨(some 24), none, .indexAddr 1 (.tmp 12) (.tmp 13)⟩,
     ⟨none, none, .store 1 (.tmp 24) (.tmp 19)⟩,
     ⟨(some 25), none, .indexAddr 1 (.tmp 14) (.tmp 15)⟩,
     ⟨none, none, .store 1 (.tmp 25) (.tmp 23)⟩] [])
   (.seq (.region [⟨(some 26), none, .mov (.tmp 1)⟩,
      ⟨(some 27), none, .bin .add (.one .int) (.tmp 26) (.const (.int .i64 1))⟩,
      ⟨(some 28), none, .mov (.tmp 2)⟩,
      ⟨(some 29), none, .bin .sub (.one .int) (.tmp 28) (.const (.int .i64 1))⟩,
      ⟨(some 10), none, .mov (.tmp 27)⟩,
      ⟨(some 11), none, .mov (.tmp 29)⟩] [])
    (.seq (.block 0 (.seq (.keep [0, 1, 10, 11])
       (.loop b151_0)))
     (.seq (.block 2 (.seq (.keep [0, 1, 10, 11])
        (.loop b151_1)))
      (.seq (.seq (.region [⟨(some 63), none, .mov (.tmp 10)⟩,
          ⟨(some 64), none, .mov (.tmp 11)⟩,
          ⟨(some 65), none, .bin .gtr (.one .int) (.tmp 63) (.tmp 64)⟩] [])
        (.cond (.tmp 65) (.seq (.region [⟨(some 66), none, .mov (.tmp 0)⟩,
            ⟨(some 67), none, .mov (.tmp 11)⟩,
            ⟨(some 68), none, .mov (.tmp 0)⟩,
            ⟨(some 69), none, .mov (.tmp 1)⟩,
            ⟨(some 70), none, .mov (.tmp 0)⟩,
            ⟨(some 71), none, .mov (.tmp 1)⟩,
            ⟨(some 72), none, .indexAddr 1 (.tmp 70) (.tmp 71)⟩,
            ⟨(some 73), none, .load none (.tmp 72)⟩,
            ⟨(some 74), none, .mov (.tmp 0)⟩,
            ⟨(some 75), none, .mov (.tmp 11)⟩,
            ⟨(some 76), none, .indexAddr 1 (.tmp 74) (.tmp 75)⟩,
            ⟨(some 77), none, .load none (.tmp 76)⟩,
            ⟨(some 78), none, .indexAddr 1 (.tmp 66) (.tmp 67)⟩,
            ⟨none, none, .store 1 (.tmp 78) (.tmp 73)⟩,
            ⟨(some 79), none, .indexAddr 1 (.tmp 68) (.tmp 69)⟩,
            ⟨none, none, .store 1 (.tmp 79) (.tmp 77)⟩] [])
          (.seq (.region [⟨(some 80), none, .mov (.tmp 11)⟩,
             ⟨(some 8), none, .mov (.tmp 80)⟩,
             ⟨(some 9), none, .mov (.const (.bool true))⟩] [])
           (.ret)))
         (.skip)))
       (.seq (.region [⟨(some 81), none, .mov (.tmp 0)⟩,
          ⟨(some 82), none, .mov (.tmp 10)⟩,
          ⟨(some 83), none, .mov (.tmp 0)⟩,
          ⟨(some 84), none, .mov (.tmp 11)⟩,
          ⟨(some 85), none, .mov (.tmp 0)⟩,
          ⟨(some 86), none, .mov (.tmp 11)⟩,
          ⟨(some 87), none, .indexAddr 1 (.tmp 85) (.tmp 86)⟩,
          ⟨(some 88), none, .load none (.tmp 87)⟩,
          ⟨(some 89), none, .mov (.tmp 0)⟩,
          ⟨(some 90), none, .mov (.tmp 10)⟩,
          ⟨(some 91), none, .indexAddr 1 (.tmp 89) (.tmp 90)⟩,
          ⟨(some 92), none, .load none (.tmp 91)⟩,
          ⟨(some 93), none, .indexAddr 1 (.tmp 81) (.tmp 82)⟩,
          ⟨none, none, .store 1 (.tmp 93) (.tmp 88)⟩,
          ⟨(some 94), none, .indexAddr 1 (.tmp 83) (.tmp 84)⟩,
          ⟨none, none, .store 1 (.tmp 94) (.tmp 92)⟩] [])
        (.seq (.region [⟨(some 95), none, .mov (.tmp 10)⟩,
           ⟨(some 96), none, .bin .add (.one .int) (.tmp 95) (.const (.int .i64 1))⟩,
           ⟨(some 10), none, .mov (.tmp 96)⟩] [])
         (.seq (.region [⟨(some 97), none, .mov (.tmp 11)⟩,
            ⟨(some 98), none, .bin .sub (.one .int) (.tmp 97) (.const (.int .i64 1))⟩,
            ⟨(some 11), none, .mov (.tmp 98)⟩] [])
          (.seq (.block 4 (.seq (.keep [0, 1, 10, 11])
             (.loop b151_4)))
           (.seq (.region [⟨(some 153), none, .mov (.tmp 0)⟩,
              ⟨(some 154), none, .mov (.tmp 11)⟩,
              ⟨(some 155), none, .mov (.tmp 0)⟩,
              ⟨(some 156), none, .mov (.tmp 1)⟩,
              ⟨(some 157), none, .mov (.tmp 0)⟩,
              ⟨(some 158), none, .mov (.tmp 1)⟩,
              ⟨(some 159), none, .indexAddr 1 (.tmp 157) (.tmp 158)⟩,
              ⟨(some 160), none, .load none (.tmp 159)⟩,
              ⟨(some 161), none, .mov (.tmp 0)⟩,
              ⟨(some 162), none, .mov (.tmp 11)⟩,
              ⟨(some 163), none, .indexAddr 1 (.tmp 161) (.tmp 162)⟩,
              ⟨(some 164), none, .load none (.tmp 163)⟩,
              ⟨(some 165), none, .indexAddr 1 (.tmp 153) (.tmp 154)⟩,
              ⟨none, none, .store 1 (.tmp 165) (.tmp 160)⟩,
              ⟨(some 166), none, .indexAddr 1 (.tmp 155) (.tmp 156)⟩,
              ⟨none, none, .store 1 (.tmp 166) (.tmp 164)⟩] [])
            (.seq (.region [⟨(some 167), none, .mov (.tmp 11)⟩,
               ⟨(some 8), none, .mov (.tmp 167)⟩,
               ⟨(some 9), none, .mov (.const (.bool false))⟩] [])
             (.ret))))))))))))⟩
/-- internal/strconv.log10Pow2 -/
def x152 : XFunc := ⟨1, [.tmp 2],
  .seq (.region [⟨(some 2), none, .mov (.const (.int .i64 0))⟩] [])
  (.seq (.region [⟨(some 3), none, .mov (.tmp 0)⟩,
     ⟨(some 4), none, .bin .mul (.one .int) (.tmp 3) (.const (.int .i64 78913))⟩,
     ⟨(some 5), none, .bin .shr (.one .int) (.tmp 4) (.const (.int .u64 18))⟩,
     ⟨(some 2), none, .mov (.tmp 5)⟩] [])
   (.ret))⟩
/-- internal/strconv.bool2[int] -/
def x153 : XFunc := ⟨1, [.tmp 2],
  .seq (.region [⟨(some 2), none, .mov (.const (.int .i64 0))⟩] [])
  (.seq (.seq (.region [⟨(some 3), none, .mov (.tmp 0)⟩] [])
    (.cond (.tmp 3) (.seq (.region [⟨(some 2), none, .mov (.const (.int .i64 1))⟩] [])
      (.ret))
     (.skip)))
   (.seq (.region [⟨(some 2), none, .mov (.const (.int .i64 0))⟩] [])
    (.ret)))⟩
/-- internal/strconv.isPowerOfTwo -/
def x154 : XFunc := ⟨1, [.tmp 2],
  .seq (.region [⟨(some 2), none, .mov (.const (.bool false))⟩] [])
  (.seq (.region [⟨(some 3), none, .mov (.tmp 0)⟩,
     ⟨(some 4), none, .mov (.tmp 0)⟩,
     ⟨(some 5), none, .bin .sub (.one .int) (.tmp 4) (.const (.int .i64 1))⟩,
     ⟨(some 6), none, .bin .and (.one .int) (.tmp 3) (.tmp 5)⟩,
     ⟨(some 7), none, .bin .eql (.one .int) (.tmp 6) (.const (.int .i64 0))⟩,
     ⟨(some 2), none, .mov (.tmp 7)⟩] [])
   (.ret))⟩
/-- math/bits.TrailingZeros -/
def x155 : XFunc := ⟨1, [.tmp 2],
  .seq (.region [⟨(some 2), none, .mov (.const (.int .i64 0))⟩] [])
  (.seq (.cond (.const (.bool false)) (.seq (.region [⟨(some 3), none, .mov (.tmp 0)⟩,
       ⟨(some 4), none, .convInt .u32 (.tmp 3)⟩,
       ⟨(some 5), none, .call (.const (.func (.func 159) [])) [(.tmp 4)]⟩,
       ⟨(some 2), none, .mov (.tmp 5)⟩] [])
     (.ret))
    (.skip))
   (.seq (.region [⟨(some 6), none, .mov (.tmp 0)⟩,
      ⟨(some 7), none, .call (.const (.func (.func 160) [])) [(.tmp 6)]⟩,
      ⟨(some 2), none, .mov (.tmp 7)⟩] [])
    (.ret)))⟩
def b156_0 : XCode := .seq (.block 1 (.seq (.region [⟨(some 11), none, .mov (.tmp 8)⟩,
      ⟨(some 12), none, .bin .mul (.one .int) (.const (.int .i64 2)) (.tmp 11)⟩,
      ⟨(some 13), none, .bin .add (.one .int) (.tmp 12) (.const (.int .i64 1))⟩,
      ⟨(some 9), none, .mov (.tmp 13)⟩] [])
    (.seq (.seq (.region [⟨(some 14), none, .mov (.tmp 9)⟩,
        ⟨(some 15), none, .mov (.tmp 2)⟩,
        ⟨(some 16), none, .bin .geq (.one .int) (.tmp 14) (.tmp 15)⟩] [])
      (.cond (.tmp 16) (.exit 0)
       (.skip)))
     (.seq (.seq (.region [⟨(some 17), none, .mov (.tmp 9)⟩,
         ⟨(some 18), none, .bin .add (.one .int) (.tmp 17) (.const (.int .i64 1))⟩,
         ⟨(some 19), none, .mov (.tmp 2)⟩,
         ⟨(some 20), none, .bin .lss (.one .int) (.tmp 18) (.tmp 19)⟩,
         ⟨(some 21), none, .mov (.tmp 20)⟩,
         ⟨(some 22), (some (21, true)), .mov (.tmp 0)⟩,
         ⟨(some 23), (some (21, true)), .mov (.tmp 3)⟩,
         ⟨(some 24), (some (21, true)), .mov (.tmp 9)⟩,
         ⟨(some 25), (some (21, true)), .bin .add (.one .int) (.tmp 23) (.tmp 24)⟩,
         ⟨(some 26), (some (21, true)), .indexAddr 1 (.tmp 22) (.tmp 25)⟩,
         ⟨(some 27), (some (21, true)), .load none (.tmp 26)⟩,
         ⟨(some 28), (some (21, true)), .mov (.tmp 0)⟩,
         ⟨(some 29), (some (21, true)), .mov (.tmp 3)⟩,
         ⟨(some 30), (some (21, true)), .mov (.tmp 9)⟩,
         ⟨(some 31), (some (21, true)), .bin .add (.one .int) (.tmp 29) (.tmp 30)⟩,
         ⟨(some 32), (some (21, true)), .bin .add (.one .int) (.tmp 31) (.const (.int .i64 1))⟩,
         ⟨(some 33), (some (21, true)), .indexAddr 1 (.tmp 28) (.tmp 32)⟩,
         ⟨(some 34), (some (21, true)), .load none (.tmp 33)⟩,
         ⟨(some 35), (some (21, true)), .call (.const (.func (.func 104) [])) [(.tmp 27), (.tmp 34)]⟩,
         ⟨(some 36), none, .pick (.tmp 21) (.tmp 35) (.const (.bool false))⟩] [])
       (.cond (.tmp 36) (.region [⟨(some 37), none, .mov (.tmp 9)⟩,
          ⟨(some 38), none, .bin .add (.one .int) (.tmp 37) (.const (.int .i64 1))⟩,
          ⟨(some 9), none, .mov (.tmp 38)⟩] [])
        (.skip)))
      (.seq (.seq (.region [⟨(some 39), none, .mov (.tmp 0)⟩,
          ⟨(some 40), none, .mov (.tmp 3)⟩,
          ⟨(some 41), none, .mov (.tmp 8)⟩,
          ⟨(some 42), none, .bin .add (.one .int) (.tmp 40) (.tmp 41)⟩,
          ⟨(some 43), none, .indexAddr 1 (.tmp 39) (.tmp 42)⟩,
          ⟨(some 44), none, .load none (.tmp 43)⟩,
          ⟨(some 45), none, .mov (.tmp 0)⟩,
          ⟨(some 46), none, .mov (.tmp 3)⟩,
          ⟨(some 47), none, .mov (.tmp 9)⟩,
          ⟨(some 48), none, .bin .add (.one .int) (.tmp 46) (.tmp 47)⟩,
          ⟨(some 49), none, .indexAddr 1 (.tmp 45) (.tmp 48)⟩,
          ⟨(some 50), none, .load none (.tmp 49)⟩,
          ⟨(some 51), none, .call (.const (.func (.func 104) [])) [(.tmp 44), (.tmp 50)]⟩,
          ⟨(some 52), none, .un .not (.tmp 51)⟩] [])
        (.cond (.tmp 52) (.ret)
         (.skip)))
       (.seq (.region [⟨(some 53), none, .mov (.tmp 0)⟩,
          ⟨(some 54), none, .mov (.tmp 3)⟩,
          ⟨(some 55), none, .mov (.tmp 8)⟩,
          ⟨(some 56), none, .bin .add (.one .int) (.tmp 54) (.tmp 55)⟩,
          ⟨(some 57), none, .mov (.tmp 0)⟩,
          ⟨(some 58), none, .mov (.tmp 3)⟩,
          ⟨(some 59), none, .mov (.tmp 9)⟩,
          ⟨(some 60), none, .bin .add (.one .int) (.tmp 58) (.tmp 59)⟩,
          ⟨(some 61), none, .mov (.tmp 0)⟩,
          ⟨(some 62), none, .mov (.tmp 3)⟩,
          ⟨(some 63), none, .mov (.tmp 9)⟩,
          ⟨(some 64), none, .bin .add (.one .int) (.tmp 62) (.tmp 63)⟩,
          ⟨(some 65), none, .indexAddr 1 (.tmp 61) (.tmp 64)⟩,
          ⟨(some 66), none, .load none (.tmp 65)⟩,
          ⟨(some 67), none, .mov (.tmp 0)⟩,
          ⟨(some 68), none, .mov (.tmp 3)⟩,
          ⟨(some 69), none, .mov (.tmp 8)⟩,
          ⟨(some 70), none, .bin .add (.one .int) (.tmp 68) (.tmp 69)⟩,
          ⟨(some 71), none, .indexAddr 1 (.tmp 67) (.tmp 70)⟩,
          ⟨(some 72), none, .load none (.tmp 71)⟩,
          ⟨(some 73), none, .indexAddr 1 (.tmp 53) (.tmp 56)⟩,
          ⟨none, none, .store 1 (.tmp 73) (.tmp 66)⟩,
          ⟨(some 74), none, .indexAddr 1 (.tmp 57) (.tmp 60)⟩,
          ⟨none, none, .store 1 (.tmp 74) (.tmp 72)⟩] [])
        (.region [⟨(some 75), none, .mov (.tmp 9)⟩,
          ⟨(some 8), none, .mov (.tmp 75)⟩] [])))))))
  (.keep [0, 2, 3, 8])
/-- slices.siftDownOrdered[string] -/
def x156 : XFunc := ⟨4, [],
  .seq (.region [⟨(some 10), none, .mov (.tmp 1)⟩,
    ⟨(some 8), none, .mov (.tmp 10)⟩] [])
  (.block 0 (.seq (.keep [0, 2, 3, 8])
    (.loop b156_0)))⟩
/-- slices.medianAdjacentOrdered[string] -/
def x157 : XFunc := ⟨3, [.tmp 6],
  .seq (.region [⟨(some 6), none, .mov (.const (.int .i64 0))⟩] [])
  (.seq (.region [⟨(some 7), none, .mov (.tmp 0)⟩,
     ⟨(some 8), none, .mov (.tmp 1)⟩,
     ⟨(some 9), none, .bin .sub (.one .int) (.tmp 8) (.const (.int .i64 1))⟩,
     ⟨(some 10), none, .mov (.tmp 1)⟩,
     ⟨(some 11), none, .mov (.tmp 1)⟩,
     ⟨(some 12), none, .bin .add (.one .int) (.tmp 11) (.const (.int .i64 1))⟩,
     ⟨(some 13), none, .mov (.tmp 2)⟩,
     ⟨(some 14), none, .call (.const (.func (.func 158) [])) [(.tmp 7), (.tmp 9), (.tmp 10), (.tmp 12), (.tmp 13)]⟩,
     ⟨(some 6), none, .mov (.tmp 14)⟩] [])
   (.ret))⟩
/-- slices.medianOrdered[string] -/
def x158 : XFunc := ⟨5, [.tmp 10],
  .seq (.region [⟨(some 10), none, .mov (.const (.int .i64 0))⟩] [])
  (.seq (.region [⟨(some 12), none, .mov (.tmp 0)⟩,
     ⟨(some 13), none, .mov (.tmp 1)⟩,
     ⟨(some 14), none, .mov (.tmp 2)⟩,
     ⟨(some 15), none, .mov (.tmp 4)⟩,
     ⟨(some 16), none, .call (.const (.func (.func 161) [])) [(.tmp 12), (.tmp 13), (.tmp 14), (.tmp 15)]⟩,
     ⟨(some 11), none, .mov (.tmp 16)⟩,
     ⟨(some 17), none, .extract (.tmp 11) 0⟩,
     ⟨(some 18), none, .extract (.tmp 11) 1⟩,
     ⟨(some 1), none, .mov (.tmp 17)⟩,
     ⟨(some 2), none, .mov (.tmp 18)⟩] [])
   (.seq (.region [⟨(some 20), none, .mov (.tmp 0)⟩,
      ⟨(some 21), none, .mov (.tmp 2)⟩,
      ⟨(some 22), none, .mov (.tmp 3)⟩,
      ⟨(some 23), none, .mov (.tmp 4)⟩,
      ⟨(some 24), none, .call (.const (.func (.func 161) [])) [(.tmp 20), (.tmp 21), (.tmp 22), (.tmp 23)]⟩,
      ⟨(some 19), none, .mov (.tmp 24)⟩,
      ⟨(some 25), none, .extract (.tmp 19) 0⟩,
      ⟨(some 26), none, .extract (.tmp 19) 1⟩,
      ⟨(some 2), none, .mov (.tmp 25)⟩,
      ⟨(some 3), none, .mov (.tmp 26)⟩] [])
    (.seq (.region [⟨(some 28), none, .mov (.tmp 0)⟩,
       ⟨(some 29), none, .mov (.tmp 1)⟩,
       ⟨(some 30), none, .mov (.tmp 2)⟩,
       ⟨(some 31), none, .mov (.tmp 4)⟩,
       ⟨(some 32), none, .call (.const (.func (.func 161) [])) [(.tmp 28), (.tmp 29), (.tmp 30), (.tmp 31)]⟩,
       ⟨(some 27), none, .mov (.tmp 32)⟩,
       ⟨(some 33), none, .extract (.tmp 27) 0⟩,
       ⟨(some 34), none, .extract (.tmp 27) 1⟩,
       ⟨(some 1), none, .mov (.tmp 33)⟩,
       ⟨(some 2), none, .mov (.tmp 34)⟩] [])
     (.seq (.region [⟨(some 35), none, .mov (.tmp 2)⟩,
        ⟨(some 10), none, .mov (.tmp 35)⟩] [])
      (.ret)))))⟩
/-- math/bits.TrailingZeros32 -/
def x159 : XFunc := ⟨1, [.tmp 2],
  .seq (.region [⟨(some 2), none, .mov (.const (.int .i64 0))⟩] [])
  (.seq (.seq (.region [⟨(some 3), none, .mov (.tmp 0)⟩,
      ⟨(some 4), none, .bin .eql (.one .int) (.tmp 3) (.const (.int .u32 0))⟩] [])
    (.cond (.tmp 4) (.seq (.region [⟨(some 2), none, .mov (.const (.int .i64 32))⟩] [])
      (.ret))
     (.skip)))
   (.seq (.region [⟨(some 5), none, .mov (.tmp 0)⟩,
      ⟨(some 6), none, .mov (.tmp 0)⟩,
      ⟨(some 7), none, .un .neg (.tmp 6)⟩,
      ⟨(some 8), none, .bin .and (.one .int) (.tmp 5) (.tmp 7)⟩,
      ⟨(some 9), none, .bin .mul (.one .int) (.tmp 8) (.const (.int .u32 125613361))⟩,
      ⟨(some 10), none, .bin .shr (.one .int) (.tmp 9) (.const (.int .u64 27))⟩,
      ⟨(some 11), none, .fail⟩,
      ⟨(some 12), none, .load none (.tmp 11)⟩,
      ⟨(some 13), none, .convInt .i64 (.tmp 12)⟩,
      ⟨(some 2), none, .mov (.tmp 13)⟩] [])
    (.ret)))⟩
/-- math/bits.TrailingZeros64 -/
def x160 : XFunc := ⟨1, [.tmp 2],
  .seq (.region [⟨(some 2), none, .mov (.const (.int .i64 0))⟩] [])
  (.seq (.seq (.region [⟨(some 3), none, .mov (.tmp 0)⟩,
      ⟨(some 4), none, .bin .eql (.one .int) (.tmp 3) (.const (.int .u64 0))⟩] [])
    (.cond (.tmp 4) (.seq (.region [⟨(some 2), none, .mov (.const (.int .i64 64))⟩] [])
      (.ret))
     (.skip)))
   (.seq (.region [⟨(some 5), none, .mov (.tmp 0)⟩,
      ⟨(some 6), none, .mov (.tmp 0)⟩,
      ⟨(some 7), none, .un .neg (.tmp 6)⟩,
      ⟨(some 8), none, .bin .and (.one .int) (.tmp 5) (.tmp 7)⟩,
      ⟨(some 9), none, .bin .mul (.one .int) (.tmp 8) (.const (.int .u64 285870213051353865))⟩,
      ⟨(some 10), none, .bin .shr (.one .int) (.tmp 9) (.const (.int .u64 58))⟩,
      ⟨(some 11), none, .fail⟩,
      ⟨(some 12), none, .load none (.tmp 11)⟩,
      ⟨(some 13), none, .convInt .i64 (.tmp 12)⟩,
      ⟨(some 2), none, .mov (.tmp 13)⟩] [])
    (.ret)))⟩
/-- slices.order2Ordered[string] -/
def x161 : XFunc := ⟨4, [.tmp 8, .tmp 9],
  .seq (.region [⟨(some 8), none, .mov (.const (.int .i64 0))⟩,
    ⟨(some 9), none, .mov (.const (.int .i64 0))⟩] [])
  (.seq (.seq (.region [⟨(some 10), none, .mov (.tmp 0)⟩,
      ⟨(some 11), none, .mov (.tmp 2)⟩,
      ⟨(some 12), none, .indexAddr 1 (.tmp 10) (.tmp 11)⟩,
      ⟨(some 13), none, .load none (.tmp 12)⟩,
      ⟨(some 14), none, .mov (.tmp 0)⟩,
      ⟨(some 15), none, .mov (.tmp 1)⟩,
      ⟨(some 16), none, .indexAddr 1 (.tmp 14) (.tmp 15)⟩,
      ⟨(some 17), none, .load none (.tmp 16)⟩,
      ⟨(some 18), none, .call (.const (.func (.func 104) [])) [(.tmp 13), (.tmp 17)]⟩] [])
    (.cond (.tmp 18) (.seq (.region [⟨(some 19), none, .mov (.tmp 3)⟩,
        ⟨(some 20), none, .nilCheck (.tmp 19)⟩,
        ⟨(some 21), none, .load none (.tmp 20)⟩,
        ⟨(some 22), none, .bin .add (.one .int) (.tmp 21) (.const (.int .i64 1))⟩,
        ⟨(some 23), none, .nilCheck (.tmp 19)⟩,
        ⟨none, none, .store 1 (.tmp 23) (.tmp 22)⟩] [])
      (.seq (.region [⟨(some 24), none, .mov (.tmp 2)⟩,
         ⟨(some 25), none, .mov (.tmp 1)⟩,
         ⟨(some 8), none, .mov (.tmp 24)⟩,
         ⟨(some 9), none, .mov (.tmp 25)⟩] [])
       (.ret)))
     (.skip)))
   (.seq (.region [⟨(some 26), none, .mov (.tmp 1)⟩,
      ⟨(some 27), none, .mov (.tmp 2)⟩,
      ⟨(some 8), none, .mov (.tmp 26)⟩,
      ⟨(some 9), none, .mov (.tmp 27)⟩] [])
    (.ret)))⟩
def fnOf (f : Nat) : Option XFunc :=
  bif Nat.beq f 3 then some x3 else
  bif Nat.beq f 5 then some x5 else
  bif Nat.beq f 7 then some x7 else
  bif Nat.beq f 8 then some x8 else
  bif Nat.beq f 9 then some x9 else
  bif Nat.beq f 10 then some x10 else
  bif Nat.beq f 11 then some x11 else
  bif Nat.beq f 12 then some x12 else
  bif Nat.beq f 23 then some x23 else
  bif Nat.beq f 24 then some x24 else
  bif Nat.beq f 25 then some x25 else
  bif Nat.beq f 26 then some x26 else
  bif Nat.beq f 27 then some x27 else
  bif Nat.beq f 28 then some x28 else
  bif Nat.beq f 29 then some x29 else
  bif Nat.beq f 30 then some x30 else
  bif Nat.beq f 31 then some x31 else
  bif Nat.beq f 32 then some x32 else
  bif Nat.beq f 33 then some x33 else
  bif Nat.beq f 34 then some x34 else
  bif Nat.beq f 35 then some x35 else
  bif Nat.beq f 36 then some x36 else
  bif Nat.beq f 37 then some x37 else
  bif Nat.beq f 38 then some x38 else
  bif Nat.beq f 40 then some x40 else
  bif Nat.beq f 48 then some x48 else
  bif Nat.beq f 49 then some x49 else
  bif Nat.beq f 50 then some x50 else
  bif Nat.beq f 51 then some x51 else
  bif Nat.beq f 52 then some x52 else
  bif Nat.beq f 53 then some x53 else
  bif Nat.beq f 54 then some x54 else
  bif Nat.beq f 55 then some x55 else
  bif Nat.beq f 56 then some x56 else
  bif Nat.beq f 57 then some x57 else
  bif Nat.beq f 58 then some x58 else
  bif Nat.beq f 59 then some x59 else
  bif Nat.beq f 60 then some x60 else
  bif Nat.beq f 61 then some x61 else
  bif Nat.beq f 62 then some x62 else
  bif Nat.beq f 63 then some x63 else
  bif Nat.beq f 64 then some x64 else
  bif Nat.beq f 65 then some x65 else
  bif Nat.beq f 66 then some x66 else
  bif Nat.beq f 67 then some x67 else
  bif Nat.beq f 68 then some x68 else
  bif Nat.beq f 69 then some x69 else
  bif Nat.beq f 73 then some x73 else
  bif Nat.beq f 74 then some x74 else
  bif Nat.beq f 75 then some x75 else
  bif Nat.beq f 76 then some x76 else
  bif Nat.beq f 77 then some x77 else
  bif Nat.beq f 78 then some x78 else
  bif Nat.beq f 79 then some x79 else
  bif Nat.beq f 80 then some x80 else
  bif Nat.beq f 81 then some x81 else
  bif Nat.beq f 82 then some x82 else
  bif Nat.beq f 83 then some x83 else
  bif Nat.beq f 84 then some x84 else
  bif Nat.beq f 85 then some x85 else
  bif Nat.beq f 87 then some x87 else
  bif Nat.beq f 88 then some x88 else
  bif Nat.beq f 89 then some x89 else
  bif Nat.beq f 90 then some x90 else
  bif Nat.beq f 91 then some x91 else
  bif Nat.beq f 92 then some x92 else
  bif Nat.beq f 93 then some x93 else
  bif Nat.beq f 94 then some x94 else
  bif Nat.beq f 95 then some x95 else
  bif Nat.beq f 96 then some x96 else
  bif Nat.beq f 97 then some x97 else
  bif Nat.beq f 98 then some x98 else
  bif Nat.beq f 99 then some x99 else
  bif Nat.beq f 100 then some x100 else
  bif Nat.beq f 101 then some x101 else
  bif Nat.beq f 102 then some x102 else
  bif Nat.beq f 103 then some x103 else
  bif Nat.beq f 104 then some x104 else
  bif Nat.beq f 105 then some x105 else
  bif Nat.beq f 107 then some x107 else
  bif Nat.beq f 108 then some x108 else
  bif Nat.beq f 109 then some x109 else
  bif Nat.beq f 110 then some x110 else
  bif Nat.beq f 111 then some x111 else
  bif Nat.beq f 112 then some x112 else
  bif Nat.beq f 113 then some x113 else
  bif Nat.beq f 114 then some x114 else
  bif Nat.beq f 115 then some x115 else
  bif Nat.beq f 116 then some x116 else
  bif Nat.beq f 117 then some x117 else
  bif Nat.beq f 119 then some x119 else
  bif Nat.beq f 120 then some x120 else
  bif Nat.beq f 122 then some x122 else
  bif Nat.beq f 123 then some x123 else
  bif Nat.beq f 124 then some x124 else
  bif Nat.beq f 125 then some x125 else
  bif Nat.beq f 126 then some x126 else
  bif Nat.beq f 127 then some x127 else
  bif Nat.beq f 128 then some x128 else
  bif Nat.beq f 129 then some x129 else
  bif Nat.beq f 130 then some x130 else
  bif Nat.beq f 131 then some x131 else
  bif Nat.beq f 132 then some x132 else
  bif Nat.beq f 133 then some x133 else
  bif Nat.beq f 134 then some x134 else
  bif Nat.beq f 136 then some x136 else
  bif Nat.beq f 137 then some x137 else
  bif Nat.beq f 138 then some x138 else
  bif Nat.beq f 139 then some x139 else
  bif Nat.beq f 140 then some x140 else
  bif Nat.beq f 141 then some x141 else
  bif Nat.beq f 144 then some x144 else
  bif Nat.beq f 145 then some x145 else
  bif Nat.beq f 146 then some x146 else
  bif Nat.beq f 147 then some x147 else
  bif Nat.beq f 148 then some x148 else
  bif Nat.beq f 149 then some x149 else
  bif Nat.beq f 150 then some x150 else
  bif Nat.beq f 151 then some x151 else
  bif Nat.beq f 152 then some x152 else
  bif Nat.beq f 153 then some x153 else
  bif Nat.beq f 154 then some x154 else
  bif Nat.beq f 155 then some x155 else
  bif Nat.beq f 156 then some x156 else
  bif Nat.beq f 157 then some x157 else
  bif Nat.beq f 158 then some x158 else
  bif Nat.beq f 159 then some x159 else
  bif Nat.beq f 160 then some x160 else
  bif Nat.beq f 161 then some x161 else
  none
def modeOf (f : Nat) : Mode :=
  bif Nat.beq f 5 then .cut else
  bif Nat.beq f 6 then .pure else
  bif Nat.beq f 7 then .pure else
  bif Nat.beq f 8 then .pure else
  bif Nat.beq f 9 then .pure else
  bif Nat.beq f 10 then .pure else
  bif Nat.beq f 11 then .pure else
  bif Nat.beq f 12 then .pure else
  bif Nat.beq f 25 then .pure else
  bif Nat.beq f 26 then .pure else
  bif Nat.beq f 27 then .pure else
  bif Nat.beq f 28 then .pure else
  bif Nat.beq f 29 then .pure else
  bif Nat.beq f 31 then .pure else
  bif Nat.beq f 32 then .pure else
  bif Nat.beq f 33 then .pure else
  bif Nat.beq f 34 then .pure else
  bif Nat.beq f 50 then .pure else
  bif Nat.beq f 51 then .pure else
  bif Nat.beq f 53 then .pure else
  bif Nat.beq f 60 then .pure else
  bif Nat.beq f 61 then .pure else
  bif Nat.beq f 62 then .pure else
  bif Nat.beq f 63 then .pure else
  bif Nat.beq f 64 then .pure else
  bif Nat.beq f 73 then .fresh else
  bif Nat.beq f 75 then .pure else
  bif Nat.beq f 86 then .pure else
  bif Nat.beq f 89 then .pure else
  bif Nat.beq f 90 then .pure else
  bif Nat.beq f 92 then .pure else
  bif Nat.beq f 93 then .pure else
  bif Nat.beq f 100 then .pure else
  bif Nat.beq f 122 then .pure else
  .shared
def noG : Nat → Option AV := fun _ => none
def primOf (f : Nat) (vs : List AV) : Option AV :=
  bif Nat.beq f 86 then (match vs with | [.str a, .str b] => some (.int .i64 (Go.Extern.BytealgCompare.cmp ⟨a.toArray⟩ ⟨b.toArray⟩)) | _ => none) else none
def prog : Prog := ⟨fnOf, modeOf, primOf⟩
end X
end Go.Proofs.YtkaigfcjejabfaaGreatDoor
