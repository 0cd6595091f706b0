/- The engine's functions that jitney/jitkeep2.StableIsStable reaches. No condition. MADE BY PROGRAM (xgen). -/
import Derived.Test.YtkaigfcjejabfaaGreatDoorXF
import Derived.Test.YtkaigfcjejabfaaGreatDoorProg
set_option maxRecDepth 100000
namespace Go.Proofs.YtkaigfcjejabfaaGreatDoor
open Go
namespace X
def b3_0 : XCode := .seq (.seq (.region [⟨(some 70), none, .bin .lss (.one .int) (.tmp 69) (.tmp 68)⟩] [])
   (.seq (.cond (.tmp 70) (.skip)
     (.exit 0))
    (.seq (.block 1 (.seq (.region [⟨(some 71), none, .indexAddr 2 (.tmp 67) (.tmp 69)⟩,
         ⟨(some 72), none, .load (some 2) (.tmp 71)⟩,
         ⟨(some 15), none, .box 2 (.const (.agg [(.str []), (.str [])]))⟩,
         ⟨none, none, .store 2 (.tmp 15) (.tmp 72)⟩] [])
       (.seq (.region [⟨(some 73), none, .mov (.tmp 12)⟩,
          ⟨(some 74), none, .mkFunc (.func 10) [(.tmp 15)]⟩,
          ⟨(some 75), none, .call (.const (.func (.func 9) [])) [(.tmp 73), (.tmp 74)]⟩,
          ⟨(some 76), none, .un .not (.tmp 75)⟩,
          ⟨(some 77), none, .mov (.tmp 76)⟩,
          ⟨(some 78), (some (77, false)), .mov (.tmp 12)⟩,
          ⟨(some 79), (some (77, false)), .mkFunc (.func 11) [(.tmp 15)]⟩,
          ⟨(some 80), (some (77, false)), .call (.const (.func (.func 9) [])) [(.tmp 78), (.tmp 79)]⟩,
          ⟨(some 81), (some (77, false)), .un .not (.tmp 80)⟩,
          ⟨(some 82), none, .pick (.tmp 77) (.const (.bool true)) (.tmp 81)⟩] [])
        (.cond (.tmp 82) (.seq (.region [⟨(some 2), none, .mov (.const (.bool false))⟩] [])
          (.ret))
         (.skip)))))
     (.region [⟨(some 83), none, .bin .add (.one .int) (.tmp 69) (.const (.int .i64 1))⟩,
       ⟨(some 69), none, .mov (.tmp 83)⟩] []))))
  (.keep [12, 67, 68, 69])
/-- jitney/jitkeep2.StableIsStable -/
def x3 : XFunc := ⟨1, [.tmp 2],
  .seq (.region [⟨(some 2), none, .mov (.const (.bool false))⟩] [])
  (.seq (.region [⟨(some 16), none, .mov (.tmp 0)⟩,
     ⟨(some 17), none, .build [.nilslice, (.int .i64 0)] [(0, 1, (.tmp 16))]⟩,
     ⟨(some 18), none, .box 2 (.tmp 17)⟩,
     ⟨(some 3), none, .mov (.tmp 18)⟩] [])
   (.seq (.region [⟨(some 19), none, .lit 1 [(.str []), (.str []), (.str [])] [(0, (.const (.str [99, 97]))), (1, (.const (.str [99, 98]))), (2, (.const (.str [99, 99])))] false⟩,
      ⟨(some 20), none, .lit 1 [(.str []), (.str []), (.str [])] [(0, (.const (.str [114, 97]))), (1, (.const (.str [114, 98]))), (2, (.const (.str [114, 99])))] false⟩,
      ⟨(some 4), none, .mov (.tmp 19)⟩,
      ⟨(some 5), none, .mov (.tmp 20)⟩] [])
    (.seq (.region [⟨(some 21), none, .mov (.tmp 3)⟩,
       ⟨(some 22), none, .mov (.tmp 4)⟩,
       ⟨(some 23), none, .mov (.tmp 5)⟩,
       ⟨(some 24), none, .call (.const (.func (.func 5) [])) [(.tmp 21), (.tmp 22), (.tmp 23)]⟩,
       ⟨(some 25), none, .mov (.tmp 3)⟩,
       ⟨(some 26), none, .mov (.tmp 5)⟩,
       ⟨(some 27), none, .mov (.tmp 4)⟩,
       ⟨(some 28), none, .call (.const (.func (.func 5) [])) [(.tmp 25), (.tmp 26), (.tmp 27)]⟩,
       ⟨(some 6), none, .mov (.tmp 24)⟩,
       ⟨(some 7), none, .mov (.tmp 28)⟩] [])
     (.seq (.region [⟨(some 30), none, .mov (.tmp 6)⟩,
        ⟨(some 31), none, .mov (.tmp 7)⟩,
        ⟨(some 32), none, .call (.const (.func (.func 6) [])) [(.tmp 30), (.tmp 31)]⟩,
        ⟨(some 29), none, .mov (.tmp 32)⟩,
        ⟨(some 33), none, .extract (.tmp 29) 0⟩,
        ⟨(some 34), none, .extract (.tmp 29) 1⟩,
        ⟨(some 8), none, .mov (.tmp 33)⟩,
        ⟨(some 9), none, .mov (.tmp 34)⟩] [])
      (.seq (.region [⟨(some 36), none, .mov (.tmp 6)⟩,
         ⟨(some 37), none, .mov (.tmp 7)⟩,
         ⟨(some 38), none, .mov (.tmp 8)⟩,
         ⟨(some 39), none, .call (.const (.func (.func 7) [])) [(.tmp 36), (.tmp 37), (.tmp 38)]⟩,
         ⟨(some 35), none, .mov (.tmp 39)⟩,
         ⟨(some 40), none, .extract (.tmp 35) 0⟩,
         ⟨(some 41), none, .extract (.tmp 35) 1⟩,
         ⟨(some 10), none, .mov (.tmp 40)⟩,
         ⟨(some 11), none, .mov (.tmp 41)⟩] [])
       (.seq (.seq (.region [⟨(some 42), none, .mov (.tmp 9)⟩,
           ⟨(some 43), none, .mov (.tmp 11)⟩,
           ⟨(some 44), none, .lit 1 [(.int .i64 0), (.int .i64 0)] [(0, (.tmp 42)), (1, (.tmp 43))] false⟩,
           ⟨(some 45), none, .call (.const (.func (.func 8) [])) [(.tmp 44)]⟩,
           ⟨(some 46), none, .bin .neq (.one .int) (.tmp 45) (.const (.int .i64 0))⟩,
           ⟨(some 47), none, .mov (.tmp 46)⟩,
           ⟨(some 48), (some (47, false)), .mov (.tmp 10)⟩,
           ⟨(some 49), (some (47, false)), .len .slice (.tmp 48)⟩,
           ⟨(some 50), (some (47, false)), .bin .neq (.one .int) (.tmp 49) (.const (.int .i64 0))⟩,
           ⟨(some 51), none, .pick (.tmp 47) (.const (.bool true)) (.tmp 50)⟩] [])
         (.cond (.tmp 51) (.seq (.region [⟨(some 2), none, .mov (.const (.bool false))⟩] [])
           (.ret))
          (.skip)))
        (.seq (.region [⟨(some 53), none, .mov (.tmp 7)⟩,
           ⟨(some 54), none, .mov (.tmp 6)⟩,
           ⟨(some 55), none, .call (.const (.func (.func 6) [])) [(.tmp 53), (.tmp 54)]⟩,
           ⟨(some 52), none, .mov (.tmp 55)⟩,
           ⟨(some 56), none, .extract (.tmp 52) 0⟩,
           ⟨(some 57), none, .extract (.tmp 52) 1⟩,
           ⟨(some 12), none, .mov (.tmp 56)⟩,
           ⟨(some 13), none, .mov (.tmp 57)⟩] [])
         (.seq (.seq (.region [⟨(some 58), none, .mov (.tmp 13)⟩,
             ⟨(some 59), none, .bin .neq (.one .int) (.tmp 58) (.const (.int .i64 0))⟩,
             ⟨(some 60), none, .mov (.tmp 59)⟩,
             ⟨(some 61), (some (60, false)), .mov (.tmp 12)⟩,
             ⟨(some 62), (some (60, false)), .len .slice (.tmp 61)⟩,
             ⟨(some 63), (some (60, false)), .mov (.tmp 8)⟩,
             ⟨(some 64), (some (60, false)), .len .slice (.tmp 63)⟩,
             ⟨(some 65), (some (60, false)), .bin .neq (.one .int) (.tmp 62) (.tmp 64)⟩,
             ⟨(some 66), none, .pick (.tmp 60) (.const (.bool true)) (.tmp 65)⟩] [])
           (.cond (.tmp 66) (.seq (.region [⟨(some 2), none, .mov (.const (.bool false))⟩] [])
             (.ret))
            (.skip)))
          (.seq (.seq (.region [⟨(some 67), none, .mov (.tmp 8)⟩,
              ⟨(some 68), none, .len .slice (.tmp 67)⟩,
              ⟨(some 69), none, .mov (.const (.int .i64 0))⟩] [])
            (.block 0 (.seq (.keep [12, 67, 68, 69])
              (.loop b3_0))))
           (.seq (.region [⟨(some 84), none, .call (.const (.func (.func 12) [])) []⟩,
              ⟨(some 2), none, .mov (.tmp 84)⟩] [])
            (.ret)))))))))))⟩
def b5_0 : XCode := .seq (.seq (.region [⟨(some 29), none, .bin .lss (.one .int) (.tmp 28) (.tmp 27)⟩] [])
   (.seq (.cond (.tmp 29) (.skip)
     (.exit 2))
    (.seq (.block 3 (.seq (.region [⟨(some 30), none, .indexAddr 1 (.tmp 26) (.tmp 28)⟩,
         ⟨(some 31), none, .load none (.tmp 30)⟩,
         ⟨(some 12), none, .mov (.tmp 31)⟩] [])
       (.seq (.region [⟨(some 32), none, .mov (.tmp 0)⟩,
          ⟨(some 33), none, .call (.const (.func (.func 23) [])) [(.tmp 32), (.const (.int .i64 4))]⟩,
          ⟨(some 34), none, .un .not (.tmp 33)⟩] [])
        (.cond (.tmp 34) (.region [⟨(some 35), none, .fieldAddr 1 (.tmp 10)⟩,
           ⟨(some 36), none, .load none (.tmp 35)⟩,
           ⟨(some 37), none, .mov (.tmp 2)⟩,
           ⟨(some 38), none, .mov (.tmp 12)⟩,
           ⟨(some 39), none, .indexAddr 1 (.tmp 37) (.tmp 38)⟩,
           ⟨(some 40), none, .load none (.tmp 39)⟩,
           ⟨(some 41), none, .lit 1 [(.str [])] [(0, (.tmp 40))] false⟩,
           ⟨(some 42), none, .append 1 16 (.tmp 36) (.tmp 41)⟩,
           ⟨(some 43), none, .fieldAddr 1 (.tmp 10)⟩,
           ⟨none, none, .store 1 (.tmp 43) (.tmp 42)⟩] [])
         (.skip)))))
     (.region [⟨(some 44), none, .bin .add (.one .int) (.tmp 28) (.const (.int .i64 1))⟩,
       ⟨(some 28), none, .mov (.tmp 44)⟩] []))))
  (.keep [0, 2, 7, 10, 13, 14, 15, 26, 27, 28])
def b5_1 : XCode := .seq (.seq (.region [⟨(some 16), none, .bin .lss (.one .int) (.tmp 15) (.tmp 14)⟩] [])
   (.seq (.cond (.tmp 16) (.skip)
     (.exit 0))
    (.seq (.block 1 (.seq (.region [⟨(some 17), none, .indexAddr 1 (.tmp 13) (.tmp 15)⟩,
         ⟨(some 18), none, .load none (.tmp 17)⟩,
         ⟨(some 9), none, .mov (.tmp 18)⟩] [])
       (.seq (.seq (.region [⟨(some 19), none, .mov (.tmp 0)⟩,
           ⟨(some 20), none, .call (.const (.func (.func 23) [])) [(.tmp 19), (.const (.int .i64 6))]⟩] [])
         (.cond (.tmp 20) (.exit 1)
          (.skip)))
        (.seq (.region [⟨(some 21), none, .mov (.tmp 9)⟩,
           ⟨(some 22), none, .build [(.str []), .nilslice] [(0, 1, (.tmp 21))]⟩,
           ⟨(some 10), none, .box 2 (.const (.agg [(.str []), .nilslice]))⟩,
           ⟨none, none, .store 2 (.tmp 10) (.tmp 22)⟩] [])
         (.seq (.seq (.region [⟨(some 23), none, .mov (.tmp 0)⟩,
             ⟨(some 24), none, .mov (.tmp 2)⟩,
             ⟨(some 25), none, .len .slice (.tmp 24)⟩,
             ⟨(some 26), none, .call (.const (.func (.func 24) [])) [(.tmp 23), (.tmp 25)]⟩,
             ⟨(some 27), none, .len .slice (.tmp 26)⟩,
             ⟨(some 28), none, .mov (.const (.int .i64 0))⟩] [])
           (.block 2 (.seq (.keep [0, 2, 7, 10, 13, 14, 15, 26, 27, 28])
             (.loop b5_0))))
          (.region [⟨(some 45), none, .mov (.tmp 7)⟩,
            ⟨(some 46), none, .load (some 2) (.tmp 10)⟩,
            ⟨(some 47), none, .lit 2 [(.agg [(.str []), .nilslice])] [(0, (.tmp 46))] true⟩,
            ⟨(some 48), none, .append 2 40 (.tmp 45) (.tmp 47)⟩,
            ⟨(some 7), none, .mov (.tmp 48)⟩] []))))))
     (.region [⟨(some 49), none, .bin .add (.one .int) (.tmp 15) (.const (.int .i64 1))⟩,
       ⟨(some 15), none, .mov (.tmp 49)⟩] []))))
  (.keep [0, 2, 7, 13, 14, 15])
/-- (*jitney/jitmake.Stream).RightWishes -/
def x5 : XFunc := ⟨3, [.tmp 6],
  .seq (.region [⟨(some 6), none, .mov (.const .nilslice)⟩] [])
  (.seq (.region [⟨(some 7), none, .mov (.const .nilslice)⟩] [])
   (.seq (.seq (.region [⟨(some 13), none, .mov (.tmp 1)⟩,
       ⟨(some 14), none, .len .slice (.tmp 13)⟩,
       ⟨(some 15), none, .mov (.const (.int .i64 0))⟩] [])
     (.block 0 (.seq (.keep [0, 2, 7, 13, 14, 15])
       (.loop b5_1))))
    (.seq (.region [⟨(some 50), none, .mov (.tmp 7)⟩,
       ⟨(some 6), none, .mov (.tmp 50)⟩] [])
     (.ret))))⟩
def b6_0 : XCode := .seq (.seq (.region [⟨(some 37), none, .bin .lss (.one .int) (.tmp 36) (.tmp 35)⟩] [])
   (.seq (.cond (.tmp 37) (.skip)
     (.exit 0))
    (.seq (.block 1 (.seq (.region [⟨(some 38), none, .mov (.tmp 36)⟩,
         ⟨(some 11), none, .mov (.tmp 38)⟩] [])
       (.region [⟨(some 39), none, .mov (.tmp 10)⟩,
         ⟨(some 40), none, .mov (.tmp 11)⟩,
         ⟨(some 41), none, .lit 1 [(.int .i64 0)] [(0, (.tmp 40))] false⟩,
         ⟨(some 42), none, .append 1 8 (.tmp 39) (.tmp 41)⟩,
         ⟨(some 10), none, .mov (.tmp 42)⟩] [])))
     (.region [⟨(some 43), none, .bin .add (.one .int) (.tmp 36) (.const (.int .i64 1))⟩,
       ⟨(some 36), none, .mov (.tmp 43)⟩] []))))
  (.keep [1, 7, 8, 9, 10, 35, 36])
def b6_1 : XCode := .seq (.seq (.seq (.region [⟨(some 44), none, .mov (.tmp 10)⟩,
      ⟨(some 45), none, .len .slice (.tmp 44)⟩,
      ⟨(some 46), none, .bin .gtr (.one .int) (.tmp 45) (.const (.int .i64 0))⟩] [])
    (.cond (.tmp 46) (.skip)
     (.exit 2)))
   (.block 3 (.seq (.region [⟨(some 47), none, .mov (.tmp 10)⟩,
       ⟨(some 48), none, .mov (.tmp 10)⟩,
       ⟨(some 49), none, .len .slice (.tmp 48)⟩,
       ⟨(some 50), none, .bin .sub (.one .int) (.tmp 49) (.const (.int .i64 1))⟩,
       ⟨(some 51), none, .indexAddr 1 (.tmp 47) (.tmp 50)⟩,
       ⟨(some 52), none, .load none (.tmp 51)⟩,
       ⟨(some 12), none, .mov (.tmp 52)⟩] [])
     (.seq (.seq (.region [⟨(some 53), none, .mov (.tmp 9)⟩,
         ⟨(some 54), none, .mov (.tmp 12)⟩,
         ⟨(some 55), none, .indexAddr 1 (.tmp 53) (.tmp 54)⟩,
         ⟨(some 56), none, .load none (.tmp 55)⟩,
         ⟨(some 57), none, .mov (.tmp 1)⟩,
         ⟨(some 58), none, .mov (.tmp 12)⟩,
         ⟨(some 59), none, .indexAddr 2 (.tmp 57) (.tmp 58)⟩,
         ⟨(some 60), none, .fieldAddr 1 (.tmp 59)⟩,
         ⟨(some 61), none, .load none (.tmp 60)⟩,
         ⟨(some 62), none, .len .slice (.tmp 61)⟩,
         ⟨(some 63), none, .bin .eql (.one .int) (.tmp 56) (.tmp 62)⟩] [])
       (.cond (.tmp 63) (.seq (.region [⟨(some 64), none, .mov (.tmp 10)⟩,
           ⟨(some 65), none, .mov (.tmp 10)⟩,
           ⟨(some 66), none, .len .slice (.tmp 65)⟩,
           ⟨(some 67), none, .bin .sub (.one .int) (.tmp 66) (.const (.int .i64 1))⟩,
           ⟨(some 68), none, .sliceSl 1 (.tmp 64) none (some (.tmp 67))⟩,
           ⟨(some 10), none, .mov (.tmp 68)⟩] [])
         (.exit 3))
        (.skip)))
      (.seq (.region [⟨(some 69), none, .mov (.tmp 1)⟩,
         ⟨(some 70), none, .mov (.tmp 12)⟩,
         ⟨(some 71), none, .indexAddr 2 (.tmp 69) (.tmp 70)⟩,
         ⟨(some 72), none, .fieldAddr 1 (.tmp 71)⟩,
         ⟨(some 73), none, .load none (.tmp 72)⟩,
         ⟨(some 74), none, .mov (.tmp 9)⟩,
         ⟨(some 75), none, .mov (.tmp 12)⟩,
         ⟨(some 76), none, .indexAddr 1 (.tmp 74) (.tmp 75)⟩,
         ⟨(some 77), none, .load none (.tmp 76)⟩,
         ⟨(some 78), none, .indexAddr 1 (.tmp 73) (.tmp 77)⟩,
         ⟨(some 79), none, .load none (.tmp 78)⟩,
         ⟨(some 13), none, .mov (.tmp 79)⟩] [])
       (.seq (.region [⟨(some 80), none, .mov (.tmp 9)⟩,
          ⟨(some 81), none, .mov (.tmp 12)⟩,
          ⟨(some 82), none, .indexAddr 1 (.tmp 80) (.tmp 81)⟩,
          ⟨(some 83), none, .load none (.tmp 82)⟩,
          ⟨(some 84), none, .bin .add (.one .int) (.tmp 83) (.const (.int .i64 1))⟩,
          ⟨(some 85), none, .indexAddr 1 (.tmp 80) (.tmp 81)⟩,
          ⟨none, none, .store 1 (.tmp 85) (.tmp 84)⟩] [])
        (.seq (.region [⟨(some 87), none, .mov (.tmp 8)⟩,
           ⟨(some 88), none, .mov (.tmp 13)⟩,
           ⟨(some 89), none, .lookup (.one .str) (.int .i64 0) true (.tmp 87) (.tmp 88)⟩,
           ⟨(some 86), none, .mov (.tmp 89)⟩,
           ⟨(some 90), none, .extract (.tmp 86) 0⟩,
           ⟨(some 91), none, .extract (.tmp 86) 1⟩,
           ⟨(some 14), none, .mov (.tmp 90)⟩,
           ⟨(some 15), none, .mov (.tmp 91)⟩] [])
         (.block 4 (.seq (.region [⟨(some 93), none, .mov (.tmp 15)⟩,
             ⟨(some 94), none, .un .not (.tmp 93)⟩,
             ⟨(some 95), none, .mov (.tmp 94)⟩,
             ⟨(some 96), (some (95, true)), .mov (.tmp 7)⟩,
             ⟨(some 97), (some (95, true)), .mov (.tmp 13)⟩,
             ⟨(some 98), (some (95, true)), .lookup (.one .str) .nilslice false (.tmp 96) (.tmp 97)⟩,
             ⟨(some 99), (some (95, true)), .mov (.tmp 1)⟩,
             ⟨(some 100), (some (95, true)), .mov (.tmp 12)⟩,
             ⟨(some 101), (some (95, true)), .indexAddr 2 (.tmp 99) (.tmp 100)⟩,
             ⟨(some 102), (some (95, true)), .fieldAddr 0 (.tmp 101)⟩,
             ⟨(some 103), (some (95, true)), .load none (.tmp 102)⟩,
             ⟨(some 104), (some (95, true)), .call (.const (.func (.func 28) [])) [(.tmp 98), (.tmp 103)]⟩,
             ⟨(some 105), none, .pick (.tmp 95) (.tmp 104) (.const (.bool false))⟩,
             ⟨(some 92), none, .mov (.tmp 105)⟩] [])
           (.cond (.tmp 92) (.seq (.region [⟨(some 106), none, .mov (.tmp 8)⟩,
               ⟨(some 107), none, .mov (.tmp 13)⟩,
               ⟨(some 108), none, .mov (.tmp 12)⟩,
               ⟨none, none, .mapUpdate (.one .str) (.tmp 106) (.tmp 107) (.tmp 108)⟩] [])
             (.region [⟨(some 109), none, .mov (.tmp 10)⟩,
               ⟨(some 110), none, .mov (.tmp 10)⟩,
               ⟨(some 111), none, .len .slice (.tmp 110)⟩,
               ⟨(some 112), none, .bin .sub (.one .int) (.tmp 111) (.const (.int .i64 1))⟩,
               ⟨(some 113), none, .sliceSl 1 (.tmp 109) none (some (.tmp 112))⟩,
               ⟨(some 10), none, .mov (.tmp 113)⟩] []))
            (.seq (.region [⟨(some 115), none, .mov (.tmp 15)⟩,
               ⟨(some 116), none, .mov (.tmp 115)⟩,
               ⟨(some 117), (some (116, true)), .mov (.tmp 7)⟩,
               ⟨(some 118), (some (116, true)), .mov (.tmp 13)⟩,
               ⟨(some 119), (some (116, true)), .lookup (.one .str) .nilslice false (.tmp 117) (.tmp 118)⟩,
               ⟨(some 120), (some (116, true)), .mov (.tmp 1)⟩,
               ⟨(some 121), (some (116, true)), .mov (.tmp 12)⟩,
               ⟨(some 122), (some (116, true)), .indexAddr 2 (.tmp 120) (.tmp 121)⟩,
               ⟨(some 123), (some (116, true)), .fieldAddr 0 (.tmp 122)⟩,
               ⟨(some 124), (some (116, true)), .load none (.tmp 123)⟩,
               ⟨(some 125), (some (116, true)), .mov (.tmp 1)⟩,
               ⟨(some 126), (some (116, true)), .mov (.tmp 14)⟩,
               ⟨(some 127), (some (116, true)), .indexAddr 2 (.tmp 125) (.tmp 126)⟩,
               ⟨(some 128), (some (116, true)), .fieldAddr 0 (.tmp 127)⟩,
               ⟨(some 129), (some (116, true)), .load none (.tmp 128)⟩,
               ⟨(some 130), (some (116, true)), .call (.const (.func (.func 29) [])) [(.tmp 119), (.tmp 124), (.tmp 129)]⟩,
               ⟨(some 131), none, .pick (.tmp 116) (.tmp 130) (.const (.bool false))⟩,
               ⟨(some 114), none, .mov (.tmp 131)⟩] [])
             (.cond (.tmp 114) (.seq (.region [⟨(some 132), none, .mov (.tmp 8)⟩,
                 ⟨(some 133), none, .mov (.tmp 13)⟩,
                 ⟨(some 134), none, .mov (.tmp 12)⟩,
                 ⟨none, none, .mapUpdate (.one .str) (.tmp 132) (.tmp 133) (.tmp 134)⟩] [])
               (.region [⟨(some 135), none, .mov (.tmp 10)⟩,
                 ⟨(some 136), none, .mov (.tmp 10)⟩,
                 ⟨(some 137), none, .len .slice (.tmp 136)⟩,
                 ⟨(some 138), none, .bin .sub (.one .int) (.tmp 137) (.const (.int .i64 1))⟩,
                 ⟨(some 139), none, .mov (.tmp 14)⟩,
                 ⟨(some 140), none, .indexAddr 1 (.tmp 135) (.tmp 138)⟩,
                 ⟨none, none, .store 1 (.tmp 140) (.tmp 139)⟩] []))
              (.skip)))))))))))))
  (.keep [1, 7, 8, 9, 10])
def b6_2 : XCode := .seq (.seq (.region [⟨(some 143), none, .fail⟩,
     ⟨(some 144), none, .extract (.tmp 143) 0⟩] [])
   (.seq (.cond (.tmp 144) (.skip)
     (.exit 5))
    (.block 6 (.seq (.region [⟨(some 145), none, .fail⟩,
        ⟨(some 146), none, .extract (.tmp 145) 0⟩,
        ⟨(some 147), none, .extract (.tmp 145) 1⟩,
        ⟨(some 17), none, .mov (.tmp 146)⟩,
        ⟨(some 18), none, .mov (.tmp 147)⟩] [])
      (.region [⟨(some 148), none, .mov (.tmp 16)⟩,
        ⟨(some 149), none, .mov (.tmp 17)⟩,
        ⟨(some 150), none, .mov (.tmp 1)⟩,
        ⟨(some 151), none, .mov (.tmp 18)⟩,
        ⟨(some 152), none, .indexAddr 2 (.tmp 150) (.tmp 151)⟩,
        ⟨(some 153), none, .fieldAddr 0 (.tmp 152)⟩,
        ⟨(some 154), none, .load none (.tmp 153)⟩,
        ⟨(some 155), none, .build [(.str []), (.str [])] [(0, 1, (.tmp 149)), (1, 1, (.tmp 154))]⟩,
        ⟨(some 156), none, .lit 2 [(.agg [(.str []), (.str [])])] [(0, (.tmp 155))] false⟩,
        ⟨(some 157), none, .append 2 32 (.tmp 148) (.tmp 156)⟩,
        ⟨(some 16), none, .mov (.tmp 157)⟩] [])))))
  (.keep [1, 16])
/-- jitney/match.Stable -/
def x6 : XFunc := ⟨2, [.tmp 4, .tmp 5],
  .seq (.region [⟨(some 4), none, .mov (.const .nilslice)⟩,
    ⟨(some 5), none, .mov (.const (.int .i64 0))⟩] [])
  (.seq (.seq (.region [⟨(some 19), none, .mov (.tmp 0)⟩,
      ⟨(some 20), none, .call (.const (.func (.func 26) [])) [(.tmp 19)]⟩,
      ⟨(some 21), none, .mov (.tmp 1)⟩,
      ⟨(some 22), none, .call (.const (.func (.func 26) [])) [(.tmp 21)]⟩,
      ⟨(some 23), none, .lit 1 [(.int .i64 0), (.int .i64 0)] [(0, (.tmp 20)), (1, (.tmp 22))] false⟩,
      ⟨(some 24), none, .call (.const (.func (.func 25) [])) [(.tmp 23)]⟩,
      ⟨(some 6), none, .mov (.tmp 24)⟩] [])
    (.seq (.region [⟨(some 25), none, .mov (.tmp 6)⟩,
       ⟨(some 26), none, .bin .neq (.one .int) (.tmp 25) (.const (.int .i64 0))⟩] [])
     (.cond (.tmp 26) (.seq (.region [⟨(some 27), none, .mov (.tmp 6)⟩,
         ⟨(some 4), none, .mov (.const .nilslice)⟩,
         ⟨(some 5), none, .mov (.tmp 27)⟩] [])
       (.ret))
      (.skip))))
   (.seq (.region [⟨(some 28), none, .mov (.tmp 0)⟩,
      ⟨(some 29), none, .call (.const (.func (.func 27) [])) [(.tmp 28)]⟩,
      ⟨(some 7), none, .mov (.tmp 29)⟩] [])
    (.seq (.region [⟨(some 30), none, .mkMap⟩,
       ⟨(some 8), none, .mov (.tmp 30)⟩] [])
     (.seq (.region [⟨(some 31), none, .mov (.tmp 1)⟩,
        ⟨(some 32), none, .len .slice (.tmp 31)⟩,
        ⟨(some 33), none, .mkSlice 1 8 (.int .i64 0) (.tmp 32) (.tmp 32)⟩,
        ⟨(some 9), none, .mov (.tmp 33)⟩] [])
      (.seq (.region [⟨(some 10), none, .mov (.const .nilslice)⟩] [])
       (.seq (.seq (.region [⟨(some 34), none, .mov (.tmp 1)⟩,
           ⟨(some 35), none, .len .slice (.tmp 34)⟩,
           ⟨(some 36), none, .mov (.const (.int .i64 0))⟩] [])
         (.block 0 (.seq (.keep [1, 7, 8, 9, 10, 35, 36])
           (.loop b6_0))))
        (.seq (.block 2 (.seq (.keep [1, 7, 8, 9, 10])
           (.loop b6_1)))
         (.seq (.region [⟨(some 16), none, .mov (.const .nilslice)⟩] [])
          (.seq (.seq (.region [⟨(some 141), none, .mov (.tmp 8)⟩,
              ⟨(some 142), none, .fail⟩] [])
            (.block 5 (.seq (.keep [1, 16])
              (.loop b6_2))))
           (.seq (.region [⟨(some 158), none, .mov (.tmp 16)⟩,
              ⟨(some 159), none, .call (.const (.func (.func 30) [])) [(.tmp 158), (.const (.func (.func 31) []))]⟩] [])
            (.seq (.region [⟨(some 160), none, .mov (.tmp 16)⟩,
               ⟨(some 4), none, .mov (.tmp 160)⟩,
               ⟨(some 5), none, .mov (.const (.int .i64 0))⟩] [])
             (.ret))))))))))))⟩
def b7_0 : XCode := .seq (.seq (.region [⟨(some 45), none, .bin .lss (.one .int) (.tmp 44) (.tmp 43)⟩] [])
   (.seq (.cond (.tmp 45) (.skip)
     (.exit 0))
    (.seq (.block 1 (.seq (.region [⟨(some 46), none, .mov (.tmp 44)⟩,
         ⟨(some 47), none, .indexAddr 2 (.tmp 42) (.tmp 44)⟩,
         ⟨(some 48), none, .load (some 2) (.tmp 47)⟩,
         ⟨(some 14), none, .box 2 (.const (.agg [(.str []), (.str [])]))⟩,
         ⟨(some 13), none, .mov (.tmp 46)⟩,
         ⟨none, none, .store 2 (.tmp 14) (.tmp 48)⟩] [])
       (.seq (.region [⟨(some 50), none, .mov (.tmp 9)⟩,
          ⟨(some 51), none, .fieldAddr 0 (.tmp 14)⟩,
          ⟨(some 52), none, .load none (.tmp 51)⟩,
          ⟨(some 53), none, .lookup (.one .str) .nilslice true (.tmp 50) (.tmp 52)⟩,
          ⟨(some 49), none, .mov (.tmp 53)⟩,
          ⟨(some 54), none, .extract (.tmp 49) 0⟩,
          ⟨(some 55), none, .extract (.tmp 49) 1⟩,
          ⟨(some 15), none, .mov (.tmp 54)⟩,
          ⟨(some 16), none, .mov (.tmp 55)⟩] [])
        (.seq (.region [⟨(some 57), none, .mov (.tmp 10)⟩,
           ⟨(some 58), none, .fieldAddr 1 (.tmp 14)⟩,
           ⟨(some 59), none, .load none (.tmp 58)⟩,
           ⟨(some 60), none, .lookup (.one .str) .nilslice true (.tmp 57) (.tmp 59)⟩,
           ⟨(some 56), none, .mov (.tmp 60)⟩,
           ⟨(some 61), none, .extract (.tmp 56) 0⟩,
           ⟨(some 62), none, .extract (.tmp 56) 1⟩,
           ⟨(some 17), none, .mov (.tmp 61)⟩,
           ⟨(some 18), none, .mov (.tmp 62)⟩] [])
         (.seq (.block 2 (.seq (.region [⟨(some 64), none, .mov (.tmp 16)⟩,
              ⟨(some 65), none, .un .not (.tmp 64)⟩,
              ⟨(some 66), none, .mov (.tmp 65)⟩,
              ⟨(some 67), (some (66, false)), .mov (.tmp 18)⟩,
              ⟨(some 68), (some (66, false)), .un .not (.tmp 67)⟩,
              ⟨(some 69), none, .pick (.tmp 66) (.const (.bool true)) (.tmp 68)⟩,
              ⟨(some 63), none, .mov (.tmp 69)⟩] [])
            (.cond (.tmp 63) (.seq (.region [⟨(some 6), none, .mov (.const .nilslice)⟩,
                ⟨(some 7), none, .mov (.const (.int .i64 8))⟩] [])
              (.ret))
             (.seq (.region [⟨(some 71), none, .mov (.tmp 13)⟩,
                ⟨(some 72), none, .bin .gtr (.one .int) (.tmp 71) (.const (.int .i64 0))⟩,
                ⟨(some 73), none, .mov (.tmp 72)⟩,
                ⟨(some 74), (some (73, true)), .fieldAddr 0 (.tmp 14)⟩,
                ⟨(some 75), (some (73, true)), .load none (.tmp 74)⟩,
                ⟨(some 76), (some (73, true)), .mov (.tmp 2)⟩,
                ⟨(some 77), (some (73, true)), .mov (.tmp 13)⟩,
                ⟨(some 78), (some (73, true)), .bin .sub (.one .int) (.tmp 77) (.const (.int .i64 1))⟩,
                ⟨(some 79), (some (73, true)), .indexAddr 2 (.tmp 76) (.tmp 78)⟩,
                ⟨(some 80), (some (73, true)), .fieldAddr 0 (.tmp 79)⟩,
                ⟨(some 81), (some (73, true)), .load none (.tmp 80)⟩,
                ⟨(some 82), (some (73, true)), .bin .leq (.one .str) (.tmp 75) (.tmp 81)⟩,
                ⟨(some 83), none, .pick (.tmp 73) (.tmp 82) (.const (.bool false))⟩,
                ⟨(some 70), none, .mov (.tmp 83)⟩] [])
              (.cond (.tmp 70) (.seq (.region [⟨(some 6), none, .mov (.const .nilslice)⟩,
                  ⟨(some 7), none, .mov (.const (.int .i64 7))⟩] [])
                (.ret))
               (.seq (.region [⟨(some 85), none, .mov (.tmp 11)⟩,
                  ⟨(some 86), none, .fieldAddr 1 (.tmp 14)⟩,
                  ⟨(some 87), none, .load none (.tmp 86)⟩,
                  ⟨(some 88), none, .lookup (.one .str) (.str []) false (.tmp 85) (.tmp 87)⟩,
                  ⟨(some 89), none, .bin .neq (.one .str) (.tmp 88) (.const (.str []))⟩,
                  ⟨(some 84), none, .mov (.tmp 89)⟩] [])
                (.cond (.tmp 84) (.seq (.region [⟨(some 6), none, .mov (.const .nilslice)⟩,
                    ⟨(some 7), none, .mov (.const (.int .i64 6))⟩] [])
                  (.ret))
                 (.seq (.region [⟨(some 91), none, .mov (.tmp 9)⟩,
                    ⟨(some 92), none, .fieldAddr 0 (.tmp 14)⟩,
                    ⟨(some 93), none, .load none (.tmp 92)⟩,
                    ⟨(some 94), none, .lookup (.one .str) .nilslice false (.tmp 91) (.tmp 93)⟩,
                    ⟨(some 95), none, .fieldAddr 1 (.tmp 14)⟩,
                    ⟨(some 96), none, .load none (.tmp 95)⟩,
                    ⟨(some 97), none, .call (.const (.func (.func 28) [])) [(.tmp 94), (.tmp 96)]⟩,
                    ⟨(some 98), none, .un .not (.tmp 97)⟩,
                    ⟨(some 99), none, .mov (.tmp 98)⟩,
                    ⟨(some 100), (some (99, false)), .mov (.tmp 10)⟩,
                    ⟨(some 101), (some (99, false)), .fieldAddr 1 (.tmp 14)⟩,
                    ⟨(some 102), (some (99, false)), .load none (.tmp 101)⟩,
                    ⟨(some 103), (some (99, false)), .lookup (.one .str) .nilslice false (.tmp 100) (.tmp 102)⟩,
                    ⟨(some 104), (some (99, false)), .fieldAddr 0 (.tmp 14)⟩,
                    ⟨(some 105), (some (99, false)), .load none (.tmp 104)⟩,
                    ⟨(some 106), (some (99, false)), .call (.const (.func (.func 28) [])) [(.tmp 103), (.tmp 105)]⟩,
                    ⟨(some 107), (some (99, false)), .un .not (.tmp 106)⟩,
                    ⟨(some 108), none, .pick (.tmp 99) (.const (.bool true)) (.tmp 107)⟩,
                    ⟨(some 90), none, .mov (.tmp 108)⟩] [])
                  (.cond (.tmp 90) (.seq (.region [⟨(some 6), none, .mov (.const .nilslice)⟩,
                      ⟨(some 7), none, .mov (.const (.int .i64 16))⟩] [])
                    (.ret))
                   (.skip))))))))))
          (.region [⟨(some 109), none, .mov (.tmp 11)⟩,
            ⟨(some 110), none, .fieldAddr 1 (.tmp 14)⟩,
            ⟨(some 111), none, .load none (.tmp 110)⟩,
            ⟨(some 112), none, .mov (.tmp 12)⟩,
            ⟨(some 113), none, .fieldAddr 0 (.tmp 14)⟩,
            ⟨(some 114), none, .load none (.tmp 113)⟩,
            ⟨(some 115), none, .fieldAddr 0 (.tmp 14)⟩,
            ⟨(some 116), none, .load none (.tmp 115)⟩,
            ⟨(some 117), none, .fieldAddr 1 (.tmp 14)⟩,
            ⟨(some 118), none, .load none (.tmp 117)⟩,
            ⟨none, none, .mapUpdate (.one .str) (.tmp 109) (.tmp 111) (.tmp 116)⟩,
            ⟨none, none, .mapUpdate (.one .str) (.tmp 112) (.tmp 114) (.tmp 118)⟩] []))))))
     (.region [⟨(some 119), none, .bin .add (.one .int) (.tmp 44) (.const (.int .i64 1))⟩,
       ⟨(some 44), none, .mov (.tmp 119)⟩] []))))
  (.keep [0, 2, 9, 10, 11, 12, 42, 43, 44])
def b7_1 : XCode := .seq (.seq (.region [⟨(some 130), none, .bin .lss (.one .int) (.tmp 129) (.tmp 128)⟩] [])
   (.seq (.cond (.tmp 130) (.skip)
     (.exit 5))
    (.seq (.block 6 (.seq (.region [⟨(some 131), none, .indexAddr 1 (.tmp 127) (.tmp 129)⟩,
         ⟨(some 132), none, .load none (.tmp 131)⟩,
         ⟨(some 23), none, .mov (.tmp 132)⟩] [])
       (.seq (.region [⟨(some 133), none, .fieldAddr 1 (.tmp 21)⟩,
          ⟨(some 134), none, .load none (.tmp 133)⟩,
          ⟨(some 135), none, .mov (.tmp 23)⟩,
          ⟨(some 136), none, .mov (.tmp 12)⟩,
          ⟨(some 137), none, .fieldAddr 0 (.tmp 21)⟩,
          ⟨(some 138), none, .load none (.tmp 137)⟩,
          ⟨(some 139), none, .lookup (.one .str) (.str []) false (.tmp 136) (.tmp 138)⟩,
          ⟨(some 140), none, .call (.const (.func (.func 29) [])) [(.tmp 134), (.tmp 135), (.tmp 139)]⟩,
          ⟨(some 141), none, .mov (.tmp 140)⟩,
          ⟨(some 142), (some (141, true)), .mov (.tmp 10)⟩,
          ⟨(some 143), (some (141, true)), .mov (.tmp 23)⟩,
          ⟨(some 144), (some (141, true)), .lookup (.one .str) .nilslice false (.tmp 142) (.tmp 143)⟩,
          ⟨(some 145), (some (141, true)), .fieldAddr 0 (.tmp 21)⟩,
          ⟨(some 146), (some (141, true)), .load none (.tmp 145)⟩,
          ⟨(some 147), (some (141, true)), .mov (.tmp 11)⟩,
          ⟨(some 148), (some (141, true)), .mov (.tmp 23)⟩,
          ⟨(some 149), (some (141, true)), .lookup (.one .str) (.str []) false (.tmp 147) (.tmp 148)⟩,
          ⟨(some 150), (some (141, true)), .call (.const (.func (.func 29) [])) [(.tmp 144), (.tmp 146), (.tmp 149)]⟩,
          ⟨(some 151), none, .pick (.tmp 141) (.tmp 150) (.const (.bool false))⟩] [])
        (.cond (.tmp 151) (.region [⟨(some 152), none, .mov (.tmp 19)⟩,
           ⟨(some 153), none, .fieldAddr 0 (.tmp 21)⟩,
           ⟨(some 154), none, .load none (.tmp 153)⟩,
           ⟨(some 155), none, .mov (.tmp 23)⟩,
           ⟨(some 156), none, .build [(.str []), (.str [])] [(0, 1, (.tmp 154)), (1, 1, (.tmp 155))]⟩,
           ⟨(some 157), none, .lit 2 [(.agg [(.str []), (.str [])])] [(0, (.tmp 156))] false⟩,
           ⟨(some 158), none, .append 2 32 (.tmp 152) (.tmp 157)⟩,
           ⟨(some 19), none, .mov (.tmp 158)⟩] [])
         (.skip)))))
     (.region [⟨(some 159), none, .bin .add (.one .int) (.tmp 129) (.const (.int .i64 1))⟩,
       ⟨(some 129), none, .mov (.tmp 159)⟩] []))))
  (.keep [10, 11, 12, 19, 21, 120, 121, 122, 127, 128, 129])
def b7_2 : XCode := .seq (.seq (.region [⟨(some 123), none, .bin .lss (.one .int) (.tmp 122) (.tmp 121)⟩] [])
   (.seq (.cond (.tmp 123) (.skip)
     (.exit 3))
    (.seq (.block 4 (.seq (.region [⟨(some 124), none, .indexAddr 2 (.tmp 120) (.tmp 122)⟩,
         ⟨(some 125), none, .load (some 2) (.tmp 124)⟩,
         ⟨(some 21), none, .box 2 (.const (.agg [(.str []), .nilslice]))⟩,
         ⟨none, none, .store 2 (.tmp 21) (.tmp 125)⟩] [])
       (.seq (.region [⟨(some 126), none, .fieldAddr 1 (.tmp 21)⟩,
          ⟨(some 127), none, .load none (.tmp 126)⟩,
          ⟨(some 128), none, .len .slice (.tmp 127)⟩,
          ⟨(some 129), none, .mov (.const (.int .i64 0))⟩] [])
        (.block 5 (.seq (.keep [10, 11, 12, 19, 21, 120, 121, 122, 127, 128, 129])
          (.loop b7_1))))))
     (.region [⟨(some 160), none, .bin .add (.one .int) (.tmp 122) (.const (.int .i64 1))⟩,
       ⟨(some 122), none, .mov (.tmp 160)⟩] []))))
  (.keep [10, 11, 12, 19, 120, 121, 122])
/-- jitney/match.Blocking -/
def x7 : XFunc := ⟨3, [.tmp 6, .tmp 7],
  .seq (.region [⟨(some 6), none, .mov (.const .nilslice)⟩,
    ⟨(some 7), none, .mov (.const (.int .i64 0))⟩] [])
  (.seq (.seq (.region [⟨(some 24), none, .mov (.tmp 0)⟩,
      ⟨(some 25), none, .call (.const (.func (.func 26) [])) [(.tmp 24)]⟩,
      ⟨(some 26), none, .mov (.tmp 1)⟩,
      ⟨(some 27), none, .call (.const (.func (.func 26) [])) [(.tmp 26)]⟩,
      ⟨(some 28), none, .lit 1 [(.int .i64 0), (.int .i64 0)] [(0, (.tmp 25)), (1, (.tmp 27))] false⟩,
      ⟨(some 29), none, .call (.const (.func (.func 25) [])) [(.tmp 28)]⟩,
      ⟨(some 8), none, .mov (.tmp 29)⟩] [])
    (.seq (.region [⟨(some 30), none, .mov (.tmp 8)⟩,
       ⟨(some 31), none, .bin .neq (.one .int) (.tmp 30) (.const (.int .i64 0))⟩] [])
     (.cond (.tmp 31) (.seq (.region [⟨(some 32), none, .mov (.tmp 8)⟩,
         ⟨(some 6), none, .mov (.const .nilslice)⟩,
         ⟨(some 7), none, .mov (.tmp 32)⟩] [])
       (.ret))
      (.skip))))
   (.seq (.seq (.region [⟨(some 33), none, .mov (.tmp 2)⟩,
       ⟨(some 34), none, .len .slice (.tmp 33)⟩,
       ⟨(some 35), none, .bin .gtr (.one .int) (.tmp 34) (.const (.int .i64 200))⟩] [])
     (.cond (.tmp 35) (.seq (.region [⟨(some 6), none, .mov (.const .nilslice)⟩,
         ⟨(some 7), none, .mov (.const (.int .i64 2))⟩] [])
       (.ret))
      (.skip)))
    (.seq (.region [⟨(some 36), none, .mov (.tmp 0)⟩,
       ⟨(some 37), none, .call (.const (.func (.func 27) [])) [(.tmp 36)]⟩,
       ⟨(some 38), none, .mov (.tmp 1)⟩,
       ⟨(some 39), none, .call (.const (.func (.func 27) [])) [(.tmp 38)]⟩,
       ⟨(some 9), none, .mov (.tmp 37)⟩,
       ⟨(some 10), none, .mov (.tmp 39)⟩] [])
     (.seq (.region [⟨(some 40), none, .mkMap⟩,
        ⟨(some 41), none, .mkMap⟩,
        ⟨(some 11), none, .mov (.tmp 40)⟩,
        ⟨(some 12), none, .mov (.tmp 41)⟩] [])
      (.seq (.seq (.region [⟨(some 42), none, .mov (.tmp 2)⟩,
          ⟨(some 43), none, .len .slice (.tmp 42)⟩,
          ⟨(some 44), none, .mov (.const (.int .i64 0))⟩] [])
        (.block 0 (.seq (.keep [0, 2, 9, 10, 11, 12, 42, 43, 44])
          (.loop b7_0))))
       (.seq (.region [⟨(some 19), none, .mov (.const .nilslice)⟩] [])
        (.seq (.seq (.region [⟨(some 120), none, .mov (.tmp 0)⟩,
            ⟨(some 121), none, .len .slice (.tmp 120)⟩,
            ⟨(some 122), none, .mov (.const (.int .i64 0))⟩] [])
          (.block 3 (.seq (.keep [10, 11, 12, 19, 120, 121, 122])
            (.loop b7_2))))
         (.seq (.region [⟨(some 161), none, .mov (.tmp 19)⟩,
            ⟨(some 162), none, .call (.const (.func (.func 30) [])) [(.tmp 161), (.const (.func (.func 33) []))]⟩] [])
          (.seq (.region [⟨(some 163), none, .mov (.tmp 19)⟩,
             ⟨(some 6), none, .mov (.tmp 163)⟩,
             ⟨(some 7), none, .mov (.const (.int .i64 0))⟩] [])
           (.ret))))))))))⟩
def b8_0 : XCode := .seq (.seq (.region [⟨(some 8), none, .bin .lss (.one .int) (.tmp 7) (.tmp 6)⟩] [])
   (.seq (.cond (.tmp 8) (.skip)
     (.exit 0))
    (.seq (.block 1 (.seq (.region [⟨(some 9), none, .indexAddr 1 (.tmp 5) (.tmp 7)⟩,
         ⟨(some 10), none, .load none (.tmp 9)⟩,
         ⟨(some 4), none, .mov (.tmp 10)⟩] [])
       (.seq (.region [⟨(some 11), none, .mov (.tmp 4)⟩,
          ⟨(some 12), none, .bin .neq (.one .int) (.tmp 11) (.const (.int .i64 0))⟩] [])
        (.cond (.tmp 12) (.seq (.region [⟨(some 13), none, .mov (.tmp 4)⟩,
            ⟨(some 2), none, .mov (.tmp 13)⟩] [])
          (.ret))
         (.skip)))))
     (.region [⟨(some 14), none, .bin .add (.one .int) (.tmp 7) (.const (.int .i64 1))⟩,
       ⟨(some 7), none, .mov (.tmp 14)⟩] []))))
  (.keep [5, 6, 7])
/-- jitney/jitkeep2.errs -/
def x8 : XFunc := ⟨1, [.tmp 2],
  .seq (.region [⟨(some 2), none, .mov (.const (.int .i64 0))⟩] [])
  (.seq (.seq (.region [⟨(some 5), none, .mov (.tmp 0)⟩,
      ⟨(some 6), none, .len .slice (.tmp 5)⟩,
      ⟨(some 7), none, .mov (.const (.int .i64 0))⟩] [])
    (.block 0 (.seq (.keep [5, 6, 7])
      (.loop b8_0))))
   (.seq (.region [⟨(some 2), none, .mov (.const (.int .i64 0))⟩] [])
    (.ret)))⟩
/-- slices.ContainsFunc[[]jitney/api.Deal,jitney/api.Deal] -/
def x9 : XFunc := ⟨2, [.tmp 4],
  .seq (.region [⟨(some 4), none, .mov (.const (.bool false))⟩] [])
  (.seq (.region [⟨(some 5), none, .mov (.tmp 0)⟩,
     ⟨(some 6), none, .mov (.tmp 1)⟩,
     ⟨(some 7), none, .call (.const (.func (.func 34) [])) [(.tmp 5), (.tmp 6)]⟩,
     ⟨(some 8), none, .bin .geq (.one .int) (.tmp 7) (.const (.int .i64 0))⟩,
     ⟨(some 4), none, .mov (.tmp 8)⟩] [])
   (.ret))⟩
/-- jitney/jitkeep2.StableIsStable$1 -/
def x10 : XFunc := ⟨2, [.tmp 3],
  .seq (.region [⟨(some 2), none, .box 2 (.tmp 0)⟩,
    ⟨(some 3), none, .mov (.const (.bool false))⟩] [])
  (.seq (.region [⟨(some 4), none, .fieldAddr 1 (.tmp 2)⟩,
     ⟨(some 5), none, .load none (.tmp 4)⟩,
     ⟨(some 6), none, .fieldAddr 0 (.tmp 1)⟩,
     ⟨(some 7), none, .load none (.tmp 6)⟩,
     ⟨(some 8), none, .bin .eql (.one .str) (.tmp 5) (.tmp 7)⟩,
     ⟨(some 3), none, .mov (.tmp 8)⟩] [])
   (.ret))⟩
/-- jitney/jitkeep2.StableIsStable$2 -/
def x11 : XFunc := ⟨2, [.tmp 3],
  .seq (.region [⟨(some 2), none, .box 2 (.tmp 0)⟩,
    ⟨(some 3), none, .mov (.const (.bool false))⟩] [])
  (.seq (.region [⟨(some 4), none, .fieldAddr 0 (.tmp 2)⟩,
     ⟨(some 5), none, .load none (.tmp 4)⟩,
     ⟨(some 6), none, .fieldAddr 1 (.tmp 1)⟩,
     ⟨(some 7), none, .load none (.tmp 6)⟩,
     ⟨(some 8), none, .bin .eql (.one .str) (.tmp 5) (.tmp 7)⟩,
     ⟨(some 3), none, .mov (.tmp 8)⟩] [])
   (.ret))⟩
/-- jitney/jitkeep2.ready -/
def x12 : XFunc := ⟨0, [.tmp 0],
  .seq (.region [⟨(some 0), none, .mov (.const (.bool false))⟩] [])
  (.seq (.region [⟨(some 10), none, .build [(.str []), (.str []), (.str []), (.str []), (.int .i64 0), (.int .i64 0), (.int .i64 0), (.int .i64 0), (.int .i64 0), (.int .i64 0), (.int .i64 0), (.int .i64 0), (.int .i64 0), .nilslice] [(0, 1, (.const (.str [115]))), (1, 1, (.const (.str [97]))), (2, 1, (.const (.str [98]))), (3, 1, (.const (.str [99]))), (5, 1, (.const (.int .i64 8))), (6, 1, (.const (.int .i64 1))), (7, 1, (.const (.int .i64 1))), (9, 1, (.const (.int .i64 5))), (11, 1, (.const (.int .i64 1)))]⟩,
     ⟨(some 11), none, .call (.const (.func (.func 35) [])) [(.tmp 10)]⟩,
     ⟨(some 9), none, .mov (.tmp 11)⟩,
     ⟨(some 12), none, .extract (.tmp 9) 0⟩,
     ⟨(some 13), none, .extract (.tmp 9) 1⟩,
     ⟨(some 1), none, .mov (.tmp 12)⟩,
     ⟨(some 2), none, .mov (.tmp 13)⟩] [])
   (.seq (.region [⟨(some 15), none, .build [(.str []), (.str []), (.int .i64 0)] [(0, 1, (.const (.str [97]))), (1, 1, (.const (.str [120])))]⟩,
      ⟨(some 16), none, .build [(.str []), (.str []), (.int .i64 0)] [(0, 1, (.const (.str [98]))), (1, 1, (.const (.str [120])))]⟩,
      ⟨(some 17), none, .build [(.str []), (.str []), (.int .i64 0)] [(0, 1, (.const (.str [98]))), (1, 1, (.const (.str [121])))]⟩,
      ⟨(some 18), none, .lit 3 [(.agg [(.str []), (.str []), (.int .i64 0)]), (.agg [(.str []), (.str []), (.int .i64 0)]), (.agg [(.str []), (.str []), (.int .i64 0)])] [(0, (.tmp 15)), (1, (.tmp 16)), (2, (.tmp 17))] false⟩,
      ⟨(some 19), none, .call (.const (.func (.func 36) [])) [(.tmp 18)]⟩,
      ⟨(some 14), none, .mov (.tmp 19)⟩,
      ⟨(some 20), none, .extract (.tmp 14) 0⟩,
      ⟨(some 21), none, .extract (.tmp 14) 1⟩,
      ⟨(some 3), none, .mov (.tmp 20)⟩,
      ⟨(some 4), none, .mov (.tmp 21)⟩] [])
    (.seq (.region [⟨(some 23), none, .build [(.int .i64 0), (.int .i64 0)] [(0, 1, (.const (.int .i64 0))), (1, 1, (.const (.int .i64 5)))]⟩,
       ⟨(some 24), none, .build [(.int .i64 0), (.int .i64 0)] [(0, 1, (.const (.int .i64 3))), (1, 1, (.const (.int .i64 9)))]⟩,
       ⟨(some 25), none, .lit 2 [(.agg [(.int .i64 0), (.int .i64 0)]), (.agg [(.int .i64 0), (.int .i64 0)])] [(0, (.tmp 23)), (1, (.tmp 24))] false⟩,
       ⟨(some 26), none, .call (.const (.func (.func 37) [])) [(.tmp 25)]⟩,
       ⟨(some 22), none, .mov (.tmp 26)⟩,
       ⟨(some 27), none, .extract (.tmp 22) 0⟩,
       ⟨(some 28), none, .extract (.tmp 22) 1⟩,
       ⟨(some 5), none, .mov (.tmp 27)⟩,
       ⟨(some 6), none, .mov (.tmp 28)⟩] [])
     (.seq (.region [⟨(some 30), none, .build [(.int .i64 0), (.int .i64 0), (.int .i64 0)] [(0, 1, (.const (.int .i64 2))), (1, 1, (.const (.int .i64 3000)))]⟩,
        ⟨(some 31), none, .build [(.str []), (.str []), (.str []), (.int .i64 0), (.int .i64 0)] [(0, 1, (.const (.str [97]))), (1, 1, (.const (.str [98]))), (2, 1, (.const (.str [114]))), (3, 1, (.const (.int .i64 5)))]⟩,
        ⟨(some 32), none, .lit 5 [(.agg [(.str []), (.str []), (.str []), (.int .i64 0), (.int .i64 0)])] [(0, (.tmp 31))] false⟩,
        ⟨(some 33), none, .call (.const (.func (.func 38) [])) [(.tmp 30), (.tmp 32), (.const (.str [98])), (.const (.int .i64 0))]⟩,
        ⟨(some 29), none, .mov (.tmp 33)⟩,
        ⟨(some 34), none, .extract (.tmp 29) 0⟩,
        ⟨(some 35), none, .extract (.tmp 29) 1⟩,
        ⟨(some 7), none, .box 2 (.const (.agg [(.int .i64 0), (.int .i64 0)]))⟩,
        ⟨none, none, .store 2 (.tmp 7) (.tmp 34)⟩,
        ⟨(some 8), none, .mov (.tmp 35)⟩] [])
      (.seq (.region [⟨(some 36), none, .mov (.tmp 2)⟩,
         ⟨(some 37), none, .mov (.tmp 4)⟩,
         ⟨(some 38), none, .mov (.tmp 6)⟩,
         ⟨(some 39), none, .mov (.tmp 8)⟩,
         ⟨(some 40), none, .lit 1 [(.int .i64 0), (.int .i64 0), (.int .i64 0), (.int .i64 0)] [(0, (.tmp 36)), (1, (.tmp 37)), (2, (.tmp 38)), (3, (.tmp 39))] false⟩,
         ⟨(some 41), none, .call (.const (.func (.func 8) [])) [(.tmp 40)]⟩,
         ⟨(some 42), none, .bin .eql (.one .int) (.tmp 41) (.const (.int .i64 0))⟩,
         ⟨(some 43), none, .mov (.tmp 42)⟩,
         ⟨(some 44), (some (43, true)), .mov (.tmp 1)⟩,
         ⟨(some 45), (some (43, true)), .len .slice (.tmp 44)⟩,
         ⟨(some 46), (some (43, true)), .bin .eql (.one .int) (.tmp 45) (.const (.int .i64 2))⟩,
         ⟨(some 47), none, .pick (.tmp 43) (.tmp 46) (.const (.bool false))⟩,
         ⟨(some 48), none, .mov (.tmp 47)⟩,
         ⟨(some 49), (some (48, true)), .mov (.tmp 3)⟩,
         ⟨(some 50), (some (48, true)), .bin .eql (.one .int) (.tmp 49) (.const (.int .i64 2))⟩,
         ⟨(some 51), none, .pick (.tmp 48) (.tmp 50) (.const (.bool false))⟩,
         ⟨(some 52), none, .mov (.tmp 51)⟩,
         ⟨(some 53), (some (52, true)), .mov (.tmp 5)⟩,
         ⟨(some 54), (some (52, true)), .bin .eql (.one .int) (.tmp 53) (.const (.int .i64 2))⟩,
         ⟨(some 55), none, .pick (.tmp 52) (.tmp 54) (.const (.bool false))⟩,
         ⟨(some 56), none, .mov (.tmp 55)⟩,
         ⟨(some 57), (some (56, true)), .fieldAddr 0 (.tmp 7)⟩,
         ⟨(some 58), (some (56, true)), .load none (.tmp 57)⟩,
         ⟨(some 59), (some (56, true)), .bin .eql (.one .int) (.tmp 58) (.const (.int .i64 11))⟩,
         ⟨(some 60), none, .pick (.tmp 56) (.tmp 59) (.const (.bool false))⟩,
         ⟨(some 0), none, .mov (.tmp 60)⟩] [])
       (.ret))))))⟩
/-- (*jitney/jitmake.Stream).Flip -/
def x23 : XFunc := ⟨2, [.tmp 4],
  .seq (.region [⟨(some 4), none, .mov (.const (.bool false))⟩] [])
  (.seq (.region [⟨(some 5), none, .mov (.tmp 0)⟩,
     ⟨(some 6), none, .mov (.tmp 1)⟩,
     ⟨(some 7), none, .call (.const (.func (.func 49) [])) [(.tmp 5), (.tmp 6)]⟩,
     ⟨(some 8), none, .bin .eql (.one .int) (.tmp 7) (.const (.int .i64 0))⟩,
     ⟨(some 4), none, .mov (.tmp 8)⟩] [])
   (.ret))⟩
def b24_0 : XCode := .seq (.seq (.region [⟨(some 11), none, .bin .lss (.one .int) (.tmp 10) (.tmp 9)⟩] [])
   (.seq (.cond (.tmp 11) (.skip)
     (.exit 0))
    (.seq (.block 1 (.seq (.region [⟨(some 12), none, .mov (.tmp 10)⟩,
         ⟨(some 6), none, .mov (.tmp 12)⟩] [])
       (.region [⟨(some 13), none, .mov (.tmp 5)⟩,
         ⟨(some 14), none, .mov (.tmp 6)⟩,
         ⟨(some 15), none, .lit 1 [(.int .i64 0)] [(0, (.tmp 14))] false⟩,
         ⟨(some 16), none, .append 1 8 (.tmp 13) (.tmp 15)⟩,
         ⟨(some 5), none, .mov (.tmp 16)⟩] [])))
     (.region [⟨(some 17), none, .bin .add (.one .int) (.tmp 10) (.const (.int .i64 1))⟩,
       ⟨(some 10), none, .mov (.tmp 17)⟩] []))))
  (.keep [0, 1, 5, 9, 10])
def b24_1 : XCode := .seq (.seq (.seq (.region [⟨(some 20), none, .mov (.tmp 7)⟩,
      ⟨(some 21), none, .bin .gtr (.one .int) (.tmp 20) (.const (.int .i64 0))⟩] [])
    (.cond (.tmp 21) (.skip)
     (.exit 2)))
   (.seq (.block 3 (.seq (.region [⟨(some 24), none, .mov (.tmp 0)⟩,
        ⟨(some 25), none, .mov (.tmp 7)⟩,
        ⟨(some 26), none, .bin .add (.one .int) (.tmp 25) (.const (.int .i64 1))⟩,
        ⟨(some 27), none, .call (.const (.func (.func 49) [])) [(.tmp 24), (.tmp 26)]⟩,
        ⟨(some 8), none, .mov (.tmp 27)⟩] [])
      (.region [⟨(some 28), none, .mov (.tmp 5)⟩,
        ⟨(some 29), none, .mov (.tmp 7)⟩,
        ⟨(some 30), none, .mov (.tmp 5)⟩,
        ⟨(some 31), none, .mov (.tmp 8)⟩,
        ⟨(some 32), none, .mov (.tmp 5)⟩,
        ⟨(some 33), none, .mov (.tmp 8)⟩,
        ⟨(some 34), none, .indexAddr 1 (.tmp 32) (.tmp 33)⟩,
        ⟨(some 35), none, .load none (.tmp 34)⟩,
        ⟨(some 36), none, .mov (.tmp 5)⟩,
        ⟨(some 37), none, .mov (.tmp 7)⟩,
        ⟨(some 38), none, .indexAddr 1 (.tmp 36) (.tmp 37)⟩,
        ⟨(some 39), none, .load none (.tmp 38)⟩,
        ⟨(some 40), none, .indexAddr 1 (.tmp 28) (.tmp 29)⟩,
        ⟨none, none, .store 1 (.tmp 40) (.tmp 35)⟩,
        ⟨(some 41), none, .indexAddr 1 (.tmp 30) (.tmp 31)⟩,
        ⟨none, none, .store 1 (.tmp 41) (.tmp 39)⟩] [])))
    (.region [⟨(some 22), none, .mov (.tmp 7)⟩,
      ⟨(some 23), none, .bin .sub (.one .int) (.tmp 22) (.const (.int .i64 1))⟩,
      ⟨(some 7), none, .mov (.tmp 23)⟩] [])))
  (.keep [0, 5, 7])
/-- (*jitney/jitmake.Stream).Order -/
def x24 : XFunc := ⟨2, [.tmp 4],
  .seq (.region [⟨(some 4), none, .mov (.const .nilslice)⟩] [])
  (.seq (.region [⟨(some 5), none, .mov (.const .nilslice)⟩] [])
   (.seq (.seq (.region [⟨(some 9), none, .mov (.tmp 1)⟩,
       ⟨(some 10), none, .mov (.const (.int .i64 0))⟩] [])
     (.block 0 (.seq (.keep [0, 1, 5, 9, 10])
       (.loop b24_0))))
    (.seq (.seq (.region [⟨(some 18), none, .mov (.tmp 1)⟩,
        ⟨(some 19), none, .bin .sub (.one .int) (.tmp 18) (.const (.int .i64 1))⟩,
        ⟨(some 7), none, .mov (.tmp 19)⟩] [])
      (.block 2 (.seq (.keep [0, 5, 7])
        (.loop b24_1))))
     (.seq (.region [⟨(some 42), none, .mov (.tmp 5)⟩,
        ⟨(some 4), none, .mov (.tmp 42)⟩] [])
      (.ret)))))⟩
def b25_0 : XCode := .seq (.seq (.region [⟨(some 8), none, .bin .lss (.one .int) (.tmp 7) (.tmp 6)⟩] [])
   (.seq (.cond (.tmp 8) (.skip)
     (.exit 0))
    (.seq (.block 1 (.seq (.region [⟨(some 9), none, .indexAddr 1 (.tmp 5) (.tmp 7)⟩,
         ⟨(some 10), none, .load none (.tmp 9)⟩,
         ⟨(some 4), none, .mov (.tmp 10)⟩] [])
       (.seq (.region [⟨(some 11), none, .mov (.tmp 4)⟩,
          ⟨(some 12), none, .bin .neq (.one .int) (.tmp 11) (.const (.int .i64 0))⟩] [])
        (.cond (.tmp 12) (.seq (.region [⟨(some 13), none, .mov (.tmp 4)⟩,
            ⟨(some 2), none, .mov (.tmp 13)⟩] [])
          (.ret))
         (.skip)))))
     (.region [⟨(some 14), none, .bin .add (.one .int) (.tmp 7) (.const (.int .i64 1))⟩,
       ⟨(some 7), none, .mov (.tmp 14)⟩] []))))
  (.keep [5, 6, 7])
/-- jitney/base.First -/
def x25 : XFunc := ⟨1, [.tmp 2],
  .seq (.region [⟨(some 2), none, .mov (.const (.int .i64 0))⟩] [])
  (.seq (.seq (.region [⟨(some 5), none, .mov (.tmp 0)⟩,
      ⟨(some 6), none, .len .slice (.tmp 5)⟩,
      ⟨(some 7), none, .mov (.const (.int .i64 0))⟩] [])
    (.block 0 (.seq (.keep [5, 6, 7])
      (.loop b25_0))))
   (.seq (.region [⟨(some 2), none, .mov (.const (.int .i64 0))⟩] [])
    (.ret)))⟩
def b26_0 : XCode := .seq (.seq (.region [⟨(some 45), none, .bin .lss (.one .int) (.tmp 44) (.tmp 43)⟩] [])
   (.seq (.cond (.tmp 45) (.skip)
     (.exit 3))
    (.seq (.block 4 (.seq (.region [⟨(some 46), none, .mov (.tmp 44)⟩,
         ⟨(some 47), none, .indexAddr 1 (.tmp 42) (.tmp 44)⟩,
         ⟨(some 48), none, .load none (.tmp 47)⟩,
         ⟨(some 5), none, .mov (.tmp 46)⟩,
         ⟨(some 6), none, .mov (.tmp 48)⟩] [])
       (.seq (.seq (.region [⟨(some 49), none, .mov (.tmp 6)⟩,
           ⟨(some 50), none, .call (.const (.func (.func 50) [])) [(.tmp 49)]⟩,
           ⟨(some 51), none, .un .not (.tmp 50)⟩] [])
         (.cond (.tmp 51) (.seq (.region [⟨(some 2), none, .mov (.const (.int .i64 5))⟩] [])
           (.ret))
          (.skip)))
        (.seq (.region [⟨(some 52), none, .fieldAddr 1 (.tmp 4)⟩,
           ⟨(some 53), none, .load none (.tmp 52)⟩,
           ⟨(some 54), none, .mov (.tmp 5)⟩,
           ⟨(some 55), none, .sliceSl 1 (.tmp 53) none (some (.tmp 54))⟩,
           ⟨(some 56), none, .mov (.tmp 6)⟩,
           ⟨(some 57), none, .call (.const (.func (.func 28) [])) [(.tmp 55), (.tmp 56)]⟩] [])
         (.cond (.tmp 57) (.seq (.region [⟨(some 2), none, .mov (.const (.int .i64 6))⟩] [])
           (.ret))
          (.skip))))))
     (.region [⟨(some 58), none, .bin .add (.one .int) (.tmp 44) (.const (.int .i64 1))⟩,
       ⟨(some 44), none, .mov (.tmp 58)⟩] []))))
  (.keep [0, 4, 10, 11, 12, 42, 43, 44])
def b26_1 : XCode := .seq (.seq (.region [⟨(some 13), none, .bin .lss (.one .int) (.tmp 12) (.tmp 11)⟩] [])
   (.seq (.cond (.tmp 13) (.skip)
     (.exit 0))
    (.seq (.block 1 (.seq (.region [⟨(some 14), none, .mov (.tmp 12)⟩,
         ⟨(some 15), none, .indexAddr 2 (.tmp 10) (.tmp 12)⟩,
         ⟨(some 16), none, .load (some 2) (.tmp 15)⟩,
         ⟨(some 4), none, .box 2 (.const (.agg [(.str []), .nilslice]))⟩,
         ⟨(some 3), none, .mov (.tmp 14)⟩,
         ⟨none, none, .store 2 (.tmp 4) (.tmp 16)⟩] [])
       (.seq (.block 2 (.seq (.region [⟨(some 18), none, .fieldAddr 0 (.tmp 4)⟩,
            ⟨(some 19), none, .load none (.tmp 18)⟩,
            ⟨(some 20), none, .call (.const (.func (.func 50) [])) [(.tmp 19)]⟩,
            ⟨(some 21), none, .un .not (.tmp 20)⟩,
            ⟨(some 17), none, .mov (.tmp 21)⟩] [])
          (.cond (.tmp 17) (.seq (.region [⟨(some 2), none, .mov (.const (.int .i64 5))⟩] [])
            (.ret))
           (.seq (.region [⟨(some 23), none, .mov (.tmp 3)⟩,
              ⟨(some 24), none, .bin .gtr (.one .int) (.tmp 23) (.const (.int .i64 0))⟩,
              ⟨(some 25), none, .mov (.tmp 24)⟩,
              ⟨(some 26), (some (25, true)), .fieldAddr 0 (.tmp 4)⟩,
              ⟨(some 27), (some (25, true)), .load none (.tmp 26)⟩,
              ⟨(some 28), (some (25, true)), .mov (.tmp 0)⟩,
              ⟨(some 29), (some (25, true)), .mov (.tmp 3)⟩,
              ⟨(some 30), (some (25, true)), .bin .sub (.one .int) (.tmp 29) (.const (.int .i64 1))⟩,
              ⟨(some 31), (some (25, true)), .indexAddr 2 (.tmp 28) (.tmp 30)⟩,
              ⟨(some 32), (some (25, true)), .fieldAddr 0 (.tmp 31)⟩,
              ⟨(some 33), (some (25, true)), .load none (.tmp 32)⟩,
              ⟨(some 34), (some (25, true)), .bin .leq (.one .str) (.tmp 27) (.tmp 33)⟩,
              ⟨(some 35), none, .pick (.tmp 25) (.tmp 34) (.const (.bool false))⟩,
              ⟨(some 22), none, .mov (.tmp 35)⟩] [])
            (.cond (.tmp 22) (.seq (.region [⟨(some 2), none, .mov (.const (.int .i64 7))⟩] [])
              (.ret))
             (.seq (.region [⟨(some 37), none, .fieldAddr 1 (.tmp 4)⟩,
                ⟨(some 38), none, .load none (.tmp 37)⟩,
                ⟨(some 39), none, .len .slice (.tmp 38)⟩,
                ⟨(some 40), none, .bin .gtr (.one .int) (.tmp 39) (.const (.int .i64 100))⟩,
                ⟨(some 36), none, .mov (.tmp 40)⟩] [])
              (.cond (.tmp 36) (.seq (.region [⟨(some 2), none, .mov (.const (.int .i64 2))⟩] [])
                (.ret))
               (.skip))))))))
        (.seq (.region [⟨(some 41), none, .fieldAddr 1 (.tmp 4)⟩,
           ⟨(some 42), none, .load none (.tmp 41)⟩,
           ⟨(some 43), none, .len .slice (.tmp 42)⟩,
           ⟨(some 44), none, .mov (.const (.int .i64 0))⟩] [])
         (.block 3 (.seq (.keep [0, 4, 10, 11, 12, 42, 43, 44])
           (.loop b26_0)))))))
     (.region [⟨(some 59), none, .bin .add (.one .int) (.tmp 12) (.const (.int .i64 1))⟩,
       ⟨(some 12), none, .mov (.tmp 59)⟩] []))))
  (.keep [0, 10, 11, 12])
/-- jitney/match.CheckWishes -/
def x26 : XFunc := ⟨1, [.tmp 2],
  .seq (.region [⟨(some 2), none, .mov (.const (.int .i64 0))⟩] [])
  (.seq (.seq (.region [⟨(some 7), none, .mov (.tmp 0)⟩,
      ⟨(some 8), none, .len .slice (.tmp 7)⟩,
      ⟨(some 9), none, .bin .gtr (.one .int) (.tmp 8) (.const (.int .i64 200))⟩] [])
    (.cond (.tmp 9) (.seq (.region [⟨(some 2), none, .mov (.const (.int .i64 2))⟩] [])
      (.ret))
     (.skip)))
   (.seq (.seq (.region [⟨(some 10), none, .mov (.tmp 0)⟩,
       ⟨(some 11), none, .len .slice (.tmp 10)⟩,
       ⟨(some 12), none, .mov (.const (.int .i64 0))⟩] [])
     (.block 0 (.seq (.keep [0, 10, 11, 12])
       (.loop b26_1))))
    (.seq (.region [⟨(some 2), none, .mov (.const (.int .i64 0))⟩] [])
     (.ret))))⟩
def b27_0 : XCode := .seq (.seq (.region [⟨(some 10), none, .bin .lss (.one .int) (.tmp 9) (.tmp 8)⟩] [])
   (.seq (.cond (.tmp 10) (.skip)
     (.exit 0))
    (.seq (.block 1 (.seq (.region [⟨(some 11), none, .indexAddr 2 (.tmp 7) (.tmp 9)⟩,
         ⟨(some 12), none, .load (some 2) (.tmp 11)⟩,
         ⟨(some 5), none, .box 2 (.const (.agg [(.str []), .nilslice]))⟩,
         ⟨none, none, .store 2 (.tmp 5) (.tmp 12)⟩] [])
       (.region [⟨(some 13), none, .mov (.tmp 3)⟩,
         ⟨(some 14), none, .fieldAddr 0 (.tmp 5)⟩,
         ⟨(some 15), none, .load none (.tmp 14)⟩,
         ⟨(some 16), none, .fieldAddr 1 (.tmp 5)⟩,
         ⟨(some 17), none, .load none (.tmp 16)⟩,
         ⟨none, none, .mapUpdate (.one .str) (.tmp 13) (.tmp 15) (.tmp 17)⟩] [])))
     (.region [⟨(some 18), none, .bin .add (.one .int) (.tmp 9) (.const (.int .i64 1))⟩,
       ⟨(some 9), none, .mov (.tmp 18)⟩] []))))
  (.keep [3, 7, 8, 9])
/-- jitney/match.wishes -/
def x27 : XFunc := ⟨1, [.tmp 2],
  .seq (.region [⟨(some 2), none, .mov (.const .nilmap)⟩] [])
  (.seq (.region [⟨(some 6), none, .mkMap⟩,
     ⟨(some 3), none, .mov (.tmp 6)⟩] [])
   (.seq (.seq (.region [⟨(some 7), none, .mov (.tmp 0)⟩,
       ⟨(some 8), none, .len .slice (.tmp 7)⟩,
       ⟨(some 9), none, .mov (.const (.int .i64 0))⟩] [])
     (.block 0 (.seq (.keep [3, 7, 8, 9])
       (.loop b27_0))))
    (.seq (.region [⟨(some 19), none, .mov (.tmp 3)⟩,
       ⟨(some 2), none, .mov (.tmp 19)⟩] [])
     (.ret))))⟩
/-- slices.Contains[[]string,string] -/
def x28 : XFunc := ⟨2, [.tmp 4],
  .seq (.region [⟨(some 4), none, .mov (.const (.bool false))⟩] [])
  (.seq (.region [⟨(some 5), none, .mov (.tmp 0)⟩,
     ⟨(some 6), none, .mov (.tmp 1)⟩,
     ⟨(some 7), none, .call (.const (.func (.func 51) [])) [(.tmp 5), (.tmp 6)]⟩,
     ⟨(some 8), none, .bin .geq (.one .int) (.tmp 7) (.const (.int .i64 0))⟩,
     ⟨(some 4), none, .mov (.tmp 8)⟩] [])
   (.ret))⟩
/-- jitney/match.likes -/
def x29 : XFunc := ⟨3, [.tmp 6],
  .seq (.region [⟨(some 6), none, .mov (.const (.bool false))⟩] [])
  (.seq (.region [⟨(some 9), none, .mov (.tmp 0)⟩,
     ⟨(some 10), none, .mov (.tmp 1)⟩,
     ⟨(some 11), none, .call (.const (.func (.func 51) [])) [(.tmp 9), (.tmp 10)]⟩,
     ⟨(some 12), none, .mov (.tmp 0)⟩,
     ⟨(some 13), none, .mov (.tmp 2)⟩,
     ⟨(some 14), none, .call (.const (.func (.func 51) [])) [(.tmp 12), (.tmp 13)]⟩,
     ⟨(some 7), none, .mov (.tmp 11)⟩,
     ⟨(some 8), none, .mov (.tmp 14)⟩] [])
   (.seq (.region [⟨(some 15), none, .mov (.tmp 7)⟩,
      ⟨(some 16), none, .bin .geq (.one .int) (.tmp 15) (.const (.int .i64 0))⟩,
      ⟨(some 17), none, .mov (.tmp 16)⟩,
      ⟨(some 18), (some (17, true)), .mov (.tmp 8)⟩,
      ⟨(some 19), (some (17, true)), .bin .lss (.one .int) (.tmp 18) (.const (.int .i64 0))⟩,
      ⟨(some 20), (some (17, true)), .mov (.tmp 19)⟩,
      ⟨(some 21), (some (20, false)), .mov (.tmp 7)⟩,
      ⟨(some 22), (some (20, false)), .mov (.tmp 8)⟩,
      ⟨(some 23), (some (20, false)), .bin .lss (.one .int) (.tmp 21) (.tmp 22)⟩,
      ⟨(some 24), (some (17, true)), .pick (.tmp 20) (.const (.bool true)) (.tmp 23)⟩,
      ⟨(some 25), none, .pick (.tmp 17) (.tmp 24) (.const (.bool false))⟩,
      ⟨(some 6), none, .mov (.tmp 25)⟩] [])
    (.ret)))⟩
/-- slices.SortFunc[[]jitney/api.Deal,jitney/api.Deal] -/
def x30 : XFunc := ⟨2, [],
  .seq (.region [⟨(some 5), none, .mov (.tmp 0)⟩,
    ⟨(some 6), none, .len .slice (.tmp 5)⟩,
    ⟨(some 4), none, .mov (.tmp 6)⟩] [])
  (.region [⟨(some 7), none, .mov (.tmp 0)⟩,
    ⟨(some 8), none, .mov (.tmp 4)⟩,
    ⟨(some 9), none, .mov (.tmp 4)⟩,
    ⟨(some 10), none, .convInt .u64 (.tmp 9)⟩,
    ⟨(some 11), none, .call (.const (.func (.func 53) [])) [(.tmp 10)]⟩,
    ⟨(some 12), none, .mov (.tmp 1)⟩,
    ⟨(some 13), none, .call (.const (.func (.func 52) [])) [(.tmp 7), (.const (.int .i64 0)), (.tmp 8), (.tmp 11), (.tmp 12)]⟩] [])⟩
/-- jitney/match.Stable$1 -/
def x31 : XFunc := ⟨2, [.tmp 4],
  .seq (.region [⟨(some 2), none, .box 2 (.tmp 0)⟩,
    ⟨(some 3), none, .box 2 (.tmp 1)⟩,
    ⟨(some 4), none, .mov (.const (.int .i64 0))⟩] [])
  (.seq (.region [⟨(some 5), none, .fieldAddr 0 (.tmp 2)⟩,
     ⟨(some 6), none, .load none (.tmp 5)⟩,
     ⟨(some 7), none, .fieldAddr 0 (.tmp 3)⟩,
     ⟨(some 8), none, .load none (.tmp 7)⟩,
     ⟨(some 9), none, .call (.const (.func (.func 32) [])) [(.tmp 6), (.tmp 8)]⟩,
     ⟨(some 4), none, .mov (.tmp 9)⟩] [])
   (.ret))⟩
/-- strings.Compare -/
def x32 : XFunc := ⟨2, [.tmp 4],
  .seq (.region [⟨(some 4), none, .mov (.const (.int .i64 0))⟩] [])
  (.seq (.region [⟨(some 5), none, .mov (.tmp 0)⟩,
     ⟨(some 6), none, .mov (.tmp 1)⟩,
     ⟨(some 7), none, .call (.const (.func (.func 54) [])) [(.tmp 5), (.tmp 6)]⟩,
     ⟨(some 4), none, .mov (.tmp 7)⟩] [])
   (.ret))⟩
/-- jitney/match.Blocking$1 -/
def x33 : XFunc := ⟨2, [.tmp 4],
  .seq (.region [⟨(some 2), none, .box 2 (.tmp 0)⟩,
    ⟨(some 3), none, .box 2 (.tmp 1)⟩,
    ⟨(some 4), none, .mov (.const (.int .i64 0))⟩] [])
  (.seq (.seq (.region [⟨(some 6), none, .fieldAddr 0 (.tmp 2)⟩,
      ⟨(some 7), none, .load none (.tmp 6)⟩,
      ⟨(some 8), none, .fieldAddr 0 (.tmp 3)⟩,
      ⟨(some 9), none, .load none (.tmp 8)⟩,
      ⟨(some 10), none, .call (.const (.func (.func 32) [])) [(.tmp 7), (.tmp 9)]⟩,
      ⟨(some 5), none, .mov (.tmp 10)⟩] [])
    (.seq (.region [⟨(some 11), none, .mov (.tmp 5)⟩,
       ⟨(some 12), none, .bin .neq (.one .int) (.tmp 11) (.const (.int .i64 0))⟩] [])
     (.cond (.tmp 12) (.seq (.region [⟨(some 13), none, .mov (.tmp 5)⟩,
         ⟨(some 4), none, .mov (.tmp 13)⟩] [])
       (.ret))
      (.skip))))
   (.seq (.region [⟨(some 14), none, .fieldAddr 1 (.tmp 2)⟩,
      ⟨(some 15), none, .load none (.tmp 14)⟩,
      ⟨(some 16), none, .fieldAddr 1 (.tmp 3)⟩,
      ⟨(some 17), none, .load none (.tmp 16)⟩,
      ⟨(some 18), none, .call (.const (.func (.func 32) [])) [(.tmp 15), (.tmp 17)]⟩,
      ⟨(some 4), none, .mov (.tmp 18)⟩] [])
    (.ret)))⟩
def b34_0 : XCode := .seq (.seq (.region [⟨(some 9), none, .bin .lss (.one .int) (.tmp 8) (.tmp 7)⟩] [])
   (.seq (.cond (.tmp 9) (.skip)
     (.exit 0))
    (.seq (.block 1 (.seq (.region [⟨(some 10), none, .mov (.tmp 8)⟩,
         ⟨(some 5), none, .mov (.tmp 10)⟩] [])
       (.seq (.region [⟨(some 11), none, .mov (.tmp 1)⟩,
          ⟨(some 12), none, .mov (.tmp 0)⟩,
          ⟨(some 13), none, .mov (.tmp 5)⟩,
          ⟨(some 14), none, .indexAddr 2 (.tmp 12) (.tmp 13)⟩,
          ⟨(some 15), none, .load (some 2) (.tmp 14)⟩,
          ⟨(some 16), none, .call (.tmp 11) [(.tmp 15)]⟩] [])
        (.cond (.tmp 16) (.seq (.region [⟨(some 17), none, .mov (.tmp 5)⟩,
            ⟨(some 4), none, .mov (.tmp 17)⟩] [])
          (.ret))
         (.skip)))))
     (.region [⟨(some 18), none, .bin .add (.one .int) (.tmp 8) (.const (.int .i64 1))⟩,
       ⟨(some 8), none, .mov (.tmp 18)⟩] []))))
  (.keep [0, 1, 7, 8])
/-- slices.IndexFunc[[]jitney/api.Deal,jitney/api.Deal] -/
def x34 : XFunc := ⟨2, [.tmp 4],
  .seq (.region [⟨(some 4), none, .mov (.const (.int .i64 0))⟩] [])
  (.seq (.seq (.region [⟨(some 6), none, .mov (.tmp 0)⟩,
      ⟨(some 7), none, .len .slice (.tmp 6)⟩,
      ⟨(some 8), none, .mov (.const (.int .i64 0))⟩] [])
    (.block 0 (.seq (.keep [0, 1, 7, 8])
      (.loop b34_0))))
   (.seq (.region [⟨(some 4), none, .mov (.const (.int .i64 (-1)))⟩] [])
    (.ret)))⟩
def b35_0 : XCode := .seq (.seq (.seq (.region [⟨(some 17), none, .mov (.tmp 6)⟩,
      ⟨(some 18), none, .fieldAddr 5 (.tmp 1)⟩,
      ⟨(some 19), none, .load none (.tmp 18)⟩,
      ⟨(some 20), none, .bin .leq (.one .int) (.tmp 17) (.tmp 19)⟩] [])
    (.cond (.tmp 20) (.skip)
     (.exit 0)))
   (.seq (.block 1 (.seq (.region [⟨(some 24), none, .mov (.tmp 6)⟩,
        ⟨(some 25), none, .call (.const (.func (.func 56) [])) [(.tmp 1), (.tmp 24)]⟩,
        ⟨(some 23), none, .mov (.tmp 25)⟩,
        ⟨(some 26), none, .extract (.tmp 23) 0⟩,
        ⟨(some 27), none, .extract (.tmp 23) 1⟩,
        ⟨(some 7), none, .box 8 (.const (.agg [(.str []), (.str []), (.str []), (.str []), (.int .i64 0), (.int .i64 0), (.int .i64 0), (.int .i64 0)]))⟩,
        ⟨none, none, .store 8 (.tmp 7) (.tmp 26)⟩,
        ⟨(some 8), none, .mov (.tmp 27)⟩] [])
      (.seq (.region [⟨(some 28), none, .mov (.tmp 8)⟩] [])
       (.cond (.tmp 28) (.region [⟨(some 29), none, .mov (.tmp 5)⟩,
          ⟨(some 30), none, .mov (.tmp 6)⟩,
          ⟨(some 31), none, .lit 1 [(.int .i64 0)] [(0, (.tmp 30))] false⟩,
          ⟨(some 32), none, .append 1 8 (.tmp 29) (.tmp 31)⟩,
          ⟨(some 5), none, .mov (.tmp 32)⟩] [])
        (.skip)))))
    (.region [⟨(some 21), none, .mov (.tmp 6)⟩,
      ⟨(some 22), none, .bin .add (.one .int) (.tmp 21) (.const (.int .i64 1))⟩,
      ⟨(some 6), none, .mov (.tmp 22)⟩] [])))
  (.keep [1, 5, 6])
/-- jitney/request.Days -/
def x35 : XFunc := ⟨1, [.tmp 2, .tmp 3],
  .seq (.region [⟨(some 1), none, .box 14 (.tmp 0)⟩,
    ⟨(some 2), none, .mov (.const .nilslice)⟩,
    ⟨(some 3), none, .mov (.const (.int .i64 0))⟩] [])
  (.seq (.seq (.region [⟨(some 9), none, .load (some 14) (.tmp 1)⟩,
      ⟨(some 10), none, .lit 14 [(.agg [(.str []), (.str []), (.str []), (.str []), (.int .i64 0), (.int .i64 0), (.int .i64 0), (.int .i64 0), (.int .i64 0), (.int .i64 0), (.int .i64 0), (.int .i64 0), (.int .i64 0), .nilslice])] [(0, (.tmp 9))] true⟩,
      ⟨(some 11), none, .call (.const (.func (.func 55) [])) [(.tmp 10)]⟩,
      ⟨(some 4), none, .mov (.tmp 11)⟩] [])
    (.seq (.region [⟨(some 12), none, .mov (.tmp 4)⟩,
       ⟨(some 13), none, .bin .neq (.one .int) (.tmp 12) (.const (.int .i64 0))⟩] [])
     (.cond (.tmp 13) (.seq (.region [⟨(some 14), none, .mov (.tmp 4)⟩,
         ⟨(some 2), none, .mov (.const .nilslice)⟩,
         ⟨(some 3), none, .mov (.tmp 14)⟩] [])
       (.ret))
      (.skip))))
   (.seq (.region [⟨(some 5), none, .mov (.const .nilslice)⟩] [])
    (.seq (.seq (.region [⟨(some 15), none, .fieldAddr 4 (.tmp 1)⟩,
        ⟨(some 16), none, .load none (.tmp 15)⟩,
        ⟨(some 6), none, .mov (.tmp 16)⟩] [])
      (.block 0 (.seq (.keep [1, 5, 6])
        (.loop b35_0))))
     (.seq (.region [⟨(some 33), none, .mov (.tmp 5)⟩,
        ⟨(some 2), none, .mov (.tmp 33)⟩,
        ⟨(some 3), none, .mov (.const (.int .i64 0))⟩] [])
      (.ret)))))⟩
/-- jitney/match.Most -/
def x36 : XFunc := ⟨1, [.tmp 2, .tmp 3],
  .seq (.region [⟨(some 2), none, .mov (.const (.int .i64 0))⟩,
    ⟨(some 3), none, .mov (.const (.int .i64 0))⟩] [])
  (.seq (.seq (.region [⟨(some 5), none, .mov (.tmp 0)⟩,
      ⟨(some 6), none, .call (.const (.func (.func 40) [])) [(.tmp 5)]⟩,
      ⟨(some 4), none, .mov (.tmp 6)⟩] [])
    (.seq (.region [⟨(some 7), none, .mov (.tmp 4)⟩,
       ⟨(some 8), none, .bin .neq (.one .int) (.tmp 7) (.const (.int .i64 0))⟩] [])
     (.cond (.tmp 8) (.seq (.region [⟨(some 9), none, .mov (.tmp 4)⟩,
         ⟨(some 2), none, .mov (.const (.int .i64 0))⟩,
         ⟨(some 3), none, .mov (.tmp 9)⟩] [])
       (.ret))
      (.skip))))
   (.seq (.region [⟨(some 10), none, .mov (.tmp 0)⟩,
      ⟨(some 11), none, .call (.const (.func (.func 48) [])) [(.tmp 10)]⟩,
      ⟨(some 12), none, .call (.const (.func (.func 57) [])) [(.tmp 11)]⟩,
      ⟨(some 2), none, .mov (.tmp 12)⟩,
      ⟨(some 3), none, .mov (.const (.int .i64 0))⟩] [])
    (.ret)))⟩
/-- jitney/fleet.Drivers -/
def x37 : XFunc := ⟨1, [.tmp 2, .tmp 3],
  .seq (.region [⟨(some 2), none, .mov (.const (.int .i64 0))⟩,
    ⟨(some 3), none, .mov (.const (.int .i64 0))⟩] [])
  (.seq (.seq (.region [⟨(some 7), none, .mov (.tmp 0)⟩,
      ⟨(some 8), none, .call (.const (.func (.func 58) [])) [(.tmp 7)]⟩,
      ⟨(some 4), none, .mov (.tmp 8)⟩] [])
    (.seq (.region [⟨(some 9), none, .mov (.tmp 4)⟩,
       ⟨(some 10), none, .bin .neq (.one .int) (.tmp 9) (.const (.int .i64 0))⟩] [])
     (.cond (.tmp 10) (.seq (.region [⟨(some 11), none, .mov (.tmp 4)⟩,
         ⟨(some 2), none, .mov (.const (.int .i64 0))⟩,
         ⟨(some 3), none, .mov (.tmp 11)⟩] [])
       (.ret))
      (.skip))))
   (.seq (.region [⟨(some 13), none, .mov (.tmp 0)⟩,
      ⟨(some 14), none, .call (.const (.func (.func 59) [])) [(.tmp 13)]⟩,
      ⟨(some 12), none, .mov (.tmp 14)⟩,
      ⟨(some 15), none, .extract (.tmp 12) 0⟩,
      ⟨(some 16), none, .extract (.tmp 12) 1⟩,
      ⟨(some 5), none, .mov (.tmp 15)⟩,
      ⟨(some 6), none, .mov (.tmp 16)⟩] [])
    (.seq (.region [⟨(some 17), none, .mov (.tmp 6)⟩,
       ⟨(some 2), none, .mov (.tmp 17)⟩,
       ⟨(some 3), none, .mov (.const (.int .i64 0))⟩] [])
     (.ret))))⟩
/-- jitney/trust.Score -/
def x38 : XFunc := ⟨4, [.cell 8 (some 2), .tmp 9],
  .seq (.region [⟨(some 4), none, .box 3 (.tmp 0)⟩,
    ⟨(some 8), none, .box 2 (.const (.agg [(.int .i64 0), (.int .i64 0)]))⟩,
    ⟨(some 9), none, .mov (.const (.int .i64 0))⟩] [])
  (.seq (.seq (.region [⟨(some 13), none, .mov (.tmp 1)⟩,
      ⟨(some 14), none, .call (.const (.func (.func 60) [])) [(.tmp 13)]⟩,
      ⟨(some 15), none, .load (some 3) (.tmp 4)⟩,
      ⟨(some 16), none, .call (.const (.func (.func 61) [])) [(.tmp 15)]⟩,
      ⟨(some 17), none, .lit 1 [(.int .i64 0), (.int .i64 0)] [(0, (.tmp 14)), (1, (.tmp 16))] false⟩,
      ⟨(some 18), none, .call (.const (.func (.func 25) [])) [(.tmp 17)]⟩,
      ⟨(some 10), none, .mov (.tmp 18)⟩] [])
    (.seq (.region [⟨(some 19), none, .mov (.tmp 10)⟩,
       ⟨(some 20), none, .bin .neq (.one .int) (.tmp 19) (.const (.int .i64 0))⟩] [])
     (.cond (.tmp 20) (.seq (.region [⟨(some 21), none, .build [(.int .i64 0), (.int .i64 0)] []⟩,
         ⟨(some 22), none, .mov (.tmp 10)⟩,
         ⟨none, none, .store 2 (.tmp 8) (.tmp 21)⟩,
         ⟨(some 9), none, .mov (.tmp 22)⟩] [])
       (.ret))
      (.skip))))
   (.seq (.block 0 (.seq (.region [⟨(some 24), none, .mov (.tmp 2)⟩,
        ⟨(some 25), none, .call (.const (.func (.func 50) [])) [(.tmp 24)]⟩,
        ⟨(some 26), none, .un .not (.tmp 25)⟩,
        ⟨(some 23), none, .mov (.tmp 26)⟩] [])
      (.cond (.tmp 23) (.seq (.region [⟨(some 27), none, .build [(.int .i64 0), (.int .i64 0)] []⟩,
          ⟨none, none, .store 2 (.tmp 8) (.tmp 27)⟩,
          ⟨(some 9), none, .mov (.const (.int .i64 5))⟩] [])
        (.ret))
       (.seq (.region [⟨(some 29), none, .mov (.tmp 3)⟩,
          ⟨(some 30), none, .call (.const (.func (.func 62) [])) [(.tmp 29)]⟩,
          ⟨(some 31), none, .un .not (.tmp 30)⟩,
          ⟨(some 28), none, .mov (.tmp 31)⟩] [])
        (.cond (.tmp 28) (.seq (.region [⟨(some 32), none, .build [(.int .i64 0), (.int .i64 0)] []⟩,
            ⟨none, none, .store 2 (.tmp 8) (.tmp 32)⟩,
            ⟨(some 9), none, .mov (.const (.int .i64 1))⟩] [])
          (.ret))
         (.skip))))))
    (.seq (.region [⟨(some 34), none, .load (some 3) (.tmp 4)⟩,
       ⟨(some 35), none, .mov (.tmp 1)⟩,
       ⟨(some 36), none, .mov (.tmp 3)⟩,
       ⟨(some 37), none, .call (.const (.func (.func 63) [])) [(.tmp 34), (.tmp 35), (.tmp 36)]⟩,
       ⟨(some 38), none, .load (some 3) (.tmp 4)⟩,
       ⟨(some 39), none, .mov (.tmp 2)⟩,
       ⟨(some 40), none, .call (.const (.func (.func 64) [])) [(.tmp 37), (.tmp 38), (.tmp 39)]⟩,
       ⟨(some 33), none, .mov (.tmp 40)⟩,
       ⟨(some 41), none, .extract (.tmp 33) 0⟩,
       ⟨(some 42), none, .extract (.tmp 33) 1⟩,
       ⟨(some 11), none, .box 2 (.const (.agg [(.int .i64 0), (.int .i64 0)]))⟩,
       ⟨none, none, .store 2 (.tmp 11) (.tmp 41)⟩,
       ⟨(some 12), none, .mov (.tmp 42)⟩] [])
     (.seq (.seq (.region [⟨(some 43), none, .mov (.tmp 12)⟩,
         ⟨(some 44), none, .un .not (.tmp 43)⟩] [])
       (.cond (.tmp 44) (.seq (.region [⟨(some 45), none, .build [(.int .i64 0), (.int .i64 0)] []⟩,
           ⟨none, none, .store 2 (.tmp 8) (.tmp 45)⟩,
           ⟨(some 9), none, .mov (.const (.int .i64 8))⟩] [])
         (.ret))
        (.skip)))
      (.seq (.region [⟨(some 46), none, .load (some 2) (.tmp 11)⟩,
         ⟨none, none, .store 2 (.tmp 8) (.tmp 46)⟩,
         ⟨(some 9), none, .mov (.const (.int .i64 0))⟩] [])
       (.ret))))))⟩
def b40_0 : XCode := .seq (.seq (.region [⟨(some 11), none, .bin .lss (.one .int) (.tmp 10) (.tmp 9)⟩] [])
   (.seq (.cond (.tmp 11) (.skip)
     (.exit 0))
    (.seq (.block 1 (.seq (.region [⟨(some 12), none, .mov (.tmp 10)⟩,
         ⟨(some 13), none, .indexAddr 3 (.tmp 8) (.tmp 10)⟩,
         ⟨(some 14), none, .load (some 3) (.tmp 13)⟩,
         ⟨(some 4), none, .box 3 (.const (.agg [(.str []), (.str []), (.int .i64 0)]))⟩,
         ⟨(some 3), none, .mov (.tmp 12)⟩,
         ⟨none, none, .store 3 (.tmp 4) (.tmp 14)⟩] [])
       (.block 2 (.seq (.region [⟨(some 16), none, .fieldAddr 0 (.tmp 4)⟩,
           ⟨(some 17), none, .load none (.tmp 16)⟩,
           ⟨(some 18), none, .call (.const (.func (.func 50) [])) [(.tmp 17)]⟩,
           ⟨(some 19), none, .un .not (.tmp 18)⟩,
           ⟨(some 20), none, .mov (.tmp 19)⟩,
           ⟨(some 21), (some (20, false)), .fieldAddr 1 (.tmp 4)⟩,
           ⟨(some 22), (some (20, false)), .load none (.tmp 21)⟩,
           ⟨(some 23), (some (20, false)), .call (.const (.func (.func 50) [])) [(.tmp 22)]⟩,
           ⟨(some 24), (some (20, false)), .un .not (.tmp 23)⟩,
           ⟨(some 25), none, .pick (.tmp 20) (.const (.bool true)) (.tmp 24)⟩,
           ⟨(some 15), none, .mov (.tmp 25)⟩] [])
         (.cond (.tmp 15) (.seq (.region [⟨(some 2), none, .mov (.const (.int .i64 5))⟩] [])
           (.ret))
          (.seq (.region [⟨(some 27), none, .fieldAddr 2 (.tmp 4)⟩,
             ⟨(some 28), none, .load none (.tmp 27)⟩,
             ⟨(some 29), none, .call (.const (.func (.func 65) [])) [(.tmp 28), (.const (.int .i64 0)), (.const (.int .i64 1000000000))]⟩,
             ⟨(some 26), none, .mov (.tmp 29)⟩] [])
           (.cond (.tmp 26) (.seq (.region [⟨(some 2), none, .mov (.const (.int .i64 1))⟩] [])
             (.ret))
            (.seq (.region [⟨(some 31), none, .mov (.tmp 3)⟩,
               ⟨(some 32), none, .bin .gtr (.one .int) (.tmp 31) (.const (.int .i64 0))⟩,
               ⟨(some 33), none, .mov (.tmp 32)⟩,
               ⟨(some 34), (some (33, true)), .load (some 3) (.tmp 4)⟩,
               ⟨(some 35), (some (33, true)), .mov (.tmp 0)⟩,
               ⟨(some 36), (some (33, true)), .mov (.tmp 3)⟩,
               ⟨(some 37), (some (33, true)), .bin .sub (.one .int) (.tmp 36) (.const (.int .i64 1))⟩,
               ⟨(some 38), (some (33, true)), .indexAddr 3 (.tmp 35) (.tmp 37)⟩,
               ⟨(some 39), (some (33, true)), .load (some 3) (.tmp 38)⟩,
               ⟨(some 40), (some (33, true)), .call (.const (.func (.func 66) [])) [(.tmp 34), (.tmp 39)]⟩,
               ⟨(some 41), (some (33, true)), .bin .leq (.one .int) (.tmp 40) (.const (.int .i64 0))⟩,
               ⟨(some 42), none, .pick (.tmp 33) (.tmp 41) (.const (.bool false))⟩,
               ⟨(some 30), none, .mov (.tmp 42)⟩] [])
             (.cond (.tmp 30) (.seq (.region [⟨(some 2), none, .mov (.const (.int .i64 7))⟩] [])
               (.ret))
              (.skip))))))))))
     (.region [⟨(some 43), none, .bin .add (.one .int) (.tmp 10) (.const (.int .i64 1))⟩,
       ⟨(some 10), none, .mov (.tmp 43)⟩] []))))
  (.keep [0, 8, 9, 10])
/-- jitney/match.CheckOffers -/
def x40 : XFunc := ⟨1, [.tmp 2],
  .seq (.region [⟨(some 2), none, .mov (.const (.int .i64 0))⟩] [])
  (.seq (.seq (.region [⟨(some 5), none, .mov (.tmp 0)⟩,
      ⟨(some 6), none, .len .slice (.tmp 5)⟩,
      ⟨(some 7), none, .bin .gtr (.one .int) (.tmp 6) (.const (.int .i64 2000))⟩] [])
    (.cond (.tmp 7) (.seq (.region [⟨(some 2), none, .mov (.const (.int .i64 2))⟩] [])
      (.ret))
     (.skip)))
   (.seq (.seq (.region [⟨(some 8), none, .mov (.tmp 0)⟩,
       ⟨(some 9), none, .len .slice (.tmp 8)⟩,
       ⟨(some 10), none, .mov (.const (.int .i64 0))⟩] [])
     (.block 0 (.seq (.keep [0, 8, 9, 10])
       (.loop b40_0))))
    (.seq (.region [⟨(some 2), none, .mov (.const (.int .i64 0))⟩] [])
     (.ret))))⟩
def b48_0 : XCode := .seq (.seq (.region [⟨(some 49), none, .bin .lss (.one .int) (.tmp 48) (.tmp 47)⟩] [])
   (.seq (.cond (.tmp 49) (.skip)
     (.exit 0))
    (.seq (.block 1 (.seq (.region [⟨(some 50), none, .indexAddr 3 (.tmp 46) (.tmp 48)⟩,
         ⟨(some 51), none, .load (some 3) (.tmp 50)⟩,
         ⟨(some 5), none, .box 3 (.const (.agg [(.str []), (.str []), (.int .i64 0)]))⟩,
         ⟨none, none, .store 3 (.tmp 5) (.tmp 51)⟩] [])
       (.seq (.region [⟨(some 53), none, .mov (.tmp 3)⟩,
          ⟨(some 54), none, .nilCheck (.tmp 53)⟩,
          ⟨(some 55), none, .fieldAddr 0 (.tmp 54)⟩,
          ⟨(some 56), none, .load none (.tmp 55)⟩,
          ⟨(some 57), none, .fieldAddr 0 (.tmp 5)⟩,
          ⟨(some 58), none, .load none (.tmp 57)⟩,
          ⟨(some 59), none, .call (.const (.func (.func 69) [])) [(.tmp 56), (.tmp 58)]⟩,
          ⟨(some 52), none, .mov (.tmp 59)⟩,
          ⟨(some 60), none, .extract (.tmp 52) 0⟩,
          ⟨(some 61), none, .extract (.tmp 52) 1⟩,
          ⟨(some 6), none, .mov (.tmp 60)⟩,
          ⟨(some 7), none, .mov (.tmp 61)⟩] [])
        (.seq (.region [⟨(some 63), none, .mov (.tmp 3)⟩,
           ⟨(some 64), none, .nilCheck (.tmp 63)⟩,
           ⟨(some 65), none, .fieldAddr 1 (.tmp 64)⟩,
           ⟨(some 66), none, .load none (.tmp 65)⟩,
           ⟨(some 67), none, .fieldAddr 1 (.tmp 5)⟩,
           ⟨(some 68), none, .load none (.tmp 67)⟩,
           ⟨(some 69), none, .call (.const (.func (.func 69) [])) [(.tmp 66), (.tmp 68)]⟩,
           ⟨(some 62), none, .mov (.tmp 69)⟩,
           ⟨(some 70), none, .extract (.tmp 62) 0⟩,
           ⟨(some 71), none, .extract (.tmp 62) 1⟩,
           ⟨(some 8), none, .mov (.tmp 70)⟩,
           ⟨(some 9), none, .mov (.tmp 71)⟩] [])
         (.region [⟨(some 72), none, .mov (.tmp 3)⟩,
           ⟨(some 73), none, .nilCheck (.tmp 72)⟩,
           ⟨(some 74), none, .fieldAddr 2 (.tmp 73)⟩,
           ⟨(some 75), none, .load none (.tmp 74)⟩,
           ⟨(some 76), none, .mov (.tmp 6)⟩,
           ⟨(some 77), none, .mov (.tmp 3)⟩,
           ⟨(some 78), none, .nilCheck (.tmp 77)⟩,
           ⟨(some 79), none, .fieldAddr 2 (.tmp 78)⟩,
           ⟨(some 80), none, .load none (.tmp 79)⟩,
           ⟨(some 81), none, .mov (.tmp 6)⟩,
           ⟨(some 82), none, .indexAddr 1 (.tmp 80) (.tmp 81)⟩,
           ⟨(some 83), none, .load none (.tmp 82)⟩,
           ⟨(some 84), none, .mov (.tmp 8)⟩,
           ⟨(some 85), none, .lit 1 [(.int .i64 0)] [(0, (.tmp 84))] false⟩,
           ⟨(some 86), none, .append 1 8 (.tmp 83) (.tmp 85)⟩,
           ⟨(some 87), none, .indexAddr 1 (.tmp 75) (.tmp 76)⟩,
           ⟨none, none, .store 1 (.tmp 87) (.tmp 86)⟩] [((.tmp 74), (.tmp 83))])))))
     (.region [⟨(some 88), none, .bin .add (.one .int) (.tmp 48) (.const (.int .i64 1))⟩,
       ⟨(some 48), none, .mov (.tmp 88)⟩] []))))
  (.keep [3, 46, 47, 48])
def b48_1 : XCode := .seq (.seq (.region [⟨(some 95), none, .bin .lss (.one .int) (.tmp 94) (.tmp 93)⟩] [])
   (.seq (.cond (.tmp 95) (.skip)
     (.exit 2))
    (.seq (.block 3 (.seq (.region [⟨(some 96), none, .mov (.tmp 94)⟩,
         ⟨(some 10), none, .mov (.tmp 96)⟩] [])
       (.region [⟨(some 97), none, .mov (.tmp 3)⟩,
         ⟨(some 98), none, .mov (.tmp 10)⟩,
         ⟨(some 99), none, .mov (.tmp 3)⟩,
         ⟨(some 100), none, .nilCheck (.tmp 99)⟩,
         ⟨(some 101), none, .fieldAddr 1 (.tmp 100)⟩,
         ⟨(some 102), none, .load none (.tmp 101)⟩,
         ⟨(some 103), none, .len .slice (.tmp 102)⟩,
         ⟨(some 104), none, .mkSlice 1 1 (.bool false) (.tmp 103) (.tmp 103)⟩,
         ⟨(some 105), none, .call (.const (.func (.func 74) [])) [(.tmp 97), (.tmp 98), (.tmp 104)]⟩] [])))
     (.region [⟨(some 106), none, .bin .add (.one .int) (.tmp 94) (.const (.int .i64 1))⟩,
       ⟨(some 94), none, .mov (.tmp 106)⟩] []))))
  (.keep [3, 93, 94])
/-- jitney/match.newGraph -/
def x48 : XFunc := ⟨1, [.tmp 2],
  .seq (.region [⟨(some 2), none, .mov (.const .nilptr)⟩] [])
  (.seq (.region [⟨(some 11), none, .mov (.tmp 0)⟩,
     ⟨(some 12), none, .call (.const (.func (.func 67) [])) [(.tmp 11)]⟩,
     ⟨(some 13), none, .mov (.tmp 0)⟩,
     ⟨(some 14), none, .call (.const (.func (.func 68) [])) [(.tmp 13)]⟩,
     ⟨(some 15), none, .build [.nilslice, .nilslice, .nilslice, .nilslice, .nilslice] [(0, 1, (.tmp 12)), (1, 1, (.tmp 14))]⟩,
     ⟨(some 16), none, .box 5 (.tmp 15)⟩,
     ⟨(some 3), none, .mov (.tmp 16)⟩] [])
   (.seq (.region [⟨(some 17), none, .mov (.tmp 3)⟩,
      ⟨(some 18), none, .mov (.tmp 3)⟩,
      ⟨(some 19), none, .nilCheck (.tmp 18)⟩,
      ⟨(some 20), none, .fieldAddr 0 (.tmp 19)⟩,
      ⟨(some 21), none, .load none (.tmp 20)⟩,
      ⟨(some 22), none, .len .slice (.tmp 21)⟩,
      ⟨(some 23), none, .mkSlice 1 24 .nilslice (.tmp 22) (.tmp 22)⟩,
      ⟨(some 24), none, .nilCheck (.tmp 17)⟩,
      ⟨(some 25), none, .fieldAddr 2 (.tmp 24)⟩,
      ⟨none, none, .store 1 (.tmp 25) (.tmp 23)⟩] [])
    (.seq (.region [⟨(some 26), none, .mov (.tmp 3)⟩,
       ⟨(some 27), none, .mov (.tmp 3)⟩,
       ⟨(some 28), none, .lit 1 [(.int .i64 0)] [(0, (.const (.int .i64 (-1))))] false⟩,
       ⟨(some 29), none, .mov (.tmp 3)⟩,
       ⟨(some 30), none, .nilCheck (.tmp 29)⟩,
       ⟨(some 31), none, .fieldAddr 0 (.tmp 30)⟩,
       ⟨(some 35), none, .lit 1 [(.int .i64 0)] [(0, (.const (.int .i64 (-1))))] false⟩,
       ⟨(some 36), none, .mov (.tmp 3)⟩,
       ⟨(some 37), none, .nilCheck (.tmp 36)⟩,
       ⟨(some 38), none, .fieldAddr 1 (.tmp 37)⟩,
       ⟨(some 32), none, .load none (.tmp 31)⟩,
       ⟨(some 33), none, .len .slice (.tmp 32)⟩,
       ⟨(some 39), none, .load none (.tmp 38)⟩,
       ⟨(some 40), none, .len .slice (.tmp 39)⟩,
       ⟨(some 34), none, .call (.const (.func (.func 73) [])) [(.tmp 28), (.tmp 33)]⟩,
       ⟨(some 41), none, .call (.const (.func (.func 73) [])) [(.tmp 35), (.tmp 40)]⟩,
       ⟨(some 42), none, .nilCheck (.tmp 26)⟩,
       ⟨(some 43), none, .fieldAddr 4 (.tmp 42)⟩,
       ⟨none, none, .store 1 (.tmp 43) (.tmp 34)⟩,
       ⟨(some 44), none, .nilCheck (.tmp 27)⟩,
       ⟨(some 45), none, .fieldAddr 3 (.tmp 44)⟩,
       ⟨none, none, .store 1 (.tmp 45) (.tmp 41)⟩] [])
     (.seq (.seq (.region [⟨(some 46), none, .mov (.tmp 0)⟩,
         ⟨(some 47), none, .len .slice (.tmp 46)⟩,
         ⟨(some 48), none, .mov (.const (.int .i64 0))⟩] [])
       (.block 0 (.seq (.keep [3, 46, 47, 48])
         (.loop b48_0))))
      (.seq (.seq (.region [⟨(some 89), none, .mov (.tmp 3)⟩,
          ⟨(some 90), none, .nilCheck (.tmp 89)⟩,
          ⟨(some 91), none, .fieldAddr 0 (.tmp 90)⟩,
          ⟨(some 92), none, .load none (.tmp 91)⟩,
          ⟨(some 93), none, .len .slice (.tmp 92)⟩,
          ⟨(some 94), none, .mov (.const (.int .i64 0))⟩] [])
        (.block 2 (.seq (.keep [3, 93, 94])
          (.loop b48_1))))
       (.seq (.region [⟨(some 107), none, .mov (.tmp 3)⟩,
          ⟨(some 2), none, .mov (.tmp 107)⟩] [])
        (.ret)))))))⟩
/-- (*jitney/jitmake.Stream).Next -/
def x49 : XFunc := ⟨2, [.tmp 4],
  .seq (.region [⟨(some 4), none, .mov (.const (.int .i64 0))⟩] [])
  (.seq (.region [⟨(some 7), none, .mov (.tmp 0)⟩,
     ⟨(some 8), none, .nilCheck (.tmp 7)⟩,
     ⟨(some 9), none, .fieldAddr 1 (.tmp 8)⟩,
     ⟨(some 10), none, .load none (.tmp 9)⟩,
     ⟨(some 11), none, .bin .add (.one .int) (.tmp 10) (.const (.int .i64 1))⟩,
     ⟨(some 12), none, .nilCheck (.tmp 7)⟩,
     ⟨(some 13), none, .fieldAddr 1 (.tmp 12)⟩,
     ⟨none, none, .store 1 (.tmp 13) (.tmp 11)⟩] [])
   (.seq (.seq (.region [⟨(some 14), none, .mov (.tmp 0)⟩,
       ⟨(some 15), none, .nilCheck (.tmp 14)⟩,
       ⟨(some 16), none, .fieldAddr 0 (.tmp 15)⟩,
       ⟨(some 17), none, .load none (.tmp 16)⟩,
       ⟨(some 18), none, .len .slice (.tmp 17)⟩,
       ⟨(some 19), none, .bin .eql (.one .int) (.tmp 18) (.const (.int .i64 0))⟩] [])
     (.cond (.tmp 19) (.seq (.region [⟨(some 20), none, .mov (.tmp 0)⟩,
         ⟨(some 21), none, .nilCheck (.tmp 20)⟩,
         ⟨(some 22), none, .fieldAddr 1 (.tmp 21)⟩,
         ⟨(some 23), none, .load none (.tmp 22)⟩,
         ⟨(some 24), none, .bin .mul (.one .int) (.tmp 23) (.const (.int .i64 7919))⟩,
         ⟨(some 25), none, .mov (.tmp 1)⟩,
         ⟨(some 26), none, .call (.const (.func (.func 75) [])) [(.tmp 24), (.tmp 25)]⟩,
         ⟨(some 4), none, .mov (.tmp 26)⟩] [])
       (.ret))
      (.skip)))
    (.seq (.region [⟨(some 27), none, .mov (.tmp 0)⟩,
       ⟨(some 28), none, .nilCheck (.tmp 27)⟩,
       ⟨(some 29), none, .fieldAddr 1 (.tmp 28)⟩,
       ⟨(some 30), none, .load none (.tmp 29)⟩,
       ⟨(some 31), none, .bin .sub (.one .int) (.tmp 30) (.const (.int .i64 1))⟩,
       ⟨(some 32), none, .mov (.tmp 0)⟩,
       ⟨(some 33), none, .nilCheck (.tmp 32)⟩,
       ⟨(some 34), none, .fieldAddr 0 (.tmp 33)⟩,
       ⟨(some 35), none, .load none (.tmp 34)⟩,
       ⟨(some 36), none, .len .slice (.tmp 35)⟩,
       ⟨(some 37), none, .bin .rem (.one .int) (.tmp 31) (.tmp 36)⟩,
       ⟨(some 5), none, .mov (.tmp 37)⟩] [])
     (.seq (.region [⟨(some 38), none, .mov (.tmp 0)⟩,
        ⟨(some 39), none, .nilCheck (.tmp 38)⟩,
        ⟨(some 40), none, .fieldAddr 1 (.tmp 39)⟩,
        ⟨(some 41), none, .load none (.tmp 40)⟩,
        ⟨(some 42), none, .bin .sub (.one .int) (.tmp 41) (.const (.int .i64 1))⟩,
        ⟨(some 43), none, .mov (.tmp 0)⟩,
        ⟨(some 44), none, .nilCheck (.tmp 43)⟩,
        ⟨(some 45), none, .fieldAddr 0 (.tmp 44)⟩,
        ⟨(some 46), none, .load none (.tmp 45)⟩,
        ⟨(some 47), none, .len .slice (.tmp 46)⟩,
        ⟨(some 48), none, .bin .quo (.one .int) (.tmp 42) (.tmp 47)⟩,
        ⟨(some 6), none, .mov (.tmp 48)⟩] [])
      (.seq (.region [⟨(some 49), none, .mov (.tmp 0)⟩,
         ⟨(some 50), none, .nilCheck (.tmp 49)⟩,
         ⟨(some 51), none, .fieldAddr 0 (.tmp 50)⟩,
         ⟨(some 52), none, .load none (.tmp 51)⟩,
         ⟨(some 53), none, .mov (.tmp 5)⟩,
         ⟨(some 54), none, .indexAddr 1 (.tmp 52) (.tmp 53)⟩,
         ⟨(some 55), none, .load none (.tmp 54)⟩,
         ⟨(some 56), none, .call (.const (.func (.func 75) [])) [(.tmp 55), (.const (.int .i64 1073741824))]⟩,
         ⟨(some 57), none, .mov (.tmp 6)⟩,
         ⟨(some 58), none, .mov (.tmp 5)⟩,
         ⟨(some 59), none, .bin .add (.one .int) (.const (.int .i64 7919)) (.tmp 58)⟩,
         ⟨(some 60), none, .bin .mul (.one .int) (.tmp 57) (.tmp 59)⟩,
         ⟨(some 61), none, .bin .add (.one .int) (.tmp 56) (.tmp 60)⟩,
         ⟨(some 62), none, .mov (.tmp 1)⟩,
         ⟨(some 63), none, .call (.const (.func (.func 75) [])) [(.tmp 61), (.tmp 62)]⟩,
         ⟨(some 4), none, .mov (.tmp 63)⟩] [])
       (.ret))))))⟩
def b50_0 : XCode := .seq (.seq (.region [⟨(some 25), none, .bin .lss (.one .int) (.tmp 24) (.tmp 23)⟩] [])
   (.seq (.cond (.tmp 25) (.skip)
     (.exit 0))
    (.seq (.block 1 (.seq (.region [⟨(some 26), none, .mov (.tmp 24)⟩,
         ⟨(some 3), none, .mov (.tmp 26)⟩] [])
       (.seq (.region [⟨(some 27), none, .mov (.tmp 0)⟩,
          ⟨(some 28), none, .mov (.tmp 3)⟩,
          ⟨(some 29), none, .indexStr (.tmp 27) (.tmp 28)⟩,
          ⟨(some 4), none, .mov (.tmp 29)⟩] [])
        (.seq (.region [⟨(some 30), none, .mov (.tmp 4)⟩,
           ⟨(some 31), none, .bin .geq (.one .int) (.tmp 30) (.const (.int .u8 97))⟩,
           ⟨(some 32), none, .mov (.tmp 31)⟩,
           ⟨(some 33), (some (32, true)), .mov (.tmp 4)⟩,
           ⟨(some 34), (some (32, true)), .bin .leq (.one .int) (.tmp 33) (.const (.int .u8 122))⟩,
           ⟨(some 35), none, .pick (.tmp 32) (.tmp 34) (.const (.bool false))⟩,
           ⟨(some 36), none, .mov (.tmp 35)⟩,
           ⟨(some 37), (some (36, false)), .mov (.tmp 4)⟩,
           ⟨(some 38), (some (36, false)), .bin .geq (.one .int) (.tmp 37) (.const (.int .u8 48))⟩,
           ⟨(some 39), (some (36, false)), .mov (.tmp 38)⟩,
           ⟨(some 40), (some (39, true)), .mov (.tmp 4)⟩,
           ⟨(some 41), (some (39, true)), .bin .leq (.one .int) (.tmp 40) (.const (.int .u8 57))⟩,
           ⟨(some 42), (some (36, false)), .pick (.tmp 39) (.tmp 41) (.const (.bool false))⟩,
           ⟨(some 43), none, .pick (.tmp 36) (.const (.bool true)) (.tmp 42)⟩,
           ⟨(some 44), none, .mov (.tmp 43)⟩,
           ⟨(some 45), (some (44, false)), .mov (.tmp 4)⟩,
           ⟨(some 46), (some (44, false)), .bin .eql (.one .int) (.tmp 45) (.const (.int .u8 45))⟩,
           ⟨(some 47), none, .pick (.tmp 44) (.const (.bool true)) (.tmp 46)⟩,
           ⟨(some 48), none, .mov (.tmp 47)⟩,
           ⟨(some 49), (some (48, false)), .mov (.tmp 4)⟩,
           ⟨(some 50), (some (48, false)), .bin .eql (.one .int) (.tmp 49) (.const (.int .u8 95))⟩,
           ⟨(some 51), none, .pick (.tmp 48) (.const (.bool true)) (.tmp 50)⟩,
           ⟨(some 52), none, .un .not (.tmp 51)⟩] [])
         (.cond (.tmp 52) (.seq (.region [⟨(some 2), none, .mov (.const (.bool false))⟩] [])
           (.ret))
          (.skip))))))
     (.region [⟨(some 53), none, .bin .add (.one .int) (.tmp 24) (.const (.int .i64 1))⟩,
       ⟨(some 24), none, .mov (.tmp 53)⟩] []))))
  (.keep [0, 23, 24])
/-- jitney/base.Key -/
def x50 : XFunc := ⟨1, [.tmp 2],
  .seq (.region [⟨(some 2), none, .mov (.const (.bool false))⟩] [])
  (.seq (.seq (.region [⟨(some 5), none, .mov (.tmp 0)⟩,
      ⟨(some 6), none, .bin .eql (.one .str) (.tmp 5) (.const (.str []))⟩,
      ⟨(some 7), none, .mov (.tmp 6)⟩,
      ⟨(some 8), (some (7, false)), .mov (.tmp 0)⟩,
      ⟨(some 9), (some (7, false)), .len (.one .str) (.tmp 8)⟩,
      ⟨(some 10), (some (7, false)), .bin .gtr (.one .int) (.tmp 9) (.const (.int .i64 40))⟩,
      ⟨(some 11), none, .pick (.tmp 7) (.const (.bool true)) (.tmp 10)⟩,
      ⟨(some 12), none, .mov (.tmp 11)⟩,
      ⟨(some 13), (some (12, false)), .mov (.tmp 0)⟩,
      ⟨(some 14), (some (12, false)), .indexStr (.tmp 13) (.const (.int .i64 0))⟩,
      ⟨(some 15), (some (12, false)), .bin .lss (.one .int) (.tmp 14) (.const (.int .u8 97))⟩,
      ⟨(some 16), none, .pick (.tmp 12) (.const (.bool true)) (.tmp 15)⟩,
      ⟨(some 17), none, .mov (.tmp 16)⟩,
      ⟨(some 18), (some (17, false)), .mov (.tmp 0)⟩,
      ⟨(some 19), (some (17, false)), .indexStr (.tmp 18) (.const (.int .i64 0))⟩,
      ⟨(some 20), (some (17, false)), .bin .gtr (.one .int) (.tmp 19) (.const (.int .u8 122))⟩,
      ⟨(some 21), none, .pick (.tmp 17) (.const (.bool true)) (.tmp 20)⟩] [])
    (.cond (.tmp 21) (.seq (.region [⟨(some 2), none, .mov (.const (.bool false))⟩] [])
      (.ret))
     (.skip)))
   (.seq (.seq (.region [⟨(some 22), none, .mov (.tmp 0)⟩,
       ⟨(some 23), none, .len (.one .str) (.tmp 22)⟩,
       ⟨(some 24), none, .mov (.const (.int .i64 0))⟩] [])
     (.block 0 (.seq (.keep [0, 23, 24])
       (.loop b50_0))))
    (.seq (.region [⟨(some 2), none, .mov (.const (.bool true))⟩] [])
     (.ret))))⟩
def b51_0 : XCode := .seq (.seq (.region [⟨(some 9), none, .bin .lss (.one .int) (.tmp 8) (.tmp 7)⟩] [])
   (.seq (.cond (.tmp 9) (.skip)
     (.exit 0))
    (.seq (.block 1 (.seq (.region [⟨(some 10), none, .mov (.tmp 8)⟩,
         ⟨(some 5), none, .mov (.tmp 10)⟩] [])
       (.seq (.region [⟨(some 11), none, .mov (.tmp 1)⟩,
          ⟨(some 12), none, .mov (.tmp 0)⟩,
          ⟨(some 13), none, .mov (.tmp 5)⟩,
          ⟨(some 14), none, .indexAddr 1 (.tmp 12) (.tmp 13)⟩,
          ⟨(some 15), none, .load none (.tmp 14)⟩,
          ⟨(some 16), none, .bin .eql (.one .str) (.tmp 11) (.tmp 15)⟩] [])
        (.cond (.tmp 16) (.seq (.region [⟨(some 17), none, .mov (.tmp 5)⟩,
            ⟨(some 4), none, .mov (.tmp 17)⟩] [])
          (.ret))
         (.skip)))))
     (.region [⟨(some 18), none, .bin .add (.one .int) (.tmp 8) (.const (.int .i64 1))⟩,
       ⟨(some 8), none, .mov (.tmp 18)⟩] []))))
  (.keep [0, 1, 7, 8])
/-- slices.Index[[]string,string] -/
def x51 : XFunc := ⟨2, [.tmp 4],
  .seq (.region [⟨(some 4), none, .mov (.const (.int .i64 0))⟩] [])
  (.seq (.seq (.region [⟨(some 6), none, .mov (.tmp 0)⟩,
      ⟨(some 7), none, .len .slice (.tmp 6)⟩,
      ⟨(some 8), none, .mov (.const (.int .i64 0))⟩] [])
    (.block 0 (.seq (.keep [0, 1, 7, 8])
      (.loop b51_0))))
   (.seq (.region [⟨(some 4), none, .mov (.const (.int .i64 (-1)))⟩] [])
    (.ret)))⟩
def b52_0 : XCode := .seq (.block 1 (.seq (.region [⟨(some 21), none, .mov (.tmp 2)⟩,
      ⟨(some 22), none, .mov (.tmp 1)⟩,
      ⟨(some 23), none, .bin .sub (.one .int) (.tmp 21) (.tmp 22)⟩,
      ⟨(some 12), none, .mov (.tmp 23)⟩] [])
    (.seq (.seq (.region [⟨(some 24), none, .mov (.tmp 12)⟩,
        ⟨(some 25), none, .bin .leq (.one .int) (.tmp 24) (.const (.int .i64 12))⟩] [])
      (.cond (.tmp 25) (.seq (.region [⟨(some 26), none, .mov (.tmp 0)⟩,
          ⟨(some 27), none, .mov (.tmp 1)⟩,
          ⟨(some 28), none, .mov (.tmp 2)⟩,
          ⟨(some 29), none, .mov (.tmp 4)⟩,
          ⟨(some 30), none, .call (.const (.func (.func 76) [])) [(.tmp 26), (.tmp 27), (.tmp 28), (.tmp 29)]⟩] [])
        (.ret))
       (.skip)))
     (.seq (.seq (.region [⟨(some 31), none, .mov (.tmp 3)⟩,
         ⟨(some 32), none, .bin .eql (.one .int) (.tmp 31) (.const (.int .i64 0))⟩] [])
       (.cond (.tmp 32) (.seq (.region [⟨(some 33), none, .mov (.tmp 0)⟩,
           ⟨(some 34), none, .mov (.tmp 1)⟩,
           ⟨(some 35), none, .mov (.tmp 2)⟩,
           ⟨(some 36), none, .mov (.tmp 4)⟩,
           ⟨(some 37), none, .call (.const (.func (.func 77) [])) [(.tmp 33), (.tmp 34), (.tmp 35), (.tmp 36)]⟩] [])
         (.ret))
        (.skip)))
      (.seq (.seq (.region [⟨(some 38), none, .mov (.tmp 10)⟩,
          ⟨(some 39), none, .un .not (.tmp 38)⟩] [])
        (.cond (.tmp 39) (.seq (.region [⟨(some 40), none, .mov (.tmp 0)⟩,
            ⟨(some 41), none, .mov (.tmp 1)⟩,
            ⟨(some 42), none, .mov (.tmp 2)⟩,
            ⟨(some 43), none, .mov (.tmp 4)⟩,
            ⟨(some 44), none, .call (.const (.func (.func 78) [])) [(.tmp 40), (.tmp 41), (.tmp 42), (.tmp 43)]⟩] [])
          (.region [⟨(some 45), none, .mov (.tmp 3)⟩,
            ⟨(some 46), none, .bin .sub (.one .int) (.tmp 45) (.const (.int .i64 1))⟩,
            ⟨(some 3), none, .mov (.tmp 46)⟩] []))
         (.skip)))
       (.seq (.region [⟨(some 48), none, .mov (.tmp 0)⟩,
          ⟨(some 49), none, .mov (.tmp 1)⟩,
          ⟨(some 50), none, .mov (.tmp 2)⟩,
          ⟨(some 51), none, .mov (.tmp 4)⟩,
          ⟨(some 52), none, .call (.const (.func (.func 79) [])) [(.tmp 48), (.tmp 49), (.tmp 50), (.tmp 51)]⟩,
          ⟨(some 47), none, .mov (.tmp 52)⟩,
          ⟨(some 53), none, .extract (.tmp 47) 0⟩,
          ⟨(some 54), none, .extract (.tmp 47) 1⟩,
          ⟨(some 13), none, .mov (.tmp 53)⟩,
          ⟨(some 14), none, .mov (.tmp 54)⟩] [])
        (.seq (.seq (.region [⟨(some 55), none, .mov (.tmp 14)⟩,
            ⟨(some 56), none, .bin .eql (.one .int) (.tmp 55) (.const (.int .i64 2))⟩] [])
          (.cond (.tmp 56) (.seq (.region [⟨(some 57), none, .mov (.tmp 0)⟩,
              ⟨(some 58), none, .mov (.tmp 1)⟩,
              ⟨(some 59), none, .mov (.tmp 2)⟩,
              ⟨(some 60), none, .mov (.tmp 4)⟩,
              ⟨(some 61), none, .call (.const (.func (.func 80) [])) [(.tmp 57), (.tmp 58), (.tmp 59), (.tmp 60)]⟩] [])
            (.seq (.region [⟨(some 62), none, .mov (.tmp 2)⟩,
               ⟨(some 63), none, .bin .sub (.one .int) (.tmp 62) (.const (.int .i64 1))⟩,
               ⟨(some 64), none, .mov (.tmp 13)⟩,
               ⟨(some 65), none, .mov (.tmp 1)⟩,
               ⟨(some 66), none, .bin .sub (.one .int) (.tmp 64) (.tmp 65)⟩,
               ⟨(some 67), none, .bin .sub (.one .int) (.tmp 63) (.tmp 66)⟩,
               ⟨(some 13), none, .mov (.tmp 67)⟩] [])
             (.region [⟨(some 14), none, .mov (.const (.int .i64 1))⟩] [])))
           (.skip)))
         (.seq (.seq (.region [⟨(some 68), none, .mov (.tmp 10)⟩,
             ⟨(some 69), none, .mov (.tmp 68)⟩,
             ⟨(some 70), (some (69, true)), .mov (.tmp 11)⟩,
             ⟨(some 71), none, .pick (.tmp 69) (.tmp 70) (.const (.bool false))⟩,
             ⟨(some 72), none, .mov (.tmp 71)⟩,
             ⟨(some 73), (some (72, true)), .mov (.tmp 14)⟩,
             ⟨(some 74), (some (72, true)), .bin .eql (.one .int) (.tmp 73) (.const (.int .i64 1))⟩,
             ⟨(some 75), none, .pick (.tmp 72) (.tmp 74) (.const (.bool false))⟩] [])
           (.cond (.tmp 75) (.seq (.region [⟨(some 76), none, .mov (.tmp 0)⟩,
               ⟨(some 77), none, .mov (.tmp 1)⟩,
               ⟨(some 78), none, .mov (.tmp 2)⟩,
               ⟨(some 79), none, .mov (.tmp 4)⟩,
               ⟨(some 80), none, .call (.const (.func (.func 81) [])) [(.tmp 76), (.tmp 77), (.tmp 78), (.tmp 79)]⟩] [])
             (.cond (.tmp 80) (.ret)
              (.skip)))
            (.skip)))
          (.seq (.seq (.region [⟨(some 81), none, .mov (.tmp 1)⟩,
              ⟨(some 82), none, .bin .gtr (.one .int) (.tmp 81) (.const (.int .i64 0))⟩,
              ⟨(some 83), none, .mov (.tmp 82)⟩,
              ⟨(some 84), (some (83, true)), .mov (.tmp 4)⟩,
              ⟨(some 85), (some (83, true)), .mov (.tmp 0)⟩,
              ⟨(some 86), (some (83, true)), .mov (.tmp 1)⟩,
              ⟨(some 87), (some (83, true)), .bin .sub (.one .int) (.tmp 86) (.const (.int .i64 1))⟩,
              ⟨(some 88), (some (83, true)), .indexAddr 2 (.tmp 85) (.tmp 87)⟩,
              ⟨(some 89), (some (83, true)), .load (some 2) (.tmp 88)⟩,
              ⟨(some 90), (some (83, true)), .mov (.tmp 0)⟩,
              ⟨(some 91), (some (83, true)), .mov (.tmp 13)⟩,
              ⟨(some 92), (some (83, true)), .indexAddr 2 (.tmp 90) (.tmp 91)⟩,
              ⟨(some 93), (some (83, true)), .load (some 2) (.tmp 92)⟩,
              ⟨(some 94), (some (83, true)), .call (.tmp 84) [(.tmp 89), (.tmp 93)]⟩,
              ⟨(some 95), (some (83, true)), .bin .lss (.one .int) (.tmp 94) (.const (.int .i64 0))⟩,
              ⟨(some 96), (some (83, true)), .un .not (.tmp 95)⟩,
              ⟨(some 97), none, .pick (.tmp 83) (.tmp 96) (.const (.bool false))⟩] [])
            (.cond (.tmp 97) (.seq (.region [⟨(some 98), none, .mov (.tmp 0)⟩,
                ⟨(some 99), none, .mov (.tmp 1)⟩,
                ⟨(some 100), none, .mov (.tmp 2)⟩,
                ⟨(some 101), none, .mov (.tmp 13)⟩,
                ⟨(some 102), none, .mov (.tmp 4)⟩,
                ⟨(some 103), none, .call (.const (.func (.func 82) [])) [(.tmp 98), (.tmp 99), (.tmp 100), (.tmp 101), (.tmp 102)]⟩,
                ⟨(some 15), none, .mov (.tmp 103)⟩] [])
              (.seq (.region [⟨(some 104), none, .mov (.tmp 15)⟩,
                 ⟨(some 1), none, .mov (.tmp 104)⟩] [])
               (.exit 1)))
             (.skip)))
           (.seq (.region [⟨(some 106), none, .mov (.tmp 0)⟩,
              ⟨(some 107), none, .mov (.tmp 1)⟩,
              ⟨(some 108), none, .mov (.tmp 2)⟩,
              ⟨(some 109), none, .mov (.tmp 13)⟩,
              ⟨(some 110), none, .mov (.tmp 4)⟩,
              ⟨(some 111), none, .call (.const (.func (.func 83) [])) [(.tmp 106), (.tmp 107), (.tmp 108), (.tmp 109), (.tmp 110)]⟩,
              ⟨(some 105), none, .mov (.tmp 111)⟩,
              ⟨(some 112), none, .extract (.tmp 105) 0⟩,
              ⟨(some 113), none, .extract (.tmp 105) 1⟩,
              ⟨(some 16), none, .mov (.tmp 112)⟩,
              ⟨(some 17), none, .mov (.tmp 113)⟩] [])
            (.seq (.region [⟨(some 114), none, .mov (.tmp 17)⟩,
               ⟨(some 11), none, .mov (.tmp 114)⟩] [])
             (.seq (.region [⟨(some 115), none, .mov (.tmp 16)⟩,
                ⟨(some 116), none, .mov (.tmp 1)⟩,
                ⟨(some 117), none, .bin .sub (.one .int) (.tmp 115) (.tmp 116)⟩,
                ⟨(some 118), none, .mov (.tmp 2)⟩,
                ⟨(some 119), none, .mov (.tmp 16)⟩,
                ⟨(some 120), none, .bin .sub (.one .int) (.tmp 118) (.tmp 119)⟩,
                ⟨(some 18), none, .mov (.tmp 117)⟩,
                ⟨(some 19), none, .mov (.tmp 120)⟩] [])
              (.seq (.region [⟨(some 121), none, .mov (.tmp 12)⟩,
                 ⟨(some 122), none, .bin .quo (.one .int) (.tmp 121) (.const (.int .i64 8))⟩,
                 ⟨(some 20), none, .mov (.tmp 122)⟩] [])
               (.seq (.region [⟨(some 123), none, .mov (.tmp 18)⟩,
                  ⟨(some 124), none, .mov (.tmp 19)⟩,
                  ⟨(some 125), none, .bin .lss (.one .int) (.tmp 123) (.tmp 124)⟩] [])
                (.cond (.tmp 125) (.seq (.region [⟨(some 126), none, .mov (.tmp 18)⟩,
                    ⟨(some 127), none, .mov (.tmp 20)⟩,
                    ⟨(some 128), none, .bin .geq (.one .int) (.tmp 126) (.tmp 127)⟩,
                    ⟨(some 10), none, .mov (.tmp 128)⟩] [])
                  (.seq (.region [⟨(some 129), none, .mov (.tmp 0)⟩,
                     ⟨(some 130), none, .mov (.tmp 1)⟩,
                     ⟨(some 131), none, .mov (.tmp 16)⟩,
                     ⟨(some 132), none, .mov (.tmp 3)⟩,
                     ⟨(some 133), none, .mov (.tmp 4)⟩,
                     ⟨(some 134), none, .call (.const (.func (.func 52) [])) [(.tmp 129), (.tmp 130), (.tmp 131), (.tmp 132), (.tmp 133)]⟩] [])
                   (.region [⟨(some 135), none, .mov (.tmp 16)⟩,
                     ⟨(some 136), none, .bin .add (.one .int) (.tmp 135) (.const (.int .i64 1))⟩,
                     ⟨(some 1), none, .mov (.tmp 136)⟩] [])))
                 (.seq (.region [⟨(some 137), none, .mov (.tmp 19)⟩,
                    ⟨(some 138), none, .mov (.tmp 20)⟩,
                    ⟨(some 139), none, .bin .geq (.one .int) (.tmp 137) (.tmp 138)⟩,
                    ⟨(some 10), none, .mov (.tmp 139)⟩] [])
                  (.seq (.region [⟨(some 140), none, .mov (.tmp 0)⟩,
                     ⟨(some 141), none, .mov (.tmp 16)⟩,
                     ⟨(some 142), none, .bin .add (.one .int) (.tmp 141) (.const (.int .i64 1))⟩,
                     ⟨(some 143), none, .mov (.tmp 2)⟩,
                     ⟨(some 144), none, .mov (.tmp 3)⟩,
                     ⟨(some 145), none, .mov (.tmp 4)⟩,
                     ⟨(some 146), none, .call (.const (.func (.func 52) [])) [(.tmp 140), (.tmp 142), (.tmp 143), (.tmp 144), (.tmp 145)]⟩] [])
                   (.region [⟨(some 147), none, .mov (.tmp 16)⟩,
                     ⟨(some 2), none, .mov (.tmp 147)⟩] []))))))))))))))))))
  (.keep [0, 1, 2, 3, 4, 10, 11])
/-- slices.pdqsortCmpFunc[jitney/api.Deal] -/
def x52 : XFunc := ⟨5, [],
  .seq (.region [⟨(some 10), none, .mov (.const (.bool true))⟩] [])
  (.seq (.region [⟨(some 11), none, .mov (.const (.bool true))⟩] [])
   (.block 0 (.seq (.keep [0, 1, 2, 3, 4, 10, 11])
     (.loop b52_0))))⟩
/-- math/bits.Len -/
def x53 : XFunc := ⟨1, [.tmp 2],
  .seq (.region [⟨(some 2), none, .mov (.const (.int .i64 0))⟩] [])
  (.seq (.cond (.const (.bool false)) (.seq (.region [⟨(some 3), none, .mov (.tmp 0)⟩,
       ⟨(some 4), none, .convInt .u32 (.tmp 3)⟩,
       ⟨(some 5), none, .call (.const (.func (.func 84) [])) [(.tmp 4)]⟩,
       ⟨(some 2), none, .mov (.tmp 5)⟩] [])
     (.ret))
    (.skip))
   (.seq (.region [⟨(some 6), none, .mov (.tmp 0)⟩,
      ⟨(some 7), none, .call (.const (.func (.func 85) [])) [(.tmp 6)]⟩,
      ⟨(some 2), none, .mov (.tmp 7)⟩] [])
    (.ret)))⟩
/-- internal/bytealg.CompareString -/
def x54 : XFunc := ⟨2, [.tmp 4],
  .seq (.region [⟨(some 4), none, .mov (.const (.int .i64 0))⟩] [])
  (.seq (.region [⟨(some 5), none, .mov (.tmp 0)⟩,
     ⟨(some 6), none, .mov (.tmp 1)⟩,
     ⟨(some 7), none, .call (.const (.func (.func 86) [])) [(.tmp 5), (.tmp 6)]⟩,
     ⟨(some 4), none, .mov (.tmp 7)⟩] [])
   (.ret))⟩
def b55_0 : XCode := .seq (.seq (.region [⟨(some 12), none, .bin .lss (.one .int) (.tmp 11) (.tmp 10)⟩] [])
   (.seq (.cond (.tmp 12) (.skip)
     (.exit 0))
    (.seq (.block 1 (.seq (.region [⟨(some 13), none, .mov (.tmp 11)⟩,
         ⟨(some 14), none, .indexAddr 14 (.tmp 9) (.tmp 11)⟩,
         ⟨(some 15), none, .load (some 14) (.tmp 14)⟩,
         ⟨(some 4), none, .box 14 (.const (.agg [(.str []), (.str []), (.str []), (.str []), (.int .i64 0), (.int .i64 0), (.int .i64 0), (.int .i64 0), (.int .i64 0), (.int .i64 0), (.int .i64 0), (.int .i64 0), (.int .i64 0), .nilslice]))⟩,
         ⟨(some 3), none, .mov (.tmp 13)⟩,
         ⟨none, none, .store 14 (.tmp 4) (.tmp 15)⟩] [])
       (.seq (.seq (.region [⟨(some 16), none, .load (some 14) (.tmp 4)⟩,
           ⟨(some 17), none, .call (.const (.func (.func 87) [])) [(.tmp 16)]⟩,
           ⟨(some 5), none, .mov (.tmp 17)⟩] [])
         (.seq (.region [⟨(some 18), none, .mov (.tmp 5)⟩,
            ⟨(some 19), none, .bin .neq (.one .int) (.tmp 18) (.const (.int .i64 0))⟩] [])
          (.cond (.tmp 19) (.seq (.region [⟨(some 20), none, .mov (.tmp 5)⟩,
              ⟨(some 2), none, .mov (.tmp 20)⟩] [])
            (.ret))
           (.skip))))
        (.seq (.region [⟨(some 21), none, .mov (.tmp 3)⟩,
           ⟨(some 22), none, .bin .gtr (.one .int) (.tmp 21) (.const (.int .i64 0))⟩,
           ⟨(some 23), none, .mov (.tmp 22)⟩,
           ⟨(some 24), (some (23, true)), .fieldAddr 0 (.tmp 4)⟩,
           ⟨(some 25), (some (23, true)), .load none (.tmp 24)⟩,
           ⟨(some 26), (some (23, true)), .mov (.tmp 0)⟩,
           ⟨(some 27), (some (23, true)), .mov (.tmp 3)⟩,
           ⟨(some 28), (some (23, true)), .bin .sub (.one .int) (.tmp 27) (.const (.int .i64 1))⟩,
           ⟨(some 29), (some (23, true)), .indexAddr 14 (.tmp 26) (.tmp 28)⟩,
           ⟨(some 30), (some (23, true)), .fieldAddr 0 (.tmp 29)⟩,
           ⟨(some 31), (some (23, true)), .load none (.tmp 30)⟩,
           ⟨(some 32), (some (23, true)), .bin .leq (.one .str) (.tmp 25) (.tmp 31)⟩,
           ⟨(some 33), none, .pick (.tmp 23) (.tmp 32) (.const (.bool false))⟩] [])
         (.cond (.tmp 33) (.seq (.region [⟨(some 2), none, .mov (.const (.int .i64 7))⟩] [])
           (.ret))
          (.skip))))))
     (.region [⟨(some 34), none, .bin .add (.one .int) (.tmp 11) (.const (.int .i64 1))⟩,
       ⟨(some 11), none, .mov (.tmp 34)⟩] []))))
  (.keep [0, 9, 10, 11])
/-- jitney/request.CheckSeries -/
def x55 : XFunc := ⟨1, [.tmp 2],
  .seq (.region [⟨(some 2), none, .mov (.const (.int .i64 0))⟩] [])
  (.seq (.seq (.region [⟨(some 6), none, .mov (.tmp 0)⟩,
      ⟨(some 7), none, .len .slice (.tmp 6)⟩,
      ⟨(some 8), none, .bin .gtr (.one .int) (.tmp 7) (.const (.int .i64 100))⟩] [])
    (.cond (.tmp 8) (.seq (.region [⟨(some 2), none, .mov (.const (.int .i64 2))⟩] [])
      (.ret))
     (.skip)))
   (.seq (.seq (.region [⟨(some 9), none, .mov (.tmp 0)⟩,
       ⟨(some 10), none, .len .slice (.tmp 9)⟩,
       ⟨(some 11), none, .mov (.const (.int .i64 0))⟩] [])
     (.block 0 (.seq (.keep [0, 9, 10, 11])
       (.loop b55_0))))
    (.seq (.region [⟨(some 2), none, .mov (.const (.int .i64 0))⟩] [])
     (.ret))))⟩
/-- jitney/request.dayRide -/
def x56 : XFunc := ⟨2, [.cell 4 (some 8), .tmp 5],
  .seq (.region [⟨(some 2), none, .box 1 (.tmp 0)⟩,
    ⟨(some 3), none, .box 1 (.tmp 1)⟩,
    ⟨(some 4), none, .box 8 (.const (.agg [(.str []), (.str []), (.str []), (.str []), (.int .i64 0), (.int .i64 0), (.int .i64 0), (.int .i64 0)]))⟩,
    ⟨(some 5), none, .mov (.const (.bool false))⟩] [])
  (.seq (.seq (.region [⟨(some 12), none, .load none (.tmp 3)⟩,
      ⟨(some 13), none, .bin .quo (.one .int) (.tmp 12) (.const (.int .i64 7))⟩,
      ⟨(some 14), none, .load none (.tmp 2)⟩,
      ⟨(some 15), none, .nilCheck (.tmp 14)⟩,
      ⟨(some 16), none, .fieldAddr 4 (.tmp 15)⟩,
      ⟨(some 17), none, .load none (.tmp 16)⟩,
      ⟨(some 18), none, .bin .quo (.one .int) (.tmp 17) (.const (.int .i64 7))⟩,
      ⟨(some 19), none, .bin .sub (.one .int) (.tmp 13) (.tmp 18)⟩,
      ⟨(some 20), none, .load none (.tmp 2)⟩,
      ⟨(some 21), none, .nilCheck (.tmp 20)⟩,
      ⟨(some 22), none, .fieldAddr 6 (.tmp 21)⟩,
      ⟨(some 23), none, .load none (.tmp 22)⟩,
      ⟨(some 24), none, .bin .rem (.one .int) (.tmp 19) (.tmp 23)⟩,
      ⟨(some 25), none, .bin .neq (.one .int) (.tmp 24) (.const (.int .i64 0))⟩,
      ⟨(some 26), none, .mov (.tmp 25)⟩,
      ⟨(some 27), (some (26, false)), .load none (.tmp 2)⟩,
      ⟨(some 28), (some (26, false)), .nilCheck (.tmp 27)⟩,
      ⟨(some 29), (some (26, false)), .fieldAddr 7 (.tmp 28)⟩,
      ⟨(some 30), (some (26, false)), .load none (.tmp 29)⟩,
      ⟨(some 31), (some (26, false)), .load none (.tmp 3)⟩,
      ⟨(some 32), (some (26, false)), .bin .rem (.one .int) (.tmp 31) (.const (.int .i64 7))⟩,
      ⟨(some 33), (some (26, false)), .bin .shr (.one .int) (.tmp 30) (.tmp 32)⟩,
      ⟨(some 34), (some (26, false)), .bin .and (.one .int) (.tmp 33) (.const (.int .i64 1))⟩,
      ⟨(some 35), (some (26, false)), .bin .eql (.one .int) (.tmp 34) (.const (.int .i64 0))⟩,
      ⟨(some 36), none, .pick (.tmp 26) (.const (.bool true)) (.tmp 35)⟩] [])
    (.cond (.tmp 36) (.seq (.region [⟨(some 37), none, .build [(.str []), (.str []), (.str []), (.str []), (.int .i64 0), (.int .i64 0), (.int .i64 0), (.int .i64 0)] []⟩,
        ⟨none, none, .store 8 (.tmp 4) (.tmp 37)⟩,
        ⟨(some 5), none, .mov (.const (.bool false))⟩] [])
      (.ret))
     (.skip)))
   (.seq (.region [⟨(some 6), none, .box 1 (.const (.int .i64 0))⟩,
      ⟨none, none, .store 1 (.tmp 6) (.const (.int .i64 0))⟩] [])
    (.seq (.seq (.region [⟨(some 39), none, .load none (.tmp 2)⟩,
        ⟨(some 40), none, .nilCheck (.tmp 39)⟩,
        ⟨(some 41), none, .fieldAddr 13 (.tmp 40)⟩,
        ⟨(some 42), none, .load none (.tmp 41)⟩,
        ⟨(some 43), none, .load none (.tmp 3)⟩,
        ⟨(some 44), none, .call (.const (.func (.func 88) [])) [(.tmp 42), (.tmp 43), (.const (.func (.func 89) []))]⟩,
        ⟨(some 38), none, .mov (.tmp 44)⟩,
        ⟨(some 45), none, .extract (.tmp 38) 0⟩,
        ⟨(some 46), none, .extract (.tmp 38) 1⟩,
        ⟨(some 7), none, .mov (.tmp 45)⟩,
        ⟨(some 8), none, .mov (.tmp 46)⟩] [])
      (.seq (.region [⟨(some 47), none, .mov (.tmp 8)⟩] [])
       (.cond (.tmp 47) (.seq (.seq (.region [⟨(some 48), none, .load none (.tmp 2)⟩,
            ⟨(some 49), none, .nilCheck (.tmp 48)⟩,
            ⟨(some 50), none, .fieldAddr 13 (.tmp 49)⟩,
            ⟨(some 51), none, .load none (.tmp 50)⟩,
            ⟨(some 52), none, .mov (.tmp 7)⟩,
            ⟨(some 53), none, .indexAddr 3 (.tmp 51) (.tmp 52)⟩,
            ⟨(some 54), none, .fieldAddr 1 (.tmp 53)⟩,
            ⟨(some 55), none, .load none (.tmp 54)⟩] [])
          (.cond (.tmp 55) (.seq (.region [⟨(some 56), none, .build [(.str []), (.str []), (.str []), (.str []), (.int .i64 0), (.int .i64 0), (.int .i64 0), (.int .i64 0)] []⟩,
              ⟨none, none, .store 8 (.tmp 4) (.tmp 56)⟩,
              ⟨(some 5), none, .mov (.const (.bool false))⟩] [])
            (.ret))
           (.skip)))
         (.region [⟨(some 57), none, .load none (.tmp 2)⟩,
           ⟨(some 58), none, .nilCheck (.tmp 57)⟩,
           ⟨(some 59), none, .fieldAddr 13 (.tmp 58)⟩,
           ⟨(some 60), none, .load none (.tmp 59)⟩,
           ⟨(some 61), none, .mov (.tmp 7)⟩,
           ⟨(some 62), none, .indexAddr 3 (.tmp 60) (.tmp 61)⟩,
           ⟨(some 63), none, .fieldAddr 2 (.tmp 62)⟩,
           ⟨(some 64), none, .load none (.tmp 63)⟩,
           ⟨none, none, .store 1 (.tmp 6) (.tmp 64)⟩] []))
        (.skip))))
     (.seq (.region [⟨(some 65), none, .load none (.tmp 3)⟩,
        ⟨(some 66), none, .call (.const (.func (.func 91) [])) [(.tmp 65)]⟩,
        ⟨(some 9), none, .mov (.tmp 66)⟩] [])
      (.seq (.region [⟨(some 67), none, .mkFunc (.func 92) [(.tmp 3), (.tmp 2), (.tmp 6)]⟩,
         ⟨(some 10), none, .mov (.tmp 67)⟩] [])
       (.seq (.region [⟨(some 68), none, .load none (.tmp 2)⟩,
          ⟨(some 69), none, .nilCheck (.tmp 68)⟩,
          ⟨(some 70), none, .fieldAddr 0 (.tmp 69)⟩,
          ⟨(some 71), none, .load none (.tmp 70)⟩,
          ⟨(some 72), none, .bin .add (.one .str) (.tmp 71) (.const (.str [45]))⟩,
          ⟨(some 73), none, .mov (.tmp 9)⟩,
          ⟨(some 74), none, .len (.one .str) (.tmp 73)⟩,
          ⟨(some 75), none, .bin .sub (.one .int) (.const (.int .i64 4)) (.tmp 74)⟩,
          ⟨(some 76), none, .call (.const (.func (.func 93) [])) [(.const (.str [48])), (.tmp 75)]⟩,
          ⟨(some 77), none, .bin .add (.one .str) (.tmp 72) (.tmp 76)⟩,
          ⟨(some 78), none, .mov (.tmp 9)⟩,
          ⟨(some 79), none, .bin .add (.one .str) (.tmp 77) (.tmp 78)⟩,
          ⟨(some 80), none, .load none (.tmp 2)⟩,
          ⟨(some 81), none, .nilCheck (.tmp 80)⟩,
          ⟨(some 82), none, .fieldAddr 1 (.tmp 81)⟩,
          ⟨(some 83), none, .load none (.tmp 82)⟩,
          ⟨(some 84), none, .load none (.tmp 2)⟩,
          ⟨(some 85), none, .nilCheck (.tmp 84)⟩,
          ⟨(some 86), none, .fieldAddr 2 (.tmp 85)⟩,
          ⟨(some 87), none, .load none (.tmp 86)⟩,
          ⟨(some 88), none, .load none (.tmp 2)⟩,
          ⟨(some 89), none, .nilCheck (.tmp 88)⟩,
          ⟨(some 90), none, .fieldAddr 3 (.tmp 89)⟩,
          ⟨(some 91), none, .load none (.tmp 90)⟩,
          ⟨(some 92), none, .mov (.tmp 10)⟩,
          ⟨(some 93), none, .load none (.tmp 2)⟩,
          ⟨(some 94), none, .nilCheck (.tmp 93)⟩,
          ⟨(some 95), none, .fieldAddr 8 (.tmp 94)⟩,
          ⟨(some 96), none, .load none (.tmp 95)⟩,
          ⟨(some 97), none, .pcall (.tmp 92) [(.tmp 96)]⟩,
          ⟨(some 98), none, .mov (.tmp 10)⟩,
          ⟨(some 99), none, .load none (.tmp 2)⟩,
          ⟨(some 100), none, .nilCheck (.tmp 99)⟩,
          ⟨(some 101), none, .fieldAddr 9 (.tmp 100)⟩,
          ⟨(some 102), none, .load none (.tmp 101)⟩,
          ⟨(some 103), none, .pcall (.tmp 98) [(.tmp 102)]⟩,
          ⟨(some 104), none, .load none (.tmp 2)⟩,
          ⟨(some 105), none, .nilCheck (.tmp 104)⟩,
          ⟨(some 106), none, .fieldAddr 11 (.tmp 105)⟩,
          ⟨(some 107), none, .load none (.tmp 106)⟩,
          ⟨(some 108), none, .load none (.tmp 2)⟩,
          ⟨(some 109), none, .nilCheck (.tmp 108)⟩,
          ⟨(some 110), none, .fieldAddr 12 (.tmp 109)⟩,
          ⟨(some 111), none, .load none (.tmp 110)⟩,
          ⟨(some 112), none, .build [(.str []), (.str []), (.str []), (.str []), (.int .i64 0), (.int .i64 0), (.int .i64 0), (.int .i64 0)] [(0, 1, (.tmp 79)), (1, 1, (.tmp 83)), (2, 1, (.tmp 87)), (3, 1, (.tmp 91)), (4, 1, (.tmp 97)), (5, 1, (.tmp 103)), (6, 1, (.tmp 107)), (7, 1, (.tmp 111))]⟩,
          ⟨(some 11), none, .box 8 (.const (.agg [(.str []), (.str []), (.str []), (.str []), (.int .i64 0), (.int .i64 0), (.int .i64 0), (.int .i64 0)]))⟩,
          ⟨none, none, .store 8 (.tmp 11) (.tmp 112)⟩] [])
        (.seq (.region [⟨(some 113), none, .load (some 8) (.tmp 11)⟩,
           ⟨(some 114), none, .fieldAddr 4 (.tmp 11)⟩,
           ⟨(some 115), none, .load none (.tmp 114)⟩,
           ⟨(some 116), none, .call (.const (.func (.func 62) [])) [(.tmp 115)]⟩,
           ⟨(some 117), none, .mov (.tmp 116)⟩,
           ⟨(some 118), (some (117, true)), .fieldAddr 5 (.tmp 11)⟩,
           ⟨(some 119), (some (117, true)), .load none (.tmp 118)⟩,
           ⟨(some 120), (some (117, true)), .bin .leq (.one .int) (.tmp 119) (.const (.int .i64 345686400000))⟩,
           ⟨(some 121), none, .pick (.tmp 117) (.tmp 120) (.const (.bool false))⟩,
           ⟨none, none, .store 8 (.tmp 4) (.tmp 113)⟩,
           ⟨(some 5), none, .mov (.tmp 121)⟩] [((.tmp 118), (.tmp 4))])
         (.ret))))))))⟩
def b57_0 : XCode := .seq (.seq (.region [⟨(some 12), none, .bin .lss (.one .int) (.tmp 11) (.tmp 10)⟩] [])
   (.seq (.cond (.tmp 12) (.skip)
     (.exit 0))
    (.seq (.block 1 (.seq (.region [⟨(some 13), none, .indexAddr 1 (.tmp 9) (.tmp 11)⟩,
         ⟨(some 14), none, .load none (.tmp 13)⟩,
         ⟨(some 5), none, .mov (.tmp 14)⟩] [])
       (.seq (.region [⟨(some 15), none, .mov (.tmp 5)⟩,
          ⟨(some 16), none, .bin .geq (.one .int) (.tmp 15) (.const (.int .i64 0))⟩] [])
        (.cond (.tmp 16) (.region [⟨(some 17), none, .mov (.tmp 3)⟩,
           ⟨(some 18), none, .bin .add (.one .int) (.tmp 17) (.const (.int .i64 1))⟩,
           ⟨(some 3), none, .mov (.tmp 18)⟩] [])
         (.skip)))))
     (.region [⟨(some 19), none, .bin .add (.one .int) (.tmp 11) (.const (.int .i64 1))⟩,
       ⟨(some 11), none, .mov (.tmp 19)⟩] []))))
  (.keep [3, 9, 10, 11])
/-- (*jitney/match.graph).most -/
def x57 : XFunc := ⟨1, [.tmp 2],
  .seq (.region [⟨(some 2), none, .mov (.const (.int .i64 0))⟩] [])
  (.seq (.region [⟨(some 3), none, .mov (.const (.int .i64 0))⟩] [])
   (.seq (.seq (.region [⟨(some 6), none, .mov (.tmp 0)⟩,
       ⟨(some 7), none, .nilCheck (.tmp 6)⟩,
       ⟨(some 8), none, .fieldAddr 4 (.tmp 7)⟩,
       ⟨(some 9), none, .load none (.tmp 8)⟩,
       ⟨(some 10), none, .len .slice (.tmp 9)⟩,
       ⟨(some 11), none, .mov (.const (.int .i64 0))⟩] [])
     (.block 0 (.seq (.keep [3, 9, 10, 11])
       (.loop b57_0))))
    (.seq (.region [⟨(some 20), none, .mov (.tmp 3)⟩,
       ⟨(some 2), none, .mov (.tmp 20)⟩] [])
     (.ret))))⟩
def b58_0 : XCode := .seq (.seq (.region [⟨(some 11), none, .bin .lss (.one .int) (.tmp 10) (.tmp 9)⟩] [])
   (.seq (.cond (.tmp 11) (.skip)
     (.exit 0))
    (.seq (.block 1 (.seq (.region [⟨(some 12), none, .mov (.tmp 10)⟩,
         ⟨(some 13), none, .indexAddr 2 (.tmp 8) (.tmp 10)⟩,
         ⟨(some 14), none, .load (some 2) (.tmp 13)⟩,
         ⟨(some 4), none, .box 2 (.const (.agg [(.int .i64 0), (.int .i64 0)]))⟩,
         ⟨(some 3), none, .mov (.tmp 12)⟩,
         ⟨none, none, .store 2 (.tmp 4) (.tmp 14)⟩] [])
       (.seq (.seq (.region [⟨(some 15), none, .fieldAddr 0 (.tmp 4)⟩,
           ⟨(some 16), none, .load none (.tmp 15)⟩,
           ⟨(some 17), none, .bin .lss (.one .int) (.tmp 16) (.const (.int .i64 0))⟩,
           ⟨(some 18), none, .mov (.tmp 17)⟩,
           ⟨(some 19), (some (18, false)), .fieldAddr 0 (.tmp 4)⟩,
           ⟨(some 20), (some (18, false)), .load none (.tmp 19)⟩,
           ⟨(some 21), (some (18, false)), .fieldAddr 1 (.tmp 4)⟩,
           ⟨(some 22), (some (18, false)), .load none (.tmp 21)⟩,
           ⟨(some 23), (some (18, false)), .bin .geq (.one .int) (.tmp 20) (.tmp 22)⟩,
           ⟨(some 24), none, .pick (.tmp 18) (.const (.bool true)) (.tmp 23)⟩,
           ⟨(some 25), none, .mov (.tmp 24)⟩,
           ⟨(some 26), (some (25, false)), .fieldAddr 1 (.tmp 4)⟩,
           ⟨(some 27), (some (25, false)), .load none (.tmp 26)⟩,
           ⟨(some 28), (some (25, false)), .bin .gtr (.one .int) (.tmp 27) (.const (.int .i64 345686400000))⟩,
           ⟨(some 29), none, .pick (.tmp 25) (.const (.bool true)) (.tmp 28)⟩] [])
         (.cond (.tmp 29) (.seq (.region [⟨(some 2), none, .mov (.const (.int .i64 1))⟩] [])
           (.ret))
          (.skip)))
        (.seq (.region [⟨(some 30), none, .mov (.tmp 3)⟩,
           ⟨(some 31), none, .bin .gtr (.one .int) (.tmp 30) (.const (.int .i64 0))⟩,
           ⟨(some 32), none, .mov (.tmp 31)⟩,
           ⟨(some 33), (some (32, true)), .load (some 2) (.tmp 4)⟩,
           ⟨(some 34), (some (32, true)), .mov (.tmp 0)⟩,
           ⟨(some 35), (some (32, true)), .mov (.tmp 3)⟩,
           ⟨(some 36), (some (32, true)), .bin .sub (.one .int) (.tmp 35) (.const (.int .i64 1))⟩,
           ⟨(some 37), (some (32, true)), .indexAddr 2 (.tmp 34) (.tmp 36)⟩,
           ⟨(some 38), (some (32, true)), .load (some 2) (.tmp 37)⟩,
           ⟨(some 39), (some (32, true)), .call (.const (.func (.func 94) [])) [(.tmp 33), (.tmp 38)]⟩,
           ⟨(some 40), (some (32, true)), .bin .lss (.one .int) (.tmp 39) (.const (.int .i64 0))⟩,
           ⟨(some 41), none, .pick (.tmp 32) (.tmp 40) (.const (.bool false))⟩] [])
         (.cond (.tmp 41) (.seq (.region [⟨(some 2), none, .mov (.const (.int .i64 7))⟩] [])
           (.ret))
          (.skip))))))
     (.region [⟨(some 42), none, .bin .add (.one .int) (.tmp 10) (.const (.int .i64 1))⟩,
       ⟨(some 10), none, .mov (.tmp 42)⟩] []))))
  (.keep [0, 8, 9, 10])
/-- jitney/fleet.CheckShifts -/
def x58 : XFunc := ⟨1, [.tmp 2],
  .seq (.region [⟨(some 2), none, .mov (.const (.int .i64 0))⟩] [])
  (.seq (.seq (.region [⟨(some 5), none, .mov (.tmp 0)⟩,
      ⟨(some 6), none, .len .slice (.tmp 5)⟩,
      ⟨(some 7), none, .bin .gtr (.one .int) (.tmp 6) (.const (.int .i64 500))⟩] [])
    (.cond (.tmp 7) (.seq (.region [⟨(some 2), none, .mov (.const (.int .i64 2))⟩] [])
      (.ret))
     (.skip)))
   (.seq (.seq (.region [⟨(some 8), none, .mov (.tmp 0)⟩,
       ⟨(some 9), none, .len .slice (.tmp 8)⟩,
       ⟨(some 10), none, .mov (.const (.int .i64 0))⟩] [])
     (.block 0 (.seq (.keep [0, 8, 9, 10])
       (.loop b58_0))))
    (.seq (.region [⟨(some 2), none, .mov (.const (.int .i64 0))⟩] [])
     (.ret))))⟩
def b59_0 : XCode := .seq (.seq (.region [⟨(some 12), none, .bin .lss (.one .int) (.tmp 11) (.tmp 10)⟩] [])
   (.seq (.cond (.tmp 12) (.skip)
     (.exit 0))
    (.seq (.block 1 (.seq (.region [⟨(some 13), none, .indexAddr 2 (.tmp 9) (.tmp 11)⟩,
         ⟨(some 14), none, .load (some 2) (.tmp 13)⟩,
         ⟨(some 7), none, .box 2 (.const (.agg [(.int .i64 0), (.int .i64 0)]))⟩,
         ⟨none, none, .store 2 (.tmp 7) (.tmp 14)⟩] [])
       (.seq (.region [⟨(some 15), none, .mov (.tmp 4)⟩,
          ⟨(some 16), none, .mkFunc (.func 96) [(.tmp 7)]⟩,
          ⟨(some 17), none, .call (.const (.func (.func 95) [])) [(.tmp 15), (.tmp 16)]⟩,
          ⟨(some 8), none, .mov (.tmp 17)⟩] [])
        (.seq (.seq (.region [⟨(some 18), none, .mov (.tmp 8)⟩,
            ⟨(some 19), none, .bin .lss (.one .int) (.tmp 18) (.const (.int .i64 0))⟩] [])
          (.cond (.tmp 19) (.seq (.region [⟨(some 20), none, .mov (.tmp 4)⟩,
              ⟨(some 21), none, .len .slice (.tmp 20)⟩,
              ⟨(some 8), none, .mov (.tmp 21)⟩] [])
            (.region [⟨(some 22), none, .mov (.tmp 4)⟩,
              ⟨(some 23), none, .lit 1 [(.int .i64 0)] [(0, (.const (.int .i64 0)))] false⟩,
              ⟨(some 24), none, .append 1 8 (.tmp 22) (.tmp 23)⟩,
              ⟨(some 4), none, .mov (.tmp 24)⟩] []))
           (.skip)))
         (.seq (.region [⟨(some 25), none, .mov (.tmp 4)⟩,
            ⟨(some 26), none, .mov (.tmp 8)⟩,
            ⟨(some 27), none, .fieldAddr 1 (.tmp 7)⟩,
            ⟨(some 28), none, .load none (.tmp 27)⟩,
            ⟨(some 29), none, .indexAddr 1 (.tmp 25) (.tmp 26)⟩,
            ⟨none, none, .store 1 (.tmp 29) (.tmp 28)⟩] [])
          (.region [⟨(some 30), none, .mov (.tmp 5)⟩,
            ⟨(some 31), none, .mov (.tmp 8)⟩,
            ⟨(some 32), none, .lit 1 [(.int .i64 0)] [(0, (.tmp 31))] false⟩,
            ⟨(some 33), none, .append 1 8 (.tmp 30) (.tmp 32)⟩,
            ⟨(some 5), none, .mov (.tmp 33)⟩] []))))))
     (.region [⟨(some 34), none, .bin .add (.one .int) (.tmp 11) (.const (.int .i64 1))⟩,
       ⟨(some 11), none, .mov (.tmp 34)⟩] []))))
  (.keep [4, 5, 9, 10, 11])
/-- jitney/fleet.rosters -/
def x59 : XFunc := ⟨1, [.tmp 2, .tmp 3],
  .seq (.region [⟨(some 2), none, .mov (.const .nilslice)⟩,
    ⟨(some 3), none, .mov (.const (.int .i64 0))⟩] [])
  (.seq (.region [⟨(some 4), none, .mov (.const .nilslice)⟩,
     ⟨(some 5), none, .mov (.const .nilslice)⟩] [])
   (.seq (.seq (.region [⟨(some 9), none, .mov (.tmp 0)⟩,
       ⟨(some 10), none, .len .slice (.tmp 9)⟩,
       ⟨(some 11), none, .mov (.const (.int .i64 0))⟩] [])
     (.block 0 (.seq (.keep [4, 5, 9, 10, 11])
       (.loop b59_0))))
    (.seq (.region [⟨(some 35), none, .mov (.tmp 5)⟩,
       ⟨(some 36), none, .mov (.tmp 4)⟩,
       ⟨(some 37), none, .len .slice (.tmp 36)⟩,
       ⟨(some 2), none, .mov (.tmp 35)⟩,
       ⟨(some 3), none, .mov (.tmp 37)⟩] [])
     (.ret))))⟩
def b60_0 : XCode := .seq (.seq (.region [⟨(some 11), none, .bin .lss (.one .int) (.tmp 10) (.tmp 9)⟩] [])
   (.seq (.cond (.tmp 11) (.skip)
     (.exit 0))
    (.seq (.block 1 (.seq (.region [⟨(some 12), none, .mov (.tmp 10)⟩,
         ⟨(some 13), none, .indexAddr 5 (.tmp 8) (.tmp 10)⟩,
         ⟨(some 14), none, .load (some 5) (.tmp 13)⟩,
         ⟨(some 4), none, .box 5 (.const (.agg [(.str []), (.str []), (.str []), (.int .i64 0), (.int .i64 0)]))⟩,
         ⟨(some 3), none, .mov (.tmp 12)⟩,
         ⟨none, none, .store 5 (.tmp 4) (.tmp 14)⟩] [])
       (.block 2 (.seq (.region [⟨(some 16), none, .fieldAddr 0 (.tmp 4)⟩,
           ⟨(some 17), none, .load none (.tmp 16)⟩,
           ⟨(some 18), none, .call (.const (.func (.func 50) [])) [(.tmp 17)]⟩,
           ⟨(some 19), none, .un .not (.tmp 18)⟩,
           ⟨(some 20), none, .mov (.tmp 19)⟩,
           ⟨(some 21), (some (20, false)), .fieldAddr 1 (.tmp 4)⟩,
           ⟨(some 22), (some (20, false)), .load none (.tmp 21)⟩,
           ⟨(some 23), (some (20, false)), .call (.const (.func (.func 50) [])) [(.tmp 22)]⟩,
           ⟨(some 24), (some (20, false)), .un .not (.tmp 23)⟩,
           ⟨(some 25), none, .pick (.tmp 20) (.const (.bool true)) (.tmp 24)⟩,
           ⟨(some 26), none, .mov (.tmp 25)⟩,
           ⟨(some 27), (some (26, false)), .fieldAddr 2 (.tmp 4)⟩,
           ⟨(some 28), (some (26, false)), .load none (.tmp 27)⟩,
           ⟨(some 29), (some (26, false)), .call (.const (.func (.func 50) [])) [(.tmp 28)]⟩,
           ⟨(some 30), (some (26, false)), .un .not (.tmp 29)⟩,
           ⟨(some 31), none, .pick (.tmp 26) (.const (.bool true)) (.tmp 30)⟩,
           ⟨(some 15), none, .mov (.tmp 31)⟩] [])
         (.cond (.tmp 15) (.seq (.region [⟨(some 2), none, .mov (.const (.int .i64 5))⟩] [])
           (.ret))
          (.seq (.region [⟨(some 33), none, .fieldAddr 0 (.tmp 4)⟩,
             ⟨(some 34), none, .load none (.tmp 33)⟩,
             ⟨(some 35), none, .fieldAddr 1 (.tmp 4)⟩,
             ⟨(some 36), none, .load none (.tmp 35)⟩,
             ⟨(some 37), none, .bin .eql (.one .str) (.tmp 34) (.tmp 36)⟩,
             ⟨(some 32), none, .mov (.tmp 37)⟩] [])
           (.cond (.tmp 32) (.seq (.region [⟨(some 2), none, .mov (.const (.int .i64 6))⟩] [])
             (.ret))
            (.seq (.region [⟨(some 39), none, .fieldAddr 3 (.tmp 4)⟩,
               ⟨(some 40), none, .load none (.tmp 39)⟩,
               ⟨(some 41), none, .call (.const (.func (.func 65) [])) [(.tmp 40), (.const (.int .i64 1)), (.const (.int .i64 5))]⟩,
               ⟨(some 42), none, .mov (.tmp 41)⟩,
               ⟨(some 43), (some (42, false)), .fieldAddr 4 (.tmp 4)⟩,
               ⟨(some 44), (some (42, false)), .load none (.tmp 43)⟩,
               ⟨(some 45), (some (42, false)), .call (.const (.func (.func 62) [])) [(.tmp 44)]⟩,
               ⟨(some 46), (some (42, false)), .un .not (.tmp 45)⟩,
               ⟨(some 47), none, .pick (.tmp 42) (.const (.bool true)) (.tmp 46)⟩,
               ⟨(some 38), none, .mov (.tmp 47)⟩] [])
             (.cond (.tmp 38) (.seq (.region [⟨(some 2), none, .mov (.const (.int .i64 1))⟩] [])
               (.ret))
              (.seq (.region [⟨(some 49), none, .mov (.tmp 3)⟩,
                 ⟨(some 50), none, .bin .gtr (.one .int) (.tmp 49) (.const (.int .i64 0))⟩,
                 ⟨(some 51), none, .mov (.tmp 50)⟩,
                 ⟨(some 52), (some (51, true)), .load (some 5) (.tmp 4)⟩,
                 ⟨(some 53), (some (51, true)), .mov (.tmp 0)⟩,
                 ⟨(some 54), (some (51, true)), .mov (.tmp 3)⟩,
                 ⟨(some 55), (some (51, true)), .bin .sub (.one .int) (.tmp 54) (.const (.int .i64 1))⟩,
                 ⟨(some 56), (some (51, true)), .indexAddr 5 (.tmp 53) (.tmp 55)⟩,
                 ⟨(some 57), (some (51, true)), .load (some 5) (.tmp 56)⟩,
                 ⟨(some 58), (some (51, true)), .call (.const (.func (.func 97) [])) [(.tmp 52), (.tmp 57)]⟩,
                 ⟨(some 59), (some (51, true)), .bin .leq (.one .int) (.tmp 58) (.const (.int .i64 0))⟩,
                 ⟨(some 60), none, .pick (.tmp 51) (.tmp 59) (.const (.bool false))⟩,
                 ⟨(some 48), none, .mov (.tmp 60)⟩] [])
               (.cond (.tmp 48) (.seq (.region [⟨(some 2), none, .mov (.const (.int .i64 7))⟩] [])
                 (.ret))
                (.skip))))))))))))
     (.region [⟨(some 61), none, .bin .add (.one .int) (.tmp 10) (.const (.int .i64 1))⟩,
       ⟨(some 10), none, .mov (.tmp 61)⟩] []))))
  (.keep [0, 8, 9, 10])
/-- jitney/trust.CheckRatings -/
def x60 : XFunc := ⟨1, [.tmp 2],
  .seq (.region [⟨(some 2), none, .mov (.const (.int .i64 0))⟩] [])
  (.seq (.seq (.region [⟨(some 5), none, .mov (.tmp 0)⟩,
      ⟨(some 6), none, .len .slice (.tmp 5)⟩,
      ⟨(some 7), none, .bin .gtr (.one .int) (.tmp 6) (.const (.int .i64 3000))⟩] [])
    (.cond (.tmp 7) (.seq (.region [⟨(some 2), none, .mov (.const (.int .i64 2))⟩] [])
      (.ret))
     (.skip)))
   (.seq (.seq (.region [⟨(some 8), none, .mov (.tmp 0)⟩,
       ⟨(some 9), none, .len .slice (.tmp 8)⟩,
       ⟨(some 10), none, .mov (.const (.int .i64 0))⟩] [])
     (.block 0 (.seq (.keep [0, 8, 9, 10])
       (.loop b60_0))))
    (.seq (.region [⟨(some 2), none, .mov (.const (.int .i64 0))⟩] [])
     (.ret))))⟩
/-- jitney/trust.faithFault -/
def x61 : XFunc := ⟨1, [.tmp 2],
  .seq (.region [⟨(some 1), none, .box 3 (.tmp 0)⟩,
    ⟨(some 2), none, .mov (.const (.int .i64 0))⟩] [])
  (.seq (.seq (.region [⟨(some 3), none, .fieldAddr 0 (.tmp 1)⟩,
      ⟨(some 4), none, .load none (.tmp 3)⟩,
      ⟨(some 5), none, .call (.const (.func (.func 65) [])) [(.tmp 4), (.const (.int .i64 0)), (.const (.int .i64 1000))]⟩,
      ⟨(some 6), none, .mov (.tmp 5)⟩,
      ⟨(some 7), (some (6, false)), .fieldAddr 1 (.tmp 1)⟩,
      ⟨(some 8), (some (6, false)), .load none (.tmp 7)⟩,
      ⟨(some 9), (some (6, false)), .call (.const (.func (.func 65) [])) [(.tmp 8), (.const (.int .i64 1000)), (.const (.int .i64 5000))]⟩,
      ⟨(some 10), none, .pick (.tmp 6) (.const (.bool true)) (.tmp 9)⟩,
      ⟨(some 11), none, .mov (.tmp 10)⟩,
      ⟨(some 12), (some (11, false)), .fieldAddr 2 (.tmp 1)⟩,
      ⟨(some 13), (some (11, false)), .load none (.tmp 12)⟩,
      ⟨(some 14), (some (11, false)), .call (.const (.func (.func 65) [])) [(.tmp 13), (.const (.int .i64 0)), (.const (.int .i64 345686400000))]⟩,
      ⟨(some 15), none, .pick (.tmp 11) (.const (.bool true)) (.tmp 14)⟩] [])
    (.cond (.tmp 15) (.seq (.region [⟨(some 2), none, .mov (.const (.int .i64 1))⟩] [])
      (.ret))
     (.skip)))
   (.seq (.region [⟨(some 2), none, .mov (.const (.int .i64 0))⟩] [])
    (.ret)))⟩
/-- jitney/base.Moment -/
def x62 : XFunc := ⟨1, [.tmp 2],
  .seq (.region [⟨(some 2), none, .mov (.const (.bool false))⟩] [])
  (.seq (.region [⟨(some 3), none, .mov (.tmp 0)⟩,
     ⟨(some 4), none, .call (.const (.func (.func 65) [])) [(.tmp 3), (.const (.int .i64 0)), (.const (.int .i64 345686399999))]⟩,
     ⟨(some 5), none, .un .not (.tmp 4)⟩,
     ⟨(some 2), none, .mov (.tmp 5)⟩] [])
   (.ret))⟩
def b63_0 : XCode := .seq (.seq (.region [⟨(some 20), none, .bin .lss (.one .int) (.tmp 19) (.tmp 18)⟩] [])
   (.seq (.cond (.tmp 20) (.skip)
     (.exit 0))
    (.seq (.block 1 (.seq (.region [⟨(some 21), none, .indexAddr 5 (.tmp 17) (.tmp 19)⟩,
         ⟨(some 22), none, .load (some 5) (.tmp 21)⟩,
         ⟨(some 9), none, .box 5 (.const (.agg [(.str []), (.str []), (.str []), (.int .i64 0), (.int .i64 0)]))⟩,
         ⟨none, none, .store 5 (.tmp 9) (.tmp 22)⟩] [])
       (.seq (.region [⟨(some 10), none, .mov (.const (.int .i64 1024))⟩] [])
        (.seq (.seq (.region [⟨(some 23), none, .fieldAddr 2 (.tmp 3)⟩,
            ⟨(some 24), none, .load none (.tmp 23)⟩,
            ⟨(some 25), none, .bin .gtr (.one .int) (.tmp 24) (.const (.int .i64 0))⟩] [])
          (.cond (.tmp 25) (.region [⟨(some 26), none, .mov (.tmp 10)⟩,
             ⟨(some 27), none, .mov (.tmp 2)⟩,
             ⟨(some 28), none, .fieldAddr 4 (.tmp 9)⟩,
             ⟨(some 29), none, .load none (.tmp 28)⟩,
             ⟨(some 30), none, .bin .sub (.one .int) (.tmp 27) (.tmp 29)⟩,
             ⟨(some 31), none, .fieldAddr 2 (.tmp 3)⟩,
             ⟨(some 32), none, .load none (.tmp 31)⟩,
             ⟨(some 33), none, .bin .quo (.one .int) (.tmp 30) (.tmp 32)⟩,
             ⟨(some 34), none, .mm false [(.const (.int .i64 10)), (.tmp 33)]⟩,
             ⟨(some 35), none, .bin .shr (.one .int) (.tmp 26) (.tmp 34)⟩,
             ⟨(some 10), none, .mov (.tmp 35)⟩] [])
           (.skip)))
         (.seq (.region [⟨(some 36), none, .mov (.tmp 7)⟩,
            ⟨(some 37), none, .nilCheck (.tmp 36)⟩,
            ⟨(some 38), none, .fieldAddr 0 (.tmp 37)⟩,
            ⟨(some 39), none, .load none (.tmp 38)⟩,
            ⟨(some 40), none, .fieldAddr 1 (.tmp 9)⟩,
            ⟨(some 41), none, .load none (.tmp 40)⟩,
            ⟨(some 42), none, .lookup (.one .str) (.int .i64 0) false (.tmp 39) (.tmp 41)⟩,
            ⟨(some 43), none, .mov (.tmp 10)⟩,
            ⟨(some 44), none, .bin .mul (.one .int) (.const (.int .i64 1000)) (.tmp 43)⟩,
            ⟨(some 45), none, .fieldAddr 3 (.tmp 9)⟩,
            ⟨(some 46), none, .load none (.tmp 45)⟩,
            ⟨(some 47), none, .bin .mul (.one .int) (.tmp 44) (.tmp 46)⟩,
            ⟨(some 48), none, .bin .add (.one .int) (.tmp 42) (.tmp 47)⟩,
            ⟨none, none, .mapUpdate (.one .str) (.tmp 39) (.tmp 41) (.tmp 48)⟩] [])
          (.region [⟨(some 49), none, .mov (.tmp 7)⟩,
            ⟨(some 50), none, .nilCheck (.tmp 49)⟩,
            ⟨(some 51), none, .fieldAddr 1 (.tmp 50)⟩,
            ⟨(some 52), none, .load none (.tmp 51)⟩,
            ⟨(some 53), none, .fieldAddr 1 (.tmp 9)⟩,
            ⟨(some 54), none, .load none (.tmp 53)⟩,
            ⟨(some 55), none, .lookup (.one .str) (.int .i64 0) false (.tmp 52) (.tmp 54)⟩,
            ⟨(some 56), none, .mov (.tmp 10)⟩,
            ⟨(some 57), none, .bin .mul (.one .int) (.const (.int .i64 1000)) (.tmp 56)⟩,
            ⟨(some 58), none, .bin .add (.one .int) (.tmp 55) (.tmp 57)⟩,
            ⟨none, none, .mapUpdate (.one .str) (.tmp 52) (.tmp 54) (.tmp 58)⟩] []))))))
     (.region [⟨(some 59), none, .bin .add (.one .int) (.tmp 19) (.const (.int .i64 1))⟩,
       ⟨(some 19), none, .mov (.tmp 59)⟩] []))))
  (.keep [2, 3, 7, 17, 18, 19])
/-- jitney/trust.newSums -/
def x63 : XFunc := ⟨3, [.tmp 6],
  .seq (.region [⟨(some 3), none, .box 3 (.tmp 0)⟩,
    ⟨(some 6), none, .mov (.const .nilptr)⟩] [])
  (.seq (.region [⟨(some 11), none, .mkMap⟩,
     ⟨(some 12), none, .mkMap⟩,
     ⟨(some 13), none, .build [.nilmap, .nilmap] [(0, 1, (.tmp 11)), (1, 1, (.tmp 12))]⟩,
     ⟨(some 14), none, .box 2 (.tmp 13)⟩,
     ⟨(some 7), none, .mov (.tmp 14)⟩] [])
   (.seq (.seq (.region [⟨(some 15), none, .mov (.tmp 1)⟩,
       ⟨(some 16), none, .mov (.tmp 2)⟩,
       ⟨(some 17), none, .call (.const (.func (.func 98) [])) [(.tmp 15), (.tmp 16)]⟩,
       ⟨(some 18), none, .len .slice (.tmp 17)⟩,
       ⟨(some 19), none, .mov (.const (.int .i64 0))⟩] [])
     (.block 0 (.seq (.keep [2, 3, 7, 17, 18, 19])
       (.loop b63_0))))
    (.seq (.region [⟨(some 60), none, .mov (.tmp 7)⟩,
       ⟨(some 6), none, .mov (.tmp 60)⟩] [])
     (.ret))))⟩
/-- (*jitney/trust.sums).score -/
def x64 : XFunc := ⟨3, [.cell 6 (some 2), .tmp 7],
  .seq (.region [⟨(some 4), none, .box 3 (.tmp 1)⟩,
    ⟨(some 6), none, .box 2 (.const (.agg [(.int .i64 0), (.int .i64 0)]))⟩,
    ⟨(some 7), none, .mov (.const (.bool false))⟩] [])
  (.seq (.region [⟨(some 9), none, .mov (.tmp 0)⟩,
     ⟨(some 10), none, .nilCheck (.tmp 9)⟩,
     ⟨(some 11), none, .fieldAddr 1 (.tmp 10)⟩,
     ⟨(some 12), none, .load none (.tmp 11)⟩,
     ⟨(some 13), none, .mov (.tmp 2)⟩,
     ⟨(some 14), none, .lookup (.one .str) (.int .i64 0) false (.tmp 12) (.tmp 13)⟩,
     ⟨(some 15), none, .fieldAddr 0 (.tmp 4)⟩,
     ⟨(some 16), none, .load none (.tmp 15)⟩,
     ⟨(some 17), none, .bin .mul (.one .int) (.const (.int .i64 1024000)) (.tmp 16)⟩,
     ⟨(some 18), none, .bin .add (.one .int) (.tmp 14) (.tmp 17)⟩,
     ⟨(some 8), none, .mov (.tmp 18)⟩] [])
   (.seq (.seq (.region [⟨(some 19), none, .mov (.tmp 8)⟩,
       ⟨(some 20), none, .bin .eql (.one .int) (.tmp 19) (.const (.int .i64 0))⟩] [])
     (.cond (.tmp 20) (.seq (.region [⟨(some 21), none, .build [(.int .i64 0), (.int .i64 0)] []⟩,
         ⟨none, none, .store 2 (.tmp 6) (.tmp 21)⟩,
         ⟨(some 7), none, .mov (.const (.bool false))⟩] [])
       (.ret))
      (.skip)))
    (.seq (.region [⟨(some 22), none, .mov (.tmp 0)⟩,
       ⟨(some 23), none, .nilCheck (.tmp 22)⟩,
       ⟨(some 24), none, .fieldAddr 0 (.tmp 23)⟩,
       ⟨(some 25), none, .load none (.tmp 24)⟩,
       ⟨(some 26), none, .mov (.tmp 2)⟩,
       ⟨(some 27), none, .lookup (.one .str) (.int .i64 0) false (.tmp 25) (.tmp 26)⟩,
       ⟨(some 28), none, .fieldAddr 0 (.tmp 4)⟩,
       ⟨(some 29), none, .load none (.tmp 28)⟩,
       ⟨(some 30), none, .bin .mul (.one .int) (.const (.int .i64 1024)) (.tmp 29)⟩,
       ⟨(some 31), none, .fieldAddr 1 (.tmp 4)⟩,
       ⟨(some 32), none, .load none (.tmp 31)⟩,
       ⟨(some 33), none, .bin .mul (.one .int) (.tmp 30) (.tmp 32)⟩,
       ⟨(some 34), none, .bin .add (.one .int) (.tmp 27) (.tmp 33)⟩,
       ⟨(some 35), none, .mov (.tmp 8)⟩,
       ⟨(some 36), none, .call (.const (.func (.func 99) [])) [(.tmp 34), (.tmp 35)]⟩,
       ⟨none, none, .store 2 (.tmp 6) (.tmp 36)⟩,
       ⟨(some 7), none, .mov (.const (.bool true))⟩] [])
     (.ret))))⟩
/-- jitney/base.Out -/
def x65 : XFunc := ⟨3, [.tmp 6],
  .seq (.region [⟨(some 6), none, .mov (.const (.bool false))⟩] [])
  (.seq (.region [⟨(some 7), none, .mov (.tmp 0)⟩,
     ⟨(some 8), none, .mov (.tmp 1)⟩,
     ⟨(some 9), none, .bin .lss (.one .int) (.tmp 7) (.tmp 8)⟩,
     ⟨(some 10), none, .mov (.tmp 9)⟩,
     ⟨(some 11), (some (10, false)), .mov (.tmp 0)⟩,
     ⟨(some 12), (some (10, false)), .mov (.tmp 2)⟩,
     ⟨(some 13), (some (10, false)), .bin .gtr (.one .int) (.tmp 11) (.tmp 12)⟩,
     ⟨(some 14), none, .pick (.tmp 10) (.const (.bool true)) (.tmp 13)⟩,
     ⟨(some 6), none, .mov (.tmp 14)⟩] [])
   (.ret))⟩
/-- jitney/match.byOffer -/
def x66 : XFunc := ⟨2, [.tmp 4],
  .seq (.region [⟨(some 2), none, .box 3 (.tmp 0)⟩,
    ⟨(some 3), none, .box 3 (.tmp 1)⟩,
    ⟨(some 4), none, .mov (.const (.int .i64 0))⟩] [])
  (.seq (.region [⟨(some 5), none, .fieldAddr 0 (.tmp 2)⟩,
     ⟨(some 6), none, .load none (.tmp 5)⟩,
     ⟨(some 7), none, .fieldAddr 0 (.tmp 3)⟩,
     ⟨(some 8), none, .load none (.tmp 7)⟩,
     ⟨(some 9), none, .call (.const (.func (.func 32) [])) [(.tmp 6), (.tmp 8)]⟩,
     ⟨(some 10), none, .fieldAddr 1 (.tmp 2)⟩,
     ⟨(some 11), none, .load none (.tmp 10)⟩,
     ⟨(some 12), none, .fieldAddr 1 (.tmp 3)⟩,
     ⟨(some 13), none, .load none (.tmp 12)⟩,
     ⟨(some 14), none, .call (.const (.func (.func 32) [])) [(.tmp 11), (.tmp 13)]⟩,
     ⟨(some 15), none, .lit 1 [(.int .i64 0), (.int .i64 0)] [(0, (.tmp 9)), (1, (.tmp 14))] false⟩,
     ⟨(some 16), none, .call (.const (.func (.func 100) [])) [(.tmp 15)]⟩,
     ⟨(some 4), none, .mov (.tmp 16)⟩] [])
   (.ret))⟩
/-- jitney/match.carsOf -/
def x67 : XFunc := ⟨1, [.tmp 2],
  .seq (.region [⟨(some 2), none, .mov (.const .nilslice)⟩] [])
  (.seq (.region [⟨(some 3), none, .mov (.tmp 0)⟩,
     ⟨(some 4), none, .call (.const (.func (.func 101) [])) [(.tmp 3), (.const (.func (.func 102) []))]⟩,
     ⟨(some 2), none, .mov (.tmp 4)⟩] [])
   (.ret))⟩
/-- jitney/match.ridesOf -/
def x68 : XFunc := ⟨1, [.tmp 2],
  .seq (.region [⟨(some 2), none, .mov (.const .nilslice)⟩] [])
  (.seq (.region [⟨(some 3), none, .mov (.tmp 0)⟩,
     ⟨(some 4), none, .call (.const (.func (.func 101) [])) [(.tmp 3), (.const (.func (.func 103) []))]⟩,
     ⟨(some 2), none, .mov (.tmp 4)⟩] [])
   (.ret))⟩
def b69_0 : XCode := .seq (.seq (.seq (.region [⟨(some 13), none, .mov (.tmp 7)⟩,
      ⟨(some 14), none, .mov (.tmp 8)⟩,
      ⟨(some 15), none, .bin .lss (.one .int) (.tmp 13) (.tmp 14)⟩] [])
    (.cond (.tmp 15) (.skip)
     (.exit 0)))
   (.block 1 (.seq (.region [⟨(some 16), none, .mov (.tmp 7)⟩,
       ⟨(some 17), none, .mov (.tmp 8)⟩,
       ⟨(some 18), none, .bin .add (.one .int) (.tmp 16) (.tmp 17)⟩,
       ⟨(some 19), none, .convInt .u64 (.tmp 18)⟩,
       ⟨(some 20), none, .bin .shr (.one .int) (.tmp 19) (.const (.int .u64 1))⟩,
       ⟨(some 21), none, .convInt .i64 (.tmp 20)⟩,
       ⟨(some 9), none, .mov (.tmp 21)⟩] [])
     (.seq (.region [⟨(some 22), none, .mov (.tmp 0)⟩,
        ⟨(some 23), none, .mov (.tmp 9)⟩,
        ⟨(some 24), none, .indexAddr 1 (.tmp 22) (.tmp 23)⟩,
        ⟨(some 25), none, .load none (.tmp 24)⟩,
        ⟨(some 26), none, .mov (.tmp 1)⟩,
        ⟨(some 27), none, .call (.const (.func (.func 104) [])) [(.tmp 25), (.tmp 26)]⟩] [])
      (.cond (.tmp 27) (.region [⟨(some 28), none, .mov (.tmp 9)⟩,
         ⟨(some 29), none, .bin .add (.one .int) (.tmp 28) (.const (.int .i64 1))⟩,
         ⟨(some 7), none, .mov (.tmp 29)⟩] [])
       (.region [⟨(some 30), none, .mov (.tmp 9)⟩,
         ⟨(some 8), none, .mov (.tmp 30)⟩] []))))))
  (.keep [0, 1, 6, 7, 8])
/-- slices.BinarySearch[[]string,string] -/
def x69 : XFunc := ⟨2, [.tmp 4, .tmp 5],
  .seq (.region [⟨(some 4), none, .mov (.const (.int .i64 0))⟩,
    ⟨(some 5), none, .mov (.const (.bool false))⟩] [])
  (.seq (.region [⟨(some 10), none, .mov (.tmp 0)⟩,
     ⟨(some 11), none, .len .slice (.tmp 10)⟩,
     ⟨(some 6), none, .mov (.tmp 11)⟩] [])
   (.seq (.region [⟨(some 12), none, .mov (.tmp 6)⟩,
      ⟨(some 7), none, .mov (.const (.int .i64 0))⟩,
      ⟨(some 8), none, .mov (.tmp 12)⟩] [])
    (.seq (.block 0 (.seq (.keep [0, 1, 6, 7, 8])
       (.loop b69_0)))
     (.seq (.region [⟨(some 31), none, .mov (.tmp 7)⟩,
        ⟨(some 32), none, .mov (.tmp 7)⟩,
        ⟨(some 33), none, .mov (.tmp 6)⟩,
        ⟨(some 34), none, .bin .lss (.one .int) (.tmp 32) (.tmp 33)⟩,
        ⟨(some 35), none, .mov (.tmp 34)⟩,
        ⟨(some 36), (some (35, true)), .mov (.tmp 0)⟩,
        ⟨(some 37), (some (35, true)), .mov (.tmp 7)⟩,
        ⟨(some 38), (some (35, true)), .indexAddr 1 (.tmp 36) (.tmp 37)⟩,
        ⟨(some 39), (some (35, true)), .load none (.tmp 38)⟩,
        ⟨(some 40), (some (35, true)), .mov (.tmp 1)⟩,
        ⟨(some 41), (some (35, true)), .bin .eql (.one .str) (.tmp 39) (.tmp 40)⟩,
        ⟨(some 42), (some (35, true)), .mov (.tmp 41)⟩,
        ⟨(some 43), (some (42, false)), .mov (.tmp 0)⟩,
        ⟨(some 44), (some (42, false)), .mov (.tmp 7)⟩,
        ⟨(some 45), (some (42, false)), .indexAddr 1 (.tmp 43) (.tmp 44)⟩,
        ⟨(some 46), (some (42, false)), .load none (.tmp 45)⟩,
        ⟨(some 47), (some (42, false)), .call (.const (.func (.func 105) [])) [(.tmp 46)]⟩,
        ⟨(some 48), (some (42, false)), .mov (.tmp 47)⟩,
        ⟨(some 49), (some (48, true)), .mov (.tmp 1)⟩,
        ⟨(some 50), (some (48, true)), .call (.const (.func (.func 105) [])) [(.tmp 49)]⟩,
        ⟨(some 51), (some (42, false)), .pick (.tmp 48) (.tmp 50) (.const (.bool false))⟩,
        ⟨(some 52), (some (35, true)), .pick (.tmp 42) (.const (.bool true)) (.tmp 51)⟩,
        ⟨(some 53), none, .pick (.tmp 35) (.tmp 52) (.const (.bool false))⟩,
        ⟨(some 4), none, .mov (.tmp 31)⟩,
        ⟨(some 5), none, .mov (.tmp 53)⟩] [])
      (.ret)))))⟩
def b73_0 : XCode := .seq (.seq (.seq (.region [⟨(some 34), none, .mov (.tmp 8)⟩,
      ⟨(some 35), none, .mov (.tmp 7)⟩,
      ⟨(some 36), none, .len .slice (.tmp 35)⟩,
      ⟨(some 37), none, .bin .lss (.one .int) (.tmp 34) (.tmp 36)⟩] [])
    (.cond (.tmp 37) (.skip)
     (.exit 0)))
   (.block 1 (.region [⟨(some 38), none, .mov (.tmp 8)⟩,
      ⟨(some 39), none, .mov (.tmp 7)⟩,
      ⟨(some 40), none, .mov (.tmp 8)⟩,
      ⟨(some 41), none, .sliceSl 1 (.tmp 39) (some (.tmp 40)) none⟩,
      ⟨(some 42), none, .mov (.tmp 7)⟩,
      ⟨(some 43), none, .mov (.tmp 8)⟩,
      ⟨(some 44), none, .sliceSl 1 (.tmp 42) none (some (.tmp 43))⟩,
      ⟨(some 45), none, .copy 1 (.tmp 41) (.tmp 44)⟩,
      ⟨(some 46), none, .bin .add (.one .int) (.tmp 38) (.tmp 45)⟩,
      ⟨(some 8), none, .mov (.tmp 46)⟩] [])))
  (.keep [7, 8])
/-- slices.Repeat[[]int,int] -/
def x73 : XFunc := ⟨2, [.tmp 4],
  .seq (.region [⟨(some 4), none, .mov (.const .nilslice)⟩] [])
  (.seq (.seq (.region [⟨(some 9), none, .mov (.tmp 1)⟩,
      ⟨(some 10), none, .bin .lss (.one .int) (.tmp 9) (.const (.int .i64 0))⟩] [])
    (.cond (.tmp 10) (.region [⟨(some 11), none, .mkIface 9 (.const (.str [99, 97, 110, 110, 111, 116, 32, 98, 101, 32, 110, 101, 103, 97, 116, 105, 118, 101]))⟩,
       ⟨none, none, .fail⟩] [])
     (.skip)))
   (.seq (.region [⟨(some 13), none, .mov (.tmp 0)⟩,
      ⟨(some 14), none, .len .slice (.tmp 13)⟩,
      ⟨(some 15), none, .convInt .u64 (.tmp 14)⟩,
      ⟨(some 16), none, .mov (.tmp 1)⟩,
      ⟨(some 17), none, .convInt .u64 (.tmp 16)⟩,
      ⟨(some 18), none, .call (.const (.func (.func 107) [])) [(.tmp 15), (.tmp 17)]⟩,
      ⟨(some 12), none, .mov (.tmp 18)⟩,
      ⟨(some 19), none, .extract (.tmp 12) 0⟩,
      ⟨(some 20), none, .extract (.tmp 12) 1⟩,
      ⟨(some 5), none, .mov (.tmp 19)⟩,
      ⟨(some 6), none, .mov (.tmp 20)⟩] [])
    (.seq (.seq (.region [⟨(some 21), none, .mov (.tmp 5)⟩,
        ⟨(some 22), none, .bin .gtr (.one .int) (.tmp 21) (.const (.int .u64 0))⟩,
        ⟨(some 23), none, .mov (.tmp 22)⟩,
        ⟨(some 24), (some (23, false)), .mov (.tmp 6)⟩,
        ⟨(some 25), (some (23, false)), .bin .gtr (.one .int) (.tmp 24) (.const (.int .u64 9223372036854775807))⟩,
        ⟨(some 26), none, .pick (.tmp 23) (.const (.bool true)) (.tmp 25)⟩] [])
      (.cond (.tmp 26) (.region [⟨(some 27), none, .mkIface 9 (.const (.str [116, 104, 101, 32, 114, 101, 115, 117, 108, 116, 32, 111, 102, 32, 40, 108, 101, 110, 40, 120, 41, 32, 42, 32, 99, 111, 117, 110, 116, 41, 32, 111, 118, 101, 114, 102, 108, 111, 119, 115]))⟩,
         ⟨none, none, .fail⟩] [])
       (.skip)))
     (.seq (.region [⟨(some 28), none, .mov (.tmp 6)⟩,
        ⟨(some 29), none, .convInt .i64 (.tmp 28)⟩,
        ⟨(some 30), none, .mkSlice 1 8 (.int .i64 0) (.tmp 29) (.tmp 29)⟩,
        ⟨(some 7), none, .mov (.tmp 30)⟩] [])
      (.seq (.region [⟨(some 31), none, .mov (.tmp 7)⟩,
         ⟨(some 32), none, .mov (.tmp 0)⟩,
         ⟨(some 33), none, .copy 1 (.tmp 31) (.tmp 32)⟩,
         ⟨(some 8), none, .mov (.tmp 33)⟩] [])
       (.seq (.block 0 (.seq (.keep [7, 8])
          (.loop b73_0)))
        (.seq (.region [⟨(some 47), none, .mov (.tmp 7)⟩,
           ⟨(some 4), none, .mov (.tmp 47)⟩] [])
         (.ret))))))))⟩
def b74_0 : XCode := .seq (.seq (.region [⟨(some 18), none, .bin .lss (.one .int) (.tmp 17) (.tmp 16)⟩] [])
   (.seq (.cond (.tmp 18) (.skip)
     (.exit 0))
    (.seq (.block 1 (.seq (.region [⟨(some 19), none, .indexAddr 1 (.tmp 15) (.tmp 17)⟩,
         ⟨(some 20), none, .load none (.tmp 19)⟩,
         ⟨(some 8), none, .mov (.tmp 20)⟩] [])
       (.seq (.seq (.region [⟨(some 21), none, .mov (.tmp 2)⟩,
           ⟨(some 22), none, .mov (.tmp 8)⟩,
           ⟨(some 23), none, .indexAddr 1 (.tmp 21) (.tmp 22)⟩,
           ⟨(some 24), none, .load none (.tmp 23)⟩] [])
         (.cond (.tmp 24) (.exit 1)
          (.skip)))
        (.seq (.region [⟨(some 25), none, .mov (.tmp 2)⟩,
           ⟨(some 26), none, .mov (.tmp 8)⟩,
           ⟨(some 27), none, .indexAddr 1 (.tmp 25) (.tmp 26)⟩,
           ⟨none, none, .store 1 (.tmp 27) (.const (.bool true))⟩] [])
         (.seq (.region [⟨(some 28), none, .mov (.tmp 0)⟩,
            ⟨(some 29), none, .nilCheck (.tmp 28)⟩,
            ⟨(some 30), none, .fieldAddr 3 (.tmp 29)⟩,
            ⟨(some 31), none, .load none (.tmp 30)⟩,
            ⟨(some 32), none, .mov (.tmp 8)⟩,
            ⟨(some 33), none, .indexAddr 1 (.tmp 31) (.tmp 32)⟩,
            ⟨(some 34), none, .load none (.tmp 33)⟩,
            ⟨(some 35), none, .bin .lss (.one .int) (.tmp 34) (.const (.int .i64 0))⟩,
            ⟨(some 36), none, .mov (.tmp 35)⟩,
            ⟨(some 37), (some (36, false)), .mov (.tmp 0)⟩,
            ⟨(some 38), (some (36, false)), .mov (.tmp 0)⟩,
            ⟨(some 39), (some (36, false)), .nilCheck (.tmp 38)⟩,
            ⟨(some 40), (some (36, false)), .fieldAddr 3 (.tmp 39)⟩,
            ⟨(some 41), (some (36, false)), .load none (.tmp 40)⟩,
            ⟨(some 42), (some (36, false)), .mov (.tmp 8)⟩,
            ⟨(some 43), (some (36, false)), .indexAddr 1 (.tmp 41) (.tmp 42)⟩,
            ⟨(some 44), (some (36, false)), .load none (.tmp 43)⟩,
            ⟨(some 45), (some (36, false)), .mov (.tmp 2)⟩,
            ⟨(some 46), (some (36, false)), .call (.const (.func (.func 74) [])) [(.tmp 37), (.tmp 44), (.tmp 45)]⟩,
            ⟨(some 47), none, .pick (.tmp 36) (.const (.bool true)) (.tmp 46)⟩] [])
          (.cond (.tmp 47) (.seq (.region [⟨(some 48), none, .mov (.tmp 0)⟩,
              ⟨(some 49), none, .nilCheck (.tmp 48)⟩,
              ⟨(some 50), none, .fieldAddr 3 (.tmp 49)⟩,
              ⟨(some 51), none, .load none (.tmp 50)⟩,
              ⟨(some 52), none, .mov (.tmp 8)⟩,
              ⟨(some 53), none, .mov (.tmp 0)⟩,
              ⟨(some 54), none, .nilCheck (.tmp 53)⟩,
              ⟨(some 55), none, .fieldAddr 4 (.tmp 54)⟩,
              ⟨(some 56), none, .load none (.tmp 55)⟩,
              ⟨(some 57), none, .mov (.tmp 1)⟩,
              ⟨(some 58), none, .mov (.tmp 1)⟩,
              ⟨(some 59), none, .mov (.tmp 8)⟩,
              ⟨(some 60), none, .indexAddr 1 (.tmp 51) (.tmp 52)⟩,
              ⟨none, none, .store 1 (.tmp 60) (.tmp 58)⟩,
              ⟨(some 61), none, .indexAddr 1 (.tmp 56) (.tmp 57)⟩,
              ⟨none, none, .store 1 (.tmp 61) (.tmp 59)⟩] [])
            (.seq (.region [⟨(some 6), none, .mov (.const (.bool true))⟩] [])
             (.ret)))
           (.skip)))))))
     (.region [⟨(some 62), none, .bin .add (.one .int) (.tmp 17) (.const (.int .i64 1))⟩,
       ⟨(some 17), none, .mov (.tmp 62)⟩] []))))
  (.keep [0, 1, 2, 15, 16, 17])
/-- (*jitney/match.graph).augment -/
def x74 : XFunc := ⟨3, [.tmp 6],
  .seq (.region [⟨(some 6), none, .mov (.const (.bool false))⟩] [])
  (.seq (.seq (.region [⟨(some 9), none, .mov (.tmp 0)⟩,
      ⟨(some 10), none, .nilCheck (.tmp 9)⟩,
      ⟨(some 11), none, .fieldAddr 2 (.tmp 10)⟩,
      ⟨(some 12), none, .load none (.tmp 11)⟩,
      ⟨(some 13), none, .mov (.tmp 1)⟩,
      ⟨(some 14), none, .indexAddr 1 (.tmp 12) (.tmp 13)⟩,
      ⟨(some 15), none, .load none (.tmp 14)⟩,
      ⟨(some 16), none, .len .slice (.tmp 15)⟩,
      ⟨(some 17), none, .mov (.const (.int .i64 0))⟩] [])
    (.block 0 (.seq (.keep [0, 1, 2, 15, 16, 17])
      (.loop b74_0))))
   (.seq (.region [⟨(some 6), none, .mov (.const (.bool false))⟩] [])
    (.ret)))⟩
/-- jitney/jitmake.Below -/
def x75 : XFunc := ⟨2, [.tmp 4],
  .seq (.region [⟨(some 4), none, .mov (.const (.int .i64 0))⟩] [])
  (.seq (.seq (.region [⟨(some 5), none, .mov (.tmp 1)⟩,
      ⟨(some 6), none, .bin .lss (.one .int) (.tmp 5) (.const (.int .i64 1))⟩] [])
    (.cond (.tmp 6) (.seq (.region [⟨(some 4), none, .mov (.const (.int .i64 0))⟩] [])
      (.ret))
     (.skip)))
   (.seq (.region [⟨(some 7), none, .mov (.tmp 0)⟩,
      ⟨(some 8), none, .mov (.tmp 1)⟩,
      ⟨(some 9), none, .bin .rem (.one .int) (.tmp 7) (.tmp 8)⟩,
      ⟨(some 0), none, .mov (.tmp 9)⟩] [])
    (.seq (.seq (.region [⟨(some 10), none, .mov (.tmp 0)⟩,
        ⟨(some 11), none, .bin .lss (.one .int) (.tmp 10) (.const (.int .i64 0))⟩] [])
      (.cond (.tmp 11) (.region [⟨(some 12), none, .mov (.tmp 0)⟩,
         ⟨(some 13), none, .mov (.tmp 1)⟩,
         ⟨(some 14), none, .bin .add (.one .int) (.tmp 12) (.tmp 13)⟩,
         ⟨(some 0), none, .mov (.tmp 14)⟩] [])
       (.skip)))
     (.seq (.region [⟨(some 15), none, .mov (.tmp 0)⟩,
        ⟨(some 4), none, .mov (.tmp 15)⟩] [])
      (.ret)))))⟩
def b76_0 : XCode := .seq (.seq (.seq (.region [⟨(some 18), none, .mov (.tmp 9)⟩,
      ⟨(some 19), none, .mov (.tmp 1)⟩,
      ⟨(some 20), none, .bin .gtr (.one .int) (.tmp 18) (.tmp 19)⟩,
      ⟨(some 21), none, .mov (.tmp 20)⟩,
      ⟨(some 22), (some (21, true)), .mov (.tmp 3)⟩,
      ⟨(some 23), (some (21, true)), .mov (.tmp 0)⟩,
      ⟨(some 24), (some (21, true)), .mov (.tmp 9)⟩,
      ⟨(some 25), (some (21, true)), .indexAddr 2 (.tmp 23) (.tmp 24)⟩,
      ⟨(some 26), (some (21, true)), .load (some 2) (.tmp 25)⟩,
      ⟨(some 27), (some (21, true)), .mov (.tmp 0)⟩,
      ⟨(some 28), (some (21, true)), .mov (.tmp 9)⟩,
      ⟨(some 29), (some (21, true)), .bin .sub (.one .int) (.tmp 28) (.const (.int .i64 1))⟩,
      ⟨(some 30), (some (21, true)), .indexAddr 2 (.tmp 27) (.tmp 29)⟩,
      ⟨(some 31), (some (21, true)), .load (some 2) (.tmp 30)⟩,
      ⟨(some 32), (some (21, true)), .call (.tmp 22) [(.tmp 26), (.tmp 31)]⟩,
      ⟨(some 33), (some (21, true)), .bin .lss (.one .int) (.tmp 32) (.const (.int .i64 0))⟩,
      ⟨(some 34), none, .pick (.tmp 21) (.tmp 33) (.const (.bool false))⟩] [])
    (.cond (.tmp 34) (.skip)
     (.exit 2)))
   (.seq (.block 3 (.region [⟨(some 37), none, .mov (.tmp 0)⟩,
       ⟨(some 38), none, .mov (.tmp 9)⟩,
       ⟨(some 39), none, .mov (.tmp 0)⟩,
       ⟨(some 40), none, .mov (.tmp 9)⟩,
       ⟨(some 41), none, .bin .sub (.one .int) (.tmp 40) (.const (.int .i64 1))⟩,
       ⟨(some 42), none, .mov (.tmp 0)⟩,
       ⟨(some 43), none, .mov (.tmp 9)⟩,
       ⟨(some 44), none, .bin .sub (.one .int) (.tmp 43) (.const (.int .i64 1))⟩,
       ⟨(some 45), none, .indexAddr 2 (.tmp 42) (.tmp 44)⟩,
       ⟨(some 46), none, .load (some 2) (.tmp 45)⟩,
       ⟨(some 47), none, .mov (.tmp 0)⟩,
       ⟨(some 48), none, .mov (.tmp 9)⟩,
       ⟨(some 49), none, .indexAddr 2 (.tmp 47) (.tmp 48)⟩,
       ⟨(some 50), none, .load (some 2) (.tmp 49)⟩,
       ⟨(some 51), none, .indexAddr 2 (.tmp 37) (.tmp 38)⟩,
       ⟨none, none, .store 2 (.tmp 51) (.tmp 46)⟩,
       ⟨(some 52), none, .indexAddr 2 (.tmp 39) (.tmp 41)⟩,
       ⟨none, none, .store 2 (.tmp 52) (.tmp 50)⟩] []))
    (.region [⟨(some 35), none, .mov (.tmp 9)⟩,
      ⟨(some 36), none, .bin .sub (.one .int) (.tmp 35) (.const (.int .i64 1))⟩,
      ⟨(some 9), none, .mov (.tmp 36)⟩] [])))
  (.keep [0, 1, 2, 3, 8, 9])
def b76_1 : XCode := .seq (.seq (.seq (.region [⟨(some 12), none, .mov (.tmp 8)⟩,
      ⟨(some 13), none, .mov (.tmp 2)⟩,
      ⟨(some 14), none, .bin .lss (.one .int) (.tmp 12) (.tmp 13)⟩] [])
    (.cond (.tmp 14) (.skip)
     (.exit 0)))
   (.seq (.block 1 (.seq (.region [⟨(some 17), none, .mov (.tmp 8)⟩,
        ⟨(some 9), none, .mov (.tmp 17)⟩] [])
      (.block 2 (.seq (.keep [0, 1, 2, 3, 8, 9])
        (.loop b76_0)))))
    (.region [⟨(some 15), none, .mov (.tmp 8)⟩,
      ⟨(some 16), none, .bin .add (.one .int) (.tmp 15) (.const (.int .i64 1))⟩,
      ⟨(some 8), none, .mov (.tmp 16)⟩] [])))
  (.keep [0, 1, 2, 3, 8])
/-- slices.insertionSortCmpFunc[jitney/api.Deal] -/
def x76 : XFunc := ⟨4, [],
  .seq (.region [⟨(some 10), none, .mov (.tmp 1)⟩,
    ⟨(some 11), none, .bin .add (.one .int) (.tmp 10) (.const (.int .i64 1))⟩,
    ⟨(some 8), none, .mov (.tmp 11)⟩] [])
  (.block 0 (.seq (.keep [0, 1, 2, 3, 8])
    (.loop b76_1)))⟩
def b77_0 : XCode := .seq (.seq (.seq (.region [⟨(some 20), none, .mov (.tmp 11)⟩,
      ⟨(some 21), none, .bin .geq (.one .int) (.tmp 20) (.const (.int .i64 0))⟩] [])
    (.cond (.tmp 21) (.skip)
     (.exit 0)))
   (.seq (.block 1 (.region [⟨(some 24), none, .mov (.tmp 0)⟩,
       ⟨(some 25), none, .mov (.tmp 11)⟩,
       ⟨(some 26), none, .mov (.tmp 10)⟩,
       ⟨(some 27), none, .mov (.tmp 8)⟩,
       ⟨(some 28), none, .mov (.tmp 3)⟩,
       ⟨(some 29), none, .call (.const (.func (.func 108) [])) [(.tmp 24), (.tmp 25), (.tmp 26), (.tmp 27), (.tmp 28)]⟩] []))
    (.region [⟨(some 22), none, .mov (.tmp 11)⟩,
      ⟨(some 23), none, .bin .sub (.one .int) (.tmp 22) (.const (.int .i64 1))⟩,
      ⟨(some 11), none, .mov (.tmp 23)⟩] [])))
  (.keep [0, 3, 8, 9, 10, 11])
def b77_1 : XCode := .seq (.seq (.seq (.region [⟨(some 32), none, .mov (.tmp 12)⟩,
      ⟨(some 33), none, .bin .geq (.one .int) (.tmp 32) (.const (.int .i64 0))⟩] [])
    (.cond (.tmp 33) (.skip)
     (.exit 2)))
   (.seq (.block 3 (.seq (.region [⟨(some 36), none, .mov (.tmp 0)⟩,
        ⟨(some 37), none, .mov (.tmp 8)⟩,
        ⟨(some 38), none, .mov (.tmp 0)⟩,
        ⟨(some 39), none, .mov (.tmp 8)⟩,
        ⟨(some 40), none, .mov (.tmp 12)⟩,
        ⟨(some 41), none, .bin .add (.one .int) (.tmp 39) (.tmp 40)⟩,
        ⟨(some 42), none, .mov (.tmp 0)⟩,
        ⟨(some 43), none, .mov (.tmp 8)⟩,
        ⟨(some 44), none, .mov (.tmp 12)⟩,
        ⟨(some 45), none, .bin .add (.one .int) (.tmp 43) (.tmp 44)⟩,
        ⟨(some 46), none, .indexAddr 2 (.tmp 42) (.tmp 45)⟩,
        ⟨(some 47), none, .load (some 2) (.tmp 46)⟩,
        ⟨(some 48), none, .mov (.tmp 0)⟩,
        ⟨(some 49), none, .mov (.tmp 8)⟩,
        ⟨(some 50), none, .indexAddr 2 (.tmp 48) (.tmp 49)⟩,
        ⟨(some 51), none, .load (some 2) (.tmp 50)⟩,
        ⟨(some 52), none, .indexAddr 2 (.tmp 36) (.tmp 37)⟩,
        ⟨none, none, .store 2 (.tmp 52) (.tmp 47)⟩,
        ⟨(some 53), none, .indexAddr 2 (.tmp 38) (.tmp 41)⟩,
        ⟨none, none, .store 2 (.tmp 53) (.tmp 51)⟩] [])
      (.region [⟨(some 54), none, .mov (.tmp 0)⟩,
        ⟨(some 55), none, .mov (.tmp 9)⟩,
        ⟨(some 56), none, .mov (.tmp 12)⟩,
        ⟨(some 57), none, .mov (.tmp 8)⟩,
        ⟨(some 58), none, .mov (.tmp 3)⟩,
        ⟨(some 59), none, .call (.const (.func (.func 108) [])) [(.tmp 54), (.tmp 55), (.tmp 56), (.tmp 57), (.tmp 58)]⟩] [])))
    (.region [⟨(some 34), none, .mov (.tmp 12)⟩,
      ⟨(some 35), none, .bin .sub (.one .int) (.tmp 34) (.const (.int .i64 1))⟩,
      ⟨(some 12), none, .mov (.tmp 35)⟩] [])))
  (.keep [0, 3, 8, 9, 12])
/-- slices.heapSortCmpFunc[jitney/api.Deal] -/
def x77 : XFunc := ⟨4, [],
  .seq (.region [⟨(some 13), none, .mov (.tmp 1)⟩,
    ⟨(some 8), none, .mov (.tmp 13)⟩] [])
  (.seq (.region [⟨(some 9), none, .mov (.const (.int .i64 0))⟩] [])
   (.seq (.region [⟨(some 14), none, .mov (.tmp 2)⟩,
      ⟨(some 15), none, .mov (.tmp 1)⟩,
      ⟨(some 16), none, .bin .sub (.one .int) (.tmp 14) (.tmp 15)⟩,
      ⟨(some 10), none, .mov (.tmp 16)⟩] [])
    (.seq (.seq (.region [⟨(some 17), none, .mov (.tmp 10)⟩,
        ⟨(some 18), none, .bin .sub (.one .int) (.tmp 17) (.const (.int .i64 1))⟩,
        ⟨(some 19), none, .bin .quo (.one .int) (.tmp 18) (.const (.int .i64 2))⟩,
        ⟨(some 11), none, .mov (.tmp 19)⟩] [])
      (.block 0 (.seq (.keep [0, 3, 8, 9, 10, 11])
        (.loop b77_0))))
     (.seq (.region [⟨(some 30), none, .mov (.tmp 10)⟩,
        ⟨(some 31), none, .bin .sub (.one .int) (.tmp 30) (.const (.int .i64 1))⟩,
        ⟨(some 12), none, .mov (.tmp 31)⟩] [])
      (.block 2 (.seq (.keep [0, 3, 8, 9, 12])
        (.loop b77_1)))))))⟩
def b78_0 : XCode := .seq (.seq (.seq (.region [⟨(some 28), none, .mov (.tmp 11)⟩,
      ⟨(some 29), none, .mov (.tmp 1)⟩,
      ⟨(some 30), none, .mov (.tmp 8)⟩,
      ⟨(some 31), none, .bin .quo (.one .int) (.tmp 30) (.const (.int .i64 4))⟩,
      ⟨(some 32), none, .bin .mul (.one .int) (.tmp 31) (.const (.int .i64 2))⟩,
      ⟨(some 33), none, .bin .add (.one .int) (.tmp 29) (.tmp 32)⟩,
      ⟨(some 34), none, .bin .add (.one .int) (.tmp 33) (.const (.int .i64 1))⟩,
      ⟨(some 35), none, .bin .leq (.one .int) (.tmp 28) (.tmp 34)⟩] [])
    (.cond (.tmp 35) (.skip)
     (.exit 0)))
   (.seq (.block 1 (.seq (.region [⟨(some 38), none, .call (.const (.func (.func 110) [])) [(.tmp 9)]⟩,
        ⟨(some 39), none, .mov (.tmp 10)⟩,
        ⟨(some 40), none, .bin .sub (.one .int) (.tmp 39) (.const (.int .u64 1))⟩,
        ⟨(some 41), none, .bin .and (.one .int) (.tmp 38) (.tmp 40)⟩,
        ⟨(some 42), none, .convInt .i64 (.tmp 41)⟩,
        ⟨(some 12), none, .mov (.tmp 42)⟩] [])
      (.seq (.seq (.region [⟨(some 43), none, .mov (.tmp 12)⟩,
          ⟨(some 44), none, .mov (.tmp 8)⟩,
          ⟨(some 45), none, .bin .geq (.one .int) (.tmp 43) (.tmp 44)⟩] [])
        (.cond (.tmp 45) (.region [⟨(some 46), none, .mov (.tmp 12)⟩,
           ⟨(some 47), none, .mov (.tmp 8)⟩,
           ⟨(some 48), none, .bin .sub (.one .int) (.tmp 46) (.tmp 47)⟩,
           ⟨(some 12), none, .mov (.tmp 48)⟩] [])
         (.skip)))
       (.region [⟨(some 49), none, .mov (.tmp 0)⟩,
         ⟨(some 50), none, .mov (.tmp 11)⟩,
         ⟨(some 51), none, .mov (.tmp 0)⟩,
         ⟨(some 52), none, .mov (.tmp 1)⟩,
         ⟨(some 53), none, .mov (.tmp 12)⟩,
         ⟨(some 54), none, .bin .add (.one .int) (.tmp 52) (.tmp 53)⟩,
         ⟨(some 55), none, .mov (.tmp 0)⟩,
         ⟨(some 56), none, .mov (.tmp 1)⟩,
         ⟨(some 57), none, .mov (.tmp 12)⟩,
         ⟨(some 58), none, .bin .add (.one .int) (.tmp 56) (.tmp 57)⟩,
         ⟨(some 59), none, .indexAddr 2 (.tmp 55) (.tmp 58)⟩,
         ⟨(some 60), none, .load (some 2) (.tmp 59)⟩,
         ⟨(some 61), none, .mov (.tmp 0)⟩,
         ⟨(some 62), none, .mov (.tmp 11)⟩,
         ⟨(some 63), none, .indexAddr 2 (.tmp 61) (.tmp 62)⟩,
         ⟨(some 64), none, .load (some 2) (.tmp 63)⟩,
         ⟨(some 65), none, .indexAddr 2 (.tmp 49) (.tmp 50)⟩,
         ⟨none, none, .store 2 (.tmp 65) (.tmp 60)⟩,
         ⟨(some 66), none, .indexAddr 2 (.tmp 51) (.tmp 54)⟩,
         ⟨none, none, .store 2 (.tmp 66) (.tmp 64)⟩] []))))
    (.region [⟨(some 36), none, .mov (.tmp 11)⟩,
      ⟨(some 37), none, .bin .add (.one .int) (.tmp 36) (.const (.int .i64 1))⟩,
      ⟨(some 11), none, .mov (.tmp 37)⟩] [])))
  (.keep [0, 1, 8, 9, 10, 11])
/-- slices.breakPatternsCmpFunc[jitney/api.Deal] -/
def x78 : XFunc := ⟨4, [],
  .seq (.region [⟨(some 13), none, .mov (.tmp 2)⟩,
    ⟨(some 14), none, .mov (.tmp 1)⟩,
    ⟨(some 15), none, .bin .sub (.one .int) (.tmp 13) (.tmp 14)⟩,
    ⟨(some 8), none, .mov (.tmp 15)⟩] [])
  (.seq (.region [⟨(some 16), none, .mov (.tmp 8)⟩,
     ⟨(some 17), none, .bin .geq (.one .int) (.tmp 16) (.const (.int .i64 8))⟩] [])
   (.cond (.tmp 17) (.seq (.region [⟨(some 18), none, .mov (.tmp 8)⟩,
       ⟨(some 19), none, .convInt .u64 (.tmp 18)⟩,
       ⟨(some 9), none, .box 1 (.const (.int .u64 0))⟩,
       ⟨none, none, .store 1 (.tmp 9) (.tmp 19)⟩] [])
     (.seq (.region [⟨(some 20), none, .mov (.tmp 8)⟩,
        ⟨(some 21), none, .call (.const (.func (.func 109) [])) [(.tmp 20)]⟩,
        ⟨(some 10), none, .mov (.tmp 21)⟩] [])
      (.seq (.region [⟨(some 22), none, .mov (.tmp 1)⟩,
         ⟨(some 23), none, .mov (.tmp 8)⟩,
         ⟨(some 24), none, .bin .quo (.one .int) (.tmp 23) (.const (.int .i64 4))⟩,
         ⟨(some 25), none, .bin .mul (.one .int) (.tmp 24) (.const (.int .i64 2))⟩,
         ⟨(some 26), none, .bin .add (.one .int) (.tmp 22) (.tmp 25)⟩,
         ⟨(some 27), none, .bin .sub (.one .int) (.tmp 26) (.const (.int .i64 1))⟩,
         ⟨(some 11), none, .mov (.tmp 27)⟩] [])
       (.block 0 (.seq (.keep [0, 1, 8, 9, 10, 11])
         (.loop b78_0))))))
    (.skip)))⟩
/-- slices.choosePivotCmpFunc[jitney/api.Deal] -/
def x79 : XFunc := ⟨4, [.tmp 8, .tmp 9],
  .seq (.region [⟨(some 8), none, .mov (.const (.int .i64 0))⟩,
    ⟨(some 9), none, .mov (.const (.int .i64 0))⟩] [])
  (.seq (.region [⟨(some 15), none, .mov (.tmp 2)⟩,
     ⟨(some 16), none, .mov (.tmp 1)⟩,
     ⟨(some 17), none, .bin .sub (.one .int) (.tmp 15) (.tmp 16)⟩,
     ⟨(some 10), none, .mov (.tmp 17)⟩] [])
   (.seq (.region [⟨(some 11), none, .box 1 (.const (.int .i64 0))⟩] [])
    (.seq (.region [⟨(some 18), none, .mov (.tmp 1)⟩,
       ⟨(some 19), none, .mov (.tmp 10)⟩,
       ⟨(some 20), none, .bin .quo (.one .int) (.tmp 19) (.const (.int .i64 4))⟩,
       ⟨(some 21), none, .bin .mul (.one .int) (.tmp 20) (.const (.int .i64 1))⟩,
       ⟨(some 22), none, .bin .add (.one .int) (.tmp 18) (.tmp 21)⟩,
       ⟨(some 12), none, .mov (.tmp 22)⟩] [])
     (.seq (.region [⟨(some 23), none, .mov (.tmp 1)⟩,
        ⟨(some 24), none, .mov (.tmp 10)⟩,
        ⟨(some 25), none, .bin .quo (.one .int) (.tmp 24) (.const (.int .i64 4))⟩,
        ⟨(some 26), none, .bin .mul (.one .int) (.tmp 25) (.const (.int .i64 2))⟩,
        ⟨(some 27), none, .bin .add (.one .int) (.tmp 23) (.tmp 26)⟩,
        ⟨(some 13), none, .mov (.tmp 27)⟩] [])
      (.seq (.region [⟨(some 28), none, .mov (.tmp 1)⟩,
         ⟨(some 29), none, .mov (.tmp 10)⟩,
         ⟨(some 30), none, .bin .quo (.one .int) (.tmp 29) (.const (.int .i64 4))⟩,
         ⟨(some 31), none, .bin .mul (.one .int) (.tmp 30) (.const (.int .i64 3))⟩,
         ⟨(some 32), none, .bin .add (.one .int) (.tmp 28) (.tmp 31)⟩,
         ⟨(some 14), none, .mov (.tmp 32)⟩] [])
       (.seq (.seq (.region [⟨(some 33), none, .mov (.tmp 10)⟩,
           ⟨(some 34), none, .bin .geq (.one .int) (.tmp 33) (.const (.int .i64 8))⟩] [])
         (.cond (.tmp 34) (.seq (.seq (.region [⟨(some 35), none, .mov (.tmp 10)⟩,
              ⟨(some 36), none, .bin .geq (.one .int) (.tmp 35) (.const (.int .i64 50))⟩] [])
            (.cond (.tmp 36) (.seq (.region [⟨(some 37), none, .mov (.tmp 0)⟩,
                ⟨(some 38), none, .mov (.tmp 12)⟩,
                ⟨(some 39), none, .mov (.tmp 3)⟩,
                ⟨(some 40), none, .call (.const (.func (.func 111) [])) [(.tmp 37), (.tmp 38), (.tmp 11), (.tmp 39)]⟩,
                ⟨(some 12), none, .mov (.tmp 40)⟩] [])
              (.seq (.region [⟨(some 41), none, .mov (.tmp 0)⟩,
                 ⟨(some 42), none, .mov (.tmp 13)⟩,
                 ⟨(some 43), none, .mov (.tmp 3)⟩,
                 ⟨(some 44), none, .call (.const (.func (.func 111) [])) [(.tmp 41), (.tmp 42), (.tmp 11), (.tmp 43)]⟩,
                 ⟨(some 13), none, .mov (.tmp 44)⟩] [])
               (.region [⟨(some 45), none, .mov (.tmp 0)⟩,
                 ⟨(some 46), none, .mov (.tmp 14)⟩,
                 ⟨(some 47), none, .mov (.tmp 3)⟩,
                 ⟨(some 48), none, .call (.const (.func (.func 111) [])) [(.tmp 45), (.tmp 46), (.tmp 11), (.tmp 47)]⟩,
                 ⟨(some 14), none, .mov (.tmp 48)⟩] [])))
             (.skip)))
           (.region [⟨(some 49), none, .mov (.tmp 0)⟩,
             ⟨(some 50), none, .mov (.tmp 12)⟩,
             ⟨(some 51), none, .mov (.tmp 13)⟩,
             ⟨(some 52), none, .mov (.tmp 14)⟩,
             ⟨(some 53), none, .mov (.tmp 3)⟩,
             ⟨(some 54), none, .call (.const (.func (.func 112) [])) [(.tmp 49), (.tmp 50), (.tmp 51), (.tmp 52), (.tmp 11), (.tmp 53)]⟩,
             ⟨(some 13), none, .mov (.tmp 54)⟩] []))
          (.skip)))
        (.seq (.region [⟨(some 55), none, .load none (.tmp 11)⟩] [])
         (.block 0 (.seq (.region [⟨(some 58), none, .bin .eql (.one .int) (.tmp 55) (.const (.int .i64 0))⟩,
             ⟨(some 57), none, .mov (.tmp 58)⟩] [])
           (.cond (.tmp 57) (.seq (.region [⟨(some 59), none, .mov (.tmp 13)⟩,
               ⟨(some 8), none, .mov (.tmp 59)⟩,
               ⟨(some 9), none, .mov (.const (.int .i64 1))⟩] [])
             (.ret))
            (.seq (.region [⟨(some 61), none, .bin .eql (.one .int) (.tmp 55) (.const (.int .i64 12))⟩,
               ⟨(some 60), none, .mov (.tmp 61)⟩] [])
             (.cond (.tmp 60) (.seq (.region [⟨(some 62), none, .mov (.tmp 13)⟩,
                 ⟨(some 8), none, .mov (.tmp 62)⟩,
                 ⟨(some 9), none, .mov (.const (.int .i64 2))⟩] [])
               (.ret))
              (.seq (.region [⟨(some 56), none, .mov (.tmp 13)⟩,
                 ⟨(some 8), none, .mov (.tmp 56)⟩,
                 ⟨(some 9), none, .mov (.const (.int .i64 0))⟩] [])
               (.ret))))))))))))))⟩
def b80_0 : XCode := .seq (.seq (.seq (.region [⟨(some 13), none, .mov (.tmp 8)⟩,
      ⟨(some 14), none, .mov (.tmp 9)⟩,
      ⟨(some 15), none, .bin .lss (.one .int) (.tmp 13) (.tmp 14)⟩] [])
    (.cond (.tmp 15) (.skip)
     (.exit 0)))
   (.block 1 (.seq (.region [⟨(some 16), none, .mov (.tmp 0)⟩,
       ⟨(some 17), none, .mov (.tmp 8)⟩,
       ⟨(some 18), none, .mov (.tmp 0)⟩,
       ⟨(some 19), none, .mov (.tmp 9)⟩,
       ⟨(some 20), none, .mov (.tmp 0)⟩,
       ⟨(some 21), none, .mov (.tmp 9)⟩,
       ⟨(some 22), none, .indexAddr 2 (.tmp 20) (.tmp 21)⟩,
       ⟨(some 23), none, .load (some 2) (.tmp 22)⟩,
       ⟨(some 24), none, .mov (.tmp 0)⟩,
       ⟨(some 25), none, .mov (.tmp 8)⟩,
       ⟨(some 26), none, .indexAddr 2 (.tmp 24) (.tmp 25)⟩,
       ⟨(some 27), none, .load (some 2) (.tmp 26)⟩,
       ⟨(some 28), none, .indexAddr 2 (.tmp 16) (.tmp 17)⟩,
       ⟨none, none, .store 2 (.tmp 28) (.tmp 23)⟩,
       ⟨(some 29), none, .indexAddr 2 (.tmp 18) (.tmp 19)⟩,
       ⟨none, none, .store 2 (.tmp 29) (.tmp 27)⟩] [])
     (.seq (.region [⟨(some 30), none, .mov (.tmp 8)⟩,
        ⟨(some 31), none, .bin .add (.one .int) (.tmp 30) (.const (.int .i64 1))⟩,
        ⟨(some 8), none, .mov (.tmp 31)⟩] [])
      (.region [⟨(some 32), none, .mov (.tmp 9)⟩,
        ⟨(some 33), none, .bin .sub (.one .int) (.tmp 32) (.const (.int .i64 1))⟩,
        ⟨(some 9), none, .mov (.tmp 33)⟩] [])))))
  (.keep [0, 8, 9])
/-- slices.reverseRangeCmpFunc[jitney/api.Deal] -/
def x80 : XFunc := ⟨4, [],
  .seq (.region [⟨(some 10), none, .mov (.tmp 1)⟩,
    ⟨(some 8), none, .mov (.tmp 10)⟩] [])
  (.seq (.region [⟨(some 11), none, .mov (.tmp 2)⟩,
     ⟨(some 12), none, .bin .sub (.one .int) (.tmp 11) (.const (.int .i64 1))⟩,
     ⟨(some 9), none, .mov (.tmp 12)⟩] [])
   (.block 0 (.seq (.keep [0, 8, 9])
     (.loop b80_0))))⟩
def b81_0 : XCode := .seq (.seq (.seq (.region [⟨(some 19), none, .mov (.tmp 9)⟩,
      ⟨(some 20), none, .mov (.tmp 2)⟩,
      ⟨(some 21), none, .bin .lss (.one .int) (.tmp 19) (.tmp 20)⟩,
      ⟨(some 22), none, .mov (.tmp 21)⟩,
      ⟨(some 23), (some (22, true)), .mov (.tmp 3)⟩,
      ⟨(some 24), (some (22, true)), .mov (.tmp 0)⟩,
      ⟨(some 25), (some (22, true)), .mov (.tmp 9)⟩,
      ⟨(some 26), (some (22, true)), .indexAddr 2 (.tmp 24) (.tmp 25)⟩,
      ⟨(some 27), (some (22, true)), .load (some 2) (.tmp 26)⟩,
      ⟨(some 28), (some (22, true)), .mov (.tmp 0)⟩,
      ⟨(some 29), (some (22, true)), .mov (.tmp 9)⟩,
      ⟨(some 30), (some (22, true)), .bin .sub (.one .int) (.tmp 29) (.const (.int .i64 1))⟩,
      ⟨(some 31), (some (22, true)), .indexAddr 2 (.tmp 28) (.tmp 30)⟩,
      ⟨(some 32), (some (22, true)), .load (some 2) (.tmp 31)⟩,
      ⟨(some 33), (some (22, true)), .call (.tmp 23) [(.tmp 27), (.tmp 32)]⟩,
      ⟨(some 34), (some (22, true)), .bin .lss (.one .int) (.tmp 33) (.const (.int .i64 0))⟩,
      ⟨(some 35), (some (22, true)), .un .not (.tmp 34)⟩,
      ⟨(some 36), none, .pick (.tmp 22) (.tmp 35) (.const (.bool false))⟩] [])
    (.cond (.tmp 36) (.skip)
     (.exit 2)))
   (.block 3 (.region [⟨(some 37), none, .mov (.tmp 9)⟩,
      ⟨(some 38), none, .bin .add (.one .int) (.tmp 37) (.const (.int .i64 1))⟩,
      ⟨(some 9), none, .mov (.tmp 38)⟩] [])))
  (.keep [0, 1, 2, 3, 9, 10])
def b81_1 : XCode := .seq (.seq (.seq (.region [⟨(some 68), none, .mov (.tmp 11)⟩,
      ⟨(some 69), none, .bin .geq (.one .int) (.tmp 68) (.const (.int .i64 1))⟩] [])
    (.cond (.tmp 69) (.skip)
     (.exit 4)))
   (.seq (.block 5 (.seq (.seq (.region [⟨(some 72), none, .mov (.tmp 3)⟩,
         ⟨(some 73), none, .mov (.tmp 0)⟩,
         ⟨(some 74), none, .mov (.tmp 11)⟩,
         ⟨(some 75), none, .indexAddr 2 (.tmp 73) (.tmp 74)⟩,
         ⟨(some 76), none, .load (some 2) (.tmp 75)⟩,
         ⟨(some 77), none, .mov (.tmp 0)⟩,
         ⟨(some 78), none, .mov (.tmp 11)⟩,
         ⟨(some 79), none, .bin .sub (.one .int) (.tmp 78) (.const (.int .i64 1))⟩,
         ⟨(some 80), none, .indexAddr 2 (.tmp 77) (.tmp 79)⟩,
         ⟨(some 81), none, .load (some 2) (.tmp 80)⟩,
         ⟨(some 82), none, .call (.tmp 72) [(.tmp 76), (.tmp 81)]⟩,
         ⟨(some 83), none, .bin .lss (.one .int) (.tmp 82) (.const (.int .i64 0))⟩,
         ⟨(some 84), none, .un .not (.tmp 83)⟩] [])
       (.cond (.tmp 84) (.exit 4)
        (.skip)))
      (.region [⟨(some 85), none, .mov (.tmp 0)⟩,
        ⟨(some 86), none, .mov (.tmp 11)⟩,
        ⟨(some 87), none, .mov (.tmp 0)⟩,
        ⟨(some 88), none, .mov (.tmp 11)⟩,
        ⟨(some 89), none, .bin .sub (.one .int) (.tmp 88) (.const (.int .i64 1))⟩,
        ⟨(some 90), none, .mov (.tmp 0)⟩,
        ⟨(some 91), none, .mov (.tmp 11)⟩,
        ⟨(some 92), none, .bin .sub (.one .int) (.tmp 91) (.const (.int .i64 1))⟩,
        ⟨(some 93), none, .indexAddr 2 (.tmp 90) (.tmp 92)⟩,
        ⟨(some 94), none, .load (some 2) (.tmp 93)⟩,
        ⟨(some 95), none, .mov (.tmp 0)⟩,
        ⟨(some 96), none, .mov (.tmp 11)⟩,
        ⟨(some 97), none, .indexAddr 2 (.tmp 95) (.tmp 96)⟩,
        ⟨(some 98), none, .load (some 2) (.tmp 97)⟩,
        ⟨(some 99), none, .indexAddr 2 (.tmp 85) (.tmp 86)⟩,
        ⟨none, none, .store 2 (.tmp 99) (.tmp 94)⟩,
        ⟨(some 100), none, .indexAddr 2 (.tmp 87) (.tmp 89)⟩,
        ⟨none, none, .store 2 (.tmp 100) (.tmp 98)⟩] [])))
    (.region [⟨(some 70), none, .mov (.tmp 11)⟩,
      ⟨(some 71), none, .bin .sub (.one .int) (.tmp 70) (.const (.int .i64 1))⟩,
      ⟨(some 11), none, .mov (.tmp 71)⟩] [])))
  (.keep [0, 1, 2, 3, 9, 10, 11])
def b81_2 : XCode := .seq (.seq (.seq (.region [⟨(some 107), none, .mov (.tmp 12)⟩,
      ⟨(some 108), none, .mov (.tmp 2)⟩,
      ⟨(some 109), none, .bin .lss (.one .int) (.tmp 107) (.tmp 108)⟩] [])
    (.cond (.tmp 109) (.skip)
     (.exit 6)))
   (.seq (.block 7 (.seq (.seq (.region [⟨(some 112), none, .mov (.tmp 3)⟩,
         ⟨(some 113), none, .mov (.tmp 0)⟩,
         ⟨(some 114), none, .mov (.tmp 12)⟩,
         ⟨(some 115), none, .indexAddr 2 (.tmp 113) (.tmp 114)⟩,
         ⟨(some 116), none, .load (some 2) (.tmp 115)⟩,
         ⟨(some 117), none, .mov (.tmp 0)⟩,
         ⟨(some 118), none, .mov (.tmp 12)⟩,
         ⟨(some 119), none, .bin .sub (.one .int) (.tmp 118) (.const (.int .i64 1))⟩,
         ⟨(some 120), none, .indexAddr 2 (.tmp 117) (.tmp 119)⟩,
         ⟨(some 121), none, .load (some 2) (.tmp 120)⟩,
         ⟨(some 122), none, .call (.tmp 112) [(.tmp 116), (.tmp 121)]⟩,
         ⟨(some 123), none, .bin .lss (.one .int) (.tmp 122) (.const (.int .i64 0))⟩,
         ⟨(some 124), none, .un .not (.tmp 123)⟩] [])
       (.cond (.tmp 124) (.exit 6)
        (.skip)))
      (.region [⟨(some 125), none, .mov (.tmp 0)⟩,
        ⟨(some 126), none, .mov (.tmp 12)⟩,
        ⟨(some 127), none, .mov (.tmp 0)⟩,
        ⟨(some 128), none, .mov (.tmp 12)⟩,
        ⟨(some 129), none, .bin .sub (.one .int) (.tmp 128) (.const (.int .i64 1))⟩,
        ⟨(some 130), none, .mov (.tmp 0)⟩,
        ⟨(some 131), none, .mov (.tmp 12)⟩,
        ⟨(some 132), none, .bin .sub (.one .int) (.tmp 131) (.const (.int .i64 1))⟩,
        ⟨(some 133), none, .indexAddr 2 (.tmp 130) (.tmp 132)⟩,
        ⟨(some 134), none, .load (some 2) (.tmp 133)⟩,
        ⟨(some 135), none, .mov (.tmp 0)⟩,
        ⟨(some 136), none, .mov (.tmp 12)⟩,
        ⟨(some 137), none, .indexAddr 2 (.tmp 135) (.tmp 136)⟩,
        ⟨(some 138), none, .load (some 2) (.tmp 137)⟩,
        ⟨(some 139), none, .indexAddr 2 (.tmp 125) (.tmp 126)⟩,
        ⟨none, none, .store 2 (.tmp 139) (.tmp 134)⟩,
        ⟨(some 140), none, .indexAddr 2 (.tmp 127) (.tmp 129)⟩,
        ⟨none, none, .store 2 (.tmp 140) (.tmp 138)⟩] [])))
    (.region [⟨(some 110), none, .mov (.tmp 12)⟩,
      ⟨(some 111), none, .bin .add (.one .int) (.tmp 110) (.const (.int .i64 1))⟩,
      ⟨(some 12), none, .mov (.tmp 111)⟩] [])))
  (.keep [0, 1, 2, 3, 9, 10, 12])
def b81_3 : XCode := .seq (.seq (.seq (.region [⟨(some 15), none, .mov (.tmp 10)⟩,
      ⟨(some 16), none, .bin .lss (.one .int) (.tmp 15) (.const (.int .i64 5))⟩] [])
    (.cond (.tmp 16) (.skip)
     (.exit 0)))
   (.seq (.block 1 (.seq (.block 2 (.seq (.keep [0, 1, 2, 3, 9, 10])
        (.loop b81_0)))
      (.seq (.seq (.region [⟨(some 39), none, .mov (.tmp 9)⟩,
          ⟨(some 40), none, .mov (.tmp 2)⟩,
          ⟨(some 41), none, .bin .eql (.one .int) (.tmp 39) (.tmp 40)⟩] [])
        (.cond (.tmp 41) (.seq (.region [⟨(some 8), none, .mov (.const (.bool true))⟩] [])
          (.ret))
         (.skip)))
       (.seq (.seq (.region [⟨(some 42), none, .mov (.tmp 2)⟩,
           ⟨(some 43), none, .mov (.tmp 1)⟩,
           ⟨(some 44), none, .bin .sub (.one .int) (.tmp 42) (.tmp 43)⟩,
           ⟨(some 45), none, .bin .lss (.one .int) (.tmp 44) (.const (.int .i64 50))⟩] [])
         (.cond (.tmp 45) (.seq (.region [⟨(some 8), none, .mov (.const (.bool false))⟩] [])
           (.ret))
          (.skip)))
        (.seq (.region [⟨(some 46), none, .mov (.tmp 0)⟩,
           ⟨(some 47), none, .mov (.tmp 9)⟩,
           ⟨(some 48), none, .mov (.tmp 0)⟩,
           ⟨(some 49), none, .mov (.tmp 9)⟩,
           ⟨(some 50), none, .bin .sub (.one .int) (.tmp 49) (.const (.int .i64 1))⟩,
           ⟨(some 51), none, .mov (.tmp 0)⟩,
           ⟨(some 52), none, .mov (.tmp 9)⟩,
           ⟨(some 53), none, .bin .sub (.one .int) (.tmp 52) (.const (.int .i64 1))⟩,
           ⟨(some 54), none, .indexAddr 2 (.tmp 51) (.tmp 53)⟩,
           ⟨(some 55), none, .load (some 2) (.tmp 54)⟩,
           ⟨(some 56), none, .mov (.tmp 0)⟩,
           ⟨(some 57), none, .mov (.tmp 9)⟩,
           ⟨(some 58), none, .indexAddr 2 (.tmp 56) (.tmp 57)⟩,
           ⟨(some 59), none, .load (some 2) (.tmp 58)⟩,
           ⟨(some 60), none, .indexAddr 2 (.tmp 46) (.tmp 47)⟩,
           ⟨none, none, .store 2 (.tmp 60) (.tmp 55)⟩,
           ⟨(some 61), none, .indexAddr 2 (.tmp 48) (.tmp 50)⟩,
           ⟨none, none, .store 2 (.tmp 61) (.tmp 59)⟩] [])
         (.seq (.seq (.region [⟨(some 62), none, .mov (.tmp 9)⟩,
             ⟨(some 63), none, .mov (.tmp 1)⟩,
             ⟨(some 64), none, .bin .sub (.one .int) (.tmp 62) (.tmp 63)⟩,
             ⟨(some 65), none, .bin .geq (.one .int) (.tmp 64) (.const (.int .i64 2))⟩] [])
           (.cond (.tmp 65) (.seq (.region [⟨(some 66), none, .mov (.tmp 9)⟩,
               ⟨(some 67), none, .bin .sub (.one .int) (.tmp 66) (.const (.int .i64 1))⟩,
               ⟨(some 11), none, .mov (.tmp 67)⟩] [])
             (.block 4 (.seq (.keep [0, 1, 2, 3, 9, 10, 11])
               (.loop b81_1))))
            (.skip)))
          (.seq (.region [⟨(some 101), none, .mov (.tmp 2)⟩,
             ⟨(some 102), none, .mov (.tmp 9)⟩,
             ⟨(some 103), none, .bin .sub (.one .int) (.tmp 101) (.tmp 102)⟩,
             ⟨(some 104), none, .bin .geq (.one .int) (.tmp 103) (.const (.int .i64 2))⟩] [])
           (.cond (.tmp 104) (.seq (.region [⟨(some 105), none, .mov (.tmp 9)⟩,
               ⟨(some 106), none, .bin .add (.one .int) (.tmp 105) (.const (.int .i64 1))⟩,
               ⟨(some 12), none, .mov (.tmp 106)⟩] [])
             (.block 6 (.seq (.keep [0, 1, 2, 3, 9, 10, 12])
               (.loop b81_2))))
            (.skip)))))))))
    (.region [⟨(some 17), none, .mov (.tmp 10)⟩,
      ⟨(some 18), none, .bin .add (.one .int) (.tmp 17) (.const (.int .i64 1))⟩,
      ⟨(some 10), none, .mov (.tmp 18)⟩] [])))
  (.keep [0, 1, 2, 3, 9, 10])
/-- slices.partialInsertionSortCmpFunc[jitney/api.Deal] -/
def x81 : XFunc := ⟨4, [.tmp 8],
  .seq (.region [⟨(some 8), none, .mov (.const (.bool false))⟩] [])
  (.seq (.region [⟨(some 13), none, .mov (.tmp 1)⟩,
     ⟨(some 14), none, .bin .add (.one .int) (.tmp 13) (.const (.int .i64 1))⟩,
     ⟨(some 9), none, .mov (.tmp 14)⟩] [])
   (.seq (.seq (.region [⟨(some 10), none, .mov (.const (.int .i64 0))⟩] [])
     (.block 0 (.seq (.keep [0, 1, 2, 3, 9, 10])
       (.loop b81_3))))
    (.seq (.region [⟨(some 8), none, .mov (.const (.bool false))⟩] [])
     (.ret))))⟩
def b82_0 : XCode := .seq (.seq (.seq (.region [⟨(some 31), none, .mov (.tmp 11)⟩,
      ⟨(some 32), none, .mov (.tmp 12)⟩,
      ⟨(some 33), none, .bin .leq (.one .int) (.tmp 31) (.tmp 32)⟩,
      ⟨(some 34), none, .mov (.tmp 33)⟩,
      ⟨(some 35), (some (34, true)), .mov (.tmp 4)⟩,
      ⟨(some 36), (some (34, true)), .mov (.tmp 0)⟩,
      ⟨(some 37), (some (34, true)), .mov (.tmp 1)⟩,
      ⟨(some 38), (some (34, true)), .indexAddr 2 (.tmp 36) (.tmp 37)⟩,
      ⟨(some 39), (some (34, true)), .load (some 2) (.tmp 38)⟩,
      ⟨(some 40), (some (34, true)), .mov (.tmp 0)⟩,
      ⟨(some 41), (some (34, true)), .mov (.tmp 11)⟩,
      ⟨(some 42), (some (34, true)), .indexAddr 2 (.tmp 40) (.tmp 41)⟩,
      ⟨(some 43), (some (34, true)), .load (some 2) (.tmp 42)⟩,
      ⟨(some 44), (some (34, true)), .call (.tmp 35) [(.tmp 39), (.tmp 43)]⟩,
      ⟨(some 45), (some (34, true)), .bin .lss (.one .int) (.tmp 44) (.const (.int .i64 0))⟩,
      ⟨(some 46), (some (34, true)), .un .not (.tmp 45)⟩,
      ⟨(some 47), none, .pick (.tmp 34) (.tmp 46) (.const (.bool false))⟩] [])
    (.cond (.tmp 47) (.skip)
     (.exit 2)))
   (.block 3 (.region [⟨(some 48), none, .mov (.tmp 11)⟩,
      ⟨(some 49), none, .bin .add (.one .int) (.tmp 48) (.const (.int .i64 1))⟩,
      ⟨(some 11), none, .mov (.tmp 49)⟩] [])))
  (.keep [0, 1, 4, 11, 12])
def b82_1 : XCode := .seq (.seq (.seq (.region [⟨(some 50), none, .mov (.tmp 11)⟩,
      ⟨(some 51), none, .mov (.tmp 12)⟩,
      ⟨(some 52), none, .bin .leq (.one .int) (.tmp 50) (.tmp 51)⟩,
      ⟨(some 53), none, .mov (.tmp 52)⟩,
      ⟨(some 54), (some (53, true)), .mov (.tmp 4)⟩,
      ⟨(some 55), (some (53, true)), .mov (.tmp 0)⟩,
      ⟨(some 56), (some (53, true)), .mov (.tmp 1)⟩,
      ⟨(some 57), (some (53, true)), .indexAddr 2 (.tmp 55) (.tmp 56)⟩,
      ⟨(some 58), (some (53, true)), .load (some 2) (.tmp 57)⟩,
      ⟨(some 59), (some (53, true)), .mov (.tmp 0)⟩,
      ⟨(some 60), (some (53, true)), .mov (.tmp 12)⟩,
      ⟨(some 61), (some (53, true)), .indexAddr 2 (.tmp 59) (.tmp 60)⟩,
      ⟨(some 62), (some (53, true)), .load (some 2) (.tmp 61)⟩,
      ⟨(some 63), (some (53, true)), .call (.tmp 54) [(.tmp 58), (.tmp 62)]⟩,
      ⟨(some 64), (some (53, true)), .bin .lss (.one .int) (.tmp 63) (.const (.int .i64 0))⟩,
      ⟨(some 65), none, .pick (.tmp 53) (.tmp 64) (.const (.bool false))⟩] [])
    (.cond (.tmp 65) (.skip)
     (.exit 4)))
   (.block 5 (.region [⟨(some 66), none, .mov (.tmp 12)⟩,
      ⟨(some 67), none, .bin .sub (.one .int) (.tmp 66) (.const (.int .i64 1))⟩,
      ⟨(some 12), none, .mov (.tmp 67)⟩] [])))
  (.keep [0, 1, 4, 11, 12])
def b82_2 : XCode := .seq (.block 1 (.seq (.block 2 (.seq (.keep [0, 1, 4, 11, 12])
      (.loop b82_0)))
    (.seq (.block 4 (.seq (.keep [0, 1, 4, 11, 12])
       (.loop b82_1)))
     (.seq (.seq (.region [⟨(some 68), none, .mov (.tmp 11)⟩,
         ⟨(some 69), none, .mov (.tmp 12)⟩,
         ⟨(some 70), none, .bin .gtr (.one .int) (.tmp 68) (.tmp 69)⟩] [])
       (.cond (.tmp 70) (.exit 0)
        (.skip)))
      (.seq (.region [⟨(some 71), none, .mov (.tmp 0)⟩,
         ⟨(some 72), none, .mov (.tmp 11)⟩,
         ⟨(some 73), none, .mov (.tmp 0)⟩,
         ⟨(some 74), none, .mov (.tmp 12)⟩,
         ⟨(some 75), none, .mov (.tmp 0)⟩,
         ⟨(some 76), none, .mov (.tmp 12)⟩,
         ⟨(some 77), none, .indexAddr 2 (.tmp 75) (.tmp 76)⟩,
         ⟨(some 78), none, .load (some 2) (.tmp 77)⟩,
         ⟨(some 79), none, .mov (.tmp 0)⟩,
         ⟨(some 80), none, .mov (.tmp 11)⟩,
         ⟨(some 81), none, .indexAddr 2 (.tmp 79) (.tmp 80)⟩,
         ⟨(some 82), none, .load (some 2) (.tmp 81)⟩,
         ⟨(some 83), none, .indexAddr 2 (.tmp 71) (.tmp 72)⟩,
         ⟨none, none, .store 2 (.tmp 83) (.tmp 78)⟩,
         ⟨(some 84), none, .indexAddr 2 (.tmp 73) (.tmp 74)⟩,
         ⟨none, none, .store 2 (.tmp 84) (.tmp 82)⟩] [])
       (.seq (.region [⟨(some 85), none, .mov (.tmp 11)⟩,
          ⟨(some 86), none, .bin .add (.one .int) (.tmp 85) (.const (.int .i64 1))⟩,
          ⟨(some 11), none, .mov (.tmp 86)⟩] [])
        (.region [⟨(some 87), none, .mov (.tmp 12)⟩,
          ⟨(some 88), none, .bin .sub (.one .int) (.tmp 87) (.const (.int .i64 1))⟩,
          ⟨(some 12), none, .mov (.tmp 88)⟩] [])))))))
  (.keep [0, 1, 4, 11, 12])
/-- slices.partitionEqualCmpFunc[jitney/api.Deal] -/
def x82 : XFunc := ⟨5, [.tmp 10],
  .seq (.region [⟨(some 10), none, .mov (.const (.int .i64 0))⟩] [])
  (.seq (.region [⟨(some 13), none, .mov (.tmp 0)⟩,
     ⟨(some 14), none, .mov (.tmp 1)⟩,
     ⟨(some 15), none, .mov (.tmp 0)⟩,
     ⟨(some 16), none, .mov (.tmp 3)⟩,
     ⟨(some 17), none, .mov (.tmp 0)⟩,
     ⟨(some 18), none, .mov (.tmp 3)⟩,
     ⟨(some 19), none, .indexAddr 2 (.tmp 17) (.tmp 18)⟩,
     ⟨(some 20), none, .load (some 2) (.tmp 19)⟩,
     ⟨(some 21), none, .mov (.tmp 0)⟩,
     ⟨(some 22), none, .mov (.tmp 1)⟩,
     ⟨(some 23), none, .indexAddr 2 (.tmp 21) (.tmp 22)⟩,
     ⟨(some 24), none, .load (some 2) (.tmp 23)⟩,
     ⟨(some 25), none, .indexAddr 2 (.tmp 13) (.tmp 14)⟩,
     ⟨none, none, .store 2 (.tmp 25) (.tmp 20)⟩,
     ⟨(some 26), none, .indexAddr 2 (.tmp 15) (.tmp 16)⟩,
     ⟨none, none, .store 2 (.tmp 26) (.tmp 24)⟩] [])
   (.seq (.region [⟨(some 27), none, .mov (.tmp 1)⟩,
      ⟨(some 28), none, .bin .add (.one .int) (.tmp 27) (.const (.int .i64 1))⟩,
      ⟨(some 29), none, .mov (.tmp 2)⟩,
      ⟨(some 30), none, .bin .sub (.one .int) (.tmp 29) (.const (.int .i64 1))⟩,
      ⟨(some 11), none, .mov (.tmp 28)⟩,
      ⟨(some 12), none, .mov (.tmp 30)⟩] [])
    (.seq (.block 0 (.seq (.keep [0, 1, 4, 11, 12])
       (.loop b82_2)))
     (.seq (.region [⟨(some 89), none, .mov (.tmp 11)⟩,
        ⟨(some 10), none, .mov (.tmp 89)⟩] [])
      (.ret)))))⟩
def b83_0 : XCode := .seq (.seq (.seq (.region [⟨(some 32), none, .mov (.tmp 12)⟩,
      ⟨(some 33), none, .mov (.tmp 13)⟩,
      ⟨(some 34), none, .bin .leq (.one .int) (.tmp 32) (.tmp 33)⟩,
      ⟨(some 35), none, .mov (.tmp 34)⟩,
      ⟨(some 36), (some (35, true)), .mov (.tmp 4)⟩,
      ⟨(some 37), (some (35, true)), .mov (.tmp 0)⟩,
      ⟨(some 38), (some (35, true)), .mov (.tmp 12)⟩,
      ⟨(some 39), (some (35, true)), .indexAddr 2 (.tmp 37) (.tmp 38)⟩,
      ⟨(some 40), (some (35, true)), .load (some 2) (.tmp 39)⟩,
      ⟨(some 41), (some (35, true)), .mov (.tmp 0)⟩,
      ⟨(some 42), (some (35, true)), .mov (.tmp 1)⟩,
      ⟨(some 43), (some (35, true)), .indexAddr 2 (.tmp 41) (.tmp 42)⟩,
      ⟨(some 44), (some (35, true)), .load (some 2) (.tmp 43)⟩,
      ⟨(some 45), (some (35, true)), .call (.tmp 36) [(.tmp 40), (.tmp 44)]⟩,
      ⟨(some 46), (some (35, true)), .bin .lss (.one .int) (.tmp 45) (.const (.int .i64 0))⟩,
      ⟨(some 47), none, .pick (.tmp 35) (.tmp 46) (.const (.bool false))⟩] [])
    (.cond (.tmp 47) (.skip)
     (.exit 0)))
   (.block 1 (.region [⟨(some 48), none, .mov (.tmp 12)⟩,
      ⟨(some 49), none, .bin .add (.one .int) (.tmp 48) (.const (.int .i64 1))⟩,
      ⟨(some 12), none, .mov (.tmp 49)⟩] [])))
  (.keep [0, 1, 4, 12, 13])
def b83_1 : XCode := .seq (.seq (.seq (.region [⟨(some 50), none, .mov (.tmp 12)⟩,
      ⟨(some 51), none, .mov (.tmp 13)⟩,
      ⟨(some 52), none, .bin .leq (.one .int) (.tmp 50) (.tmp 51)⟩,
      ⟨(some 53), none, .mov (.tmp 52)⟩,
      ⟨(some 54), (some (53, true)), .mov (.tmp 4)⟩,
      ⟨(some 55), (some (53, true)), .mov (.tmp 0)⟩,
      ⟨(some 56), (some (53, true)), .mov (.tmp 13)⟩,
      ⟨(some 57), (some (53, true)), .indexAddr 2 (.tmp 55) (.tmp 56)⟩,
      ⟨(some 58), (some (53, true)), .load (some 2) (.tmp 57)⟩,
      ⟨(some 59), (some (53, true)), .mov (.tmp 0)⟩,
      ⟨(some 60), (some (53, true)), .mov (.tmp 1)⟩,
      ⟨(some 61), (some (53, true)), .indexAddr 2 (.tmp 59) (.tmp 60)⟩,
      ⟨(some 62), (some (53, true)), .load (some 2) (.tmp 61)⟩,
      ⟨(some 63), (some (53, true)), .call (.tmp 54) [(.tmp 58), (.tmp 62)]⟩,
      ⟨(some 64), (some (53, true)), .bin .lss (.one .int) (.tmp 63) (.const (.int .i64 0))⟩,
      ⟨(some 65), (some (53, true)), .un .not (.tmp 64)⟩,
      ⟨(some 66), none, .pick (.tmp 53) (.tmp 65) (.const (.bool false))⟩] [])
    (.cond (.tmp 66) (.skip)
     (.exit 2)))
   (.block 3 (.region [⟨(some 67), none, .mov (.tmp 13)⟩,
      ⟨(some 68), none, .bin .sub (.one .int) (.tmp 67) (.const (.int .i64 1))⟩,
      ⟨(some 13), none, .mov (.tmp 68)⟩] [])))
  (.keep [0, 1, 4, 12, 13])
def b83_2 : XCode := .seq (.seq (.seq (.region [⟨(some 105), none, .mov (.tmp 12)⟩,
      ⟨(some 106), none, .mov (.tmp 13)⟩,
      ⟨(some 107), none, .bin .leq (.one .int) (.tmp 105) (.tmp 106)⟩,
      ⟨(some 108), none, .mov (.tmp 107)⟩,
      ⟨(some 109), (some (108, true)), .mov (.tmp 4)⟩,
      ⟨(some 110), (some (108, true)), .mov (.tmp 0)⟩,
      ⟨(some 111), (some (108, true)), .mov (.tmp 12)⟩,
      ⟨(some 112), (some (108, true)), .indexAddr 2 (.tmp 110) (.tmp 111)⟩,
      ⟨(some 113), (some (108, true)), .load (some 2) (.tmp 112)⟩,
      ⟨(some 114), (some (108, true)), .mov (.tmp 0)⟩,
      ⟨(some 115), (some (108, true)), .mov (.tmp 1)⟩,
      ⟨(some 116), (some (108, true)), .indexAddr 2 (.tmp 114) (.tmp 115)⟩,
      ⟨(some 117), (some (108, true)), .load (some 2) (.tmp 116)⟩,
      ⟨(some 118), (some (108, true)), .call (.tmp 109) [(.tmp 113), (.tmp 117)]⟩,
      ⟨(some 119), (some (108, true)), .bin .lss (.one .int) (.tmp 118) (.const (.int .i64 0))⟩,
      ⟨(some 120), none, .pick (.tmp 108) (.tmp 119) (.const (.bool false))⟩] [])
    (.cond (.tmp 120) (.skip)
     (.exit 6)))
   (.block 7 (.region [⟨(some 121), none, .mov (.tmp 12)⟩,
      ⟨(some 122), none, .bin .add (.one .int) (.tmp 121) (.const (.int .i64 1))⟩,
      ⟨(some 12), none, .mov (.tmp 122)⟩] [])))
  (.keep [0, 1, 4, 12, 13])
def b83_3 : XCode := .seq (.seq (.seq (.region [⟨(some 123), none, .mov (.tmp 12)⟩,
      ⟨(some 124), none, .mov (.tmp 13)⟩,
      ⟨(some 125), none, .bin .leq (.one .int) (.tmp 123) (.tmp 124)⟩,
      ⟨(some 126), none, .mov (.tmp 125)⟩,
      ⟨(some 127), (some (126, true)), .mov (.tmp 4)⟩,
      ⟨(some 128), (some (126, true)), .mov (.tmp 0)⟩,
      ⟨(some 129), (some (126, true)), .mov (.tmp 13)⟩,
      ⟨(some 130), (some (126, true)), .indexAddr 2 (.tmp 128) (.tmp 129)⟩,
      ⟨(some 131), (some (126, true)), .load (some 2) (.tmp 130)⟩,
      ⟨(some 132), (some (126, true)), .mov (.tmp 0)⟩,
      ⟨(some 133), (some (126, true)), .mov (.tmp 1)⟩,
      ⟨(some 134), (some (126, true)), .indexAddr 2 (.tmp 132) (.tmp 133)⟩,
      ⟨(some 135), (some (126, true)), .load (some 2) (.tmp 134)⟩,
      ⟨(some 136), (some (126, true)), .call (.tmp 127) [(.tmp 131), (.tmp 135)]⟩,
      ⟨(some 137), (some (126, true)), .bin .lss (.one .int) (.tmp 136) (.const (.int .i64 0))⟩,
      ⟨(some 138), (some (126, true)), .un .not (.tmp 137)⟩,
      ⟨(some 139), none, .pick (.tmp 126) (.tmp 138) (.const (.bool false))⟩] [])
    (.cond (.tmp 139) (.skip)
     (.exit 8)))
   (.block 9 (.region [⟨(some 140), none, .mov (.tmp 13)⟩,
      ⟨(some 141), none, .bin .sub (.one .int) (.tmp 140) (.const (.int .i64 1))⟩,
      ⟨(some 13), none, .mov (.tmp 141)⟩] [])))
  (.keep [0, 1, 4, 12, 13])
def b83_4 : XCode := .seq (.block 5 (.seq (.block 6 (.seq (.keep [0, 1, 4, 12, 13])
      (.loop b83_2)))
    (.seq (.block 8 (.seq (.keep [0, 1, 4, 12, 13])
       (.loop b83_3)))
     (.seq (.seq (.region [⟨(some 142), none, .mov (.tmp 12)⟩,
         ⟨(some 143), none, .mov (.tmp 13)⟩,
         ⟨(some 144), none, .bin .gtr (.one .int) (.tmp 142) (.tmp 143)⟩] [])
       (.cond (.tmp 144) (.exit 4)
        (.skip)))
      (.seq (.region [⟨(some 145), none, .mov (.tmp 0)⟩,
         ⟨(some 146), none, .mov (.tmp 12)⟩,
         ⟨(some 147), none, .mov (.tmp 0)⟩,
         ⟨(some 148), none, .mov (.tmp 13)⟩,
         ⟨(some 149), none, .mov (.tmp 0)⟩,
         ⟨(some 150), none, .mov (.tmp 13)⟩,
         ⟨(some 151), none, .indexAddr 2 (.tmp 149) (.tmp 150)⟩,
         ⟨(some 152), none, .load (some 2) (.tmp 151)⟩,
         ⟨(some 153), none, .mov (.tmp 0)⟩,
         ⟨(some 154), none, .mov (.tmp 12)⟩,
         ⟨(some 155), none, .indexAddr 2 (.tmp 153) (.tmp 154)⟩,
         ⟨(some 156), none, .load (some 2) (.tmp 155)⟩,
         ⟨(some 157), none, .indexAddr 2 (.tmp 145) (.tmp 146)⟩,
         ⟨none, none, .store 2 (.tmp 157) (.tmp 152)⟩,
         ⟨(some 158), none, .indexAddr 2 (.tmp 147) (.tmp 148)⟩,
         ⟨none, none, .store 2 (.tmp 158) (.tmp 156)⟩] [])
       (.seq (.region [⟨(some 159), none, .mov (.tmp 12)⟩,
          ⟨(some 160), none, .bin .add (.one .int) (.tmp 159) (.const (.int .i64 1))⟩,
          ⟨(some 12), none, .mov (.tmp 160)⟩] [])
        (.region [⟨(some 161), none, .mov (.tmp 13)⟩,
          ⟨(some 162), none, .bin .sub (.one .int) (.tmp 161) (.const (.int .i64 1))⟩,
          ⟨(some 13), none, .mov (.tmp 162)⟩] [])))))))
  (.keep [0, 1, 4, 12, 13])
/-- slices.partitionCmpFunc[jitney/api.Deal] -/
def x83 : XFunc := ⟨5, [.tmp 10, .tmp 11],
  .seq (.region [⟨(some 10), none, .mov (.const (.int .i64 0))⟩,
    ⟨(some 11), none, .mov (.const (.bool false))⟩] [])
  (.seq (.region [⟨(some 14), none, .mov (.tmp 0)⟩,
     ⟨(some 15), none, .mov (.tmp 1)⟩,
     ⟨(some 16), none, .mov (.tmp 0)⟩,
     ⟨(some 17), none, .mov (.tmp 3)⟩,
     ⟨(some 18), none, .mov (.tmp 0)⟩,
     ⟨(some 19), none, .mov (.tmp 3)⟩,
     ⟨(some 20), none, .indexAddr 2 (.tmp 18) (.tmp 19)⟩,
     ⟨(some 21), none, .load (some 2) (.tmp 20)⟩,
     ⟨(some 22), none, .mov (.tmp 0)⟩,
     ⟨(some 23), none, .mov (.tmp 1)⟩,
     ⟨(some 24), none, .indexAddr 2 (.tmp 22) (.tmp 23)⟩,
     ⟨(some 25), none, .load (some 2) (.tmp 24)⟩,
     ⟨(some 26), none, .indexAddr 2 (.tmp 14) (.tmp 15)⟩,
     ⟨none, none, .store 2 (.tmp 26) (.tmp 21)⟩,
     ⟨(some 27), none, .indexAddr 2 (.tmp 16) (.tmp 17)⟩,
     ⟨none, none, .store 2 (.tmp 27) (.tmp 25)⟩] [])
   (.seq (.region [⟨(some 28), none, .mov (.tmp 1)⟩,
      ⟨(some 29), none, .bin .add (.one .int) (.tmp 28) (.const (.int .i64 1))⟩,
      ⟨(some 30), none, .mov (.tmp 2)⟩,
      ⟨(some 31), none, .bin .sub (.one .int) (.tmp 30) (.const (.int .i64 1))⟩,
      ⟨(some 12), none, .mov (.tmp 29)⟩,
      ⟨(some 13), none, .mov (.tmp 31)⟩] [])
    (.seq (.block 0 (.seq (.keep [0, 1, 4, 12, 13])
       (.loop b83_0)))
     (.seq (.block 2 (.seq (.keep [0, 1, 4, 12, 13])
        (.loop b83_1)))
      (.seq (.seq (.region [⟨(some 69), none, .mov (.tmp 12)⟩,
          ⟨(some 70), none, .mov (.tmp 13)⟩,
          ⟨(some 71), none, .bin .gtr (.one .int) (.tmp 69) (.tmp 70)⟩] [])
        (.cond (.tmp 71) (.seq (.region [⟨(some 72), none, .mov (.tmp 0)⟩,
            ⟨(some 73), none, .mov (.tmp 13)⟩,
            ⟨(some 74), none, .mov (.tmp 0)⟩,
            ⟨(some 75), none, .mov (.tmp 1)⟩,
            ⟨(some 76), none, .mov (.tmp 0)⟩,
            ⟨(some 77), none, .mov (.tmp 1)⟩,
            ⟨(some 78), none, .indexAddr 2 (.tmp 76) (.tmp 77)⟩,
            ⟨(some 79), none, .load (some 2) (.tmp 78)⟩,
            ⟨(some 80), none, .mov (.tmp 0)⟩,
            ⟨(some 81), none, .mov (.tmp 13)⟩,
            ⟨(some 82), none, .indexAddr 2 (.tmp 80) (.tmp 81)⟩,
            ⟨(some 83), none, .load (some 2) (.tmp 82)⟩,
            ⟨(some 84), none, .indexAddr 2 (.tmp 72) (.tmp 73)⟩,
            ⟨none, none, .store 2 (.tmp 84) (.tmp 79)⟩,
            ⟨(some 85), none, .indexAddr 2 (.tmp 74) (.tmp 75)⟩,
            ⟨none, none, .store 2 (.tmp 85) (.tmp 83)⟩] [])
          (.seq (.region [⟨(some 86), none, .mov (.tmp 13)⟩,
             ⟨(some 10), none, .mov (.tmp 86)⟩,
             ⟨(some 11), none, .mov (.const (.bool true))⟩] [])
           (.ret)))
         (.skip)))
       (.seq (.region [⟨(some 87), none, .mov (.tmp 0)⟩,
          ⟨(some 88), none, .mov (.tmp 12)⟩,
          ⟨(some 89), none, .mov (.tmp 0)⟩,
          ⟨(some 90), none, .mov (.tmp 13)⟩,
          ⟨(some 91), none, .mov (.tmp 0)⟩,
          ⟨(some 92), none, .mov (.tmp 13)⟩,
          ⟨(some 93), none, .indexAddr 2 (.tmp 91) (.tmp 92)⟩,
          ⟨(some 94), none, .load (some 2) (.tmp 93)⟩,
          ⟨(some 95), none, .mov (.tmp 0)⟩,
          ⟨(some 96), none, .mov (.tmp 12)⟩,
          ⟨(some 97), none, .indexAddr 2 (.tmp 95) (.tmp 96)⟩,
          ⟨(some 98), none, .load (some 2) (.tmp 97)⟩,
          ⟨(some 99), none, .indexAddr 2 (.tmp 87) (.tmp 88)⟩,
          ⟨none, none, .store 2 (.tmp 99) (.tmp 94)⟩,
          ⟨(some 100), none, .indexAddr 2 (.tmp 89) (.tmp 90)⟩,
          ⟨none, none, .store 2 (.tmp 100) (.tmp 98)⟩] [])
        (.seq (.region [⟨(some 101), none, .mov (.tmp 12)⟩,
           ⟨(some 102), none, .bin .add (.one .int) (.tmp 101) (.const (.int .i64 1))⟩,
           ⟨(some 12), none, .mov (.tmp 102)⟩] [])
         (.seq (.region [⟨(some 103), none, .mov (.tmp 13)⟩,
            ⟨(some 104), none, .bin .sub (.one .int) (.tmp 103) (.const (.int .i64 1))⟩,
            ⟨(some 13), none, .mov (.tmp 104)⟩] [])
          (.seq (.block 4 (.seq (.keep [0, 1, 4, 12, 13])
             (.loop b83_4)))
           (.seq (.region [⟨(some 163), none, .mov (.tmp 0)⟩,
              ⟨(some 164), none, .mov (.tmp 13)⟩,
              ⟨(some 165), none, .mov (.tmp 0)⟩,
              ⟨(some 166), none, .mov (.tmp 1)⟩,
              ⟨(some 167), none, .mov (.tmp 0)⟩,
              ⟨(some 168), none, .mov (.tmp 1)⟩,
              ⟨(some 169), none, .indexAddr 2 (.tmp 167) (.tmp 168)⟩,
              ⟨(some 170), none, .load (some 2) (.tmp 169)⟩,
              ⟨(some 171), none, .mov (.tmp 0)⟩,
              ⟨(some 172), none, .mov (.tmp 13)⟩,
              ⟨(some 173), none, .indexAddr 2 (.tmp 171) (.tmp 172)⟩,
              ⟨(some 174), none, .load (some 2) (.tmp 173)⟩,
              ⟨(some 175), none, .indexAddr 2 (.tmp 163) (.tmp 164)⟩,
              ⟨none, none, .store 2 (.tmp 175) (.tmp 170)⟩,
              ⟨(some 176), none, .indexAddr 2 (.tmp 165) (.tmp 166)⟩,
              ⟨none, none, .store 2 (.tmp 176) (.tmp 174)⟩] [])
            (.seq (.region [⟨(some 177), none, .mov (.tmp 13)⟩,
               ⟨(some 10), none, .mov (.tmp 177)⟩,
               ⟨(some 11), none, .mov (.const (.bool false))⟩] [])
             (.ret))))))))))))⟩
/-- math/bits.Len32 -/
def x84 : XFunc := ⟨1, [.tmp 2],
  .seq (.region [⟨(some 2), none, .mov (.const (.int .i64 0))⟩] [])
  (.seq (.seq (.region [⟨(some 3), none, .mov (.tmp 0)⟩,
      ⟨(some 4), none, .bin .geq (.one .int) (.tmp 3) (.const (.int .u32 65536))⟩] [])
    (.cond (.tmp 4) (.seq (.region [⟨(some 5), none, .mov (.tmp 0)⟩,
        ⟨(some 6), none, .bin .shr (.one .int) (.tmp 5) (.const (.int .u64 16))⟩,
        ⟨(some 0), none, .mov (.tmp 6)⟩] [])
      (.region [⟨(some 2), none, .mov (.const (.int .i64 16))⟩] []))
     (.skip)))
   (.seq (.seq (.region [⟨(some 7), none, .mov (.tmp 0)⟩,
       ⟨(some 8), none, .bin .geq (.one .int) (.tmp 7) (.const (.int .u32 256))⟩] [])
     (.cond (.tmp 8) (.seq (.region [⟨(some 9), none, .mov (.tmp 0)⟩,
         ⟨(some 10), none, .bin .shr (.one .int) (.tmp 9) (.const (.int .u64 8))⟩,
         ⟨(some 0), none, .mov (.tmp 10)⟩] [])
       (.region [⟨(some 11), none, .mov (.tmp 2)⟩,
         ⟨(some 12), none, .bin .add (.one .int) (.tmp 11) (.const (.int .i64 8))⟩,
         ⟨(some 2), none, .mov (.tmp 12)⟩] []))
      (.skip)))
    (.seq (.region [⟨(some 13), none, .mov (.tmp 2)⟩,
       ⟨(some 14), none, .mov (.tmp 0)⟩,
       ⟨(some 15), none, .convInt .u8 (.tmp 14)⟩,
       ⟨(some 16), none, .indexStr (.const (.str [0, 1, 2, 2, 3, 3, 3, 3, 4, 4, 4, 4, 4, 4, 4, 4, 5, 5, 5, 5, 5, 5, 5, 5, 5, 5, 5, 5, 5, 5, 5, 5, 6, 6, 6, 6, 6, 6, 6, 6, 6, 6, 6, 6, 6, 6, 6, 6, 6, 6, 6, 6, 6, 6, 6, 6, 6, 6, 6, 6, 6, 6, 6, 6, 7, 7, 7, 7, 7, 7, 7, 7, 7, 7, 7, 7, 7, 7, 7, 7, 7, 7, 7, 7, 7, 7, 7, 7, 7, 7, 7, 7, 7, 7, 7, 7, 7, 7, 7, 7, 7, 7, 7, 7, 7, 7, 7, 7, 7, 7, 7, 7, 7, 7, 7, 7, 7, 7, 7, 7, 7, 7, 7, 7, 7, 7, 7, 7, 8, 8, 8, 8, 8, 8, 8, 8, 8, 8, 8, 8, 8, 8, 8, 8, 8, 8, 8, 8, 8, 8, 8, 8, 8, 8, 8, 8, 8, 8, 8, 8, 8, 8, 8, 8, 8, 8, 8, 8, 8, 8, 8, 8, 8, 8, 8, 8, 8, 8, 8, 8, 8, 8, 8, 8, 8, 8, 8, 8, 8, 8, 8, 8, 8, 8, 8, 8, 8, 8, 8, 8, 8, 8, 8, 8, 8, 8, 8, 8, 8, 8, 8, 8, 8, 8, 8, 8, 8, 8, 8, 8, 8, 8, 8, 8, 8, 8, 8, 8, 8, 8, 8, 8, 8, 8, 8, 8, 8, 8, 8, 8, 8, 8, 8, 8, 8, 8, 8, 8, 8, 8, 8, 8, 8, 8, 8, 8])) (.tmp 15)⟩,
       ⟨(some 17), none, .convInt .i64 (.tmp 16)⟩,
       ⟨(some 18), none, .bin .add (.one .int) (.tmp 13) (.tmp 17)⟩,
       ⟨(some 2), none, .mov (.tmp 18)⟩] [])
     (.ret))))⟩
/-- math/bits.Len64 -/
def x85 : XFunc := ⟨1, [.tmp 2],
  .seq (.region [⟨(some 2), none, .mov (.const (.int .i64 0))⟩] [])
  (.seq (.seq (.region [⟨(some 3), none, .mov (.tmp 0)⟩,
      ⟨(some 4), none, .bin .geq (.one .int) (.tmp 3) (.const (.int .u64 4294967296))⟩] [])
    (.cond (.tmp 4) (.seq (.region [⟨(some 5), none, .mov (.tmp 0)⟩,
        ⟨(some 6), none, .bin .shr (.one .int) (.tmp 5) (.const (.int .u64 32))⟩,
        ⟨(some 0), none, .mov (.tmp 6)⟩] [])
      (.region [⟨(some 2), none, .mov (.const (.int .i64 32))⟩] []))
     (.skip)))
   (.seq (.seq (.region [⟨(some 7), none, .mov (.tmp 0)⟩,
       ⟨(some 8), none, .bin .geq (.one .int) (.tmp 7) (.const (.int .u64 65536))⟩] [])
     (.cond (.tmp 8) (.seq (.region [⟨(some 9), none, .mov (.tmp 0)⟩,
         ⟨(some 10), none, .bin .shr (.one .int) (.tmp 9) (.const (.int .u64 16))⟩,
         ⟨(some 0), none, .mov (.tmp 10)⟩] [])
       (.region [⟨(some 11), none, .mov (.tmp 2)⟩,
         ⟨(some 12), none, .bin .add (.one .int) (.tmp 11) (.const (.int .i64 16))⟩,
         ⟨(some 2), none, .mov (.tmp 12)⟩] []))
      (.skip)))
    (.seq (.seq (.region [⟨(some 13), none, .mov (.tmp 0)⟩,
        ⟨(some 14), none, .bin .geq (.one .int) (.tmp 13) (.const (.int .u64 256))⟩] [])
      (.cond (.tmp 14) (.seq (.region [⟨(some 15), none, .mov (.tmp 0)⟩,
          ⟨(some 16), none, .bin .shr (.one .int) (.tmp 15) (.const (.int .u64 8))⟩,
          ⟨(some 0), none, .mov (.tmp 16)⟩] [])
        (.region [⟨(some 17), none, .mov (.tmp 2)⟩,
          ⟨(some 18), none, .bin .add (.one .int) (.tmp 17) (.const (.int .i64 8))⟩,
          ⟨(some 2), none, .mov (.tmp 18)⟩] []))
       (.skip)))
     (.seq (.region [⟨(some 19), none, .mov (.tmp 2)⟩,
        ⟨(some 20), none, .mov (.tmp 0)⟩,
        ⟨(some 21), none, .convInt .u8 (.tmp 20)⟩,
        ⟨(some 22), none, .indexStr (.const (.str [0, 1, 2, 2, 3, 3, 3, 3, 4, 4, 4, 4, 4, 4, 4, 4, 5, 5, 5, 5, 5, 5, 5, 5, 5, 5, 5, 5, 5, 5, 5, 5, 6, 6, 6, 6, 6, 6, 6, 6, 6, 6, 6, 6, 6, 6, 6, 6, 6, 6, 6, 6, 6, 6, 6, 6, 6, 6, 6, 6, 6, 6, 6, 6, 7, 7, 7, 7, 7, 7, 7, 7, 7, 7, 7, 7, 7, 7, 7, 7, 7, 7, 7, 7, 7, 7, 7, 7, 7, 7, 7, 7, 7, 7, 7, 7, 7, 7, 7, 7, 7, 7, 7, 7, 7, 7, 7, 7, 7, 7, 7, 7, 7, 7, 7, 7, 7, 7, 7, 7, 7, 7, 7, 7, 7, 7, 7, 7, 8, 8, 8, 8, 8, 8, 8, 8, 8, 8, 8, 8, 8, 8, 8, 8, 8, 8, 8, 8, 8, 8, 8, 8, 8, 8, 8, 8, 8, 8, 8, 8, 8, 8, 8, 8, 8, 8, 8, 8, 8, 8, 8, 8, 8, 8, 8, 8, 8, 8, 8, 8, 8, 8, 8, 8, 8, 8, 8, 8, 8, 8, 8, 8, 8, 8, 8, 8, 8, 8, 8, 8, 8, 8, 8, 8, 8, 8, 8, 8, 8, 8, 8, 8, 8, 8, 8, 8, 8, 8, 8, 8, 8, 8, 8, 8, 8, 8, 8, 8, 8, 8, 8, 8, 8, 8, 8, 8, 8, 8, 8, 8, 8, 8, 8, 8, 8, 8, 8, 8, 8, 8, 8, 8, 8, 8, 8, 8])) (.tmp 21)⟩,
        ⟨(some 23), none, .convInt .i64 (.tmp 22)⟩,
        ⟨(some 24), none, .bin .add (.one .int) (.tmp 19) (.tmp 23)⟩,
        ⟨(some 2), none, .mov (.tmp 24)⟩] [])
      (.ret)))))⟩
-- F86 internal/bytealg.abigen_runtime_cmpstring: none
/-- jitney/request.seriesFault -/
def x87 : XFunc := ⟨1, [.tmp 2],
  .seq (.region [⟨(some 1), none, .box 14 (.tmp 0)⟩,
    ⟨(some 2), none, .mov (.const (.int .i64 0))⟩] [])
  (.seq (.block 0 (.seq (.region [⟨(some 4), none, .fieldAddr 0 (.tmp 1)⟩,
       ⟨(some 5), none, .load none (.tmp 4)⟩,
       ⟨(some 6), none, .fieldAddr 1 (.tmp 1)⟩,
       ⟨(some 7), none, .load none (.tmp 6)⟩,
       ⟨(some 8), none, .fieldAddr 2 (.tmp 1)⟩,
       ⟨(some 9), none, .load none (.tmp 8)⟩,
       ⟨(some 10), none, .fieldAddr 3 (.tmp 1)⟩,
       ⟨(some 11), none, .load none (.tmp 10)⟩,
       ⟨(some 12), none, .lit 1 [(.str []), (.str []), (.str []), (.str [])] [(0, (.tmp 5)), (1, (.tmp 7)), (2, (.tmp 9)), (3, (.tmp 11))] false⟩,
       ⟨(some 13), none, .call (.const (.func (.func 113) [])) [(.tmp 12)]⟩,
       ⟨(some 14), none, .un .not (.tmp 13)⟩,
       ⟨(some 3), none, .mov (.tmp 14)⟩] [])
     (.cond (.tmp 3) (.seq (.region [⟨(some 2), none, .mov (.const (.int .i64 5))⟩] [])
       (.ret))
      (.seq (.region [⟨(some 16), none, .fieldAddr 0 (.tmp 1)⟩,
         ⟨(some 17), none, .load none (.tmp 16)⟩,
         ⟨(some 18), none, .len (.one .str) (.tmp 17)⟩,
         ⟨(some 19), none, .bin .gtr (.one .int) (.tmp 18) (.const (.int .i64 30))⟩,
         ⟨(some 15), none, .mov (.tmp 19)⟩] [])
       (.cond (.tmp 15) (.seq (.region [⟨(some 2), none, .mov (.const (.int .i64 2))⟩] [])
         (.ret))
        (.seq (.region [⟨(some 21), none, .fieldAddr 2 (.tmp 1)⟩,
           ⟨(some 22), none, .load none (.tmp 21)⟩,
           ⟨(some 23), none, .fieldAddr 3 (.tmp 1)⟩,
           ⟨(some 24), none, .load none (.tmp 23)⟩,
           ⟨(some 25), none, .bin .eql (.one .str) (.tmp 22) (.tmp 24)⟩,
           ⟨(some 20), none, .mov (.tmp 25)⟩] [])
         (.cond (.tmp 20) (.seq (.region [⟨(some 2), none, .mov (.const (.int .i64 6))⟩] [])
           (.ret))
          (.seq (.region [⟨(some 27), none, .fieldAddr 4 (.tmp 1)⟩,
             ⟨(some 28), none, .load none (.tmp 27)⟩,
             ⟨(some 29), none, .fieldAddr 5 (.tmp 1)⟩,
             ⟨(some 30), none, .load none (.tmp 29)⟩,
             ⟨(some 31), none, .call (.const (.func (.func 65) [])) [(.tmp 28), (.const (.int .i64 0)), (.tmp 30)]⟩,
             ⟨(some 32), none, .mov (.tmp 31)⟩,
             ⟨(some 33), (some (32, false)), .fieldAddr 5 (.tmp 1)⟩,
             ⟨(some 34), (some (32, false)), .load none (.tmp 33)⟩,
             ⟨(some 35), (some (32, false)), .bin .gtr (.one .int) (.tmp 34) (.const (.int .i64 4000))⟩,
             ⟨(some 36), none, .pick (.tmp 32) (.const (.bool true)) (.tmp 35)⟩,
             ⟨(some 37), none, .mov (.tmp 36)⟩,
             ⟨(some 38), (some (37, false)), .fieldAddr 6 (.tmp 1)⟩,
             ⟨(some 39), (some (37, false)), .load none (.tmp 38)⟩,
             ⟨(some 40), (some (37, false)), .call (.const (.func (.func 65) [])) [(.tmp 39), (.const (.int .i64 1)), (.const (.int .i64 52))]⟩,
             ⟨(some 41), none, .pick (.tmp 37) (.const (.bool true)) (.tmp 40)⟩,
             ⟨(some 42), none, .mov (.tmp 41)⟩,
             ⟨(some 43), (some (42, false)), .fieldAddr 7 (.tmp 1)⟩,
             ⟨(some 44), (some (42, false)), .load none (.tmp 43)⟩,
             ⟨(some 45), (some (42, false)), .call (.const (.func (.func 65) [])) [(.tmp 44), (.const (.int .i64 1)), (.const (.int .i64 127))]⟩,
             ⟨(some 46), none, .pick (.tmp 42) (.const (.bool true)) (.tmp 45)⟩,
             ⟨(some 26), none, .mov (.tmp 46)⟩] [])
           (.cond (.tmp 26) (.seq (.region [⟨(some 2), none, .mov (.const (.int .i64 1))⟩] [])
             (.ret))
            (.seq (.region [⟨(some 48), none, .fieldAddr 8 (.tmp 1)⟩,
               ⟨(some 49), none, .load none (.tmp 48)⟩,
               ⟨(some 50), none, .call (.const (.func (.func 65) [])) [(.tmp 49), (.const (.int .i64 0)), (.const (.int .i64 1439))]⟩,
               ⟨(some 51), none, .mov (.tmp 50)⟩,
               ⟨(some 52), (some (51, false)), .fieldAddr 9 (.tmp 1)⟩,
               ⟨(some 53), (some (51, false)), .load none (.tmp 52)⟩,
               ⟨(some 54), (some (51, false)), .fieldAddr 8 (.tmp 1)⟩,
               ⟨(some 55), (some (51, false)), .load none (.tmp 54)⟩,
               ⟨(some 56), (some (51, false)), .bin .add (.one .int) (.tmp 55) (.const (.int .i64 1))⟩,
               ⟨(some 57), (some (51, false)), .call (.const (.func (.func 65) [])) [(.tmp 53), (.tmp 56), (.const (.int .i64 2880))]⟩,
               ⟨(some 58), none, .pick (.tmp 51) (.const (.bool true)) (.tmp 57)⟩,
               ⟨(some 59), none, .mov (.tmp 58)⟩,
               ⟨(some 60), (some (59, false)), .fieldAddr 10 (.tmp 1)⟩,
               ⟨(some 61), (some (59, false)), .load none (.tmp 60)⟩,
               ⟨(some 62), (some (59, false)), .call (.const (.func (.func 65) [])) [(.tmp 61), (.const (.int .i64 (-1440))), (.const (.int .i64 1440))]⟩,
               ⟨(some 63), none, .pick (.tmp 59) (.const (.bool true)) (.tmp 62)⟩,
               ⟨(some 47), none, .mov (.tmp 63)⟩] [])
             (.cond (.tmp 47) (.seq (.region [⟨(some 2), none, .mov (.const (.int .i64 1))⟩] [])
               (.ret))
              (.seq (.region [⟨(some 65), none, .fieldAddr 11 (.tmp 1)⟩,
                 ⟨(some 66), none, .load none (.tmp 65)⟩,
                 ⟨(some 67), none, .call (.const (.func (.func 65) [])) [(.tmp 66), (.const (.int .i64 0)), (.const (.int .i64 60))]⟩,
                 ⟨(some 68), none, .mov (.tmp 67)⟩,
                 ⟨(some 69), (some (68, false)), .fieldAddr 12 (.tmp 1)⟩,
                 ⟨(some 70), (some (68, false)), .load none (.tmp 69)⟩,
                 ⟨(some 71), (some (68, false)), .call (.const (.func (.func 65) [])) [(.tmp 70), (.const (.int .i64 0)), (.const (.int .i64 60))]⟩,
                 ⟨(some 72), none, .pick (.tmp 68) (.const (.bool true)) (.tmp 71)⟩,
                 ⟨(some 64), none, .mov (.tmp 72)⟩] [])
               (.cond (.tmp 64) (.seq (.region [⟨(some 2), none, .mov (.const (.int .i64 1))⟩] [])
                 (.ret))
                (.seq (.region [⟨(some 74), none, .fieldAddr 11 (.tmp 1)⟩,
                   ⟨(some 75), none, .load none (.tmp 74)⟩,
                   ⟨(some 76), none, .fieldAddr 12 (.tmp 1)⟩,
                   ⟨(some 77), none, .load none (.tmp 76)⟩,
                   ⟨(some 78), none, .bin .add (.one .int) (.tmp 75) (.tmp 77)⟩,
                   ⟨(some 79), none, .bin .eql (.one .int) (.tmp 78) (.const (.int .i64 0))⟩,
                   ⟨(some 73), none, .mov (.tmp 79)⟩] [])
                 (.cond (.tmp 73) (.seq (.region [⟨(some 2), none, .mov (.const (.int .i64 3))⟩] [])
                   (.ret))
                  (.skip))))))))))))))))
   (.seq (.region [⟨(some 80), none, .fieldAddr 13 (.tmp 1)⟩,
      ⟨(some 81), none, .load none (.tmp 80)⟩,
      ⟨(some 82), none, .call (.const (.func (.func 114) [])) [(.tmp 81)]⟩,
      ⟨(some 2), none, .mov (.tmp 82)⟩] [])
    (.ret)))⟩
def b88_0 : XCode := .seq (.seq (.seq (.region [⟨(some 15), none, .mov (.tmp 9)⟩,
      ⟨(some 16), none, .mov (.tmp 10)⟩,
      ⟨(some 17), none, .bin .lss (.one .int) (.tmp 15) (.tmp 16)⟩] [])
    (.cond (.tmp 17) (.skip)
     (.exit 0)))
   (.block 1 (.seq (.region [⟨(some 18), none, .mov (.tmp 9)⟩,
       ⟨(some 19), none, .mov (.tmp 10)⟩,
       ⟨(some 20), none, .bin .add (.one .int) (.tmp 18) (.tmp 19)⟩,
       ⟨(some 21), none, .convInt .u64 (.tmp 20)⟩,
       ⟨(some 22), none, .bin .shr (.one .int) (.tmp 21) (.const (.int .u64 1))⟩,
       ⟨(some 23), none, .convInt .i64 (.tmp 22)⟩,
       ⟨(some 11), none, .mov (.tmp 23)⟩] [])
     (.seq (.region [⟨(some 24), none, .mov (.tmp 2)⟩,
        ⟨(some 25), none, .mov (.tmp 0)⟩,
        ⟨(some 26), none, .mov (.tmp 11)⟩,
        ⟨(some 27), none, .indexAddr 3 (.tmp 25) (.tmp 26)⟩,
        ⟨(some 28), none, .load (some 3) (.tmp 27)⟩,
        ⟨(some 29), none, .mov (.tmp 1)⟩,
        ⟨(some 30), none, .call (.tmp 24) [(.tmp 28), (.tmp 29)]⟩,
        ⟨(some 31), none, .bin .lss (.one .int) (.tmp 30) (.const (.int .i64 0))⟩] [])
      (.cond (.tmp 31) (.region [⟨(some 32), none, .mov (.tmp 11)⟩,
         ⟨(some 33), none, .bin .add (.one .int) (.tmp 32) (.const (.int .i64 1))⟩,
         ⟨(some 9), none, .mov (.tmp 33)⟩] [])
       (.region [⟨(some 34), none, .mov (.tmp 11)⟩,
         ⟨(some 10), none, .mov (.tmp 34)⟩] []))))))
  (.keep [0, 1, 2, 8, 9, 10])
/-- slices.BinarySearchFunc[[]jitney/api.Change,jitney/api.Change,int] -/
def x88 : XFunc := ⟨3, [.tmp 6, .tmp 7],
  .seq (.region [⟨(some 6), none, .mov (.const (.int .i64 0))⟩,
    ⟨(some 7), none, .mov (.const (.bool false))⟩] [])
  (.seq (.region [⟨(some 12), none, .mov (.tmp 0)⟩,
     ⟨(some 13), none, .len .slice (.tmp 12)⟩,
     ⟨(some 8), none, .mov (.tmp 13)⟩] [])
   (.seq (.region [⟨(some 14), none, .mov (.tmp 8)⟩,
      ⟨(some 9), none, .mov (.const (.int .i64 0))⟩,
      ⟨(some 10), none, .mov (.tmp 14)⟩] [])
    (.seq (.block 0 (.seq (.keep [0, 1, 2, 8, 9, 10])
       (.loop b88_0)))
     (.seq (.region [⟨(some 35), none, .mov (.tmp 9)⟩,
        ⟨(some 36), none, .mov (.tmp 9)⟩,
        ⟨(some 37), none, .mov (.tmp 8)⟩,
        ⟨(some 38), none, .bin .lss (.one .int) (.tmp 36) (.tmp 37)⟩,
        ⟨(some 39), none, .mov (.tmp 38)⟩,
        ⟨(some 40), (some (39, true)), .mov (.tmp 2)⟩,
        ⟨(some 41), (some (39, true)), .mov (.tmp 0)⟩,
        ⟨(some 42), (some (39, true)), .mov (.tmp 9)⟩,
        ⟨(some 43), (some (39, true)), .indexAddr 3 (.tmp 41) (.tmp 42)⟩,
        ⟨(some 44), (some (39, true)), .load (some 3) (.tmp 43)⟩,
        ⟨(some 45), (some (39, true)), .mov (.tmp 1)⟩,
        ⟨(some 46), (some (39, true)), .call (.tmp 40) [(.tmp 44), (.tmp 45)]⟩,
        ⟨(some 47), (some (39, true)), .bin .eql (.one .int) (.tmp 46) (.const (.int .i64 0))⟩,
        ⟨(some 48), none, .pick (.tmp 39) (.tmp 47) (.const (.bool false))⟩,
        ⟨(some 6), none, .mov (.tmp 35)⟩,
        ⟨(some 7), none, .mov (.tmp 48)⟩] [])
      (.ret)))))⟩
/-- jitney/request.dayRide$1 -/
def x89 : XFunc := ⟨2, [.tmp 4],
  .seq (.region [⟨(some 2), none, .box 3 (.tmp 0)⟩,
    ⟨(some 4), none, .mov (.const (.int .i64 0))⟩] [])
  (.seq (.region [⟨(some 5), none, .fieldAddr 0 (.tmp 2)⟩,
     ⟨(some 6), none, .load none (.tmp 5)⟩,
     ⟨(some 7), none, .mov (.tmp 1)⟩,
     ⟨(some 8), none, .call (.const (.func (.func 90) [])) [(.tmp 6), (.tmp 7)]⟩,
     ⟨(some 4), none, .mov (.tmp 8)⟩] [])
   (.ret))⟩
/-- cmp.Compare[int] -/
def x90 : XFunc := ⟨2, [.tmp 4],
  .seq (.region [⟨(some 4), none, .mov (.const (.int .i64 0))⟩] [])
  (.seq (.region [⟨(some 7), none, .mov (.tmp 0)⟩,
     ⟨(some 8), none, .call (.const (.func (.func 115) [])) [(.tmp 7)]⟩,
     ⟨(some 5), none, .mov (.tmp 8)⟩] [])
   (.seq (.region [⟨(some 9), none, .mov (.tmp 1)⟩,
      ⟨(some 10), none, .call (.const (.func (.func 115) [])) [(.tmp 9)]⟩,
      ⟨(some 6), none, .mov (.tmp 10)⟩] [])
    (.seq (.seq (.region [⟨(some 11), none, .mov (.tmp 5)⟩] [])
      (.cond (.tmp 11) (.seq (.seq (.region [⟨(some 12), none, .mov (.tmp 6)⟩] [])
         (.cond (.tmp 12) (.seq (.region [⟨(some 4), none, .mov (.const (.int .i64 0))⟩] [])
           (.ret))
          (.skip)))
        (.seq (.region [⟨(some 4), none, .mov (.const (.int .i64 (-1)))⟩] [])
         (.ret)))
       (.skip)))
     (.seq (.seq (.region [⟨(some 13), none, .mov (.tmp 6)⟩] [])
       (.cond (.tmp 13) (.seq (.region [⟨(some 4), none, .mov (.const (.int .i64 1))⟩] [])
         (.ret))
        (.skip)))
      (.seq (.seq (.region [⟨(some 14), none, .mov (.tmp 0)⟩,
          ⟨(some 15), none, .mov (.tmp 1)⟩,
          ⟨(some 16), none, .bin .lss (.one .int) (.tmp 14) (.tmp 15)⟩] [])
        (.cond (.tmp 16) (.seq (.region [⟨(some 4), none, .mov (.const (.int .i64 (-1)))⟩] [])
          (.ret))
         (.skip)))
       (.seq (.seq (.region [⟨(some 17), none, .mov (.tmp 0)⟩,
           ⟨(some 18), none, .mov (.tmp 1)⟩,
           ⟨(some 19), none, .bin .gtr (.one .int) (.tmp 17) (.tmp 18)⟩] [])
         (.cond (.tmp 19) (.seq (.region [⟨(some 4), none, .mov (.const (.int .i64 1))⟩] [])
           (.ret))
          (.skip)))
        (.seq (.region [⟨(some 4), none, .mov (.const (.int .i64 0))⟩] [])
         (.ret))))))))⟩
/-- strconv.Itoa -/
def x91 : XFunc := ⟨1, [.tmp 2],
  .seq (.region [⟨(some 2), none, .mov (.const (.str []))⟩] [])
  (.seq (.region [⟨(some 3), none, .mov (.tmp 0)⟩,
     ⟨(some 4), none, .call (.const (.func (.func 116) [])) [(.tmp 3)]⟩,
     ⟨(some 2), none, .mov (.tmp 4)⟩] [])
   (.ret))⟩
/-- jitney/request.dayRide$2 -/
def x92 : XFunc := ⟨4, [.tmp 5],
  .seq (.region [⟨(some 5), none, .mov (.const (.int .i64 0))⟩] [])
  (.seq (.region [⟨(some 6), none, .load none (.tmp 1)⟩,
     ⟨(some 7), none, .bin .mul (.one .int) (.tmp 6) (.const (.int .i64 86400000))⟩,
     ⟨(some 8), none, .mov (.tmp 0)⟩,
     ⟨(some 9), none, .load none (.tmp 2)⟩,
     ⟨(some 10), none, .nilCheck (.tmp 9)⟩,
     ⟨(some 11), none, .fieldAddr 10 (.tmp 10)⟩,
     ⟨(some 12), none, .load none (.tmp 11)⟩,
     ⟨(some 13), none, .bin .sub (.one .int) (.tmp 8) (.tmp 12)⟩,
     ⟨(some 14), none, .load none (.tmp 3)⟩,
     ⟨(some 15), none, .bin .add (.one .int) (.tmp 13) (.tmp 14)⟩,
     ⟨(some 16), none, .bin .mul (.one .int) (.tmp 15) (.const (.int .i64 60000))⟩,
     ⟨(some 17), none, .bin .add (.one .int) (.tmp 7) (.tmp 16)⟩,
     ⟨(some 5), none, .mov (.tmp 17)⟩] [])
   (.ret))⟩
def b93_0 : XCode := .seq (.seq (.seq (.region [⟨(some 111), none, .call (.const (.func (.func 120) [])) [(.tmp 9)]⟩,
      ⟨(some 112), none, .mov (.tmp 7)⟩,
      ⟨(some 113), none, .bin .lss (.one .int) (.tmp 111) (.tmp 112)⟩] [])
    (.cond (.tmp 113) (.skip)
     (.exit 3)))
   (.block 4 (.seq (.region [⟨(some 114), none, .mov (.tmp 7)⟩,
       ⟨(some 115), none, .call (.const (.func (.func 120) [])) [(.tmp 9)]⟩,
       ⟨(some 116), none, .bin .sub (.one .int) (.tmp 114) (.tmp 115)⟩,
       ⟨(some 117), none, .call (.const (.func (.func 120) [])) [(.tmp 9)]⟩,
       ⟨(some 118), none, .mov (.tmp 8)⟩,
       ⟨(some 119), none, .mm false [(.tmp 116), (.tmp 117), (.tmp 118)]⟩,
       ⟨(some 10), none, .mov (.tmp 119)⟩] [])
     (.region [⟨(some 120), none, .call (.const (.func (.func 121) [])) [(.tmp 9)]⟩,
       ⟨(some 121), none, .mov (.tmp 10)⟩,
       ⟨(some 122), none, .sliceStr (.tmp 120) none (some (.tmp 121))⟩,
       ⟨(some 123), none, .call (.const (.func (.func 119) [])) [(.tmp 9), (.tmp 122)]⟩] []))))
  (.keep [7, 8, 9])
/-- strings.Repeat -/
def x93 : XFunc := ⟨2, [.tmp 4],
  .seq (.region [⟨(some 4), none, .mov (.const (.str []))⟩] [])
  (.seq (.seq (.region [⟨(some 11), none, .mov (.tmp 1)⟩] [])
    (.block 0 (.seq (.region [⟨(some 13), none, .bin .eql (.one .int) (.tmp 11) (.const (.int .i64 0))⟩,
        ⟨(some 12), none, .mov (.tmp 13)⟩] [])
      (.cond (.tmp 12) (.seq (.region [⟨(some 4), none, .mov (.const (.str []))⟩] [])
        (.ret))
       (.seq (.region [⟨(some 15), none, .bin .eql (.one .int) (.tmp 11) (.const (.int .i64 1))⟩,
          ⟨(some 14), none, .mov (.tmp 15)⟩] [])
        (.cond (.tmp 14) (.seq (.region [⟨(some 16), none, .mov (.tmp 0)⟩,
            ⟨(some 4), none, .mov (.tmp 16)⟩] [])
          (.ret))
         (.skip)))))))
   (.seq (.seq (.region [⟨(some 17), none, .mov (.tmp 1)⟩,
       ⟨(some 18), none, .bin .lss (.one .int) (.tmp 17) (.const (.int .i64 0))⟩] [])
     (.cond (.tmp 18) (.region [⟨(some 19), none, .mkIface 9 (.const (.str [115, 116, 114, 105, 110, 103, 115, 58, 32, 110, 101, 103, 97, 116, 105, 118, 101, 32, 82, 101, 112, 101, 97, 116, 32, 99, 111, 117, 110, 116]))⟩,
        ⟨none, none, .fail⟩] [])
      (.skip)))
    (.seq (.region [⟨(some 21), none, .mov (.tmp 0)⟩,
       ⟨(some 22), none, .len (.one .str) (.tmp 21)⟩,
       ⟨(some 23), none, .convInt .u64 (.tmp 22)⟩,
       ⟨(some 24), none, .mov (.tmp 1)⟩,
       ⟨(some 25), none, .convInt .u64 (.tmp 24)⟩,
       ⟨(some 26), none, .call (.const (.func (.func 107) [])) [(.tmp 23), (.tmp 25)]⟩,
       ⟨(some 20), none, .mov (.tmp 26)⟩,
       ⟨(some 27), none, .extract (.tmp 20) 0⟩,
       ⟨(some 28), none, .extract (.tmp 20) 1⟩,
       ⟨(some 5), none, .mov (.tmp 27)⟩,
       ⟨(some 6), none, .mov (.tmp 28)⟩] [])
     (.seq (.seq (.region [⟨(some 29), none, .mov (.tmp 5)⟩,
         ⟨(some 30), none, .bin .gtr (.one .int) (.tmp 29) (.const (.int .u64 0))⟩,
         ⟨(some 31), none, .mov (.tmp 30)⟩,
         ⟨(some 32), (some (31, false)), .mov (.tmp 6)⟩,
         ⟨(some 33), (some (31, false)), .bin .gtr (.one .int) (.tmp 32) (.const (.int .u64 9223372036854775807))⟩,
         ⟨(some 34), none, .pick (.tmp 31) (.const (.bool true)) (.tmp 33)⟩] [])
       (.cond (.tmp 34) (.region [⟨(some 35), none, .mkIface 9 (.const (.str [115, 116, 114, 105, 110, 103, 115, 58, 32, 82, 101, 112, 101, 97, 116, 32, 111, 117, 116, 112, 117, 116, 32, 108, 101, 110, 103, 116, 104, 32, 111, 118, 101, 114, 102, 108, 111, 119]))⟩,
          ⟨none, none, .fail⟩] [])
        (.skip)))
      (.seq (.region [⟨(some 36), none, .mov (.tmp 6)⟩,
         ⟨(some 37), none, .convInt .i64 (.tmp 36)⟩,
         ⟨(some 7), none, .mov (.tmp 37)⟩] [])
       (.seq (.seq (.region [⟨(some 38), none, .mov (.tmp 0)⟩,
           ⟨(some 39), none, .len (.one .str) (.tmp 38)⟩,
           ⟨(some 40), none, .bin .eql (.one .int) (.tmp 39) (.const (.int .i64 0))⟩] [])
         (.cond (.tmp 40) (.seq (.region [⟨(some 4), none, .mov (.const (.str []))⟩] [])
           (.ret))
          (.skip)))
        (.seq (.seq (.region [⟨(some 41), none, .mov (.tmp 0)⟩,
            ⟨(some 42), none, .indexStr (.tmp 41) (.const (.int .i64 0))⟩] [])
          (.block 1 (.seq (.seq (.region [⟨(some 44), none, .bin .eql (.one .int) (.tmp 42) (.const (.int .u8 32))⟩,
               ⟨(some 43), none, .mov (.tmp 44)⟩] [])
             (.cond (.tmp 43) (.skip)
              (.seq (.region [⟨(some 45), none, .bin .eql (.one .int) (.tmp 42) (.const (.int .u8 45))⟩,
                 ⟨(some 43), none, .mov (.tmp 45)⟩] [])
               (.cond (.tmp 43) (.skip)
                (.seq (.region [⟨(some 46), none, .bin .eql (.one .int) (.tmp 42) (.const (.int .u8 48))⟩,
                   ⟨(some 43), none, .mov (.tmp 46)⟩] [])
                 (.cond (.tmp 43) (.skip)
                  (.seq (.region [⟨(some 47), none, .bin .eql (.one .int) (.tmp 42) (.const (.int .u8 61))⟩,
                     ⟨(some 43), none, .mov (.tmp 47)⟩] [])
                   (.cond (.tmp 43) (.skip)
                    (.region [⟨(some 48), none, .bin .eql (.one .int) (.tmp 42) (.const (.int .u8 9))⟩,
                      ⟨(some 43), none, .mov (.tmp 48)⟩] [])))))))))
            (.cond (.tmp 43) (.block 2 (.seq (.region [⟨(some 50), none, .mov (.tmp 7)⟩,
                 ⟨(some 51), none, .bin .leq (.one .int) (.tmp 50) (.const (.int .i64 128))⟩,
                 ⟨(some 52), none, .mov (.tmp 51)⟩,
                 ⟨(some 53), (some (52, true)), .mov (.tmp 0)⟩,
                 ⟨(some 54), (some (52, true)), .call (.const (.func (.func 117) [])) [(.const (.str [32, 32, 32, 32, 32, 32, 32, 32, 32, 32, 32, 32, 32, 32, 32, 32, 32, 32, 32, 32, 32, 32, 32, 32, 32, 32, 32, 32, 32, 32, 32, 32, 32, 32, 32, 32, 32, 32, 32, 32, 32, 32, 32, 32, 32, 32, 32, 32, 32, 32, 32, 32, 32, 32, 32, 32, 32, 32, 32, 32, 32, 32, 32, 32, 32, 32, 32, 32, 32, 32, 32, 32, 32, 32, 32, 32, 32, 32, 32, 32, 32, 32, 32, 32, 32, 32, 32, 32, 32, 32, 32, 32, 32, 32, 32, 32, 32, 32, 32, 32, 32, 32, 32, 32, 32, 32, 32, 32, 32, 32, 32, 32, 32, 32, 32, 32, 32, 32, 32, 32, 32, 32, 32, 32, 32, 32, 32, 32])), (.tmp 53)]⟩,
                 ⟨(some 55), none, .pick (.tmp 52) (.tmp 54) (.const (.bool false))⟩,
                 ⟨(some 49), none, .mov (.tmp 55)⟩] [])
               (.cond (.tmp 49) (.seq (.region [⟨(some 56), none, .mov (.tmp 7)⟩,
                   ⟨(some 57), none, .sliceStr (.const (.str [32, 32, 32, 32, 32, 32, 32, 32, 32, 32, 32, 32, 32, 32, 32, 32, 32, 32, 32, 32, 32, 32, 32, 32, 32, 32, 32, 32, 32, 32, 32, 32, 32, 32, 32, 32, 32, 32, 32, 32, 32, 32, 32, 32, 32, 32, 32, 32, 32, 32, 32, 32, 32, 32, 32, 32, 32, 32, 32, 32, 32, 32, 32, 32, 32, 32, 32, 32, 32, 32, 32, 32, 32, 32, 32, 32, 32, 32, 32, 32, 32, 32, 32, 32, 32, 32, 32, 32, 32, 32, 32, 32, 32, 32, 32, 32, 32, 32, 32, 32, 32, 32, 32, 32, 32, 32, 32, 32, 32, 32, 32, 32, 32, 32, 32, 32, 32, 32, 32, 32, 32, 32, 32, 32, 32, 32, 32, 32])) none (some (.tmp 56))⟩,
                   ⟨(some 4), none, .mov (.tmp 57)⟩] [])
                 (.ret))
                (.seq (.region [⟨(some 59), none, .mov (.tmp 7)⟩,
                   ⟨(some 60), none, .bin .leq (.one .int) (.tmp 59) (.const (.int .i64 128))⟩,
                   ⟨(some 61), none, .mov (.tmp 60)⟩,
                   ⟨(some 62), (some (61, true)), .mov (.tmp 0)⟩,
                   ⟨(some 63), (some (61, true)), .call (.const (.func (.func 117) [])) [(.const (.str [45, 45, 45, 45, 45, 45, 45, 45, 45, 45, 45, 45, 45, 45, 45, 45, 45, 45, 45, 45, 45, 45, 45, 45, 45, 45, 45, 45, 45, 45, 45, 45, 45, 45, 45, 45, 45, 45, 45, 45, 45, 45, 45, 45, 45, 45, 45, 45, 45, 45, 45, 45, 45, 45, 45, 45, 45, 45, 45, 45, 45, 45, 45, 45, 45, 45, 45, 45, 45, 45, 45, 45, 45, 45, 45, 45, 45, 45, 45, 45, 45, 45, 45, 45, 45, 45, 45, 45, 45, 45, 45, 45, 45, 45, 45, 45, 45, 45, 45, 45, 45, 45, 45, 45, 45, 45, 45, 45, 45, 45, 45, 45, 45, 45, 45, 45, 45, 45, 45, 45, 45, 45, 45, 45, 45, 45, 45, 45])), (.tmp 62)]⟩,
                   ⟨(some 64), none, .pick (.tmp 61) (.tmp 63) (.const (.bool false))⟩,
                   ⟨(some 58), none, .mov (.tmp 64)⟩] [])
                 (.cond (.tmp 58) (.seq (.region [⟨(some 65), none, .mov (.tmp 7)⟩,
                     ⟨(some 66), none, .sliceStr (.const (.str [45, 45, 45, 45, 45, 45, 45, 45, 45, 45, 45, 45, 45, 45, 45, 45, 45, 45, 45, 45, 45, 45, 45, 45, 45, 45, 45, 45, 45, 45, 45, 45, 45, 45, 45, 45, 45, 45, 45, 45, 45, 45, 45, 45, 45, 45, 45, 45, 45, 45, 45, 45, 45, 45, 45, 45, 45, 45, 45, 45, 45, 45, 45, 45, 45, 45, 45, 45, 45, 45, 45, 45, 45, 45, 45, 45, 45, 45, 45, 45, 45, 45, 45, 45, 45, 45, 45, 45, 45, 45, 45, 45, 45, 45, 45, 45, 45, 45, 45, 45, 45, 45, 45, 45, 45, 45, 45, 45, 45, 45, 45, 45, 45, 45, 45, 45, 45, 45, 45, 45, 45, 45, 45, 45, 45, 45, 45, 45])) none (some (.tmp 65))⟩,
                     ⟨(some 4), none, .mov (.tmp 66)⟩] [])
                   (.ret))
                  (.seq (.region [⟨(some 68), none, .mov (.tmp 7)⟩,
                     ⟨(some 69), none, .bin .leq (.one .int) (.tmp 68) (.const (.int .i64 64))⟩,
                     ⟨(some 70), none, .mov (.tmp 69)⟩,
                     ⟨(some 71), (some (70, true)), .mov (.tmp 0)⟩,
                     ⟨(some 72), (some (70, true)), .call (.const (.func (.func 117) [])) [(.const (.str [48, 48, 48, 48, 48, 48, 48, 48, 48, 48, 48, 48, 48, 48, 48, 48, 48, 48, 48, 48, 48, 48, 48, 48, 48, 48, 48, 48, 48, 48, 48, 48, 48, 48, 48, 48, 48, 48, 48, 48, 48, 48, 48, 48, 48, 48, 48, 48, 48, 48, 48, 48, 48, 48, 48, 48, 48, 48, 48, 48, 48, 48, 48, 48])), (.tmp 71)]⟩,
                     ⟨(some 73), none, .pick (.tmp 70) (.tmp 72) (.const (.bool false))⟩,
                     ⟨(some 67), none, .mov (.tmp 73)⟩] [])
                   (.cond (.tmp 67) (.seq (.region [⟨(some 74), none, .mov (.tmp 7)⟩,
                       ⟨(some 75), none, .sliceStr (.const (.str [48, 48, 48, 48, 48, 48, 48, 48, 48, 48, 48, 48, 48, 48, 48, 48, 48, 48, 48, 48, 48, 48, 48, 48, 48, 48, 48, 48, 48, 48, 48, 48, 48, 48, 48, 48, 48, 48, 48, 48, 48, 48, 48, 48, 48, 48, 48, 48, 48, 48, 48, 48, 48, 48, 48, 48, 48, 48, 48, 48, 48, 48, 48, 48])) none (some (.tmp 74))⟩,
                       ⟨(some 4), none, .mov (.tmp 75)⟩] [])
                     (.ret))
                    (.seq (.region [⟨(some 77), none, .mov (.tmp 7)⟩,
                       ⟨(some 78), none, .bin .leq (.one .int) (.tmp 77) (.const (.int .i64 128))⟩,
                       ⟨(some 79), none, .mov (.tmp 78)⟩,
                       ⟨(some 80), (some (79, true)), .mov (.tmp 0)⟩,
                       ⟨(some 81), (some (79, true)), .call (.const (.func (.func 117) [])) [(.const (.str [61, 61, 61, 61, 61, 61, 61, 61, 61, 61, 61, 61, 61, 61, 61, 61, 61, 61, 61, 61, 61, 61, 61, 61, 61, 61, 61, 61, 61, 61, 61, 61, 61, 61, 61, 61, 61, 61, 61, 61, 61, 61, 61, 61, 61, 61, 61, 61, 61, 61, 61, 61, 61, 61, 61, 61, 61, 61, 61, 61, 61, 61, 61, 61, 61, 61, 61, 61, 61, 61, 61, 61, 61, 61, 61, 61, 61, 61, 61, 61, 61, 61, 61, 61, 61, 61, 61, 61, 61, 61, 61, 61, 61, 61, 61, 61, 61, 61, 61, 61, 61, 61, 61, 61, 61, 61, 61, 61, 61, 61, 61, 61, 61, 61, 61, 61, 61, 61, 61, 61, 61, 61, 61, 61, 61, 61, 61, 61])), (.tmp 80)]⟩,
                       ⟨(some 82), none, .pick (.tmp 79) (.tmp 81) (.const (.bool false))⟩,
                       ⟨(some 76), none, .mov (.tmp 82)⟩] [])
                     (.cond (.tmp 76) (.seq (.region [⟨(some 83), none, .mov (.tmp 7)⟩,
                         ⟨(some 84), none, .sliceStr (.const (.str [61, 61, 61, 61, 61, 61, 61, 61, 61, 61, 61, 61, 61, 61, 61, 61, 61, 61, 61, 61, 61, 61, 61, 61, 61, 61, 61, 61, 61, 61, 61, 61, 61, 61, 61, 61, 61, 61, 61, 61, 61, 61, 61, 61, 61, 61, 61, 61, 61, 61, 61, 61, 61, 61, 61, 61, 61, 61, 61, 61, 61, 61, 61, 61, 61, 61, 61, 61, 61, 61, 61, 61, 61, 61, 61, 61, 61, 61, 61, 61, 61, 61, 61, 61, 61, 61, 61, 61, 61, 61, 61, 61, 61, 61, 61, 61, 61, 61, 61, 61, 61, 61, 61, 61, 61, 61, 61, 61, 61, 61, 61, 61, 61, 61, 61, 61, 61, 61, 61, 61, 61, 61, 61, 61, 61, 61, 61, 61])) none (some (.tmp 83))⟩,
                         ⟨(some 4), none, .mov (.tmp 84)⟩] [])
                       (.ret))
                      (.seq (.region [⟨(some 86), none, .mov (.tmp 7)⟩,
                         ⟨(some 87), none, .bin .leq (.one .int) (.tmp 86) (.const (.int .i64 64))⟩,
                         ⟨(some 88), none, .mov (.tmp 87)⟩,
                         ⟨(some 89), (some (88, true)), .mov (.tmp 0)⟩,
                         ⟨(some 90), (some (88, true)), .call (.const (.func (.func 117) [])) [(.const (.str [9, 9, 9, 9, 9, 9, 9, 9, 9, 9, 9, 9, 9, 9, 9, 9, 9, 9, 9, 9, 9, 9, 9, 9, 9, 9, 9, 9, 9, 9, 9, 9, 9, 9, 9, 9, 9, 9, 9, 9, 9, 9, 9, 9, 9, 9, 9, 9, 9, 9, 9, 9, 9, 9, 9, 9, 9, 9, 9, 9, 9, 9, 9, 9])), (.tmp 89)]⟩,
                         ⟨(some 91), none, .pick (.tmp 88) (.tmp 90) (.const (.bool false))⟩,
                         ⟨(some 85), none, .mov (.tmp 91)⟩] [])
                       (.cond (.tmp 85) (.seq (.region [⟨(some 92), none, .mov (.tmp 7)⟩,
                           ⟨(some 93), none, .sliceStr (.const (.str [9, 9, 9, 9, 9, 9, 9, 9, 9, 9, 9, 9, 9, 9, 9, 9, 9, 9, 9, 9, 9, 9, 9, 9, 9, 9, 9, 9, 9, 9, 9, 9, 9, 9, 9, 9, 9, 9, 9, 9, 9, 9, 9, 9, 9, 9, 9, 9, 9, 9, 9, 9, 9, 9, 9, 9, 9, 9, 9, 9, 9, 9, 9, 9])) none (some (.tmp 92))⟩,
                           ⟨(some 4), none, .mov (.tmp 93)⟩] [])
                         (.ret))
                        (.skip))))))))))))
             (.skip)))))
         (.seq (.region [⟨(some 94), none, .mov (.tmp 7)⟩,
            ⟨(some 8), none, .mov (.tmp 94)⟩] [])
          (.seq (.seq (.region [⟨(some 95), none, .mov (.tmp 7)⟩,
              ⟨(some 96), none, .bin .gtr (.one .int) (.tmp 95) (.const (.int .i64 8192))⟩] [])
            (.cond (.tmp 96) (.seq (.region [⟨(some 97), none, .mov (.tmp 0)⟩,
                ⟨(some 98), none, .len (.one .str) (.tmp 97)⟩,
                ⟨(some 99), none, .bin .quo (.one .int) (.const (.int .i64 8192)) (.tmp 98)⟩,
                ⟨(some 100), none, .mov (.tmp 0)⟩,
                ⟨(some 101), none, .len (.one .str) (.tmp 100)⟩,
                ⟨(some 102), none, .bin .mul (.one .int) (.tmp 99) (.tmp 101)⟩,
                ⟨(some 8), none, .mov (.tmp 102)⟩] [])
              (.seq (.region [⟨(some 103), none, .mov (.tmp 8)⟩,
                 ⟨(some 104), none, .bin .eql (.one .int) (.tmp 103) (.const (.int .i64 0))⟩] [])
               (.cond (.tmp 104) (.region [⟨(some 105), none, .mov (.tmp 0)⟩,
                  ⟨(some 106), none, .len (.one .str) (.tmp 105)⟩,
                  ⟨(some 8), none, .mov (.tmp 106)⟩] [])
                (.skip))))
             (.skip)))
           (.seq (.region [⟨(some 9), none, .box 2 (.const (.agg [.nilptr, .nilslice]))⟩] [])
            (.seq (.region [⟨(some 107), none, .mov (.tmp 7)⟩,
               ⟨(some 108), none, .call (.const (.func (.func 118) [])) [(.tmp 9), (.tmp 107)]⟩] [])
             (.seq (.region [⟨(some 109), none, .mov (.tmp 0)⟩,
                ⟨(some 110), none, .call (.const (.func (.func 119) [])) [(.tmp 9), (.tmp 109)]⟩] [])
              (.seq (.block 3 (.seq (.keep [7, 8, 9])
                 (.loop b93_0)))
               (.seq (.region [⟨(some 124), none, .call (.const (.func (.func 121) [])) [(.tmp 9)]⟩,
                  ⟨(some 4), none, .mov (.tmp 124)⟩] [])
                (.ret)))))))))))))))⟩
end X
end Go.Proofs.YtkaigfcjejabfaaGreatDoor
