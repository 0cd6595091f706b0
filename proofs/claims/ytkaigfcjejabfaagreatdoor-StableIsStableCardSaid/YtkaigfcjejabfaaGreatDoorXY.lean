/- The engine's functions are the program's. No condition. MADE BY PROGRAM (xgen). -/
import Derived.Test.YtkaigfcjejabfaaGreatDoorXD
set_option maxRecDepth 100000
set_option linter.unusedVariables false
namespace Go.Proofs.YtkaigfcjejabfaaGreatDoor
open Go
namespace X
def h3 : Hints := ⟨fun r i => false, fun id => none, fun _ => none, fun id => bif Nat.beq id 0 then some [12, 67, 68, 69] else none⟩
theorem x3_ok (pr : Nat → List AV → Option AV) : compFunc Tryz.prog noG ⟨fnOf, modeOf, pr⟩ h3 3 = some x3 := by
  unfold compFunc
  rw [Tryz.func3]
  kernel_rfl
def h5 : Hints := ⟨fun r i => (Nat.beq r 13 && Nat.beq i 2), fun id => none, fun _ => none, fun id => bif Nat.beq id 0 then some [0, 2, 7, 13, 14, 15] else bif Nat.beq id 2 then some [0, 2, 7, 10, 13, 14, 15, 26, 27, 28] else none⟩
theorem x5_ok (pr : Nat → List AV → Option AV) : compFunc Tryz.prog noG ⟨fnOf, modeOf, pr⟩ h5 5 = some x5 := by
  unfold compFunc
  rw [Tryz.func5]
  kernel_rfl
def h6 : Hints := ⟨fun r i => false, fun id => none, fun _ => none, fun id => bif Nat.beq id 0 then some [1, 7, 8, 9, 10, 35, 36] else bif Nat.beq id 2 then some [1, 7, 8, 9, 10] else bif Nat.beq id 5 then some [1, 16] else none⟩
theorem x6_ok (pr : Nat → List AV → Option AV) : compFunc Tryz.prog noG ⟨fnOf, modeOf, pr⟩ h6 6 = some x6 := by
  unfold compFunc
  rw [Tryz.func6]
  kernel_rfl
def h7 : Hints := ⟨fun r i => false, fun id => none, fun _ => none, fun id => bif Nat.beq id 0 then some [0, 2, 9, 10, 11, 12, 42, 43, 44] else bif Nat.beq id 3 then some [10, 11, 12, 19, 120, 121, 122] else bif Nat.beq id 5 then some [10, 11, 12, 19, 21, 120, 121, 122, 127, 128, 129] else none⟩
theorem x7_ok (pr : Nat → List AV → Option AV) : compFunc Tryz.prog noG ⟨fnOf, modeOf, pr⟩ h7 7 = some x7 := by
  unfold compFunc
  rw [Tryz.func7]
  kernel_rfl
def h8 : Hints := ⟨fun r i => false, fun id => none, fun _ => none, fun id => bif Nat.beq id 0 then some [5, 6, 7] else none⟩
theorem x8_ok (pr : Nat → List AV → Option AV) : compFunc Tryz.prog noG ⟨fnOf, modeOf, pr⟩ h8 8 = some x8 := by
  unfold compFunc
  rw [Tryz.func8]
  kernel_rfl
def h9 : Hints := ⟨fun r i => false, fun id => none, fun _ => none, fun id => none⟩
theorem x9_ok (pr : Nat → List AV → Option AV) : compFunc Tryz.prog noG ⟨fnOf, modeOf, pr⟩ h9 9 = some x9 := by
  unfold compFunc
  rw [Tryz.func9]
  kernel_rfl
def h10 : Hints := ⟨fun r i => false, fun id => none, fun _ => none, fun id => none⟩
theorem x10_ok (pr : Nat → List AV → Option AV) : compFunc Tryz.prog noG ⟨fnOf, modeOf, pr⟩ h10 10 = some x10 := by
  unfold compFunc
  rw [Tryz.func10]
  kernel_rfl
def h11 : Hints := ⟨fun r i => false, fun id => none, fun _ => none, fun id => none⟩
theorem x11_ok (pr : Nat → List AV → Option AV) : compFunc Tryz.prog noG ⟨fnOf, modeOf, pr⟩ h11 11 = some x11 := by
  unfold compFunc
  rw [Tryz.func11]
  kernel_rfl
def h12 : Hints := ⟨fun r i => false, fun id => none, fun _ => none, fun id => none⟩
theorem x12_ok (pr : Nat → List AV → Option AV) : compFunc Tryz.prog noG ⟨fnOf, modeOf, pr⟩ h12 12 = some x12 := by
  unfold compFunc
  rw [Tryz.func12]
  kernel_rfl
def h23 : Hints := ⟨fun r i => false, fun id => none, fun _ => none, fun id => none⟩
theorem x23_ok (pr : Nat → List AV → Option AV) : compFunc Tryz.prog noG ⟨fnOf, modeOf, pr⟩ h23 23 = some x23 := by
  unfold compFunc
  rw [Tryz.func23]
  kernel_rfl
def h24 : Hints := ⟨fun r i => false, fun id => none, fun _ => none, fun id => bif Nat.beq id 0 then some [0, 1, 5, 9, 10] else bif Nat.beq id 2 then some [0, 5, 7] else none⟩
theorem x24_ok (pr : Nat → List AV → Option AV) : compFunc Tryz.prog noG ⟨fnOf, modeOf, pr⟩ h24 24 = some x24 := by
  unfold compFunc
  rw [Tryz.func24]
  kernel_rfl
def h25 : Hints := ⟨fun r i => false, fun id => none, fun _ => none, fun id => bif Nat.beq id 0 then some [5, 6, 7] else none⟩
theorem x25_ok (pr : Nat → List AV → Option AV) : compFunc Tryz.prog noG ⟨fnOf, modeOf, pr⟩ h25 25 = some x25 := by
  unfold compFunc
  rw [Tryz.func25]
  kernel_rfl
def h26 : Hints := ⟨fun r i => false, fun id => none, fun _ => none, fun id => bif Nat.beq id 0 then some [0, 10, 11, 12] else bif Nat.beq id 3 then some [0, 4, 10, 11, 12, 42, 43, 44] else none⟩
theorem x26_ok (pr : Nat → List AV → Option AV) : compFunc Tryz.prog noG ⟨fnOf, modeOf, pr⟩ h26 26 = some x26 := by
  unfold compFunc
  rw [Tryz.func26]
  kernel_rfl
def h27 : Hints := ⟨fun r i => false, fun id => none, fun _ => none, fun id => bif Nat.beq id 0 then some [3, 7, 8, 9] else none⟩
theorem x27_ok (pr : Nat → List AV → Option AV) : compFunc Tryz.prog noG ⟨fnOf, modeOf, pr⟩ h27 27 = some x27 := by
  unfold compFunc
  rw [Tryz.func27]
  kernel_rfl
def h28 : Hints := ⟨fun r i => false, fun id => none, fun _ => none, fun id => none⟩
theorem x28_ok (pr : Nat → List AV → Option AV) : compFunc Tryz.prog noG ⟨fnOf, modeOf, pr⟩ h28 28 = some x28 := by
  unfold compFunc
  rw [Tryz.func28]
  kernel_rfl
def h29 : Hints := ⟨fun r i => false, fun id => none, fun _ => none, fun id => none⟩
theorem x29_ok (pr : Nat → List AV → Option AV) : compFunc Tryz.prog noG ⟨fnOf, modeOf, pr⟩ h29 29 = some x29 := by
  unfold compFunc
  rw [Tryz.func29]
  kernel_rfl
def h30 : Hints := ⟨fun r i => false, fun id => none, fun _ => none, fun id => none⟩
theorem x30_ok (pr : Nat → List AV → Option AV) : compFunc Tryz.prog noG ⟨fnOf, modeOf, pr⟩ h30 30 = some x30 := by
  unfold compFunc
  rw [Tryz.func30]
  kernel_rfl
def h31 : Hints := ⟨fun r i => false, fun id => none, fun _ => none, fun id => none⟩
theorem x31_ok (pr : Nat → List AV → Option AV) : compFunc Tryz.prog noG ⟨fnOf, modeOf, pr⟩ h31 31 = some x31 := by
  unfold compFunc
  rw [Tryz.func31]
  kernel_rfl
def h32 : Hints := ⟨fun r i => false, fun id => none, fun _ => none, fun id => none⟩
theorem x32_ok (pr : Nat → List AV → Option AV) : compFunc Tryz.prog noG ⟨fnOf, modeOf, pr⟩ h32 32 = some x32 := by
  unfold compFunc
  rw [Tryz.func32]
  kernel_rfl
def h33 : Hints := ⟨fun r i => false, fun id => none, fun _ => none, fun id => none⟩
theorem x33_ok (pr : Nat → List AV → Option AV) : compFunc Tryz.prog noG ⟨fnOf, modeOf, pr⟩ h33 33 = some x33 := by
  unfold compFunc
  rw [Tryz.func33]
  kernel_rfl
def h34 : Hints := ⟨fun r i => false, fun id => none, fun _ => none, fun id => bif Nat.beq id 0 then some [0, 1, 7, 8] else none⟩
theorem x34_ok (pr : Nat → List AV → Option AV) : compFunc Tryz.prog noG ⟨fnOf, modeOf, pr⟩ h34 34 = some x34 := by
  unfold compFunc
  rw [Tryz.func34]
  kernel_rfl
def h35 : Hints := ⟨fun r i => (Nat.beq r 1 && Nat.beq i 1), fun id => none, fun _ => none, fun id => bif Nat.beq id 0 then some [1, 5, 6] else none⟩
theorem x35_ok (pr : Nat → List AV → Option AV) : compFunc Tryz.prog noG ⟨fnOf, modeOf, pr⟩ h35 35 = some x35 := by
  unfold compFunc
  rw [Tryz.func35]
  kernel_rfl
def h36 : Hints := ⟨fun r i => false, fun id => none, fun _ => none, fun id => none⟩
theorem x36_ok (pr : Nat → List AV → Option AV) : compFunc Tryz.prog noG ⟨fnOf, modeOf, pr⟩ h36 36 = some x36 := by
  unfold compFunc
  rw [Tryz.func36]
  kernel_rfl
def h37 : Hints := ⟨fun r i => false, fun id => none, fun _ => none, fun id => none⟩
theorem x37_ok (pr : Nat → List AV → Option AV) : compFunc Tryz.prog noG ⟨fnOf, modeOf, pr⟩ h37 37 = some x37 := by
  unfold compFunc
  rw [Tryz.func37]
  kernel_rfl
def h38 : Hints := ⟨fun r i => false, fun id => none, fun _ => none, fun id => none⟩
theorem x38_ok (pr : Nat → List AV → Option AV) : compFunc Tryz.prog noG ⟨fnOf, modeOf, pr⟩ h38 38 = some x38 := by
  unfold compFunc
  rw [Tryz.func38]
  kernel_rfl
def h40 : Hints := ⟨fun r i => false, fun id => none, fun _ => none, fun id => bif Nat.beq id 0 then some [0, 8, 9, 10] else none⟩
theorem x40_ok (pr : Nat → List AV → Option AV) : compFunc Tryz.prog noG ⟨fnOf, modeOf, pr⟩ h40 40 = some x40 := by
  unfold compFunc
  rw [Tryz.func40]
  kernel_rfl
def h48 : Hints := ⟨fun r i => false, fun id => bif Nat.beq id 3 then some [0, 1, 2, 3, 4, 5, 9, 10, 11, 12, 6, 7, 13, 14, 8, 15, 16, 17, 18, 19, 20, 21] else none, fun _ => none, fun id => bif Nat.beq id 0 then some [3, 46, 47, 48] else bif Nat.beq id 2 then some [3, 93, 94] else none⟩
theorem x48_ok (pr : Nat → List AV → Option AV) : compFunc Tryz.prog noG ⟨fnOf, modeOf, pr⟩ h48 48 = some x48 := by
  unfold compFunc
  rw [Tryz.func48]
  kernel_rfl
def h49 : Hints := ⟨fun r i => false, fun id => none, fun _ => none, fun id => none⟩
theorem x49_ok (pr : Nat → List AV → Option AV) : compFunc Tryz.prog noG ⟨fnOf, modeOf, pr⟩ h49 49 = some x49 := by
  unfold compFunc
  rw [Tryz.func49]
  kernel_rfl
def h50 : Hints := ⟨fun r i => false, fun id => none, fun _ => none, fun id => bif Nat.beq id 0 then some [0, 23, 24] else none⟩
theorem x50_ok (pr : Nat → List AV → Option AV) : compFunc Tryz.prog noG ⟨fnOf, modeOf, pr⟩ h50 50 = some x50 := by
  unfold compFunc
  rw [Tryz.func50]
  kernel_rfl
def h51 : Hints := ⟨fun r i => false, fun id => none, fun _ => none, fun id => bif Nat.beq id 0 then some [0, 1, 7, 8] else none⟩
theorem x51_ok (pr : Nat → List AV → Option AV) : compFunc Tryz.prog noG ⟨fnOf, modeOf, pr⟩ h51 51 = some x51 := by
  unfold compFunc
  rw [Tryz.func51]
  kernel_rfl
def h52 : Hints := ⟨fun r i => false, fun id => none, fun _ => none, fun id => bif Nat.beq id 0 then some [0, 1, 2, 3, 4, 10, 11] else none⟩
theorem x52_ok (pr : Nat → List AV → Option AV) : compFunc Tryz.prog noG ⟨fnOf, modeOf, pr⟩ h52 52 = some x52 := by
  unfold compFunc
  rw [Tryz.func52]
  kernel_rfl
def h53 : Hints := ⟨fun r i => false, fun id => none, fun _ => none, fun id => none⟩
theorem x53_ok (pr : Nat → List AV → Option AV) : compFunc Tryz.prog noG ⟨fnOf, modeOf, pr⟩ h53 53 = some x53 := by
  unfold compFunc
  rw [Tryz.func53]
  kernel_rfl
def h54 : Hints := ⟨fun r i => false, fun id => none, fun _ => none, fun id => none⟩
theorem x54_ok (pr : Nat → List AV → Option AV) : compFunc Tryz.prog noG ⟨fnOf, modeOf, pr⟩ h54 54 = some x54 := by
  unfold compFunc
  rw [Tryz.func54]
  kernel_rfl
def h55 : Hints := ⟨fun r i => false, fun id => none, fun _ => none, fun id => bif Nat.beq id 0 then some [0, 9, 10, 11] else none⟩
theorem x55_ok (pr : Nat → List AV → Option AV) : compFunc Tryz.prog noG ⟨fnOf, modeOf, pr⟩ h55 55 = some x55 := by
  unfold compFunc
  rw [Tryz.func55]
  kernel_rfl
def h56 : Hints := ⟨fun r i => (Nat.beq r 11 && Nat.beq i 29) || (Nat.beq r 11 && Nat.beq i 35), fun id => none, fun _ => none, fun id => none⟩
theorem x56_ok (pr : Nat → List AV → Option AV) : compFunc Tryz.prog noG ⟨fnOf, modeOf, pr⟩ h56 56 = some x56 := by
  unfold compFunc
  rw [Tryz.func56]
  kernel_rfl
def h57 : Hints := ⟨fun r i => false, fun id => none, fun _ => none, fun id => bif Nat.beq id 0 then some [3, 9, 10, 11] else none⟩
theorem x57_ok (pr : Nat → List AV → Option AV) : compFunc Tryz.prog noG ⟨fnOf, modeOf, pr⟩ h57 57 = some x57 := by
  unfold compFunc
  rw [Tryz.func57]
  kernel_rfl
def h58 : Hints := ⟨fun r i => false, fun id => none, fun _ => none, fun id => bif Nat.beq id 0 then some [0, 8, 9, 10] else none⟩
theorem x58_ok (pr : Nat → List AV → Option AV) : compFunc Tryz.prog noG ⟨fnOf, modeOf, pr⟩ h58 58 = some x58 := by
  unfold compFunc
  rw [Tryz.func58]
  kernel_rfl
def h59 : Hints := ⟨fun r i => false, fun id => none, fun _ => none, fun id => bif Nat.beq id 0 then some [4, 5, 9, 10, 11] else none⟩
theorem x59_ok (pr : Nat → List AV → Option AV) : compFunc Tryz.prog noG ⟨fnOf, modeOf, pr⟩ h59 59 = some x59 := by
  unfold compFunc
  rw [Tryz.func59]
  kernel_rfl
def h60 : Hints := ⟨fun r i => false, fun id => none, fun _ => none, fun id => bif Nat.beq id 0 then some [0, 8, 9, 10] else none⟩
theorem x60_ok (pr : Nat → List AV → Option AV) : compFunc Tryz.prog noG ⟨fnOf, modeOf, pr⟩ h60 60 = some x60 := by
  unfold compFunc
  rw [Tryz.func60]
  kernel_rfl
def h61 : Hints := ⟨fun r i => false, fun id => none, fun _ => none, fun id => none⟩
theorem x61_ok (pr : Nat → List AV → Option AV) : compFunc Tryz.prog noG ⟨fnOf, modeOf, pr⟩ h61 61 = some x61 := by
  unfold compFunc
  rw [Tryz.func61]
  kernel_rfl
def h62 : Hints := ⟨fun r i => false, fun id => none, fun _ => none, fun id => none⟩
theorem x62_ok (pr : Nat → List AV → Option AV) : compFunc Tryz.prog noG ⟨fnOf, modeOf, pr⟩ h62 62 = some x62 := by
  unfold compFunc
  rw [Tryz.func62]
  kernel_rfl
def h63 : Hints := ⟨fun r i => false, fun id => none, fun _ => none, fun id => bif Nat.beq id 0 then some [2, 3, 7, 17, 18, 19] else none⟩
theorem x63_ok (pr : Nat → List AV → Option AV) : compFunc Tryz.prog noG ⟨fnOf, modeOf, pr⟩ h63 63 = some x63 := by
  unfold compFunc
  rw [Tryz.func63]
  kernel_rfl
def h64 : Hints := ⟨fun r i => false, fun id => none, fun _ => none, fun id => none⟩
theorem x64_ok (pr : Nat → List AV → Option AV) : compFunc Tryz.prog noG ⟨fnOf, modeOf, pr⟩ h64 64 = some x64 := by
  unfold compFunc
  rw [Tryz.func64]
  kernel_rfl
def h65 : Hints := ⟨fun r i => false, fun id => none, fun _ => none, fun id => none⟩
theorem x65_ok (pr : Nat → List AV → Option AV) : compFunc Tryz.prog noG ⟨fnOf, modeOf, pr⟩ h65 65 = some x65 := by
  unfold compFunc
  rw [Tryz.func65]
  kernel_rfl
def h66 : Hints := ⟨fun r i => false, fun id => none, fun _ => none, fun id => none⟩
theorem x66_ok (pr : Nat → List AV → Option AV) : compFunc Tryz.prog noG ⟨fnOf, modeOf, pr⟩ h66 66 = some x66 := by
  unfold compFunc
  rw [Tryz.func66]
  kernel_rfl
def h67 : Hints := ⟨fun r i => false, fun id => none, fun _ => none, fun id => none⟩
theorem x67_ok (pr : Nat → List AV → Option AV) : compFunc Tryz.prog noG ⟨fnOf, modeOf, pr⟩ h67 67 = some x67 := by
  unfold compFunc
  rw [Tryz.func67]
  kernel_rfl
def h68 : Hints := ⟨fun r i => false, fun id => none, fun _ => none, fun id => none⟩
theorem x68_ok (pr : Nat → List AV → Option AV) : compFunc Tryz.prog noG ⟨fnOf, modeOf, pr⟩ h68 68 = some x68 := by
  unfold compFunc
  rw [Tryz.func68]
  kernel_rfl
def h69 : Hints := ⟨fun r i => false, fun id => none, fun _ => none, fun id => bif Nat.beq id 0 then some [0, 1, 6, 7, 8] else none⟩
theorem x69_ok (pr : Nat → List AV → Option AV) : compFunc Tryz.prog noG ⟨fnOf, modeOf, pr⟩ h69 69 = some x69 := by
  unfold compFunc
  rw [Tryz.func69]
  kernel_rfl
def h73 : Hints := ⟨fun r i => false, fun id => none, fun _ => none, fun id => bif Nat.beq id 0 then some [7, 8] else none⟩
theorem x73_ok (pr : Nat → List AV → Option AV) : compFunc Tryz.prog noG ⟨fnOf, modeOf, pr⟩ h73 73 = some x73 := by
  unfold compFunc
  rw [Tryz.func73]
  kernel_rfl
def h74 : Hints := ⟨fun r i => false, fun id => none, fun _ => none, fun id => bif Nat.beq id 0 then some [0, 1, 2, 15, 16, 17] else none⟩
theorem x74_ok (pr : Nat → List AV → Option AV) : compFunc Tryz.prog noG ⟨fnOf, modeOf, pr⟩ h74 74 = some x74 := by
  unfold compFunc
  rw [Tryz.func74]
  kernel_rfl
def h75 : Hints := ⟨fun r i => false, fun id => none, fun _ => none, fun id => none⟩
theorem x75_ok (pr : Nat → List AV → Option AV) : compFunc Tryz.prog noG ⟨fnOf, modeOf, pr⟩ h75 75 = some x75 := by
  unfold compFunc
  rw [Tryz.func75]
  kernel_rfl
def h76 : Hints := ⟨fun r i => false, fun id => none, fun _ => none, fun id => bif Nat.beq id 0 then some [0, 1, 2, 3, 8] else bif Nat.beq id 2 then some [0, 1, 2, 3, 8, 9] else none⟩
theorem x76_ok (pr : Nat → List AV → Option AV) : compFunc Tryz.prog noG ⟨fnOf, modeOf, pr⟩ h76 76 = some x76 := by
  unfold compFunc
  rw [Tryz.func76]
  kernel_rfl
def h77 : Hints := ⟨fun r i => false, fun id => none, fun _ => none, fun id => bif Nat.beq id 0 then some [0, 3, 8, 9, 10, 11] else bif Nat.beq id 2 then some [0, 3, 8, 9, 12] else none⟩
theorem x77_ok (pr : Nat → List AV → Option AV) : compFunc Tryz.prog noG ⟨fnOf, modeOf, pr⟩ h77 77 = some x77 := by
  unfold compFunc
  rw [Tryz.func77]
  kernel_rfl
def h78 : Hints := ⟨fun r i => false, fun id => none, fun _ => none, fun id => bif Nat.beq id 0 then some [0, 1, 8, 9, 10, 11] else none⟩
theorem x78_ok (pr : Nat → List AV → Option AV) : compFunc Tryz.prog noG ⟨fnOf, modeOf, pr⟩ h78 78 = some x78 := by
  unfold compFunc
  rw [Tryz.func78]
  kernel_rfl
def h79 : Hints := ⟨fun r i => false, fun id => none, fun _ => none, fun id => none⟩
theorem x79_ok (pr : Nat → List AV → Option AV) : compFunc Tryz.prog noG ⟨fnOf, modeOf, pr⟩ h79 79 = some x79 := by
  unfold compFunc
  rw [Tryz.func79]
  kernel_rfl
def h80 : Hints := ⟨fun r i => false, fun id => none, fun _ => none, fun id => bif Nat.beq id 0 then some [0, 8, 9] else none⟩
theorem x80_ok (pr : Nat → List AV → Option AV) : compFunc Tryz.prog noG ⟨fnOf, modeOf, pr⟩ h80 80 = some x80 := by
  unfold compFunc
  rw [Tryz.func80]
  kernel_rfl
def h81 : Hints := ⟨fun r i => false, fun id => none, fun _ => none, fun id => bif Nat.beq id 0 then some [0, 1, 2, 3, 9, 10] else bif Nat.beq id 2 then some [0, 1, 2, 3, 9, 10] else bif Nat.beq id 4 then some [0, 1, 2, 3, 9, 10, 11] else bif Nat.beq id 6 then some [0, 1, 2, 3, 9, 10, 12] else none⟩
theorem x81_ok (pr : Nat → List AV → Option AV) : compFunc Tryz.prog noG ⟨fnOf, modeOf, pr⟩ h81 81 = some x81 := by
  unfold compFunc
  rw [Tryz.func81]
  kernel_rfl
def h82 : Hints := ⟨fun r i => false, fun id => none, fun _ => none, fun id => bif Nat.beq id 0 then some [0, 1, 4, 11, 12] else bif Nat.beq id 2 then some [0, 1, 4, 11, 12] else bif Nat.beq id 4 then some [0, 1, 4, 11, 12] else none⟩
theorem x82_ok (pr : Nat → List AV → Option AV) : compFunc Tryz.prog noG ⟨fnOf, modeOf, pr⟩ h82 82 = some x82 := by
  unfold compFunc
  rw [Tryz.func82]
  kernel_rfl
def h83 : Hints := ⟨fun r i => false, fun id => none, fun _ => none, fun id => bif Nat.beq id 0 then some [0, 1, 4, 12, 13] else bif Nat.beq id 2 then some [0, 1, 4, 12, 13] else bif Nat.beq id 4 then some [0, 1, 4, 12, 13] else bif Nat.beq id 6 then some [0, 1, 4, 12, 13] else bif Nat.beq id 8 then some [0, 1, 4, 12, 13] else none⟩
theorem x83_ok (pr : Nat → List AV → Option AV) : compFunc Tryz.prog noG ⟨fnOf, modeOf, pr⟩ h83 83 = some x83 := by
  unfold compFunc
  rw [Tryz.func83]
  kernel_rfl
def h84 : Hints := ⟨fun r i => false, fun id => none, fun _ => none, fun id => none⟩
theorem x84_ok (pr : Nat → List AV → Option AV) : compFunc Tryz.prog noG ⟨fnOf, modeOf, pr⟩ h84 84 = some x84 := by
  unfold compFunc
  rw [Tryz.func84]
  kernel_rfl
def h85 : Hints := ⟨fun r i => false, fun id => none, fun _ => none, fun id => none⟩
theorem x85_ok (pr : Nat → List AV → Option AV) : compFunc Tryz.prog noG ⟨fnOf, modeOf, pr⟩ h85 85 = some x85 := by
  unfold compFunc
  rw [Tryz.func85]
  kernel_rfl
def h87 : Hints := ⟨fun r i => false, fun id => none, fun _ => none, fun id => none⟩
theorem x87_ok (pr : Nat → List AV → Option AV) : compFunc Tryz.prog noG ⟨fnOf, modeOf, pr⟩ h87 87 = some x87 := by
  unfold compFunc
  rw [Tryz.func87]
  kernel_rfl
def h88 : Hints := ⟨fun r i => false, fun id => none, fun _ => none, fun id => bif Nat.beq id 0 then some [0, 1, 2, 8, 9, 10] else none⟩
theorem x88_ok (pr : Nat → List AV → Option AV) : compFunc Tryz.prog noG ⟨fnOf, modeOf, pr⟩ h88 88 = some x88 := by
  unfold compFunc
  rw [Tryz.func88]
  kernel_rfl
def h89 : Hints := ⟨fun r i => false, fun id => none, fun _ => none, fun id => none⟩
theorem x89_ok (pr : Nat → List AV → Option AV) : compFunc Tryz.prog noG ⟨fnOf, modeOf, pr⟩ h89 89 = some x89 := by
  unfold compFunc
  rw [Tryz.func89]
  kernel_rfl
def h90 : Hints := ⟨fun r i => false, fun id => none, fun _ => none, fun id => none⟩
theorem x90_ok (pr : Nat → List AV → Option AV) : compFunc Tryz.prog noG ⟨fnOf, modeOf, pr⟩ h90 90 = some x90 := by
  unfold compFunc
  rw [Tryz.func90]
  kernel_rfl
def h91 : Hints := ⟨fun r i => false, fun id => none, fun _ => none, fun id => none⟩
theorem x91_ok (pr : Nat → List AV → Option AV) : compFunc Tryz.prog noG ⟨fnOf, modeOf, pr⟩ h91 91 = some x91 := by
  unfold compFunc
  rw [Tryz.func91]
  kernel_rfl
def h92 : Hints := ⟨fun r i => false, fun id => none, fun _ => none, fun id => none⟩
theorem x92_ok (pr : Nat → List AV → Option AV) : compFunc Tryz.prog noG ⟨fnOf, modeOf, pr⟩ h92 92 = some x92 := by
  unfold compFunc
  rw [Tryz.func92]
  kernel_rfl
def h93 : Hints := ⟨fun r i => false, fun id => none, fun _ => none, fun id => bif Nat.beq id 3 then some [7, 8, 9] else none⟩
theorem x93_ok (pr : Nat → List AV → Option AV) : compFunc Tryz.prog noG ⟨fnOf, modeOf, pr⟩ h93 93 = some x93 := by
  unfold compFunc
  rw [Tryz.func93]
  kernel_rfl
def h94 : Hints := ⟨fun r i => false, fun id => none, fun _ => none, fun id => none⟩
theorem x94_ok (pr : Nat → List AV → Option AV) : compFunc Tryz.prog noG ⟨fnOf, modeOf, pr⟩ h94 94 = some x94 := by
  unfold compFunc
  rw [Tryz.func94]
  kernel_rfl
def h95 : Hints := ⟨fun r i => false, fun id => none, fun _ => none, fun id => bif Nat.beq id 0 then some [0, 1, 7, 8] else none⟩
theorem x95_ok (pr : Nat → List AV → Option AV) : compFunc Tryz.prog noG ⟨fnOf, modeOf, pr⟩ h95 95 = some x95 := by
  unfold compFunc
  rw [Tryz.func95]
  kernel_rfl
def h96 : Hints := ⟨fun r i => false, fun id => none, fun _ => none, fun id => none⟩
theorem x96_ok (pr : Nat → List AV → Option AV) : compFunc Tryz.prog noG ⟨fnOf, modeOf, pr⟩ h96 96 = some x96 := by
  unfold compFunc
  rw [Tryz.func96]
  kernel_rfl
def h97 : Hints := ⟨fun r i => false, fun id => none, fun _ => none, fun id => none⟩
theorem x97_ok (pr : Nat → List AV → Option AV) : compFunc Tryz.prog noG ⟨fnOf, modeOf, pr⟩ h97 97 = some x97 := by
  unfold compFunc
  rw [Tryz.func97]
  kernel_rfl
def h98 : Hints := ⟨fun r i => false, fun id => none, fun _ => none, fun id => bif Nat.beq id 0 then some [1, 5, 9, 10, 11] else none⟩
theorem x98_ok (pr : Nat → List AV → Option AV) : compFunc Tryz.prog noG ⟨fnOf, modeOf, pr⟩ h98 98 = some x98 := by
  unfold compFunc
  rw [Tryz.func98]
  kernel_rfl
def h99 : Hints := ⟨fun r i => false, fun id => none, fun _ => none, fun id => none⟩
theorem x99_ok (pr : Nat → List AV → Option AV) : compFunc Tryz.prog noG ⟨fnOf, modeOf, pr⟩ h99 99 = some x99 := by
  unfold compFunc
  rw [Tryz.func99]
  kernel_rfl
def h100 : Hints := ⟨fun r i => false, fun id => none, fun _ => none, fun id => bif Nat.beq id 0 then some [3, 6, 7, 8] else none⟩
theorem x100_ok (pr : Nat → List AV → Option AV) : compFunc Tryz.prog noG ⟨fnOf, modeOf, pr⟩ h100 100 = some x100 := by
  unfold compFunc
  rw [Tryz.func100]
  kernel_rfl
def h101 : Hints := ⟨fun r i => false, fun id => none, fun _ => none, fun id => bif Nat.beq id 0 then some [1, 5, 8, 9, 10] else none⟩
theorem x101_ok (pr : Nat → List AV → Option AV) : compFunc Tryz.prog noG ⟨fnOf, modeOf, pr⟩ h101 101 = some x101 := by
  unfold compFunc
  rw [Tryz.func101]
  kernel_rfl
def h102 : Hints := ⟨fun r i => false, fun id => none, fun _ => none, fun id => none⟩
theorem x102_ok (pr : Nat → List AV → Option AV) : compFunc Tryz.prog noG ⟨fnOf, modeOf, pr⟩ h102 102 = some x102 := by
  unfold compFunc
  rw [Tryz.func102]
  kernel_rfl
def h103 : Hints := ⟨fun r i => false, fun id => none, fun _ => none, fun id => none⟩
theorem x103_ok (pr : Nat → List AV → Option AV) : compFunc Tryz.prog noG ⟨fnOf, modeOf, pr⟩ h103 103 = some x103 := by
  unfold compFunc
  rw [Tryz.func103]
  kernel_rfl
def h104 : Hints := ⟨fun r i => false, fun id => none, fun _ => none, fun id => none⟩
theorem x104_ok (pr : Nat → List AV → Option AV) : compFunc Tryz.prog noG ⟨fnOf, modeOf, pr⟩ h104 104 = some x104 := by
  unfold compFunc
  rw [Tryz.func104]
  kernel_rfl
def h105 : Hints := ⟨fun r i => false, fun id => none, fun _ => none, fun id => none⟩
theorem x105_ok (pr : Nat → List AV → Option AV) : compFunc Tryz.prog noG ⟨fnOf, modeOf, pr⟩ h105 105 = some x105 := by
  unfold compFunc
  rw [Tryz.func105]
  kernel_rfl
def h107 : Hints := ⟨fun r i => false, fun id => none, fun _ => none, fun id => none⟩
theorem x107_ok (pr : Nat → List AV → Option AV) : compFunc Tryz.prog noG ⟨fnOf, modeOf, pr⟩ h107 107 = some x107 := by
  unfold compFunc
  rw [Tryz.func107]
  kernel_rfl
def h108 : Hints := ⟨fun r i => false, fun id => none, fun _ => none, fun id => bif Nat.beq id 0 then some [0, 2, 3, 4, 10] else none⟩
theorem x108_ok (pr : Nat → List AV → Option AV) : compFunc Tryz.prog noG ⟨fnOf, modeOf, pr⟩ h108 108 = some x108 := by
  unfold compFunc
  rw [Tryz.func108]
  kernel_rfl
def h109 : Hints := ⟨fun r i => false, fun id => none, fun _ => none, fun id => none⟩
theorem x109_ok (pr : Nat → List AV → Option AV) : compFunc Tryz.prog noG ⟨fnOf, modeOf, pr⟩ h109 109 = some x109 := by
  unfold compFunc
  rw [Tryz.func109]
  kernel_rfl
def h110 : Hints := ⟨fun r i => false, fun id => none, fun _ => none, fun id => none⟩
theorem x110_ok (pr : Nat → List AV → Option AV) : compFunc Tryz.prog noG ⟨fnOf, modeOf, pr⟩ h110 110 = some x110 := by
  unfold compFunc
  rw [Tryz.func110]
  kernel_rfl
def h111 : Hints := ⟨fun r i => false, fun id => none, fun _ => none, fun id => none⟩
theorem x111_ok (pr : Nat → List AV → Option AV) : compFunc Tryz.prog noG ⟨fnOf, modeOf, pr⟩ h111 111 = some x111 := by
  unfold compFunc
  rw [Tryz.func111]
  kernel_rfl
def h112 : Hints := ⟨fun r i => false, fun id => none, fun _ => none, fun id => none⟩
theorem x112_ok (pr : Nat → List AV → Option AV) : compFunc Tryz.prog noG ⟨fnOf, modeOf, pr⟩ h112 112 = some x112 := by
  unfold compFunc
  rw [Tryz.func112]
  kernel_rfl
def h113 : Hints := ⟨fun r i => false, fun id => none, fun _ => none, fun id => none⟩
theorem x113_ok (pr : Nat → List AV → Option AV) : compFunc Tryz.prog noG ⟨fnOf, modeOf, pr⟩ h113 113 = some x113 := by
  unfold compFunc
  rw [Tryz.func113]
  kernel_rfl
def h114 : Hints := ⟨fun r i => false, fun id => none, fun _ => none, fun id => bif Nat.beq id 0 then some [0, 8, 9, 10] else none⟩
theorem x114_ok (pr : Nat → List AV → Option AV) : compFunc Tryz.prog noG ⟨fnOf, modeOf, pr⟩ h114 114 = some x114 := by
  unfold compFunc
  rw [Tryz.func114]
  kernel_rfl
def h115 : Hints := ⟨fun r i => false, fun id => none, fun _ => none, fun id => none⟩
theorem x115_ok (pr : Nat → List AV → Option AV) : compFunc Tryz.prog noG ⟨fnOf, modeOf, pr⟩ h115 115 = some x115 := by
  unfold compFunc
  rw [Tryz.func115]
  kernel_rfl
def h116 : Hints := ⟨fun r i => false, fun id => none, fun _ => none, fun id => none⟩
theorem x116_ok (pr : Nat → List AV → Option AV) : compFunc Tryz.prog noG ⟨fnOf, modeOf, pr⟩ h116 116 = some x116 := by
  unfold compFunc
  rw [Tryz.func116]
  kernel_rfl
def h117 : Hints := ⟨fun r i => false, fun id => none, fun _ => none, fun id => none⟩
theorem x117_ok (pr : Nat → List AV → Option AV) : compFunc Tryz.prog noG ⟨fnOf, modeOf, pr⟩ h117 117 = some x117 := by
  unfold compFunc
  rw [Tryz.func117]
  kernel_rfl
def h119 : Hints := ⟨fun r i => false, fun id => none, fun _ => none, fun id => none⟩
theorem x119_ok (pr : Nat → List AV → Option AV) : compFunc Tryz.prog noG ⟨fnOf, modeOf, pr⟩ h119 119 = some x119 := by
  unfold compFunc
  rw [Tryz.func119]
  kernel_rfl
def h120 : Hints := ⟨fun r i => false, fun id => none, fun _ => none, fun id => none⟩
theorem x120_ok (pr : Nat → List AV → Option AV) : compFunc Tryz.prog noG ⟨fnOf, modeOf, pr⟩ h120 120 = some x120 := by
  unfold compFunc
  rw [Tryz.func120]
  kernel_rfl
def h122 : Hints := ⟨fun r i => false, fun id => none, fun _ => none, fun id => none⟩
theorem x122_ok (pr : Nat → List AV → Option AV) : compFunc Tryz.prog noG ⟨fnOf, modeOf, pr⟩ h122 122 = some x122 := by
  unfold compFunc
  rw [Tryz.func122]
  kernel_rfl
def h123 : Hints := ⟨fun r i => false, fun id => none, fun _ => none, fun id => bif Nat.beq id 0 then some [0, 1] else none⟩
theorem x123_ok (pr : Nat → List AV → Option AV) : compFunc Tryz.prog noG ⟨fnOf, modeOf, pr⟩ h123 123 = some x123 := by
  unfold compFunc
  rw [Tryz.func123]
  kernel_rfl
def h124 : Hints := ⟨fun r i => false, fun id => none, fun _ => none, fun id => none⟩
theorem x124_ok (pr : Nat → List AV → Option AV) : compFunc Tryz.prog noG ⟨fnOf, modeOf, pr⟩ h124 124 = some x124 := by
  unfold compFunc
  rw [Tryz.func124]
  kernel_rfl
def h125 : Hints := ⟨fun r i => false, fun id => none, fun _ => none, fun id => bif Nat.beq id 0 then some [0, 3] else bif Nat.beq id 2 then some [0, 3, 4, 5] else none⟩
theorem x125_ok (pr : Nat → List AV → Option AV) : compFunc Tryz.prog noG ⟨fnOf, modeOf, pr⟩ h125 125 = some x125 := by
  unfold compFunc
  rw [Tryz.func125]
  kernel_rfl
def h126 : Hints := ⟨fun r i => false, fun id => none, fun _ => none, fun id => none⟩
theorem x126_ok (pr : Nat → List AV → Option AV) : compFunc Tryz.prog noG ⟨fnOf, modeOf, pr⟩ h126 126 = some x126 := by
  unfold compFunc
  rw [Tryz.func126]
  kernel_rfl
def h127 : Hints := ⟨fun r i => false, fun id => none, fun _ => none, fun id => none⟩
theorem x127_ok (pr : Nat → List AV → Option AV) : compFunc Tryz.prog noG ⟨fnOf, modeOf, pr⟩ h127 127 = some x127 := by
  unfold compFunc
  rw [Tryz.func127]
  kernel_rfl
def h128 : Hints := ⟨fun r i => false, fun id => none, fun _ => none, fun id => none⟩
theorem x128_ok (pr : Nat → List AV → Option AV) : compFunc Tryz.prog noG ⟨fnOf, modeOf, pr⟩ h128 128 = some x128 := by
  unfold compFunc
  rw [Tryz.func128]
  kernel_rfl
def h129 : Hints := ⟨fun r i => false, fun id => none, fun _ => none, fun id => none⟩
theorem x129_ok (pr : Nat → List AV → Option AV) : compFunc Tryz.prog noG ⟨fnOf, modeOf, pr⟩ h129 129 = some x129 := by
  unfold compFunc
  rw [Tryz.func129]
  kernel_rfl
def h130 : Hints := ⟨fun r i => false, fun id => none, fun _ => none, fun id => none⟩
theorem x130_ok (pr : Nat → List AV → Option AV) : compFunc Tryz.prog noG ⟨fnOf, modeOf, pr⟩ h130 130 = some x130 := by
  unfold compFunc
  rw [Tryz.func130]
  kernel_rfl
def h131 : Hints := ⟨fun r i => false, fun id => none, fun _ => none, fun id => none⟩
theorem x131_ok (pr : Nat → List AV → Option AV) : compFunc Tryz.prog noG ⟨fnOf, modeOf, pr⟩ h131 131 = some x131 := by
  unfold compFunc
  rw [Tryz.func131]
  kernel_rfl
def h132 : Hints := ⟨fun r i => false, fun id => none, fun _ => none, fun id => none⟩
theorem x132_ok (pr : Nat → List AV → Option AV) : compFunc Tryz.prog noG ⟨fnOf, modeOf, pr⟩ h132 132 = some x132 := by
  unfold compFunc
  rw [Tryz.func132]
  kernel_rfl
def h133 : Hints := ⟨fun r i => false, fun id => none, fun _ => none, fun id => none⟩
theorem x133_ok (pr : Nat → List AV → Option AV) : compFunc Tryz.prog noG ⟨fnOf, modeOf, pr⟩ h133 133 = some x133 := by
  unfold compFunc
  rw [Tryz.func133]
  kernel_rfl
def h134 : Hints := ⟨fun r i => false, fun id => none, fun _ => none, fun id => none⟩
theorem x134_ok (pr : Nat → List AV → Option AV) : compFunc Tryz.prog noG ⟨fnOf, modeOf, pr⟩ h134 134 = some x134 := by
  unfold compFunc
  rw [Tryz.func134]
  kernel_rfl
def h136 : Hints := ⟨fun r i => false, fun id => none, fun _ => none, fun id => bif Nat.beq id 0 then some [0, 1, 2, 3, 8, 9] else none⟩
theorem x136_ok (pr : Nat → List AV → Option AV) : compFunc Tryz.prog noG ⟨fnOf, modeOf, pr⟩ h136 136 = some x136 := by
  unfold compFunc
  rw [Tryz.func136]
  kernel_rfl
def h137 : Hints := ⟨fun r i => false, fun id => none, fun _ => none, fun id => bif Nat.beq id 0 then some [0, 1, 7, 8] else none⟩
theorem x137_ok (pr : Nat → List AV → Option AV) : compFunc Tryz.prog noG ⟨fnOf, modeOf, pr⟩ h137 137 = some x137 := by
  unfold compFunc
  rw [Tryz.func137]
  kernel_rfl
def h138 : Hints := ⟨fun r i => false, fun id => none, fun _ => none, fun id => none⟩
theorem x138_ok (pr : Nat → List AV → Option AV) : compFunc Tryz.prog noG ⟨fnOf, modeOf, pr⟩ h138 138 = some x138 := by
  unfold compFunc
  rw [Tryz.func138]
  kernel_rfl
def h139 : Hints := ⟨fun r i => false, fun id => none, fun _ => none, fun id => none⟩
theorem x139_ok (pr : Nat → List AV → Option AV) : compFunc Tryz.prog noG ⟨fnOf, modeOf, pr⟩ h139 139 = some x139 := by
  unfold compFunc
  rw [Tryz.func139]
  kernel_rfl
def h140 : Hints := ⟨fun r i => false, fun id => none, fun _ => none, fun id => bif Nat.beq id 0 then some [0, 1, 4] else none⟩
theorem x140_ok (pr : Nat → List AV → Option AV) : compFunc Tryz.prog noG ⟨fnOf, modeOf, pr⟩ h140 140 = some x140 := by
  unfold compFunc
  rw [Tryz.func140]
  kernel_rfl
def h141 : Hints := ⟨fun r i => false, fun id => none, fun _ => none, fun id => bif Nat.beq id 0 then some [0, 1, 3, 4, 10, 11, 13, 14, 15, 16] else bif Nat.beq id 2 then some [0, 1, 3, 4, 10, 11, 13, 17] else none⟩
theorem x141_ok (pr : Nat → List AV → Option AV) : compFunc Tryz.prog noG ⟨fnOf, modeOf, pr⟩ h141 141 = some x141 := by
  unfold compFunc
  rw [Tryz.func141]
  kernel_rfl
def h144 : Hints := ⟨fun r i => false, fun id => none, fun _ => none, fun id => bif Nat.beq id 0 then some [0, 1, 2, 6] else bif Nat.beq id 2 then some [0, 1, 2, 6, 7] else none⟩
theorem x144_ok (pr : Nat → List AV → Option AV) : compFunc Tryz.prog noG ⟨fnOf, modeOf, pr⟩ h144 144 = some x144 := by
  unfold compFunc
  rw [Tryz.func144]
  kernel_rfl
def h145 : Hints := ⟨fun r i => false, fun id => none, fun _ => none, fun id => bif Nat.beq id 0 then some [0, 6, 7, 8, 9] else bif Nat.beq id 2 then some [0, 6, 7, 10] else none⟩
theorem x145_ok (pr : Nat → List AV → Option AV) : compFunc Tryz.prog noG ⟨fnOf, modeOf, pr⟩ h145 145 = some x145 := by
  unfold compFunc
  rw [Tryz.func145]
  kernel_rfl
def h146 : Hints := ⟨fun r i => false, fun id => none, fun _ => none, fun id => bif Nat.beq id 0 then some [0, 1, 6, 7, 8, 9] else none⟩
theorem x146_ok (pr : Nat → List AV → Option AV) : compFunc Tryz.prog noG ⟨fnOf, modeOf, pr⟩ h146 146 = some x146 := by
  unfold compFunc
  rw [Tryz.func146]
  kernel_rfl
def h147 : Hints := ⟨fun r i => false, fun id => none, fun _ => none, fun id => none⟩
theorem x147_ok (pr : Nat → List AV → Option AV) : compFunc Tryz.prog noG ⟨fnOf, modeOf, pr⟩ h147 147 = some x147 := by
  unfold compFunc
  rw [Tryz.func147]
  kernel_rfl
def h148 : Hints := ⟨fun r i => false, fun id => none, fun _ => none, fun id => bif Nat.beq id 0 then some [0, 6, 7] else none⟩
theorem x148_ok (pr : Nat → List AV → Option AV) : compFunc Tryz.prog noG ⟨fnOf, modeOf, pr⟩ h148 148 = some x148 := by
  unfold compFunc
  rw [Tryz.func148]
  kernel_rfl
def h149 : Hints := ⟨fun r i => false, fun id => none, fun _ => none, fun id => bif Nat.beq id 0 then some [0, 1, 2, 7, 8] else bif Nat.beq id 2 then some [0, 1, 2, 7, 8] else bif Nat.beq id 4 then some [0, 1, 2, 7, 8, 9] else bif Nat.beq id 6 then some [0, 1, 2, 7, 8, 10] else none⟩
theorem x149_ok (pr : Nat → List AV → Option AV) : compFunc Tryz.prog noG ⟨fnOf, modeOf, pr⟩ h149 149 = some x149 := by
  unfold compFunc
  rw [Tryz.func149]
  kernel_rfl
def h150 : Hints := ⟨fun r i => false, fun id => none, fun _ => none, fun id => bif Nat.beq id 0 then some [0, 1, 9, 10] else bif Nat.beq id 2 then some [0, 1, 9, 10] else bif Nat.beq id 4 then some [0, 1, 9, 10] else none⟩
theorem x150_ok (pr : Nat → List AV → Option AV) : compFunc Tryz.prog noG ⟨fnOf, modeOf, pr⟩ h150 150 = some x150 := by
  unfold compFunc
  rw [Tryz.func150]
  kernel_rfl
def h151 : Hints := ⟨fun r i => false, fun id => none, fun _ => none, fun id => bif Nat.beq id 0 then some [0, 1, 10, 11] else bif Nat.beq id 2 then some [0, 1, 10, 11] else bif Nat.beq id 4 then some [0, 1, 10, 11] else bif Nat.beq id 6 then some [0, 1, 10, 11] else bif Nat.beq id 8 then some [0, 1, 10, 11] else none⟩
theorem x151_ok (pr : Nat → List AV → Option AV) : compFunc Tryz.prog noG ⟨fnOf, modeOf, pr⟩ h151 151 = some x151 := by
  unfold compFunc
  rw [Tryz.func151]
  kernel_rfl
def h152 : Hints := ⟨fun r i => false, fun id => none, fun _ => none, fun id => none⟩
theorem x152_ok (pr : Nat → List AV → Option AV) : compFunc Tryz.prog noG ⟨fnOf, modeOf, pr⟩ h152 152 = some x152 := by
  unfold compFunc
  rw [Tryz.func152]
  kernel_rfl
def h153 : Hints := ⟨fun r i => false, fun id => none, fun _ => none, fun id => none⟩
theorem x153_ok (pr : Nat → List AV → Option AV) : compFunc Tryz.prog noG ⟨fnOf, modeOf, pr⟩ h153 153 = some x153 := by
  unfold compFunc
  rw [Tryz.func153]
  kernel_rfl
def h154 : Hints := ⟨fun r i => false, fun id => none, fun _ => none, fun id => none⟩
theorem x154_ok (pr : Nat → List AV → Option AV) : compFunc Tryz.prog noG ⟨fnOf, modeOf, pr⟩ h154 154 = some x154 := by
  unfold compFunc
  rw [Tryz.func154]
  kernel_rfl
def h155 : Hints := ⟨fun r i => false, fun id => none, fun _ => none, fun id => none⟩
theorem x155_ok (pr : Nat → List AV → Option AV) : compFunc Tryz.prog noG ⟨fnOf, modeOf, pr⟩ h155 155 = some x155 := by
  unfold compFunc
  rw [Tryz.func155]
  kernel_rfl
def h156 : Hints := ⟨fun r i => false, fun id => none, fun _ => none, fun id => bif Nat.beq id 0 then some [0, 2, 3, 8] else none⟩
theorem x156_ok (pr : Nat → List AV → Option AV) : compFunc Tryz.prog noG ⟨fnOf, modeOf, pr⟩ h156 156 = some x156 := by
  unfold compFunc
  rw [Tryz.func156]
  kernel_rfl
def h157 : Hints := ⟨fun r i => false, fun id => none, fun _ => none, fun id => none⟩
theorem x157_ok (pr : Nat → List AV → Option AV) : compFunc Tryz.prog noG ⟨fnOf, modeOf, pr⟩ h157 157 = some x157 := by
  unfold compFunc
  rw [Tryz.func157]
  kernel_rfl
def h158 : Hints := ⟨fun r i => false, fun id => none, fun _ => none, fun id => none⟩
theorem x158_ok (pr : Nat → List AV → Option AV) : compFunc Tryz.prog noG ⟨fnOf, modeOf, pr⟩ h158 158 = some x158 := by
  unfold compFunc
  rw [Tryz.func158]
  kernel_rfl
def h159 : Hints := ⟨fun r i => false, fun id => none, fun _ => none, fun id => none⟩
theorem x159_ok (pr : Nat → List AV → Option AV) : compFunc Tryz.prog noG ⟨fnOf, modeOf, pr⟩ h159 159 = some x159 := by
  unfold compFunc
  rw [Tryz.func159]
  kernel_rfl
def h160 : Hints := ⟨fun r i => false, fun id => none, fun _ => none, fun id => none⟩
theorem x160_ok (pr : Nat → List AV → Option AV) : compFunc Tryz.prog noG ⟨fnOf, modeOf, pr⟩ h160 160 = some x160 := by
  unfold compFunc
  rw [Tryz.func160]
  kernel_rfl
def h161 : Hints := ⟨fun r i => false, fun id => none, fun _ => none, fun id => none⟩
theorem x161_ok (pr : Nat → List AV → Option AV) : compFunc Tryz.prog noG ⟨fnOf, modeOf, pr⟩ h161 161 = some x161 := by
  unfold compFunc
  rw [Tryz.func161]
  kernel_rfl
theorem ok_step {P : Program} {G : Nat → Option AV} {X : Prog} {f k : Nat} {x : XFunc} {r : Option XFunc} (hk : ∃ h, compFunc P G X h k = some x) (hr : ∀ fn, r = some fn → ∃ h, compFunc P G X h f = some fn) : ∀ fn, (bif Nat.beq f k then some x else r) = some fn → ∃ h, compFunc P G X h f = some fn := by
  intro fn h
  cases hb : Nat.beq f k with
  | true => rw [hb] at h; obtain rfl := Nat.eq_of_beq_eq_true hb; obtain rfl := Option.some.inj h; exact hk
  | false => rw [hb] at h; exact hr fn h
theorem progs_ok (pr : Nat → List AV → Option AV) : ProgOK Tryz.prog noG ⟨fnOf, modeOf, pr⟩ := by
  intro f
  show ∀ fn, fnOf f = some fn → _
  unfold fnOf
  refine ok_step ⟨h3, x3_ok pr⟩ ?_
  refine ok_step ⟨h5, x5_ok pr⟩ ?_
  refine ok_step ⟨h7, x7_ok pr⟩ ?_
  refine ok_step ⟨h8, x8_ok pr⟩ ?_
  refine ok_step ⟨h9, x9_ok pr⟩ ?_
  refine ok_step ⟨h10, x10_ok pr⟩ ?_
  refine ok_step ⟨h11, x11_ok pr⟩ ?_
  refine ok_step ⟨h12, x12_ok pr⟩ ?_
  refine ok_step ⟨h23, x23_ok pr⟩ ?_
  refine ok_step ⟨h24, x24_ok pr⟩ ?_
  refine ok_step ⟨h25, x25_ok pr⟩ ?_
  refine ok_step ⟨h26, x26_ok pr⟩ ?_
  refine ok_step ⟨h27, x27_ok pr⟩ ?_
  refine ok_step ⟨h28, x28_ok pr⟩ ?_
  refine ok_step ⟨h29, x29_ok pr⟩ ?_
  refine ok_step ⟨h30, x30_ok pr⟩ ?_
  refine ok_step ⟨h31, x31_ok pr⟩ ?_
  refine ok_step ⟨h32, x32_ok pr⟩ ?_
  refine ok_step ⟨h33, x33_ok pr⟩ ?_
  refine ok_step ⟨h34, x34_ok pr⟩ ?_
  refine ok_step ⟨h35, x35_ok pr⟩ ?_
  refine ok_step ⟨h36, x36_ok pr⟩ ?_
  refine ok_step ⟨h37, x37_ok pr⟩ ?_
  refine ok_step ⟨h38, x38_ok pr⟩ ?_
  refine ok_step ⟨h40, x40_ok pr⟩ ?_
  refine ok_step ⟨h48, x48_ok pr⟩ ?_
  refine ok_step ⟨h49, x49_ok pr⟩ ?_
  refine ok_step ⟨h50, x50_ok pr⟩ ?_
  refine ok_step ⟨h51, x51_ok pr⟩ ?_
  refine ok_step ⟨h52, x52_ok pr⟩ ?_
  refine ok_step ⟨h53, x53_ok pr⟩ ?_
  refine ok_step ⟨h54, x54_ok pr⟩ ?_
  refine ok_step ⟨h55, x55_ok pr⟩ ?_
  refine ok_step ⟨h56, x56_ok pr⟩ ?_
  refine ok_step ⟨h57, x57_ok pr⟩ ?_
  refine ok_step ⟨h58, x58_ok pr⟩ ?_
  refine ok_step ⟨h59, x59_ok pr⟩ ?_
  refine ok_step ⟨h60, x60_ok pr⟩ ?_
  refine ok_step ⟨h61, x61_ok pr⟩ ?_
  refine ok_step ⟨h62, x62_ok pr⟩ ?_
  refine ok_step ⟨h63, x63_ok pr⟩ ?_
  refine ok_step ⟨h64, x64_ok pr⟩ ?_
  refine ok_step ⟨h65, x65_ok pr⟩ ?_
  refine ok_step ⟨h66, x66_ok pr⟩ ?_
  refine ok_step ⟨h67, x67_ok pr⟩ ?_
  refine ok_step ⟨h68, x68_ok pr⟩ ?_
  refine ok_step ⟨h69, x69_ok pr⟩ ?_
  refine ok_step ⟨h73, x73_ok pr⟩ ?_
  refine ok_step ⟨h74, x74_ok pr⟩ ?_
  refine ok_step ⟨h75, x75_ok pr⟩ ?_
  refine ok_step ⟨h76, x76_ok pr⟩ ?_
  refine ok_step ⟨h77, x77_ok pr⟩ ?_
  refine ok_step ⟨h78, x78_ok pr⟩ ?_
  refine ok_step ⟨h79, x79_ok pr⟩ ?_
  refine ok_step ⟨h80, x80_ok pr⟩ ?_
  refine ok_step ⟨h81, x81_ok pr⟩ ?_
  refine ok_step ⟨h82, x82_ok pr⟩ ?_
  refine ok_step ⟨h83, x83_ok pr⟩ ?_
  refine ok_step ⟨h84, x84_ok pr⟩ ?_
  refine ok_step ⟨h85, x85_ok pr⟩ ?_
  refine ok_step ⟨h87, x87_ok pr⟩ ?_
  refine ok_step ⟨h88, x88_ok pr⟩ ?_
  refine ok_step ⟨h89, x89_ok pr⟩ ?_
  refine ok_step ⟨h90, x90_ok pr⟩ ?_
  refine ok_step ⟨h91, x91_ok pr⟩ ?_
  refine ok_step ⟨h92, x92_ok pr⟩ ?_
  refine ok_step ⟨h93, x93_ok pr⟩ ?_
  refine ok_step ⟨h94, x94_ok pr⟩ ?_
  refine ok_step ⟨h95, x95_ok pr⟩ ?_
  refine ok_step ⟨h96, x96_ok pr⟩ ?_
  refine ok_step ⟨h97, x97_ok pr⟩ ?_
  refine ok_step ⟨h98, x98_ok pr⟩ ?_
  refine ok_step ⟨h99, x99_ok pr⟩ ?_
  refine ok_step ⟨h100, x100_ok pr⟩ ?_
  refine ok_step ⟨h101, x101_ok pr⟩ ?_
  refine ok_step ⟨h102, x102_ok pr⟩ ?_
  refine ok_step ⟨h103, x103_ok pr⟩ ?_
  refine ok_step ⟨h104, x104_ok pr⟩ ?_
  refine ok_step ⟨h105, x105_ok pr⟩ ?_
  refine ok_step ⟨h107, x107_ok pr⟩ ?_
  refine ok_step ⟨h108, x108_ok pr⟩ ?_
  refine ok_step ⟨h109, x109_ok pr⟩ ?_
  refine ok_step ⟨h110, x110_ok pr⟩ ?_
  refine ok_step ⟨h111, x111_ok pr⟩ ?_
  refine ok_step ⟨h112, x112_ok pr⟩ ?_
  refine ok_step ⟨h113, x113_ok pr⟩ ?_
  refine ok_step ⟨h114, x114_ok pr⟩ ?_
  refine ok_step ⟨h115, x115_ok pr⟩ ?_
  refine ok_step ⟨h116, x116_ok pr⟩ ?_
  refine ok_step ⟨h117, x117_ok pr⟩ ?_
  refine ok_step ⟨h119, x119_ok pr⟩ ?_
  refine ok_step ⟨h120, x120_ok pr⟩ ?_
  refine ok_step ⟨h122, x122_ok pr⟩ ?_
  refine ok_step ⟨h123, x123_ok pr⟩ ?_
  refine ok_step ⟨h124, x124_ok pr⟩ ?_
  refine ok_step ⟨h125, x125_ok pr⟩ ?_
  refine ok_step ⟨h126, x126_ok pr⟩ ?_
  refine ok_step ⟨h127, x127_ok pr⟩ ?_
  refine ok_step ⟨h128, x128_ok pr⟩ ?_
  refine ok_step ⟨h129, x129_ok pr⟩ ?_
  refine ok_step ⟨h130, x130_ok pr⟩ ?_
  refine ok_step ⟨h131, x131_ok pr⟩ ?_
  refine ok_step ⟨h132, x132_ok pr⟩ ?_
  refine ok_step ⟨h133, x133_ok pr⟩ ?_
  refine ok_step ⟨h134, x134_ok pr⟩ ?_
  refine ok_step ⟨h136, x136_ok pr⟩ ?_
  refine ok_step ⟨h137, x137_ok pr⟩ ?_
  refine ok_step ⟨h138, x138_ok pr⟩ ?_
  refine ok_step ⟨h139, x139_ok pr⟩ ?_
  refine ok_step ⟨h140, x140_ok pr⟩ ?_
  refine ok_step ⟨h141, x141_ok pr⟩ ?_
  refine ok_step ⟨h144, x144_ok pr⟩ ?_
  refine ok_step ⟨h145, x145_ok pr⟩ ?_
  refine ok_step ⟨h146, x146_ok pr⟩ ?_
  refine ok_step ⟨h147, x147_ok pr⟩ ?_
  refine ok_step ⟨h148, x148_ok pr⟩ ?_
  refine ok_step ⟨h149, x149_ok pr⟩ ?_
  refine ok_step ⟨h150, x150_ok pr⟩ ?_
  refine ok_step ⟨h151, x151_ok pr⟩ ?_
  refine ok_step ⟨h152, x152_ok pr⟩ ?_
  refine ok_step ⟨h153, x153_ok pr⟩ ?_
  refine ok_step ⟨h154, x154_ok pr⟩ ?_
  refine ok_step ⟨h155, x155_ok pr⟩ ?_
  refine ok_step ⟨h156, x156_ok pr⟩ ?_
  refine ok_step ⟨h157, x157_ok pr⟩ ?_
  refine ok_step ⟨h158, x158_ok pr⟩ ?_
  refine ok_step ⟨h159, x159_ok pr⟩ ?_
  refine ok_step ⟨h160, x160_ok pr⟩ ?_
  refine ok_step ⟨h161, x161_ok pr⟩ ?_
  intro fn h; cases h
theorem prog_ok : ProgOK Tryz.prog noG prog := progs_ok primOf
end X
end Go.Proofs.YtkaigfcjejabfaaGreatDoor
