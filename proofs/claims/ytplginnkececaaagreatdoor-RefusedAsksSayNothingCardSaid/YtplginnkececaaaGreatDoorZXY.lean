/- The engine's functions are the program's. No condition. MADE BY PROGRAM (xgen). -/
import Derived.Test.YtplginnkececaaaGreatDoorZXD
set_option maxRecDepth 100000
set_option linter.unusedVariables false
namespace Go.Proofs.YtplginnkececaaaGreatDoor
open Go
namespace X
def h7 : Hints := ⟨fun r i => false, fun id => none, fun _ => none, fun id => bif Nat.beq id 0 then some [4, 5, 6, 7, 8, 9, 10, 38, 39, 40] else none⟩
theorem x7_ok (pr : Nat → List AV → Option AV) : compFunc Tryz.prog noG ⟨fnOf, modeOf, pr⟩ h7 7 = some x7 := by
  unfold compFunc
  rw [Tryz.func7]
  kernel_rfl
def h10 : Hints := ⟨fun r i => false, fun id => none, fun _ => none, fun id => bif Nat.beq id 0 then some [0, 5, 6, 9, 10] else none⟩
theorem x10_ok (pr : Nat → List AV → Option AV) : compFunc Tryz.prog noG ⟨fnOf, modeOf, pr⟩ h10 10 = some x10 := by
  unfold compFunc
  rw [Tryz.func10]
  kernel_rfl
def h11 : Hints := ⟨fun r i => false, fun id => none, fun _ => none, fun id => none⟩
theorem x11_ok (pr : Nat → List AV → Option AV) : compFunc Tryz.prog noG ⟨fnOf, modeOf, pr⟩ h11 11 = some x11 := by
  unfold compFunc
  rw [Tryz.func11]
  kernel_rfl
def h12 : Hints := ⟨fun r i => false, fun id => none, fun _ => none, fun id => none⟩
theorem x12_ok (pr : Nat → List AV → Option AV) : compFunc Tryz.prog noG ⟨fnOf, modeOf, pr⟩ h12 12 = some x12 := by
  unfold compFunc
  rw [Tryz.func12]
  kernel_rfl
def h13 : Hints := ⟨fun r i => false, fun id => none, fun _ => none, fun id => none⟩
theorem x13_ok (pr : Nat → List AV → Option AV) : compFunc Tryz.prog noG ⟨fnOf, modeOf, pr⟩ h13 13 = some x13 := by
  unfold compFunc
  rw [Tryz.func13]
  kernel_rfl
def h14 : Hints := ⟨fun r i => false, fun id => none, fun _ => none, fun id => bif Nat.beq id 0 then some [11, 31, 32, 33] else none⟩
theorem x14_ok (pr : Nat → List AV → Option AV) : compFunc Tryz.prog noG ⟨fnOf, modeOf, pr⟩ h14 14 = some x14 := by
  unfold compFunc
  rw [Tryz.func14]
  kernel_rfl
def h19 : Hints := ⟨fun r i => false, fun id => none, fun _ => none, fun id => bif Nat.beq id 0 then some [0, 9, 10, 11] else none⟩
theorem x19_ok (pr : Nat → List AV → Option AV) : compFunc Tryz.prog noG ⟨fnOf, modeOf, pr⟩ h19 19 = some x19 := by
  unfold compFunc
  rw [Tryz.func19]
  kernel_rfl
def h23 : Hints := ⟨fun r i => false, fun id => none, fun _ => none, fun id => bif Nat.beq id 0 then some [0, 1, 12, 13] else none⟩
theorem x23_ok (pr : Nat → List AV → Option AV) : compFunc Tryz.prog noG ⟨fnOf, modeOf, pr⟩ h23 23 = some x23 := by
  unfold compFunc
  rw [Tryz.func23]
  kernel_rfl
def h30 : Hints := ⟨fun r i => false, fun id => none, fun _ => none, fun id => none⟩
theorem x30_ok (pr : Nat → List AV → Option AV) : compFunc Tryz.prog noG ⟨fnOf, modeOf, pr⟩ h30 30 = some x30 := by
  unfold compFunc
  rw [Tryz.func30]
  kernel_rfl
def h33 : Hints := ⟨fun r i => false, fun id => none, fun _ => none, fun id => none⟩
theorem x33_ok (pr : Nat → List AV → Option AV) : compFunc Tryz.prog noG ⟨fnOf, modeOf, pr⟩ h33 33 = some x33 := by
  unfold compFunc
  rw [Tryz.func33]
  kernel_rfl
def h35 : Hints := ⟨fun r i => false, fun id => none, fun _ => none, fun id => none⟩
theorem x35_ok (pr : Nat → List AV → Option AV) : compFunc Tryz.prog noG ⟨fnOf, modeOf, pr⟩ h35 35 = some x35 := by
  unfold compFunc
  rw [Tryz.func35]
  kernel_rfl
def h37 : Hints := ⟨fun r i => false, fun id => none, fun _ => none, fun id => none⟩
theorem x37_ok (pr : Nat → List AV → Option AV) : compFunc Tryz.prog noG ⟨fnOf, modeOf, pr⟩ h37 37 = some x37 := by
  unfold compFunc
  rw [Tryz.func37]
  kernel_rfl
def h39 : Hints := ⟨fun r i => false, fun id => none, fun _ => none, fun id => bif Nat.beq id 0 then some [0, 9, 10, 11] else none⟩
theorem x39_ok (pr : Nat → List AV → Option AV) : compFunc Tryz.prog noG ⟨fnOf, modeOf, pr⟩ h39 39 = some x39 := by
  unfold compFunc
  rw [Tryz.func39]
  kernel_rfl
def h46 : Hints := ⟨fun r i => false, fun id => none, fun _ => none, fun id => none⟩
theorem x46_ok (pr : Nat → List AV → Option AV) : compFunc Tryz.prog noG ⟨fnOf, modeOf, pr⟩ h46 46 = some x46 := by
  unfold compFunc
  rw [Tryz.func46]
  kernel_rfl
def h47 : Hints := ⟨fun r i => false, fun id => none, fun _ => none, fun id => bif Nat.beq id 0 then some [0, 3, 4, 10, 11] else none⟩
theorem x47_ok (pr : Nat → List AV → Option AV) : compFunc Tryz.prog noG ⟨fnOf, modeOf, pr⟩ h47 47 = some x47 := by
  unfold compFunc
  rw [Tryz.func47]
  kernel_rfl
def h48 : Hints := ⟨fun r i => false, fun id => none, fun _ => none, fun id => bif Nat.beq id 0 then some [0, 1, 6] else none⟩
theorem x48_ok (pr : Nat → List AV → Option AV) : compFunc Tryz.prog noG ⟨fnOf, modeOf, pr⟩ h48 48 = some x48 := by
  unfold compFunc
  rw [Tryz.func48]
  kernel_rfl
def h49 : Hints := ⟨fun r i => false, fun id => none, fun _ => none, fun id => bif Nat.beq id 0 then some [5, 6, 7] else none⟩
theorem x49_ok (pr : Nat → List AV → Option AV) : compFunc Tryz.prog noG ⟨fnOf, modeOf, pr⟩ h49 49 = some x49 := by
  unfold compFunc
  rw [Tryz.func49]
  kernel_rfl
def h52 : Hints := ⟨fun r i => false, fun id => none, fun _ => none, fun id => none⟩
theorem x52_ok (pr : Nat → List AV → Option AV) : compFunc Tryz.prog noG ⟨fnOf, modeOf, pr⟩ h52 52 = some x52 := by
  unfold compFunc
  rw [Tryz.func52]
  kernel_rfl
def h53 : Hints := ⟨fun r i => false, fun id => none, fun _ => none, fun id => none⟩
theorem x53_ok (pr : Nat → List AV → Option AV) : compFunc Tryz.prog noG ⟨fnOf, modeOf, pr⟩ h53 53 = some x53 := by
  unfold compFunc
  rw [Tryz.func53]
  kernel_rfl
def h54 : Hints := ⟨fun r i => false, fun id => none, fun _ => none, fun id => none⟩
theorem x54_ok (pr : Nat → List AV → Option AV) : compFunc Tryz.prog noG ⟨fnOf, modeOf, pr⟩ h54 54 = some x54 := by
  unfold compFunc
  rw [Tryz.func54]
  kernel_rfl
def h55 : Hints := ⟨fun r i => false, fun id => none, fun _ => none, fun id => none⟩
theorem x55_ok (pr : Nat → List AV → Option AV) : compFunc Tryz.prog noG ⟨fnOf, modeOf, pr⟩ h55 55 = some x55 := by
  unfold compFunc
  rw [Tryz.func55]
  kernel_rfl
def h56 : Hints := ⟨fun r i => false, fun id => bif Nat.beq id 4 then some [0, 1, 5, 6, 2, 3, 7, 8, 4, 9, 10, 11, 12, 13] else none, fun _ => none, fun id => none⟩
theorem x56_ok (pr : Nat → List AV → Option AV) : compFunc Tryz.prog noG ⟨fnOf, modeOf, pr⟩ h56 56 = some x56 := by
  unfold compFunc
  rw [Tryz.func56]
  kernel_rfl
def h57 : Hints := ⟨fun r i => false, fun id => none, fun _ => none, fun id => none⟩
theorem x57_ok (pr : Nat → List AV → Option AV) : compFunc Tryz.prog noG ⟨fnOf, modeOf, pr⟩ h57 57 = some x57 := by
  unfold compFunc
  rw [Tryz.func57]
  kernel_rfl
def h58 : Hints := ⟨fun r i => false, fun id => none, fun _ => none, fun id => none⟩
theorem x58_ok (pr : Nat → List AV → Option AV) : compFunc Tryz.prog noG ⟨fnOf, modeOf, pr⟩ h58 58 = some x58 := by
  unfold compFunc
  rw [Tryz.func58]
  kernel_rfl
def h59 : Hints := ⟨fun r i => false, fun id => none, fun _ => none, fun id => bif Nat.beq id 0 then some [0, 1, 5] else bif Nat.beq id 2 then some [0, 1, 5, 6, 7] else none⟩
theorem x59_ok (pr : Nat → List AV → Option AV) : compFunc Tryz.prog noG ⟨fnOf, modeOf, pr⟩ h59 59 = some x59 := by
  unfold compFunc
  rw [Tryz.func59]
  kernel_rfl
def h60 : Hints := ⟨fun r i => false, fun id => none, fun _ => none, fun id => none⟩
theorem x60_ok (pr : Nat → List AV → Option AV) : compFunc Tryz.prog noG ⟨fnOf, modeOf, pr⟩ h60 60 = some x60 := by
  unfold compFunc
  rw [Tryz.func60]
  kernel_rfl
def h61 : Hints := ⟨fun r i => false, fun id => none, fun _ => none, fun id => none⟩
theorem x61_ok (pr : Nat → List AV → Option AV) : compFunc Tryz.prog noG ⟨fnOf, modeOf, pr⟩ h61 61 = some x61 := by
  unfold compFunc
  rw [Tryz.func61]
  kernel_rfl
def h62 : Hints := ⟨fun r i => false, fun id => none, fun _ => none, fun id => none⟩
theorem x62_ok (pr : Nat → List AV → Option AV) : compFunc Tryz.prog noG ⟨fnOf, modeOf, pr⟩ h62 62 = some x62 := by
  unfold compFunc
  rw [Tryz.func62]
  kernel_rfl
def h63 : Hints := ⟨fun r i => false, fun id => none, fun _ => none, fun id => bif Nat.beq id 0 then some [3, 9, 15, 16, 17] else none⟩
theorem x63_ok (pr : Nat → List AV → Option AV) : compFunc Tryz.prog noG ⟨fnOf, modeOf, pr⟩ h63 63 = some x63 := by
  unfold compFunc
  rw [Tryz.func63]
  kernel_rfl
def h64 : Hints := ⟨fun r i => false, fun id => none, fun _ => none, fun id => none⟩
theorem x64_ok (pr : Nat → List AV → Option AV) : compFunc Tryz.prog noG ⟨fnOf, modeOf, pr⟩ h64 64 = some x64 := by
  unfold compFunc
  rw [Tryz.func64]
  kernel_rfl
def h65 : Hints := ⟨fun r i => false, fun id => none, fun _ => none, fun id => none⟩
theorem x65_ok (pr : Nat → List AV → Option AV) : compFunc Tryz.prog noG ⟨fnOf, modeOf, pr⟩ h65 65 = some x65 := by
  unfold compFunc
  rw [Tryz.func65]
  kernel_rfl
def h66 : Hints := ⟨fun r i => false, fun id => none, fun _ => none, fun id => none⟩
theorem x66_ok (pr : Nat → List AV → Option AV) : compFunc Tryz.prog noG ⟨fnOf, modeOf, pr⟩ h66 66 = some x66 := by
  unfold compFunc
  rw [Tryz.func66]
  kernel_rfl
def h68 : Hints := ⟨fun r i => (Nat.beq r 6 && Nat.beq i 2), fun id => none, fun _ => none, fun id => bif Nat.beq id 0 then some [0, 1, 5, 11, 12, 13] else none⟩
theorem x68_ok (pr : Nat → List AV → Option AV) : compFunc Tryz.prog noG ⟨fnOf, modeOf, pr⟩ h68 68 = some x68 := by
  unfold compFunc
  rw [Tryz.func68]
  kernel_rfl
def h69 : Hints := ⟨fun r i => false, fun id => none, fun _ => none, fun id => none⟩
theorem x69_ok (pr : Nat → List AV → Option AV) : compFunc Tryz.prog noG ⟨fnOf, modeOf, pr⟩ h69 69 = some x69 := by
  unfold compFunc
  rw [Tryz.func69]
  kernel_rfl
def h70 : Hints := ⟨fun r i => false, fun id => none, fun _ => none, fun id => none⟩
theorem x70_ok (pr : Nat → List AV → Option AV) : compFunc Tryz.prog noG ⟨fnOf, modeOf, pr⟩ h70 70 = some x70 := by
  unfold compFunc
  rw [Tryz.func70]
  kernel_rfl
def h71 : Hints := ⟨fun r i => false, fun id => none, fun _ => none, fun id => none⟩
theorem x71_ok (pr : Nat → List AV → Option AV) : compFunc Tryz.prog noG ⟨fnOf, modeOf, pr⟩ h71 71 = some x71 := by
  unfold compFunc
  rw [Tryz.func71]
  kernel_rfl
def h72 : Hints := ⟨fun r i => false, fun id => none, fun _ => none, fun id => none⟩
theorem x72_ok (pr : Nat → List AV → Option AV) : compFunc Tryz.prog noG ⟨fnOf, modeOf, pr⟩ h72 72 = some x72 := by
  unfold compFunc
  rw [Tryz.func72]
  kernel_rfl
def h73 : Hints := ⟨fun r i => (Nat.beq r 1 && Nat.beq i 1), fun id => none, fun _ => none, fun id => bif Nat.beq id 0 then some [1, 5, 6] else none⟩
theorem x73_ok (pr : Nat → List AV → Option AV) : compFunc Tryz.prog noG ⟨fnOf, modeOf, pr⟩ h73 73 = some x73 := by
  unfold compFunc
  rw [Tryz.func73]
  kernel_rfl
def h84 : Hints := ⟨fun r i => false, fun id => none, fun _ => none, fun id => bif Nat.beq id 0 then some [3, 6, 7, 8] else none⟩
theorem x84_ok (pr : Nat → List AV → Option AV) : compFunc Tryz.prog noG ⟨fnOf, modeOf, pr⟩ h84 84 = some x84 := by
  unfold compFunc
  rw [Tryz.func84]
  kernel_rfl
def h85 : Hints := ⟨fun r i => false, fun id => none, fun _ => none, fun id => none⟩
theorem x85_ok (pr : Nat → List AV → Option AV) : compFunc Tryz.prog noG ⟨fnOf, modeOf, pr⟩ h85 85 = some x85 := by
  unfold compFunc
  rw [Tryz.func85]
  kernel_rfl
def h86 : Hints := ⟨fun r i => false, fun id => none, fun _ => none, fun id => bif Nat.beq id 0 then some [5, 6, 7] else none⟩
theorem x86_ok (pr : Nat → List AV → Option AV) : compFunc Tryz.prog noG ⟨fnOf, modeOf, pr⟩ h86 86 = some x86 := by
  unfold compFunc
  rw [Tryz.func86]
  kernel_rfl
def h87 : Hints := ⟨fun r i => false, fun id => none, fun _ => none, fun id => bif Nat.beq id 0 then some [0, 8, 9, 10] else none⟩
theorem x87_ok (pr : Nat → List AV → Option AV) : compFunc Tryz.prog noG ⟨fnOf, modeOf, pr⟩ h87 87 = some x87 := by
  unfold compFunc
  rw [Tryz.func87]
  kernel_rfl
def h88 : Hints := ⟨fun r i => false, fun id => none, fun _ => none, fun id => bif Nat.beq id 0 then some [0, 23, 24] else none⟩
theorem x88_ok (pr : Nat → List AV → Option AV) : compFunc Tryz.prog noG ⟨fnOf, modeOf, pr⟩ h88 88 = some x88 := by
  unfold compFunc
  rw [Tryz.func88]
  kernel_rfl
def h89 : Hints := ⟨fun r i => false, fun id => none, fun _ => none, fun id => none⟩
theorem x89_ok (pr : Nat → List AV → Option AV) : compFunc Tryz.prog noG ⟨fnOf, modeOf, pr⟩ h89 89 = some x89 := by
  unfold compFunc
  rw [Tryz.func89]
  kernel_rfl
def h90 : Hints := ⟨fun r i => false, fun id => none, fun _ => none, fun id => bif Nat.beq id 0 then some [0, 1, 7, 8] else none⟩
theorem x90_ok (pr : Nat → List AV → Option AV) : compFunc Tryz.prog noG ⟨fnOf, modeOf, pr⟩ h90 90 = some x90 := by
  unfold compFunc
  rw [Tryz.func90]
  kernel_rfl
def h95 : Hints := ⟨fun r i => false, fun id => none, fun _ => none, fun id => none⟩
theorem x95_ok (pr : Nat → List AV → Option AV) : compFunc Tryz.prog noG ⟨fnOf, modeOf, pr⟩ h95 95 = some x95 := by
  unfold compFunc
  rw [Tryz.func95]
  kernel_rfl
def h97 : Hints := ⟨fun r i => false, fun id => none, fun _ => none, fun id => none⟩
theorem x97_ok (pr : Nat → List AV → Option AV) : compFunc Tryz.prog noG ⟨fnOf, modeOf, pr⟩ h97 97 = some x97 := by
  unfold compFunc
  rw [Tryz.func97]
  kernel_rfl
def h99 : Hints := ⟨fun r i => false, fun id => none, fun _ => none, fun id => none⟩
theorem x99_ok (pr : Nat → List AV → Option AV) : compFunc Tryz.prog noG ⟨fnOf, modeOf, pr⟩ h99 99 = some x99 := by
  unfold compFunc
  rw [Tryz.func99]
  kernel_rfl
def h103 : Hints := ⟨fun r i => false, fun id => none, fun _ => none, fun id => none⟩
theorem x103_ok (pr : Nat → List AV → Option AV) : compFunc Tryz.prog noG ⟨fnOf, modeOf, pr⟩ h103 103 = some x103 := by
  unfold compFunc
  rw [Tryz.func103]
  kernel_rfl
def h105 : Hints := ⟨fun r i => false, fun id => none, fun _ => none, fun id => bif Nat.beq id 0 then some [0, 1, 7, 8] else none⟩
theorem x105_ok (pr : Nat → List AV → Option AV) : compFunc Tryz.prog noG ⟨fnOf, modeOf, pr⟩ h105 105 = some x105 := by
  unfold compFunc
  rw [Tryz.func105]
  kernel_rfl
def h108 : Hints := ⟨fun r i => false, fun id => none, fun _ => none, fun id => none⟩
theorem x108_ok (pr : Nat → List AV → Option AV) : compFunc Tryz.prog noG ⟨fnOf, modeOf, pr⟩ h108 108 = some x108 := by
  unfold compFunc
  rw [Tryz.func108]
  kernel_rfl
def h109 : Hints := ⟨fun r i => false, fun id => none, fun _ => none, fun id => none⟩
theorem x109_ok (pr : Nat → List AV → Option AV) : compFunc Tryz.prog noG ⟨fnOf, modeOf, pr⟩ h109 109 = some x109 := by
  unfold compFunc
  rw [Tryz.func109]
  kernel_rfl
def h110 : Hints := ⟨fun r i => false, fun id => none, fun _ => none, fun id => none⟩
theorem x110_ok (pr : Nat → List AV → Option AV) : compFunc Tryz.prog noG ⟨fnOf, modeOf, pr⟩ h110 110 = some x110 := by
  unfold compFunc
  rw [Tryz.func110]
  kernel_rfl
def h111 : Hints := ⟨fun r i => false, fun id => none, fun _ => none, fun id => bif Nat.beq id 0 then some [0, 1, 7, 8] else none⟩
theorem x111_ok (pr : Nat → List AV → Option AV) : compFunc Tryz.prog noG ⟨fnOf, modeOf, pr⟩ h111 111 = some x111 := by
  unfold compFunc
  rw [Tryz.func111]
  kernel_rfl
def h112 : Hints := ⟨fun r i => false, fun id => none, fun _ => none, fun id => bif Nat.beq id 0 then some [0, 1, 2, 6, 7, 8] else bif Nat.beq id 2 then some [0, 1, 2, 6] else bif Nat.beq id 4 then some [0, 1, 2, 6, 7, 8] else none⟩
theorem x112_ok (pr : Nat → List AV → Option AV) : compFunc Tryz.prog noG ⟨fnOf, modeOf, pr⟩ h112 112 = some x112 := by
  unfold compFunc
  rw [Tryz.func112]
  kernel_rfl
def h113 : Hints := ⟨fun r i => false, fun id => none, fun _ => none, fun id => bif Nat.beq id 0 then some [0, 8, 9, 10] else none⟩
theorem x113_ok (pr : Nat → List AV → Option AV) : compFunc Tryz.prog noG ⟨fnOf, modeOf, pr⟩ h113 113 = some x113 := by
  unfold compFunc
  rw [Tryz.func113]
  kernel_rfl
def h114 : Hints := ⟨fun r i => false, fun id => none, fun _ => none, fun id => bif Nat.beq id 0 then some [5, 16, 17, 18] else none⟩
theorem x114_ok (pr : Nat → List AV → Option AV) : compFunc Tryz.prog noG ⟨fnOf, modeOf, pr⟩ h114 114 = some x114 := by
  unfold compFunc
  rw [Tryz.func114]
  kernel_rfl
def h115 : Hints := ⟨fun r i => false, fun id => none, fun _ => none, fun id => bif Nat.beq id 0 then some [0, 1] else bif Nat.beq id 2 then some [0, 1, 4, 6, 22, 23, 24] else bif Nat.beq id 4 then some [0, 1, 4, 55, 56, 57] else none⟩
theorem x115_ok (pr : Nat → List AV → Option AV) : compFunc Tryz.prog noG ⟨fnOf, modeOf, pr⟩ h115 115 = some x115 := by
  unfold compFunc
  rw [Tryz.func115]
  kernel_rfl
def h116 : Hints := ⟨fun r i => (Nat.beq r 8 && Nat.beq i 6), fun id => none, fun _ => none, fun id => none⟩
theorem x116_ok (pr : Nat → List AV → Option AV) : compFunc Tryz.prog noG ⟨fnOf, modeOf, pr⟩ h116 116 = some x116 := by
  unfold compFunc
  rw [Tryz.func116]
  kernel_rfl
def h117 : Hints := ⟨fun r i => false, fun id => none, fun _ => none, fun id => bif Nat.beq id 0 then some [0, 1, 2, 3, 4, 10, 11] else none⟩
theorem x117_ok (pr : Nat → List AV → Option AV) : compFunc Tryz.prog noG ⟨fnOf, modeOf, pr⟩ h117 117 = some x117 := by
  unfold compFunc
  rw [Tryz.func117]
  kernel_rfl
def h118 : Hints := ⟨fun r i => false, fun id => none, fun _ => none, fun id => none⟩
theorem x118_ok (pr : Nat → List AV → Option AV) : compFunc Tryz.prog noG ⟨fnOf, modeOf, pr⟩ h118 118 = some x118 := by
  unfold compFunc
  rw [Tryz.func118]
  kernel_rfl
def h119 : Hints := ⟨fun r i => false, fun id => none, fun _ => none, fun id => none⟩
theorem x119_ok (pr : Nat → List AV → Option AV) : compFunc Tryz.prog noG ⟨fnOf, modeOf, pr⟩ h119 119 = some x119 := by
  unfold compFunc
  rw [Tryz.func119]
  kernel_rfl
def h120 : Hints := ⟨fun r i => false, fun id => none, fun _ => none, fun id => none⟩
theorem x120_ok (pr : Nat → List AV → Option AV) : compFunc Tryz.prog noG ⟨fnOf, modeOf, pr⟩ h120 120 = some x120 := by
  unfold compFunc
  rw [Tryz.func120]
  kernel_rfl
def h121 : Hints := ⟨fun r i => false, fun id => none, fun _ => none, fun id => none⟩
theorem x121_ok (pr : Nat → List AV → Option AV) : compFunc Tryz.prog noG ⟨fnOf, modeOf, pr⟩ h121 121 = some x121 := by
  unfold compFunc
  rw [Tryz.func121]
  kernel_rfl
def h122 : Hints := ⟨fun r i => false, fun id => none, fun _ => none, fun id => none⟩
theorem x122_ok (pr : Nat → List AV → Option AV) : compFunc Tryz.prog noG ⟨fnOf, modeOf, pr⟩ h122 122 = some x122 := by
  unfold compFunc
  rw [Tryz.func122]
  kernel_rfl
def h123 : Hints := ⟨fun r i => false, fun id => none, fun _ => none, fun id => bif Nat.beq id 0 then some [0, 9, 10, 11] else none⟩
theorem x123_ok (pr : Nat → List AV → Option AV) : compFunc Tryz.prog noG ⟨fnOf, modeOf, pr⟩ h123 123 = some x123 := by
  unfold compFunc
  rw [Tryz.func123]
  kernel_rfl
def h124 : Hints := ⟨fun r i => (Nat.beq r 11 && Nat.beq i 29) || (Nat.beq r 11 && Nat.beq i 35), fun id => none, fun _ => none, fun id => none⟩
theorem x124_ok (pr : Nat → List AV → Option AV) : compFunc Tryz.prog noG ⟨fnOf, modeOf, pr⟩ h124 124 = some x124 := by
  unfold compFunc
  rw [Tryz.func124]
  kernel_rfl
def h130 : Hints := ⟨fun r i => false, fun id => none, fun _ => none, fun id => none⟩
theorem x130_ok (pr : Nat → List AV → Option AV) : compFunc Tryz.prog noG ⟨fnOf, modeOf, pr⟩ h130 130 = some x130 := by
  unfold compFunc
  rw [Tryz.func130]
  kernel_rfl
def h131 : Hints := ⟨fun r i => false, fun id => none, fun _ => none, fun id => none⟩
theorem x131_ok (pr : Nat → List AV → Option AV) : compFunc Tryz.prog noG ⟨fnOf, modeOf, pr⟩ h131 131 = some x131 := by
  unfold compFunc
  rw [Tryz.func131]
  kernel_rfl
def h138 : Hints := ⟨fun r i => false, fun id => none, fun _ => none, fun id => none⟩
theorem x138_ok (pr : Nat → List AV → Option AV) : compFunc Tryz.prog noG ⟨fnOf, modeOf, pr⟩ h138 138 = some x138 := by
  unfold compFunc
  rw [Tryz.func138]
  kernel_rfl
def h139 : Hints := ⟨fun r i => false, fun id => none, fun _ => none, fun id => none⟩
theorem x139_ok (pr : Nat → List AV → Option AV) : compFunc Tryz.prog noG ⟨fnOf, modeOf, pr⟩ h139 139 = some x139 := by
  unfold compFunc
  rw [Tryz.func139]
  kernel_rfl
def h140 : Hints := ⟨fun r i => false, fun id => none, fun _ => none, fun id => bif Nat.beq id 0 then some [0, 8, 9, 10] else none⟩
theorem x140_ok (pr : Nat → List AV → Option AV) : compFunc Tryz.prog noG ⟨fnOf, modeOf, pr⟩ h140 140 = some x140 := by
  unfold compFunc
  rw [Tryz.func140]
  kernel_rfl
def h141 : Hints := ⟨fun r i => false, fun id => bif Nat.beq id 3 then some [0, 1, 2, 3, 4, 5, 9, 10, 11, 12, 6, 7, 13, 14, 8, 15, 16, 17, 18, 19, 20, 21] else none, fun _ => none, fun id => bif Nat.beq id 0 then some [3, 46, 47, 48] else bif Nat.beq id 2 then some [3, 93, 94] else none⟩
theorem x141_ok (pr : Nat → List AV → Option AV) : compFunc Tryz.prog noG ⟨fnOf, modeOf, pr⟩ h141 141 = some x141 := by
  unfold compFunc
  rw [Tryz.func141]
  kernel_rfl
def h142 : Hints := ⟨fun r i => false, fun id => none, fun _ => none, fun id => bif Nat.beq id 0 then some [3, 9, 10, 11] else none⟩
theorem x142_ok (pr : Nat → List AV → Option AV) : compFunc Tryz.prog noG ⟨fnOf, modeOf, pr⟩ h142 142 = some x142 := by
  unfold compFunc
  rw [Tryz.func142]
  kernel_rfl
def h143 : Hints := ⟨fun r i => false, fun id => none, fun _ => none, fun id => bif Nat.beq id 0 then some [0, 8, 9, 10] else none⟩
theorem x143_ok (pr : Nat → List AV → Option AV) : compFunc Tryz.prog noG ⟨fnOf, modeOf, pr⟩ h143 143 = some x143 := by
  unfold compFunc
  rw [Tryz.func143]
  kernel_rfl
def h144 : Hints := ⟨fun r i => false, fun id => none, fun _ => none, fun id => bif Nat.beq id 0 then some [4, 5, 9, 10, 11] else none⟩
theorem x144_ok (pr : Nat → List AV → Option AV) : compFunc Tryz.prog noG ⟨fnOf, modeOf, pr⟩ h144 144 = some x144 := by
  unfold compFunc
  rw [Tryz.func144]
  kernel_rfl
def h145 : Hints := ⟨fun r i => false, fun id => none, fun _ => none, fun id => bif Nat.beq id 0 then some [0, 8, 9, 10] else none⟩
theorem x145_ok (pr : Nat → List AV → Option AV) : compFunc Tryz.prog noG ⟨fnOf, modeOf, pr⟩ h145 145 = some x145 := by
  unfold compFunc
  rw [Tryz.func145]
  kernel_rfl
def h146 : Hints := ⟨fun r i => false, fun id => none, fun _ => none, fun id => none⟩
theorem x146_ok (pr : Nat → List AV → Option AV) : compFunc Tryz.prog noG ⟨fnOf, modeOf, pr⟩ h146 146 = some x146 := by
  unfold compFunc
  rw [Tryz.func146]
  kernel_rfl
def h147 : Hints := ⟨fun r i => false, fun id => none, fun _ => none, fun id => bif Nat.beq id 0 then some [2, 3, 7, 17, 18, 19] else none⟩
theorem x147_ok (pr : Nat → List AV → Option AV) : compFunc Tryz.prog noG ⟨fnOf, modeOf, pr⟩ h147 147 = some x147 := by
  unfold compFunc
  rw [Tryz.func147]
  kernel_rfl
def h148 : Hints := ⟨fun r i => false, fun id => none, fun _ => none, fun id => none⟩
theorem x148_ok (pr : Nat → List AV → Option AV) : compFunc Tryz.prog noG ⟨fnOf, modeOf, pr⟩ h148 148 = some x148 := by
  unfold compFunc
  rw [Tryz.func148]
  kernel_rfl
def h149 : Hints := ⟨fun r i => false, fun id => none, fun _ => none, fun id => bif Nat.beq id 0 then some [0, 1, 2, 3, 8] else bif Nat.beq id 2 then some [0, 1, 2, 3, 8, 9] else none⟩
theorem x149_ok (pr : Nat → List AV → Option AV) : compFunc Tryz.prog noG ⟨fnOf, modeOf, pr⟩ h149 149 = some x149 := by
  unfold compFunc
  rw [Tryz.func149]
  kernel_rfl
def h151 : Hints := ⟨fun r i => false, fun id => none, fun _ => none, fun id => bif Nat.beq id 0 then some [1, 6, 14, 15, 16] else none⟩
theorem x151_ok (pr : Nat → List AV → Option AV) : compFunc Tryz.prog noG ⟨fnOf, modeOf, pr⟩ h151 151 = some x151 := by
  unfold compFunc
  rw [Tryz.func151]
  kernel_rfl
def h152 : Hints := ⟨fun r i => false, fun id => none, fun _ => none, fun id => none⟩
theorem x152_ok (pr : Nat → List AV → Option AV) : compFunc Tryz.prog noG ⟨fnOf, modeOf, pr⟩ h152 152 = some x152 := by
  unfold compFunc
  rw [Tryz.func152]
  kernel_rfl
def h153 : Hints := ⟨fun r i => false, fun id => none, fun _ => none, fun id => none⟩
theorem x153_ok (pr : Nat → List AV → Option AV) : compFunc Tryz.prog noG ⟨fnOf, modeOf, pr⟩ h153 153 = some x153 := by
  unfold compFunc
  rw [Tryz.func153]
  kernel_rfl
def h154 : Hints := ⟨fun r i => false, fun id => none, fun _ => none, fun id => bif Nat.beq id 0 then some [0, 3] else bif Nat.beq id 2 then some [0, 3, 4, 5] else none⟩
theorem x154_ok (pr : Nat → List AV → Option AV) : compFunc Tryz.prog noG ⟨fnOf, modeOf, pr⟩ h154 154 = some x154 := by
  unfold compFunc
  rw [Tryz.func154]
  kernel_rfl
def h155 : Hints := ⟨fun r i => false, fun id => none, fun _ => none, fun id => bif Nat.beq id 0 then some [0, 2, 12, 13, 14] else none⟩
theorem x155_ok (pr : Nat → List AV → Option AV) : compFunc Tryz.prog noG ⟨fnOf, modeOf, pr⟩ h155 155 = some x155 := by
  unfold compFunc
  rw [Tryz.func155]
  kernel_rfl
def h156 : Hints := ⟨fun r i => false, fun id => none, fun _ => none, fun id => bif Nat.beq id 0 then some [2, 3, 5, 9, 10, 11, 12, 33, 34, 35] else none⟩
theorem x156_ok (pr : Nat → List AV → Option AV) : compFunc Tryz.prog noG ⟨fnOf, modeOf, pr⟩ h156 156 = some x156 := by
  unfold compFunc
  rw [Tryz.func156]
  kernel_rfl
def h157 : Hints := ⟨fun r i => false, fun id => none, fun _ => none, fun id => none⟩
theorem x157_ok (pr : Nat → List AV → Option AV) : compFunc Tryz.prog noG ⟨fnOf, modeOf, pr⟩ h157 157 = some x157 := by
  unfold compFunc
  rw [Tryz.func157]
  kernel_rfl
def h158 : Hints := ⟨fun r i => false, fun id => none, fun _ => none, fun id => bif Nat.beq id 0 then some [0, 1, 2, 3, 8] else bif Nat.beq id 2 then some [0, 1, 2, 3, 8, 9] else none⟩
theorem x158_ok (pr : Nat → List AV → Option AV) : compFunc Tryz.prog noG ⟨fnOf, modeOf, pr⟩ h158 158 = some x158 := by
  unfold compFunc
  rw [Tryz.func158]
  kernel_rfl
def h166 : Hints := ⟨fun r i => false, fun id => none, fun _ => none, fun id => none⟩
theorem x166_ok (pr : Nat → List AV → Option AV) : compFunc Tryz.prog noG ⟨fnOf, modeOf, pr⟩ h166 166 = some x166 := by
  unfold compFunc
  rw [Tryz.func166]
  kernel_rfl
def h167 : Hints := ⟨fun r i => false, fun id => none, fun _ => none, fun id => none⟩
theorem x167_ok (pr : Nat → List AV → Option AV) : compFunc Tryz.prog noG ⟨fnOf, modeOf, pr⟩ h167 167 = some x167 := by
  unfold compFunc
  rw [Tryz.func167]
  kernel_rfl
def h169 : Hints := ⟨fun r i => false, fun id => none, fun _ => none, fun id => bif Nat.beq id 0 then some [0, 1, 2, 3, 4, 10, 11] else none⟩
theorem x169_ok (pr : Nat → List AV → Option AV) : compFunc Tryz.prog noG ⟨fnOf, modeOf, pr⟩ h169 169 = some x169 := by
  unfold compFunc
  rw [Tryz.func169]
  kernel_rfl
def h170 : Hints := ⟨fun r i => false, fun id => none, fun _ => none, fun id => none⟩
theorem x170_ok (pr : Nat → List AV → Option AV) : compFunc Tryz.prog noG ⟨fnOf, modeOf, pr⟩ h170 170 = some x170 := by
  unfold compFunc
  rw [Tryz.func170]
  kernel_rfl
def h171 : Hints := ⟨fun r i => false, fun id => none, fun _ => none, fun id => bif Nat.beq id 0 then some [0, 1, 2, 8, 9, 10] else none⟩
theorem x171_ok (pr : Nat → List AV → Option AV) : compFunc Tryz.prog noG ⟨fnOf, modeOf, pr⟩ h171 171 = some x171 := by
  unfold compFunc
  rw [Tryz.func171]
  kernel_rfl
def h172 : Hints := ⟨fun r i => false, fun id => none, fun _ => none, fun id => none⟩
theorem x172_ok (pr : Nat → List AV → Option AV) : compFunc Tryz.prog noG ⟨fnOf, modeOf, pr⟩ h172 172 = some x172 := by
  unfold compFunc
  rw [Tryz.func172]
  kernel_rfl
def h173 : Hints := ⟨fun r i => false, fun id => none, fun _ => none, fun id => none⟩
theorem x173_ok (pr : Nat → List AV → Option AV) : compFunc Tryz.prog noG ⟨fnOf, modeOf, pr⟩ h173 173 = some x173 := by
  unfold compFunc
  rw [Tryz.func173]
  kernel_rfl
def h174 : Hints := ⟨fun r i => false, fun id => none, fun _ => none, fun id => none⟩
theorem x174_ok (pr : Nat → List AV → Option AV) : compFunc Tryz.prog noG ⟨fnOf, modeOf, pr⟩ h174 174 = some x174 := by
  unfold compFunc
  rw [Tryz.func174]
  kernel_rfl
def h175 : Hints := ⟨fun r i => false, fun id => none, fun _ => none, fun id => bif Nat.beq id 3 then some [7, 8, 9] else none⟩
theorem x175_ok (pr : Nat → List AV → Option AV) : compFunc Tryz.prog noG ⟨fnOf, modeOf, pr⟩ h175 175 = some x175 := by
  unfold compFunc
  rw [Tryz.func175]
  kernel_rfl
def h178 : Hints := ⟨fun r i => false, fun id => none, fun _ => none, fun id => none⟩
theorem x178_ok (pr : Nat → List AV → Option AV) : compFunc Tryz.prog noG ⟨fnOf, modeOf, pr⟩ h178 178 = some x178 := by
  unfold compFunc
  rw [Tryz.func178]
  kernel_rfl
def h191 : Hints := ⟨fun r i => false, fun id => none, fun _ => none, fun id => none⟩
theorem x191_ok (pr : Nat → List AV → Option AV) : compFunc Tryz.prog noG ⟨fnOf, modeOf, pr⟩ h191 191 = some x191 := by
  unfold compFunc
  rw [Tryz.func191]
  kernel_rfl
def h192 : Hints := ⟨fun r i => false, fun id => none, fun _ => none, fun id => none⟩
theorem x192_ok (pr : Nat → List AV → Option AV) : compFunc Tryz.prog noG ⟨fnOf, modeOf, pr⟩ h192 192 = some x192 := by
  unfold compFunc
  rw [Tryz.func192]
  kernel_rfl
def h193 : Hints := ⟨fun r i => false, fun id => none, fun _ => none, fun id => none⟩
theorem x193_ok (pr : Nat → List AV → Option AV) : compFunc Tryz.prog noG ⟨fnOf, modeOf, pr⟩ h193 193 = some x193 := by
  unfold compFunc
  rw [Tryz.func193]
  kernel_rfl
def h194 : Hints := ⟨fun r i => false, fun id => none, fun _ => none, fun id => none⟩
theorem x194_ok (pr : Nat → List AV → Option AV) : compFunc Tryz.prog noG ⟨fnOf, modeOf, pr⟩ h194 194 = some x194 := by
  unfold compFunc
  rw [Tryz.func194]
  kernel_rfl
def h195 : Hints := ⟨fun r i => false, fun id => none, fun _ => none, fun id => none⟩
theorem x195_ok (pr : Nat → List AV → Option AV) : compFunc Tryz.prog noG ⟨fnOf, modeOf, pr⟩ h195 195 = some x195 := by
  unfold compFunc
  rw [Tryz.func195]
  kernel_rfl
def h196 : Hints := ⟨fun r i => false, fun id => none, fun _ => none, fun id => bif Nat.beq id 0 then some [7, 8] else none⟩
theorem x196_ok (pr : Nat → List AV → Option AV) : compFunc Tryz.prog noG ⟨fnOf, modeOf, pr⟩ h196 196 = some x196 := by
  unfold compFunc
  rw [Tryz.func196]
  kernel_rfl
def h197 : Hints := ⟨fun r i => false, fun id => none, fun _ => none, fun id => bif Nat.beq id 0 then some [0, 1, 6, 7, 8] else none⟩
theorem x197_ok (pr : Nat → List AV → Option AV) : compFunc Tryz.prog noG ⟨fnOf, modeOf, pr⟩ h197 197 = some x197 := by
  unfold compFunc
  rw [Tryz.func197]
  kernel_rfl
def h198 : Hints := ⟨fun r i => false, fun id => none, fun _ => none, fun id => bif Nat.beq id 0 then some [0, 1, 2, 15, 16, 17] else none⟩
theorem x198_ok (pr : Nat → List AV → Option AV) : compFunc Tryz.prog noG ⟨fnOf, modeOf, pr⟩ h198 198 = some x198 := by
  unfold compFunc
  rw [Tryz.func198]
  kernel_rfl
def h199 : Hints := ⟨fun r i => false, fun id => none, fun _ => none, fun id => none⟩
theorem x199_ok (pr : Nat → List AV → Option AV) : compFunc Tryz.prog noG ⟨fnOf, modeOf, pr⟩ h199 199 = some x199 := by
  unfold compFunc
  rw [Tryz.func199]
  kernel_rfl
def h200 : Hints := ⟨fun r i => false, fun id => none, fun _ => none, fun id => bif Nat.beq id 0 then some [0, 1, 7, 8] else none⟩
theorem x200_ok (pr : Nat → List AV → Option AV) : compFunc Tryz.prog noG ⟨fnOf, modeOf, pr⟩ h200 200 = some x200 := by
  unfold compFunc
  rw [Tryz.func200]
  kernel_rfl
def h201 : Hints := ⟨fun r i => false, fun id => none, fun _ => none, fun id => none⟩
theorem x201_ok (pr : Nat → List AV → Option AV) : compFunc Tryz.prog noG ⟨fnOf, modeOf, pr⟩ h201 201 = some x201 := by
  unfold compFunc
  rw [Tryz.func201]
  kernel_rfl
def h202 : Hints := ⟨fun r i => false, fun id => none, fun _ => none, fun id => none⟩
theorem x202_ok (pr : Nat → List AV → Option AV) : compFunc Tryz.prog noG ⟨fnOf, modeOf, pr⟩ h202 202 = some x202 := by
  unfold compFunc
  rw [Tryz.func202]
  kernel_rfl
def h203 : Hints := ⟨fun r i => false, fun id => none, fun _ => none, fun id => bif Nat.beq id 0 then some [1, 5, 9, 10, 11] else none⟩
theorem x203_ok (pr : Nat → List AV → Option AV) : compFunc Tryz.prog noG ⟨fnOf, modeOf, pr⟩ h203 203 = some x203 := by
  unfold compFunc
  rw [Tryz.func203]
  kernel_rfl
def h204 : Hints := ⟨fun r i => false, fun id => none, fun _ => none, fun id => none⟩
theorem x204_ok (pr : Nat → List AV → Option AV) : compFunc Tryz.prog noG ⟨fnOf, modeOf, pr⟩ h204 204 = some x204 := by
  unfold compFunc
  rw [Tryz.func204]
  kernel_rfl
def h206 : Hints := ⟨fun r i => false, fun id => none, fun _ => none, fun id => none⟩
theorem x206_ok (pr : Nat → List AV → Option AV) : compFunc Tryz.prog noG ⟨fnOf, modeOf, pr⟩ h206 206 = some x206 := by
  unfold compFunc
  rw [Tryz.func206]
  kernel_rfl
def h207 : Hints := ⟨fun r i => false, fun id => none, fun _ => none, fun id => bif Nat.beq id 0 then some [0, 1, 2, 3, 8, 9] else none⟩
theorem x207_ok (pr : Nat → List AV → Option AV) : compFunc Tryz.prog noG ⟨fnOf, modeOf, pr⟩ h207 207 = some x207 := by
  unfold compFunc
  rw [Tryz.func207]
  kernel_rfl
def h208 : Hints := ⟨fun r i => false, fun id => none, fun _ => none, fun id => none⟩
theorem x208_ok (pr : Nat → List AV → Option AV) : compFunc Tryz.prog noG ⟨fnOf, modeOf, pr⟩ h208 208 = some x208 := by
  unfold compFunc
  rw [Tryz.func208]
  kernel_rfl
def h214 : Hints := ⟨fun r i => false, fun id => none, fun _ => none, fun id => bif Nat.beq id 0 then some [0, 1, 2, 3, 8] else bif Nat.beq id 2 then some [0, 1, 2, 3, 8, 9] else none⟩
theorem x214_ok (pr : Nat → List AV → Option AV) : compFunc Tryz.prog noG ⟨fnOf, modeOf, pr⟩ h214 214 = some x214 := by
  unfold compFunc
  rw [Tryz.func214]
  kernel_rfl
def h222 : Hints := ⟨fun r i => false, fun id => none, fun _ => none, fun id => bif Nat.beq id 0 then some [0, 8, 9, 10] else none⟩
theorem x222_ok (pr : Nat → List AV → Option AV) : compFunc Tryz.prog noG ⟨fnOf, modeOf, pr⟩ h222 222 = some x222 := by
  unfold compFunc
  rw [Tryz.func222]
  kernel_rfl
def h223 : Hints := ⟨fun r i => false, fun id => none, fun _ => none, fun id => none⟩
theorem x223_ok (pr : Nat → List AV → Option AV) : compFunc Tryz.prog noG ⟨fnOf, modeOf, pr⟩ h223 223 = some x223 := by
  unfold compFunc
  rw [Tryz.func223]
  kernel_rfl
def h224 : Hints := ⟨fun r i => false, fun id => none, fun _ => none, fun id => none⟩
theorem x224_ok (pr : Nat → List AV → Option AV) : compFunc Tryz.prog noG ⟨fnOf, modeOf, pr⟩ h224 224 = some x224 := by
  unfold compFunc
  rw [Tryz.func224]
  kernel_rfl
def h225 : Hints := ⟨fun r i => false, fun id => none, fun _ => none, fun id => none⟩
theorem x225_ok (pr : Nat → List AV → Option AV) : compFunc Tryz.prog noG ⟨fnOf, modeOf, pr⟩ h225 225 = some x225 := by
  unfold compFunc
  rw [Tryz.func225]
  kernel_rfl
def h227 : Hints := ⟨fun r i => false, fun id => none, fun _ => none, fun id => none⟩
theorem x227_ok (pr : Nat → List AV → Option AV) : compFunc Tryz.prog noG ⟨fnOf, modeOf, pr⟩ h227 227 = some x227 := by
  unfold compFunc
  rw [Tryz.func227]
  kernel_rfl
def h228 : Hints := ⟨fun r i => false, fun id => none, fun _ => none, fun id => none⟩
theorem x228_ok (pr : Nat → List AV → Option AV) : compFunc Tryz.prog noG ⟨fnOf, modeOf, pr⟩ h228 228 = some x228 := by
  unfold compFunc
  rw [Tryz.func228]
  kernel_rfl
def h243 : Hints := ⟨fun r i => false, fun id => none, fun _ => none, fun id => bif Nat.beq id 0 then some [0, 1, 7, 8] else none⟩
theorem x243_ok (pr : Nat → List AV → Option AV) : compFunc Tryz.prog noG ⟨fnOf, modeOf, pr⟩ h243 243 = some x243 := by
  unfold compFunc
  rw [Tryz.func243]
  kernel_rfl
def h244 : Hints := ⟨fun r i => false, fun id => none, fun _ => none, fun id => bif Nat.beq id 0 then some [1, 5, 8, 9, 10] else none⟩
theorem x244_ok (pr : Nat → List AV → Option AV) : compFunc Tryz.prog noG ⟨fnOf, modeOf, pr⟩ h244 244 = some x244 := by
  unfold compFunc
  rw [Tryz.func244]
  kernel_rfl
def h245 : Hints := ⟨fun r i => false, fun id => none, fun _ => none, fun id => none⟩
theorem x245_ok (pr : Nat → List AV → Option AV) : compFunc Tryz.prog noG ⟨fnOf, modeOf, pr⟩ h245 245 = some x245 := by
  unfold compFunc
  rw [Tryz.func245]
  kernel_rfl
def h246 : Hints := ⟨fun r i => false, fun id => none, fun _ => none, fun id => none⟩
theorem x246_ok (pr : Nat → List AV → Option AV) : compFunc Tryz.prog noG ⟨fnOf, modeOf, pr⟩ h246 246 = some x246 := by
  unfold compFunc
  rw [Tryz.func246]
  kernel_rfl
def h247 : Hints := ⟨fun r i => false, fun id => none, fun _ => none, fun id => none⟩
theorem x247_ok (pr : Nat → List AV → Option AV) : compFunc Tryz.prog noG ⟨fnOf, modeOf, pr⟩ h247 247 = some x247 := by
  unfold compFunc
  rw [Tryz.func247]
  kernel_rfl
def h248 : Hints := ⟨fun r i => false, fun id => none, fun _ => none, fun id => none⟩
theorem x248_ok (pr : Nat → List AV → Option AV) : compFunc Tryz.prog noG ⟨fnOf, modeOf, pr⟩ h248 248 = some x248 := by
  unfold compFunc
  rw [Tryz.func248]
  kernel_rfl
def h249 : Hints := ⟨fun r i => false, fun id => none, fun _ => none, fun id => none⟩
theorem x249_ok (pr : Nat → List AV → Option AV) : compFunc Tryz.prog noG ⟨fnOf, modeOf, pr⟩ h249 249 = some x249 := by
  unfold compFunc
  rw [Tryz.func249]
  kernel_rfl
def h250 : Hints := ⟨fun r i => false, fun id => none, fun _ => none, fun id => bif Nat.beq id 0 then some [0, 1] else none⟩
theorem x250_ok (pr : Nat → List AV → Option AV) : compFunc Tryz.prog noG ⟨fnOf, modeOf, pr⟩ h250 250 = some x250 := by
  unfold compFunc
  rw [Tryz.func250]
  kernel_rfl
def h252 : Hints := ⟨fun r i => false, fun id => none, fun _ => none, fun id => bif Nat.beq id 0 then some [0, 1, 2, 6] else bif Nat.beq id 2 then some [0, 1, 2, 6, 7] else none⟩
theorem x252_ok (pr : Nat → List AV → Option AV) : compFunc Tryz.prog noG ⟨fnOf, modeOf, pr⟩ h252 252 = some x252 := by
  unfold compFunc
  rw [Tryz.func252]
  kernel_rfl
def h258 : Hints := ⟨fun r i => false, fun id => none, fun _ => none, fun id => none⟩
theorem x258_ok (pr : Nat → List AV → Option AV) : compFunc Tryz.prog noG ⟨fnOf, modeOf, pr⟩ h258 258 = some x258 := by
  unfold compFunc
  rw [Tryz.func258]
  kernel_rfl
def h265 : Hints := ⟨fun r i => false, fun id => none, fun _ => none, fun id => none⟩
theorem x265_ok (pr : Nat → List AV → Option AV) : compFunc Tryz.prog noG ⟨fnOf, modeOf, pr⟩ h265 265 = some x265 := by
  unfold compFunc
  rw [Tryz.func265]
  kernel_rfl
def h266 : Hints := ⟨fun r i => false, fun id => none, fun _ => none, fun id => none⟩
theorem x266_ok (pr : Nat → List AV → Option AV) : compFunc Tryz.prog noG ⟨fnOf, modeOf, pr⟩ h266 266 = some x266 := by
  unfold compFunc
  rw [Tryz.func266]
  kernel_rfl
def h267 : Hints := ⟨fun r i => false, fun id => none, fun _ => none, fun id => none⟩
theorem x267_ok (pr : Nat → List AV → Option AV) : compFunc Tryz.prog noG ⟨fnOf, modeOf, pr⟩ h267 267 = some x267 := by
  unfold compFunc
  rw [Tryz.func267]
  kernel_rfl
def h268 : Hints := ⟨fun r i => false, fun id => none, fun _ => none, fun id => none⟩
theorem x268_ok (pr : Nat → List AV → Option AV) : compFunc Tryz.prog noG ⟨fnOf, modeOf, pr⟩ h268 268 = some x268 := by
  unfold compFunc
  rw [Tryz.func268]
  kernel_rfl
def h269 : Hints := ⟨fun r i => false, fun id => none, fun _ => none, fun id => none⟩
theorem x269_ok (pr : Nat → List AV → Option AV) : compFunc Tryz.prog noG ⟨fnOf, modeOf, pr⟩ h269 269 = some x269 := by
  unfold compFunc
  rw [Tryz.func269]
  kernel_rfl
def h276 : Hints := ⟨fun r i => false, fun id => none, fun _ => none, fun id => none⟩
theorem x276_ok (pr : Nat → List AV → Option AV) : compFunc Tryz.prog noG ⟨fnOf, modeOf, pr⟩ h276 276 = some x276 := by
  unfold compFunc
  rw [Tryz.func276]
  kernel_rfl
def h277 : Hints := ⟨fun r i => false, fun id => none, fun _ => none, fun id => bif Nat.beq id 0 then some [0, 3] else bif Nat.beq id 2 then some [0, 3, 4, 5] else none⟩
theorem x277_ok (pr : Nat → List AV → Option AV) : compFunc Tryz.prog noG ⟨fnOf, modeOf, pr⟩ h277 277 = some x277 := by
  unfold compFunc
  rw [Tryz.func277]
  kernel_rfl
def h278 : Hints := ⟨fun r i => false, fun id => none, fun _ => none, fun id => none⟩
theorem x278_ok (pr : Nat → List AV → Option AV) : compFunc Tryz.prog noG ⟨fnOf, modeOf, pr⟩ h278 278 = some x278 := by
  unfold compFunc
  rw [Tryz.func278]
  kernel_rfl
def h283 : Hints := ⟨fun r i => false, fun id => none, fun _ => none, fun id => none⟩
theorem x283_ok (pr : Nat → List AV → Option AV) : compFunc Tryz.prog noG ⟨fnOf, modeOf, pr⟩ h283 283 = some x283 := by
  unfold compFunc
  rw [Tryz.func283]
  kernel_rfl
def h284 : Hints := ⟨fun r i => false, fun id => none, fun _ => none, fun id => none⟩
theorem x284_ok (pr : Nat → List AV → Option AV) : compFunc Tryz.prog noG ⟨fnOf, modeOf, pr⟩ h284 284 = some x284 := by
  unfold compFunc
  rw [Tryz.func284]
  kernel_rfl
def h285 : Hints := ⟨fun r i => false, fun id => none, fun _ => none, fun id => bif Nat.beq id 0 then some [0, 1, 4] else none⟩
theorem x285_ok (pr : Nat → List AV → Option AV) : compFunc Tryz.prog noG ⟨fnOf, modeOf, pr⟩ h285 285 = some x285 := by
  unfold compFunc
  rw [Tryz.func285]
  kernel_rfl
def h286 : Hints := ⟨fun r i => false, fun id => none, fun _ => none, fun id => bif Nat.beq id 0 then some [0, 1, 3, 4, 10, 11, 13, 14, 15, 16] else bif Nat.beq id 2 then some [0, 1, 3, 4, 10, 11, 13, 17] else none⟩
theorem x286_ok (pr : Nat → List AV → Option AV) : compFunc Tryz.prog noG ⟨fnOf, modeOf, pr⟩ h286 286 = some x286 := by
  unfold compFunc
  rw [Tryz.func286]
  kernel_rfl
def h290 : Hints := ⟨fun r i => false, fun id => none, fun _ => none, fun id => bif Nat.beq id 0 then some [0, 1, 2, 3, 8, 9] else none⟩
theorem x290_ok (pr : Nat → List AV → Option AV) : compFunc Tryz.prog noG ⟨fnOf, modeOf, pr⟩ h290 290 = some x290 := by
  unfold compFunc
  rw [Tryz.func290]
  kernel_rfl
def h292 : Hints := ⟨fun r i => false, fun id => none, fun _ => none, fun id => none⟩
theorem x292_ok (pr : Nat → List AV → Option AV) : compFunc Tryz.prog noG ⟨fnOf, modeOf, pr⟩ h292 292 = some x292 := by
  unfold compFunc
  rw [Tryz.func292]
  kernel_rfl
def h293 : Hints := ⟨fun r i => false, fun id => none, fun _ => none, fun id => none⟩
theorem x293_ok (pr : Nat → List AV → Option AV) : compFunc Tryz.prog noG ⟨fnOf, modeOf, pr⟩ h293 293 = some x293 := by
  unfold compFunc
  rw [Tryz.func293]
  kernel_rfl
def h294 : Hints := ⟨fun r i => false, fun id => none, fun _ => none, fun id => none⟩
theorem x294_ok (pr : Nat → List AV → Option AV) : compFunc Tryz.prog noG ⟨fnOf, modeOf, pr⟩ h294 294 = some x294 := by
  unfold compFunc
  rw [Tryz.func294]
  kernel_rfl
def h295 : Hints := ⟨fun r i => false, fun id => none, fun _ => none, fun id => none⟩
theorem x295_ok (pr : Nat → List AV → Option AV) : compFunc Tryz.prog noG ⟨fnOf, modeOf, pr⟩ h295 295 = some x295 := by
  unfold compFunc
  rw [Tryz.func295]
  kernel_rfl
def h296 : Hints := ⟨fun r i => false, fun id => none, fun _ => none, fun id => bif Nat.beq id 0 then some [0, 1, 2, 6] else bif Nat.beq id 2 then some [0, 1, 2, 6, 7] else none⟩
theorem x296_ok (pr : Nat → List AV → Option AV) : compFunc Tryz.prog noG ⟨fnOf, modeOf, pr⟩ h296 296 = some x296 := by
  unfold compFunc
  rw [Tryz.func296]
  kernel_rfl
def h304 : Hints := ⟨fun r i => false, fun id => none, fun _ => none, fun id => none⟩
theorem x304_ok (pr : Nat → List AV → Option AV) : compFunc Tryz.prog noG ⟨fnOf, modeOf, pr⟩ h304 304 = some x304 := by
  unfold compFunc
  rw [Tryz.func304]
  kernel_rfl
def h305 : Hints := ⟨fun r i => false, fun id => none, fun _ => none, fun id => none⟩
theorem x305_ok (pr : Nat → List AV → Option AV) : compFunc Tryz.prog noG ⟨fnOf, modeOf, pr⟩ h305 305 = some x305 := by
  unfold compFunc
  rw [Tryz.func305]
  kernel_rfl
theorem ok_step {P : Program} {G : Nat → Option AV} {X : Prog} {f k : Nat} {x : XFunc} {r : Option XFunc} (hk : ∃ h, compFunc P G X h k = some x) (hr : ∀ fn, r = some fn → ∃ h, compFunc P G X h f = some fn) : ∀ fn, (bif Nat.beq f k then some x else r) = some fn → ∃ h, compFunc P G X h f = some fn := by
  intro fn h
  cases hb : Nat.beq f k with
  | true => rw [hb] at h; obtain rfl := Nat.eq_of_beq_eq_true hb; obtain rfl := Option.some.inj h; exact hk
  | false => rw [hb] at h; exact hr fn h
theorem progs_ok (pr : Nat → List AV → Option AV) : ProgOK Tryz.prog noG ⟨fnOf, modeOf, pr⟩ := by
  intro f
  show ∀ fn, fnOf f = some fn → _
  unfold fnOf
  refine ok_step ⟨h7, x7_ok pr⟩ ?_
  refine ok_step ⟨h10, x10_ok pr⟩ ?_
  refine ok_step ⟨h11, x11_ok pr⟩ ?_
  refine ok_step ⟨h12, x12_ok pr⟩ ?_
  refine ok_step ⟨h13, x13_ok pr⟩ ?_
  refine ok_step ⟨h14, x14_ok pr⟩ ?_
  refine ok_step ⟨h19, x19_ok pr⟩ ?_
  refine ok_step ⟨h23, x23_ok pr⟩ ?_
  refine ok_step ⟨h30, x30_ok pr⟩ ?_
  refine ok_step ⟨h33, x33_ok pr⟩ ?_
  refine ok_step ⟨h35, x35_ok pr⟩ ?_
  refine ok_step ⟨h37, x37_ok pr⟩ ?_
  refine ok_step ⟨h39, x39_ok pr⟩ ?_
  refine ok_step ⟨h46, x46_ok pr⟩ ?_
  refine ok_step ⟨h47, x47_ok pr⟩ ?_
  refine ok_step ⟨h48, x48_ok pr⟩ ?_
  refine ok_step ⟨h49, x49_ok pr⟩ ?_
  refine ok_step ⟨h52, x52_ok pr⟩ ?_
  refine ok_step ⟨h53, x53_ok pr⟩ ?_
  refine ok_step ⟨h54, x54_ok pr⟩ ?_
  refine ok_step ⟨h55, x55_ok pr⟩ ?_
  refine ok_step ⟨h56, x56_ok pr⟩ ?_
  refine ok_step ⟨h57, x57_ok pr⟩ ?_
  refine ok_step ⟨h58, x58_ok pr⟩ ?_
  refine ok_step ⟨h59, x59_ok pr⟩ ?_
  refine ok_step ⟨h60, x60_ok pr⟩ ?_
  refine ok_step ⟨h61, x61_ok pr⟩ ?_
  refine ok_step ⟨h62, x62_ok pr⟩ ?_
  refine ok_step ⟨h63, x63_ok pr⟩ ?_
  refine ok_step ⟨h64, x64_ok pr⟩ ?_
  refine ok_step ⟨h65, x65_ok pr⟩ ?_
  refine ok_step ⟨h66, x66_ok pr⟩ ?_
  refine ok_step ⟨h68, x68_ok pr⟩ ?_
  refine ok_step ⟨h69, x69_ok pr⟩ ?_
  refine ok_step ⟨h70, x70_ok pr⟩ ?_
  refine ok_step ⟨h71, x71_ok pr⟩ ?_
  refine ok_step ⟨h72, x72_ok pr⟩ ?_
  refine ok_step ⟨h73, x73_ok pr⟩ ?_
  refine ok_step ⟨h84, x84_ok pr⟩ ?_
  refine ok_step ⟨h85, x85_ok pr⟩ ?_
  refine ok_step ⟨h86, x86_ok pr⟩ ?_
  refine ok_step ⟨h87, x87_ok pr⟩ ?_
  refine ok_step ⟨h88, x88_ok pr⟩ ?_
  refine ok_step ⟨h89, x89_ok pr⟩ ?_
  refine ok_step ⟨h90, x90_ok pr⟩ ?_
  refine ok_step ⟨h95, x95_ok pr⟩ ?_
  refine ok_step ⟨h97, x97_ok pr⟩ ?_
  refine ok_step ⟨h99, x99_ok pr⟩ ?_
  refine ok_step ⟨h103, x103_ok pr⟩ ?_
  refine ok_step ⟨h105, x105_ok pr⟩ ?_
  refine ok_step ⟨h108, x108_ok pr⟩ ?_
  refine ok_step ⟨h109, x109_ok pr⟩ ?_
  refine ok_step ⟨h110, x110_ok pr⟩ ?_
  refine ok_step ⟨h111, x111_ok pr⟩ ?_
  refine ok_step ⟨h112, x112_ok pr⟩ ?_
  refine ok_step ⟨h113, x113_ok pr⟩ ?_
  refine ok_step ⟨h114, x114_ok pr⟩ ?_
  refine ok_step ⟨h115, x115_ok pr⟩ ?_
  refine ok_step ⟨h116, x116_ok pr⟩ ?_
  refine ok_step ⟨h117, x117_ok pr⟩ ?_
  refine ok_step ⟨h118, x118_ok pr⟩ ?_
  refine ok_step ⟨h119, x119_ok pr⟩ ?_
  refine ok_step ⟨h120, x120_ok pr⟩ ?_
  refine ok_step ⟨h121, x121_ok pr⟩ ?_
  refine ok_step ⟨h122, x122_ok pr⟩ ?_
  refine ok_step ⟨h123, x123_ok pr⟩ ?_
  refine ok_step ⟨h124, x124_ok pr⟩ ?_
  refine ok_step ⟨h130, x130_ok pr⟩ ?_
  refine ok_step ⟨h131, x131_ok pr⟩ ?_
  refine ok_step ⟨h138, x138_ok pr⟩ ?_
  refine ok_step ⟨h139, x139_ok pr⟩ ?_
  refine ok_step ⟨h140, x140_ok pr⟩ ?_
  refine ok_step ⟨h141, x141_ok pr⟩ ?_
  refine ok_step ⟨h142, x142_ok pr⟩ ?_
  refine ok_step ⟨h143, x143_ok pr⟩ ?_
  refine ok_step ⟨h144, x144_ok pr⟩ ?_
  refine ok_step ⟨h145, x145_ok pr⟩ ?_
  refine ok_step ⟨h146, x146_ok pr⟩ ?_
  refine ok_step ⟨h147, x147_ok pr⟩ ?_
  refine ok_step ⟨h148, x148_ok pr⟩ ?_
  refine ok_step ⟨h149, x149_ok pr⟩ ?_
  refine ok_step ⟨h151, x151_ok pr⟩ ?_
  refine ok_step ⟨h152, x152_ok pr⟩ ?_
  refine ok_step ⟨h153, x153_ok pr⟩ ?_
  refine ok_step ⟨h154, x154_ok pr⟩ ?_
  refine ok_step ⟨h155, x155_ok pr⟩ ?_
  refine ok_step ⟨h156, x156_ok pr⟩ ?_
  refine ok_step ⟨h157, x157_ok pr⟩ ?_
  refine ok_step ⟨h158, x158_ok pr⟩ ?_
  refine ok_step ⟨h166, x166_ok pr⟩ ?_
  refine ok_step ⟨h167, x167_ok pr⟩ ?_
  refine ok_step ⟨h169, x169_ok pr⟩ ?_
  refine ok_step ⟨h170, x170_ok pr⟩ ?_
  refine ok_step ⟨h171, x171_ok pr⟩ ?_
  refine ok_step ⟨h172, x172_ok pr⟩ ?_
  refine ok_step ⟨h173, x173_ok pr⟩ ?_
  refine ok_step ⟨h174, x174_ok pr⟩ ?_
  refine ok_step ⟨h175, x175_ok pr⟩ ?_
  refine ok_step ⟨h178, x178_ok pr⟩ ?_
  refine ok_step ⟨h191, x191_ok pr⟩ ?_
  refine ok_step ⟨h192, x192_ok pr⟩ ?_
  refine ok_step ⟨h193, x193_ok pr⟩ ?_
  refine ok_step ⟨h194, x194_ok pr⟩ ?_
  refine ok_step ⟨h195, x195_ok pr⟩ ?_
  refine ok_step ⟨h196, x196_ok pr⟩ ?_
  refine ok_step ⟨h197, x197_ok pr⟩ ?_
  refine ok_step ⟨h198, x198_ok pr⟩ ?_
  refine ok_step ⟨h199, x199_ok pr⟩ ?_
  refine ok_step ⟨h200, x200_ok pr⟩ ?_
  refine ok_step ⟨h201, x201_ok pr⟩ ?_
  refine ok_step ⟨h202, x202_ok pr⟩ ?_
  refine ok_step ⟨h203, x203_ok pr⟩ ?_
  refine ok_step ⟨h204, x204_ok pr⟩ ?_
  refine ok_step ⟨h206, x206_ok pr⟩ ?_
  refine ok_step ⟨h207, x207_ok pr⟩ ?_
  refine ok_step ⟨h208, x208_ok pr⟩ ?_
  refine ok_step ⟨h214, x214_ok pr⟩ ?_
  refine ok_step ⟨h222, x222_ok pr⟩ ?_
  refine ok_step ⟨h223, x223_ok pr⟩ ?_
  refine ok_step ⟨h224, x224_ok pr⟩ ?_
  refine ok_step ⟨h225, x225_ok pr⟩ ?_
  refine ok_step ⟨h227, x227_ok pr⟩ ?_
  refine ok_step ⟨h228, x228_ok pr⟩ ?_
  refine ok_step ⟨h243, x243_ok pr⟩ ?_
  refine ok_step ⟨h244, x244_ok pr⟩ ?_
  refine ok_step ⟨h245, x245_ok pr⟩ ?_
  refine ok_step ⟨h246, x246_ok pr⟩ ?_
  refine ok_step ⟨h247, x247_ok pr⟩ ?_
  refine ok_step ⟨h248, x248_ok pr⟩ ?_
  refine ok_step ⟨h249, x249_ok pr⟩ ?_
  refine ok_step ⟨h250, x250_ok pr⟩ ?_
  refine ok_step ⟨h252, x252_ok pr⟩ ?_
  refine ok_step ⟨h258, x258_ok pr⟩ ?_
  refine ok_step ⟨h265, x265_ok pr⟩ ?_
  refine ok_step ⟨h266, x266_ok pr⟩ ?_
  refine ok_step ⟨h267, x267_ok pr⟩ ?_
  refine ok_step ⟨h268, x268_ok pr⟩ ?_
  refine ok_step ⟨h269, x269_ok pr⟩ ?_
  refine ok_step ⟨h276, x276_ok pr⟩ ?_
  refine ok_step ⟨h277, x277_ok pr⟩ ?_
  refine ok_step ⟨h278, x278_ok pr⟩ ?_
  refine ok_step ⟨h283, x283_ok pr⟩ ?_
  refine ok_step ⟨h284, x284_ok pr⟩ ?_
  refine ok_step ⟨h285, x285_ok pr⟩ ?_
  refine ok_step ⟨h286, x286_ok pr⟩ ?_
  refine ok_step ⟨h290, x290_ok pr⟩ ?_
  refine ok_step ⟨h292, x292_ok pr⟩ ?_
  refine ok_step ⟨h293, x293_ok pr⟩ ?_
  refine ok_step ⟨h294, x294_ok pr⟩ ?_
  refine ok_step ⟨h295, x295_ok pr⟩ ?_
  refine ok_step ⟨h296, x296_ok pr⟩ ?_
  refine ok_step ⟨h304, x304_ok pr⟩ ?_
  refine ok_step ⟨h305, x305_ok pr⟩ ?_
  intro fn h; cases h
theorem prog_ok : ProgOK Tryz.prog noG prog := progs_ok primOf
end X
end Go.Proofs.YtplginnkececaaaGreatDoor
