/- The engine's functions are the program's. No condition. MADE BY PROGRAM (xgen). -/
import Derived.Test.YtplginnkececaaaGreatDoorZXD
set_option maxRecDepth 100000
set_option linter.unusedVariables false
namespace Go.Proofs.YtplginnkececaaaGreatDoor
open Go
namespace X
abbrev cOk (pr : Nat → List AV → Option AV) (h : Hints) (n : Nat) (x : XFunc) : Prop := compFunc Tryz.prog noG ⟨fnOf, modeOf, pr⟩ h n = some x
def hz : Hints := ⟨fun r i => false, fun id => none, fun _ => none, fun id => none⟩
def h6 : Hints := ⟨fun r i => false, fun id => none, fun _ => none, fun id => bif Nat.beq id 0 then some [5, 8, 10, 12, 57, 58, 59] else bif Nat.beq id 2 then some [5, 10, 12, 16, 94, 95, 96] else none⟩
theorem x6_ok (pr : Nat → List AV → Option AV) : cOk pr h6 6 x6 := by
  unfold cOk compFunc
  rw [Tryz.func6]
  kernel_rfl
def h10 : Hints := ⟨fun r i => false, fun id => none, fun _ => none, fun id => bif Nat.beq id 0 then some [0, 5, 6, 9, 10] else none⟩
theorem x10_ok (pr : Nat → List AV → Option AV) : cOk pr h10 10 x10 := by
  unfold cOk compFunc
  rw [Tryz.func10]
  kernel_rfl
theorem x11_ok (pr : Nat → List AV → Option AV) : cOk pr hz 11 x11 := by
  unfold cOk compFunc
  rw [Tryz.func11]
  kernel_rfl
theorem x12_ok (pr : Nat → List AV → Option AV) : cOk pr hz 12 x12 := by
  unfold cOk compFunc
  rw [Tryz.func12]
  kernel_rfl
theorem x13_ok (pr : Nat → List AV → Option AV) : cOk pr hz 13 x13 := by
  unfold cOk compFunc
  rw [Tryz.func13]
  kernel_rfl
def h14 : Hints := ⟨fun r i => false, fun id => none, fun _ => none, fun id => bif Nat.beq id 0 then some [11, 31, 32, 33] else none⟩
theorem x14_ok (pr : Nat → List AV → Option AV) : cOk pr h14 14 x14 := by
  unfold cOk compFunc
  rw [Tryz.func14]
  kernel_rfl
def h19 : Hints := ⟨fun r i => false, fun id => none, fun _ => none, fun id => bif Nat.beq id 0 then some [0, 9, 10, 11] else none⟩
theorem x19_ok (pr : Nat → List AV → Option AV) : cOk pr h19 19 x19 := by
  unfold cOk compFunc
  rw [Tryz.func19]
  kernel_rfl
theorem x30_ok (pr : Nat → List AV → Option AV) : cOk pr hz 30 x30 := by
  unfold cOk compFunc
  rw [Tryz.func30]
  kernel_rfl
theorem x33_ok (pr : Nat → List AV → Option AV) : cOk pr hz 33 x33 := by
  unfold cOk compFunc
  rw [Tryz.func33]
  kernel_rfl
theorem x35_ok (pr : Nat → List AV → Option AV) : cOk pr hz 35 x35 := by
  unfold cOk compFunc
  rw [Tryz.func35]
  kernel_rfl
def h38 : Hints := ⟨fun r i => false, fun id => none, fun _ => none, fun id => bif Nat.beq id 0 then some [9, 30, 31, 32] else none⟩
theorem x38_ok (pr : Nat → List AV → Option AV) : cOk pr h38 38 x38 := by
  unfold cOk compFunc
  rw [Tryz.func38]
  kernel_rfl
def h39 : Hints := ⟨fun r i => false, fun id => none, fun _ => none, fun id => bif Nat.beq id 0 then some [0, 9, 10, 11] else none⟩
theorem x39_ok (pr : Nat → List AV → Option AV) : cOk pr h39 39 x39 := by
  unfold cOk compFunc
  rw [Tryz.func39]
  kernel_rfl
theorem x46_ok (pr : Nat → List AV → Option AV) : cOk pr hz 46 x46 := by
  unfold cOk compFunc
  rw [Tryz.func46]
  kernel_rfl
def h47 : Hints := ⟨fun r i => false, fun id => none, fun _ => none, fun id => bif Nat.beq id 0 then some [0, 3, 4, 10, 11] else none⟩
theorem x47_ok (pr : Nat → List AV → Option AV) : cOk pr h47 47 x47 := by
  unfold cOk compFunc
  rw [Tryz.func47]
  kernel_rfl
def h48 : Hints := ⟨fun r i => false, fun id => none, fun _ => none, fun id => bif Nat.beq id 0 then some [0, 1, 6] else none⟩
theorem x48_ok (pr : Nat → List AV → Option AV) : cOk pr h48 48 x48 := by
  unfold cOk compFunc
  rw [Tryz.func48]
  kernel_rfl
def h49 : Hints := ⟨fun r i => false, fun id => none, fun _ => none, fun id => bif Nat.beq id 0 then some [5, 6, 7] else none⟩
theorem x49_ok (pr : Nat → List AV → Option AV) : cOk pr h49 49 x49 := by
  unfold cOk compFunc
  rw [Tryz.func49]
  kernel_rfl
theorem x50_ok (pr : Nat → List AV → Option AV) : cOk pr hz 50 x50 := by
  unfold cOk compFunc
  rw [Tryz.func50]
  kernel_rfl
theorem x51_ok (pr : Nat → List AV → Option AV) : cOk pr hz 51 x51 := by
  unfold cOk compFunc
  rw [Tryz.func51]
  kernel_rfl
theorem x52_ok (pr : Nat → List AV → Option AV) : cOk pr hz 52 x52 := by
  unfold cOk compFunc
  rw [Tryz.func52]
  kernel_rfl
theorem x54_ok (pr : Nat → List AV → Option AV) : cOk pr hz 54 x54 := by
  unfold cOk compFunc
  rw [Tryz.func54]
  kernel_rfl
theorem x55_ok (pr : Nat → List AV → Option AV) : cOk pr hz 55 x55 := by
  unfold cOk compFunc
  rw [Tryz.func55]
  kernel_rfl
def h56 : Hints := ⟨fun r i => false, fun id => bif Nat.beq id 4 then some [0, 1, 5, 6, 2, 3, 7, 8, 4, 9, 10, 11, 12, 13] else none, fun _ => none, fun id => none⟩
theorem x56_ok (pr : Nat → List AV → Option AV) : cOk pr h56 56 x56 := by
  unfold cOk compFunc
  rw [Tryz.func56]
  kernel_rfl
theorem x57_ok (pr : Nat → List AV → Option AV) : cOk pr hz 57 x57 := by
  unfold cOk compFunc
  rw [Tryz.func57]
  kernel_rfl
theorem x58_ok (pr : Nat → List AV → Option AV) : cOk pr hz 58 x58 := by
  unfold cOk compFunc
  rw [Tryz.func58]
  kernel_rfl
def h59 : Hints := ⟨fun r i => false, fun id => none, fun _ => none, fun id => bif Nat.beq id 0 then some [0, 1, 5] else bif Nat.beq id 2 then some [0, 1, 5, 6, 7] else none⟩
theorem x59_ok (pr : Nat → List AV → Option AV) : cOk pr h59 59 x59 := by
  unfold cOk compFunc
  rw [Tryz.func59]
  kernel_rfl
theorem x60_ok (pr : Nat → List AV → Option AV) : cOk pr hz 60 x60 := by
  unfold cOk compFunc
  rw [Tryz.func60]
  kernel_rfl
theorem x61_ok (pr : Nat → List AV → Option AV) : cOk pr hz 61 x61 := by
  unfold cOk compFunc
  rw [Tryz.func61]
  kernel_rfl
theorem x62_ok (pr : Nat → List AV → Option AV) : cOk pr hz 62 x62 := by
  unfold cOk compFunc
  rw [Tryz.func62]
  kernel_rfl
def h63 : Hints := ⟨fun r i => false, fun id => none, fun _ => none, fun id => bif Nat.beq id 0 then some [3, 9, 15, 16, 17] else none⟩
theorem x63_ok (pr : Nat → List AV → Option AV) : cOk pr h63 63 x63 := by
  unfold cOk compFunc
  rw [Tryz.func63]
  kernel_rfl
theorem x64_ok (pr : Nat → List AV → Option AV) : cOk pr hz 64 x64 := by
  unfold cOk compFunc
  rw [Tryz.func64]
  kernel_rfl
theorem x65_ok (pr : Nat → List AV → Option AV) : cOk pr hz 65 x65 := by
  unfold cOk compFunc
  rw [Tryz.func65]
  kernel_rfl
theorem x66_ok (pr : Nat → List AV → Option AV) : cOk pr hz 66 x66 := by
  unfold cOk compFunc
  rw [Tryz.func66]
  kernel_rfl
def h68 : Hints := ⟨fun r i => (Nat.beq r 6 && Nat.beq i 2), fun id => none, fun _ => none, fun id => bif Nat.beq id 0 then some [0, 1, 5, 11, 12, 13] else none⟩
theorem x68_ok (pr : Nat → List AV → Option AV) : cOk pr h68 68 x68 := by
  unfold cOk compFunc
  rw [Tryz.func68]
  kernel_rfl
theorem x69_ok (pr : Nat → List AV → Option AV) : cOk pr hz 69 x69 := by
  unfold cOk compFunc
  rw [Tryz.func69]
  kernel_rfl
theorem x70_ok (pr : Nat → List AV → Option AV) : cOk pr hz 70 x70 := by
  unfold cOk compFunc
  rw [Tryz.func70]
  kernel_rfl
theorem x71_ok (pr : Nat → List AV → Option AV) : cOk pr hz 71 x71 := by
  unfold cOk compFunc
  rw [Tryz.func71]
  kernel_rfl
theorem x72_ok (pr : Nat → List AV → Option AV) : cOk pr hz 72 x72 := by
  unfold cOk compFunc
  rw [Tryz.func72]
  kernel_rfl
def h73 : Hints := ⟨fun r i => (Nat.beq r 1 && Nat.beq i 1), fun id => none, fun _ => none, fun id => bif Nat.beq id 0 then some [1, 5, 6] else none⟩
theorem x73_ok (pr : Nat → List AV → Option AV) : cOk pr h73 73 x73 := by
  unfold cOk compFunc
  rw [Tryz.func73]
  kernel_rfl
def h84 : Hints := ⟨fun r i => false, fun id => none, fun _ => none, fun id => bif Nat.beq id 0 then some [3, 6, 7, 8] else none⟩
theorem x84_ok (pr : Nat → List AV → Option AV) : cOk pr h84 84 x84 := by
  unfold cOk compFunc
  rw [Tryz.func84]
  kernel_rfl
theorem x85_ok (pr : Nat → List AV → Option AV) : cOk pr hz 85 x85 := by
  unfold cOk compFunc
  rw [Tryz.func85]
  kernel_rfl
def h86 : Hints := ⟨fun r i => false, fun id => none, fun _ => none, fun id => bif Nat.beq id 0 then some [5, 6, 7] else none⟩
theorem x86_ok (pr : Nat → List AV → Option AV) : cOk pr h86 86 x86 := by
  unfold cOk compFunc
  rw [Tryz.func86]
  kernel_rfl
def h87 : Hints := ⟨fun r i => false, fun id => none, fun _ => none, fun id => bif Nat.beq id 0 then some [0, 8, 9, 10] else none⟩
theorem x87_ok (pr : Nat → List AV → Option AV) : cOk pr h87 87 x87 := by
  unfold cOk compFunc
  rw [Tryz.func87]
  kernel_rfl
def h88 : Hints := ⟨fun r i => false, fun id => none, fun _ => none, fun id => bif Nat.beq id 0 then some [0, 23, 24] else none⟩
theorem x88_ok (pr : Nat → List AV → Option AV) : cOk pr h88 88 x88 := by
  unfold cOk compFunc
  rw [Tryz.func88]
  kernel_rfl
theorem x89_ok (pr : Nat → List AV → Option AV) : cOk pr hz 89 x89 := by
  unfold cOk compFunc
  rw [Tryz.func89]
  kernel_rfl
def h90 : Hints := ⟨fun r i => false, fun id => none, fun _ => none, fun id => bif Nat.beq id 0 then some [0, 1, 7, 8] else none⟩
theorem x90_ok (pr : Nat → List AV → Option AV) : cOk pr h90 90 x90 := by
  unfold cOk compFunc
  rw [Tryz.func90]
  kernel_rfl
theorem x95_ok (pr : Nat → List AV → Option AV) : cOk pr hz 95 x95 := by
  unfold cOk compFunc
  rw [Tryz.func95]
  kernel_rfl
theorem x97_ok (pr : Nat → List AV → Option AV) : cOk pr hz 97 x97 := by
  unfold cOk compFunc
  rw [Tryz.func97]
  kernel_rfl
theorem x99_ok (pr : Nat → List AV → Option AV) : cOk pr hz 99 x99 := by
  unfold cOk compFunc
  rw [Tryz.func99]
  kernel_rfl
theorem x101_ok (pr : Nat → List AV → Option AV) : cOk pr hz 101 x101 := by
  unfold cOk compFunc
  rw [Tryz.func101]
  kernel_rfl
theorem x102_ok (pr : Nat → List AV → Option AV) : cOk pr hz 102 x102 := by
  unfold cOk compFunc
  rw [Tryz.func102]
  kernel_rfl
theorem x103_ok (pr : Nat → List AV → Option AV) : cOk pr hz 103 x103 := by
  unfold cOk compFunc
  rw [Tryz.func103]
  kernel_rfl
def h105 : Hints := ⟨fun r i => false, fun id => none, fun _ => none, fun id => bif Nat.beq id 0 then some [0, 1, 7, 8] else none⟩
theorem x105_ok (pr : Nat → List AV → Option AV) : cOk pr h105 105 x105 := by
  unfold cOk compFunc
  rw [Tryz.func105]
  kernel_rfl
theorem x106_ok (pr : Nat → List AV → Option AV) : cOk pr hz 106 x106 := by
  unfold cOk compFunc
  rw [Tryz.func106]
  kernel_rfl
def h107 : Hints := ⟨fun r i => false, fun id => none, fun _ => none, fun id => bif Nat.beq id 0 then some [0, 3, 7, 8] else none⟩
theorem x107_ok (pr : Nat → List AV → Option AV) : cOk pr h107 107 x107 := by
  unfold cOk compFunc
  rw [Tryz.func107]
  kernel_rfl
theorem x108_ok (pr : Nat → List AV → Option AV) : cOk pr hz 108 x108 := by
  unfold cOk compFunc
  rw [Tryz.func108]
  kernel_rfl
theorem x109_ok (pr : Nat → List AV → Option AV) : cOk pr hz 109 x109 := by
  unfold cOk compFunc
  rw [Tryz.func109]
  kernel_rfl
theorem x110_ok (pr : Nat → List AV → Option AV) : cOk pr hz 110 x110 := by
  unfold cOk compFunc
  rw [Tryz.func110]
  kernel_rfl
def h112 : Hints := ⟨fun r i => false, fun id => none, fun _ => none, fun id => bif Nat.beq id 0 then some [0, 1, 2, 6, 7, 8] else bif Nat.beq id 2 then some [0, 1, 2, 6] else bif Nat.beq id 4 then some [0, 1, 2, 6, 7, 8] else none⟩
theorem x112_ok (pr : Nat → List AV → Option AV) : cOk pr h112 112 x112 := by
  unfold cOk compFunc
  rw [Tryz.func112]
  kernel_rfl
def h113 : Hints := ⟨fun r i => false, fun id => none, fun _ => none, fun id => bif Nat.beq id 0 then some [0, 8, 9, 10] else none⟩
theorem x113_ok (pr : Nat → List AV → Option AV) : cOk pr h113 113 x113 := by
  unfold cOk compFunc
  rw [Tryz.func113]
  kernel_rfl
def h114 : Hints := ⟨fun r i => false, fun id => none, fun _ => none, fun id => bif Nat.beq id 0 then some [5, 16, 17, 18] else none⟩
theorem x114_ok (pr : Nat → List AV → Option AV) : cOk pr h114 114 x114 := by
  unfold cOk compFunc
  rw [Tryz.func114]
  kernel_rfl
def h115 : Hints := ⟨fun r i => false, fun id => none, fun _ => none, fun id => bif Nat.beq id 0 then some [0, 1] else bif Nat.beq id 2 then some [0, 1, 4, 6, 22, 23, 24] else bif Nat.beq id 4 then some [0, 1, 4, 55, 56, 57] else none⟩
theorem x115_ok (pr : Nat → List AV → Option AV) : cOk pr h115 115 x115 := by
  unfold cOk compFunc
  rw [Tryz.func115]
  kernel_rfl
def h116 : Hints := ⟨fun r i => (Nat.beq r 8 && Nat.beq i 6), fun id => none, fun _ => none, fun id => none⟩
theorem x116_ok (pr : Nat → List AV → Option AV) : cOk pr h116 116 x116 := by
  unfold cOk compFunc
  rw [Tryz.func116]
  kernel_rfl
def h117 : Hints := ⟨fun r i => false, fun id => none, fun _ => none, fun id => bif Nat.beq id 0 then some [0, 1, 2, 3, 4, 10, 11] else none⟩
theorem x117_ok (pr : Nat → List AV → Option AV) : cOk pr h117 117 x117 := by
  unfold cOk compFunc
  rw [Tryz.func117]
  kernel_rfl
theorem x118_ok (pr : Nat → List AV → Option AV) : cOk pr hz 118 x118 := by
  unfold cOk compFunc
  rw [Tryz.func118]
  kernel_rfl
theorem x119_ok (pr : Nat → List AV → Option AV) : cOk pr hz 119 x119 := by
  unfold cOk compFunc
  rw [Tryz.func119]
  kernel_rfl
theorem x120_ok (pr : Nat → List AV → Option AV) : cOk pr hz 120 x120 := by
  unfold cOk compFunc
  rw [Tryz.func120]
  kernel_rfl
theorem x121_ok (pr : Nat → List AV → Option AV) : cOk pr hz 121 x121 := by
  unfold cOk compFunc
  rw [Tryz.func121]
  kernel_rfl
theorem x122_ok (pr : Nat → List AV → Option AV) : cOk pr hz 122 x122 := by
  unfold cOk compFunc
  rw [Tryz.func122]
  kernel_rfl
def h123 : Hints := ⟨fun r i => false, fun id => none, fun _ => none, fun id => bif Nat.beq id 0 then some [0, 9, 10, 11] else none⟩
theorem x123_ok (pr : Nat → List AV → Option AV) : cOk pr h123 123 x123 := by
  unfold cOk compFunc
  rw [Tryz.func123]
  kernel_rfl
def h124 : Hints := ⟨fun r i => (Nat.beq r 11 && Nat.beq i 29) || (Nat.beq r 11 && Nat.beq i 35), fun id => none, fun _ => none, fun id => none⟩
theorem x124_ok (pr : Nat → List AV → Option AV) : cOk pr h124 124 x124 := by
  unfold cOk compFunc
  rw [Tryz.func124]
  kernel_rfl
theorem x130_ok (pr : Nat → List AV → Option AV) : cOk pr hz 130 x130 := by
  unfold cOk compFunc
  rw [Tryz.func130]
  kernel_rfl
theorem x131_ok (pr : Nat → List AV → Option AV) : cOk pr hz 131 x131 := by
  unfold cOk compFunc
  rw [Tryz.func131]
  kernel_rfl
def h137 : Hints := ⟨fun r i => false, fun id => none, fun _ => none, fun id => bif Nat.beq id 0 then some [0, 1, 2, 3, 4, 10, 11] else none⟩
theorem x137_ok (pr : Nat → List AV → Option AV) : cOk pr h137 137 x137 := by
  unfold cOk compFunc
  rw [Tryz.func137]
  kernel_rfl
theorem x138_ok (pr : Nat → List AV → Option AV) : cOk pr hz 138 x138 := by
  unfold cOk compFunc
  rw [Tryz.func138]
  kernel_rfl
theorem x139_ok (pr : Nat → List AV → Option AV) : cOk pr hz 139 x139 := by
  unfold cOk compFunc
  rw [Tryz.func139]
  kernel_rfl
def h140 : Hints := ⟨fun r i => false, fun id => none, fun _ => none, fun id => bif Nat.beq id 0 then some [0, 8, 9, 10] else none⟩
theorem x140_ok (pr : Nat → List AV → Option AV) : cOk pr h140 140 x140 := by
  unfold cOk compFunc
  rw [Tryz.func140]
  kernel_rfl
def h141 : Hints := ⟨fun r i => false, fun id => bif Nat.beq id 3 then some [0, 1, 2, 3, 4, 5, 9, 10, 11, 12, 6, 7, 13, 14, 8, 15, 16, 17, 18, 19, 20, 21] else none, fun _ => none, fun id => bif Nat.beq id 0 then some [3, 46, 47, 48] else bif Nat.beq id 2 then some [3, 93, 94] else none⟩
theorem x141_ok (pr : Nat → List AV → Option AV) : cOk pr h141 141 x141 := by
  unfold cOk compFunc
  rw [Tryz.func141]
  kernel_rfl
def h142 : Hints := ⟨fun r i => false, fun id => none, fun _ => none, fun id => bif Nat.beq id 0 then some [3, 9, 10, 11] else none⟩
theorem x142_ok (pr : Nat → List AV → Option AV) : cOk pr h142 142 x142 := by
  unfold cOk compFunc
  rw [Tryz.func142]
  kernel_rfl
def h143 : Hints := ⟨fun r i => false, fun id => none, fun _ => none, fun id => bif Nat.beq id 0 then some [0, 8, 9, 10] else none⟩
theorem x143_ok (pr : Nat → List AV → Option AV) : cOk pr h143 143 x143 := by
  unfold cOk compFunc
  rw [Tryz.func143]
  kernel_rfl
def h144 : Hints := ⟨fun r i => false, fun id => none, fun _ => none, fun id => bif Nat.beq id 0 then some [4, 5, 9, 10, 11] else none⟩
theorem x144_ok (pr : Nat → List AV → Option AV) : cOk pr h144 144 x144 := by
  unfold cOk compFunc
  rw [Tryz.func144]
  kernel_rfl
def h145 : Hints := ⟨fun r i => false, fun id => none, fun _ => none, fun id => bif Nat.beq id 0 then some [0, 8, 9, 10] else none⟩
theorem x145_ok (pr : Nat → List AV → Option AV) : cOk pr h145 145 x145 := by
  unfold cOk compFunc
  rw [Tryz.func145]
  kernel_rfl
theorem x146_ok (pr : Nat → List AV → Option AV) : cOk pr hz 146 x146 := by
  unfold cOk compFunc
  rw [Tryz.func146]
  kernel_rfl
def h147 : Hints := ⟨fun r i => false, fun id => none, fun _ => none, fun id => bif Nat.beq id 0 then some [2, 3, 7, 17, 18, 19] else none⟩
theorem x147_ok (pr : Nat → List AV → Option AV) : cOk pr h147 147 x147 := by
  unfold cOk compFunc
  rw [Tryz.func147]
  kernel_rfl
theorem x148_ok (pr : Nat → List AV → Option AV) : cOk pr hz 148 x148 := by
  unfold cOk compFunc
  rw [Tryz.func148]
  kernel_rfl
def h149 : Hints := ⟨fun r i => false, fun id => none, fun _ => none, fun id => bif Nat.beq id 0 then some [0, 1, 2, 3, 8] else bif Nat.beq id 2 then some [0, 1, 2, 3, 8, 9] else none⟩
theorem x149_ok (pr : Nat → List AV → Option AV) : cOk pr h149 149 x149 := by
  unfold cOk compFunc
  rw [Tryz.func149]
  kernel_rfl
def h151 : Hints := ⟨fun r i => false, fun id => none, fun _ => none, fun id => bif Nat.beq id 0 then some [1, 6, 14, 15, 16] else none⟩
theorem x151_ok (pr : Nat → List AV → Option AV) : cOk pr h151 151 x151 := by
  unfold cOk compFunc
  rw [Tryz.func151]
  kernel_rfl
theorem x152_ok (pr : Nat → List AV → Option AV) : cOk pr hz 152 x152 := by
  unfold cOk compFunc
  rw [Tryz.func152]
  kernel_rfl
theorem x153_ok (pr : Nat → List AV → Option AV) : cOk pr hz 153 x153 := by
  unfold cOk compFunc
  rw [Tryz.func153]
  kernel_rfl
def h154 : Hints := ⟨fun r i => false, fun id => none, fun _ => none, fun id => bif Nat.beq id 0 then some [0, 3] else bif Nat.beq id 2 then some [0, 3, 4, 5] else none⟩
theorem x154_ok (pr : Nat → List AV → Option AV) : cOk pr h154 154 x154 := by
  unfold cOk compFunc
  rw [Tryz.func154]
  kernel_rfl
def h155 : Hints := ⟨fun r i => false, fun id => none, fun _ => none, fun id => bif Nat.beq id 0 then some [0, 2, 12, 13, 14] else none⟩
theorem x155_ok (pr : Nat → List AV → Option AV) : cOk pr h155 155 x155 := by
  unfold cOk compFunc
  rw [Tryz.func155]
  kernel_rfl
def h156 : Hints := ⟨fun r i => false, fun id => none, fun _ => none, fun id => bif Nat.beq id 0 then some [2, 3, 5, 9, 10, 11, 12, 33, 34, 35] else none⟩
theorem x156_ok (pr : Nat → List AV → Option AV) : cOk pr h156 156 x156 := by
  unfold cOk compFunc
  rw [Tryz.func156]
  kernel_rfl
theorem x157_ok (pr : Nat → List AV → Option AV) : cOk pr hz 157 x157 := by
  unfold cOk compFunc
  rw [Tryz.func157]
  kernel_rfl
def h158 : Hints := ⟨fun r i => false, fun id => none, fun _ => none, fun id => bif Nat.beq id 0 then some [0, 1, 2, 3, 8] else bif Nat.beq id 2 then some [0, 1, 2, 3, 8, 9] else none⟩
theorem x158_ok (pr : Nat → List AV → Option AV) : cOk pr h158 158 x158 := by
  unfold cOk compFunc
  rw [Tryz.func158]
  kernel_rfl
theorem x166_ok (pr : Nat → List AV → Option AV) : cOk pr hz 166 x166 := by
  unfold cOk compFunc
  rw [Tryz.func166]
  kernel_rfl
theorem x167_ok (pr : Nat → List AV → Option AV) : cOk pr hz 167 x167 := by
  unfold cOk compFunc
  rw [Tryz.func167]
  kernel_rfl
def h169 : Hints := ⟨fun r i => false, fun id => none, fun _ => none, fun id => bif Nat.beq id 0 then some [0, 1, 2, 3, 4, 10, 11] else none⟩
theorem x169_ok (pr : Nat → List AV → Option AV) : cOk pr h169 169 x169 := by
  unfold cOk compFunc
  rw [Tryz.func169]
  kernel_rfl
theorem x170_ok (pr : Nat → List AV → Option AV) : cOk pr hz 170 x170 := by
  unfold cOk compFunc
  rw [Tryz.func170]
  kernel_rfl
def h171 : Hints := ⟨fun r i => false, fun id => none, fun _ => none, fun id => bif Nat.beq id 0 then some [0, 1, 2, 8, 9, 10] else none⟩
theorem x171_ok (pr : Nat → List AV → Option AV) : cOk pr h171 171 x171 := by
  unfold cOk compFunc
  rw [Tryz.func171]
  kernel_rfl
theorem x172_ok (pr : Nat → List AV → Option AV) : cOk pr hz 172 x172 := by
  unfold cOk compFunc
  rw [Tryz.func172]
  kernel_rfl
theorem x173_ok (pr : Nat → List AV → Option AV) : cOk pr hz 173 x173 := by
  unfold cOk compFunc
  rw [Tryz.func173]
  kernel_rfl
theorem x174_ok (pr : Nat → List AV → Option AV) : cOk pr hz 174 x174 := by
  unfold cOk compFunc
  rw [Tryz.func174]
  kernel_rfl
def h175 : Hints := ⟨fun r i => false, fun id => none, fun _ => none, fun id => bif Nat.beq id 3 then some [7, 8, 9] else none⟩
theorem x175_ok (pr : Nat → List AV → Option AV) : cOk pr h175 175 x175 := by
  unfold cOk compFunc
  rw [Tryz.func175]
  kernel_rfl
theorem x178_ok (pr : Nat → List AV → Option AV) : cOk pr hz 178 x178 := by
  unfold cOk compFunc
  rw [Tryz.func178]
  kernel_rfl
def h183 : Hints := ⟨fun r i => false, fun id => none, fun _ => none, fun id => bif Nat.beq id 0 then some [0, 1, 2, 3, 8] else bif Nat.beq id 2 then some [0, 1, 2, 3, 8, 9] else none⟩
theorem x183_ok (pr : Nat → List AV → Option AV) : cOk pr h183 183 x183 := by
  unfold cOk compFunc
  rw [Tryz.func183]
  kernel_rfl
theorem x191_ok (pr : Nat → List AV → Option AV) : cOk pr hz 191 x191 := by
  unfold cOk compFunc
  rw [Tryz.func191]
  kernel_rfl
theorem x192_ok (pr : Nat → List AV → Option AV) : cOk pr hz 192 x192 := by
  unfold cOk compFunc
  rw [Tryz.func192]
  kernel_rfl
theorem x193_ok (pr : Nat → List AV → Option AV) : cOk pr hz 193 x193 := by
  unfold cOk compFunc
  rw [Tryz.func193]
  kernel_rfl
theorem x194_ok (pr : Nat → List AV → Option AV) : cOk pr hz 194 x194 := by
  unfold cOk compFunc
  rw [Tryz.func194]
  kernel_rfl
theorem x195_ok (pr : Nat → List AV → Option AV) : cOk pr hz 195 x195 := by
  unfold cOk compFunc
  rw [Tryz.func195]
  kernel_rfl
def h196 : Hints := ⟨fun r i => false, fun id => none, fun _ => none, fun id => bif Nat.beq id 0 then some [7, 8] else none⟩
theorem x196_ok (pr : Nat → List AV → Option AV) : cOk pr h196 196 x196 := by
  unfold cOk compFunc
  rw [Tryz.func196]
  kernel_rfl
def h197 : Hints := ⟨fun r i => false, fun id => none, fun _ => none, fun id => bif Nat.beq id 0 then some [0, 1, 6, 7, 8] else none⟩
theorem x197_ok (pr : Nat → List AV → Option AV) : cOk pr h197 197 x197 := by
  unfold cOk compFunc
  rw [Tryz.func197]
  kernel_rfl
def h198 : Hints := ⟨fun r i => false, fun id => none, fun _ => none, fun id => bif Nat.beq id 0 then some [0, 1, 2, 15, 16, 17] else none⟩
theorem x198_ok (pr : Nat → List AV → Option AV) : cOk pr h198 198 x198 := by
  unfold cOk compFunc
  rw [Tryz.func198]
  kernel_rfl
theorem x199_ok (pr : Nat → List AV → Option AV) : cOk pr hz 199 x199 := by
  unfold cOk compFunc
  rw [Tryz.func199]
  kernel_rfl
def h200 : Hints := ⟨fun r i => false, fun id => none, fun _ => none, fun id => bif Nat.beq id 0 then some [0, 1, 7, 8] else none⟩
theorem x200_ok (pr : Nat → List AV → Option AV) : cOk pr h200 200 x200 := by
  unfold cOk compFunc
  rw [Tryz.func200]
  kernel_rfl
theorem x201_ok (pr : Nat → List AV → Option AV) : cOk pr hz 201 x201 := by
  unfold cOk compFunc
  rw [Tryz.func201]
  kernel_rfl
theorem x202_ok (pr : Nat → List AV → Option AV) : cOk pr hz 202 x202 := by
  unfold cOk compFunc
  rw [Tryz.func202]
  kernel_rfl
def h203 : Hints := ⟨fun r i => false, fun id => none, fun _ => none, fun id => bif Nat.beq id 0 then some [1, 5, 9, 10, 11] else none⟩
theorem x203_ok (pr : Nat → List AV → Option AV) : cOk pr h203 203 x203 := by
  unfold cOk compFunc
  rw [Tryz.func203]
  kernel_rfl
theorem x204_ok (pr : Nat → List AV → Option AV) : cOk pr hz 204 x204 := by
  unfold cOk compFunc
  rw [Tryz.func204]
  kernel_rfl
theorem x206_ok (pr : Nat → List AV → Option AV) : cOk pr hz 206 x206 := by
  unfold cOk compFunc
  rw [Tryz.func206]
  kernel_rfl
def h207 : Hints := ⟨fun r i => false, fun id => none, fun _ => none, fun id => bif Nat.beq id 0 then some [0, 1, 2, 3, 8, 9] else none⟩
theorem x207_ok (pr : Nat → List AV → Option AV) : cOk pr h207 207 x207 := by
  unfold cOk compFunc
  rw [Tryz.func207]
  kernel_rfl
theorem x208_ok (pr : Nat → List AV → Option AV) : cOk pr hz 208 x208 := by
  unfold cOk compFunc
  rw [Tryz.func208]
  kernel_rfl
def h214 : Hints := ⟨fun r i => false, fun id => none, fun _ => none, fun id => bif Nat.beq id 0 then some [0, 1, 2, 3, 8] else bif Nat.beq id 2 then some [0, 1, 2, 3, 8, 9] else none⟩
theorem x214_ok (pr : Nat → List AV → Option AV) : cOk pr h214 214 x214 := by
  unfold cOk compFunc
  rw [Tryz.func214]
  kernel_rfl
def h222 : Hints := ⟨fun r i => false, fun id => none, fun _ => none, fun id => bif Nat.beq id 0 then some [0, 8, 9, 10] else none⟩
theorem x222_ok (pr : Nat → List AV → Option AV) : cOk pr h222 222 x222 := by
  unfold cOk compFunc
  rw [Tryz.func222]
  kernel_rfl
theorem x223_ok (pr : Nat → List AV → Option AV) : cOk pr hz 223 x223 := by
  unfold cOk compFunc
  rw [Tryz.func223]
  kernel_rfl
theorem x224_ok (pr : Nat → List AV → Option AV) : cOk pr hz 224 x224 := by
  unfold cOk compFunc
  rw [Tryz.func224]
  kernel_rfl
theorem x225_ok (pr : Nat → List AV → Option AV) : cOk pr hz 225 x225 := by
  unfold cOk compFunc
  rw [Tryz.func225]
  kernel_rfl
theorem x227_ok (pr : Nat → List AV → Option AV) : cOk pr hz 227 x227 := by
  unfold cOk compFunc
  rw [Tryz.func227]
  kernel_rfl
theorem x228_ok (pr : Nat → List AV → Option AV) : cOk pr hz 228 x228 := by
  unfold cOk compFunc
  rw [Tryz.func228]
  kernel_rfl
def h243 : Hints := ⟨fun r i => false, fun id => none, fun _ => none, fun id => bif Nat.beq id 0 then some [0, 1, 7, 8] else none⟩
theorem x243_ok (pr : Nat → List AV → Option AV) : cOk pr h243 243 x243 := by
  unfold cOk compFunc
  rw [Tryz.func243]
  kernel_rfl
def h244 : Hints := ⟨fun r i => false, fun id => none, fun _ => none, fun id => bif Nat.beq id 0 then some [1, 5, 8, 9, 10] else none⟩
theorem x244_ok (pr : Nat → List AV → Option AV) : cOk pr h244 244 x244 := by
  unfold cOk compFunc
  rw [Tryz.func244]
  kernel_rfl
theorem x245_ok (pr : Nat → List AV → Option AV) : cOk pr hz 245 x245 := by
  unfold cOk compFunc
  rw [Tryz.func245]
  kernel_rfl
theorem x246_ok (pr : Nat → List AV → Option AV) : cOk pr hz 246 x246 := by
  unfold cOk compFunc
  rw [Tryz.func246]
  kernel_rfl
theorem x247_ok (pr : Nat → List AV → Option AV) : cOk pr hz 247 x247 := by
  unfold cOk compFunc
  rw [Tryz.func247]
  kernel_rfl
theorem x248_ok (pr : Nat → List AV → Option AV) : cOk pr hz 248 x248 := by
  unfold cOk compFunc
  rw [Tryz.func248]
  kernel_rfl
theorem x249_ok (pr : Nat → List AV → Option AV) : cOk pr hz 249 x249 := by
  unfold cOk compFunc
  rw [Tryz.func249]
  kernel_rfl
def h250 : Hints := ⟨fun r i => false, fun id => none, fun _ => none, fun id => bif Nat.beq id 0 then some [0, 1] else none⟩
theorem x250_ok (pr : Nat → List AV → Option AV) : cOk pr h250 250 x250 := by
  unfold cOk compFunc
  rw [Tryz.func250]
  kernel_rfl
def h252 : Hints := ⟨fun r i => false, fun id => none, fun _ => none, fun id => bif Nat.beq id 0 then some [0, 1, 2, 6] else bif Nat.beq id 2 then some [0, 1, 2, 6, 7] else none⟩
theorem x252_ok (pr : Nat → List AV → Option AV) : cOk pr h252 252 x252 := by
  unfold cOk compFunc
  rw [Tryz.func252]
  kernel_rfl
theorem x258_ok (pr : Nat → List AV → Option AV) : cOk pr hz 258 x258 := by
  unfold cOk compFunc
  rw [Tryz.func258]
  kernel_rfl
theorem x265_ok (pr : Nat → List AV → Option AV) : cOk pr hz 265 x265 := by
  unfold cOk compFunc
  rw [Tryz.func265]
  kernel_rfl
theorem x266_ok (pr : Nat → List AV → Option AV) : cOk pr hz 266 x266 := by
  unfold cOk compFunc
  rw [Tryz.func266]
  kernel_rfl
theorem x267_ok (pr : Nat → List AV → Option AV) : cOk pr hz 267 x267 := by
  unfold cOk compFunc
  rw [Tryz.func267]
  kernel_rfl
theorem x268_ok (pr : Nat → List AV → Option AV) : cOk pr hz 268 x268 := by
  unfold cOk compFunc
  rw [Tryz.func268]
  kernel_rfl
theorem x269_ok (pr : Nat → List AV → Option AV) : cOk pr hz 269 x269 := by
  unfold cOk compFunc
  rw [Tryz.func269]
  kernel_rfl
theorem x276_ok (pr : Nat → List AV → Option AV) : cOk pr hz 276 x276 := by
  unfold cOk compFunc
  rw [Tryz.func276]
  kernel_rfl
def h277 : Hints := ⟨fun r i => false, fun id => none, fun _ => none, fun id => bif Nat.beq id 0 then some [0, 3] else bif Nat.beq id 2 then some [0, 3, 4, 5] else none⟩
theorem x277_ok (pr : Nat → List AV → Option AV) : cOk pr h277 277 x277 := by
  unfold cOk compFunc
  rw [Tryz.func277]
  kernel_rfl
theorem x278_ok (pr : Nat → List AV → Option AV) : cOk pr hz 278 x278 := by
  unfold cOk compFunc
  rw [Tryz.func278]
  kernel_rfl
theorem x283_ok (pr : Nat → List AV → Option AV) : cOk pr hz 283 x283 := by
  unfold cOk compFunc
  rw [Tryz.func283]
  kernel_rfl
theorem x284_ok (pr : Nat → List AV → Option AV) : cOk pr hz 284 x284 := by
  unfold cOk compFunc
  rw [Tryz.func284]
  kernel_rfl
def h285 : Hints := ⟨fun r i => false, fun id => none, fun _ => none, fun id => bif Nat.beq id 0 then some [0, 1, 4] else none⟩
theorem x285_ok (pr : Nat → List AV → Option AV) : cOk pr h285 285 x285 := by
  unfold cOk compFunc
  rw [Tryz.func285]
  kernel_rfl
def h286 : Hints := ⟨fun r i => false, fun id => none, fun _ => none, fun id => bif Nat.beq id 0 then some [0, 1, 3, 4, 10, 11, 13, 14, 15, 16] else bif Nat.beq id 2 then some [0, 1, 3, 4, 10, 11, 13, 17] else none⟩
theorem x286_ok (pr : Nat → List AV → Option AV) : cOk pr h286 286 x286 := by
  unfold cOk compFunc
  rw [Tryz.func286]
  kernel_rfl
def h290 : Hints := ⟨fun r i => false, fun id => none, fun _ => none, fun id => bif Nat.beq id 0 then some [0, 1, 2, 3, 8, 9] else none⟩
theorem x290_ok (pr : Nat → List AV → Option AV) : cOk pr h290 290 x290 := by
  unfold cOk compFunc
  rw [Tryz.func290]
  kernel_rfl
theorem x292_ok (pr : Nat → List AV → Option AV) : cOk pr hz 292 x292 := by
  unfold cOk compFunc
  rw [Tryz.func292]
  kernel_rfl
theorem x293_ok (pr : Nat → List AV → Option AV) : cOk pr hz 293 x293 := by
  unfold cOk compFunc
  rw [Tryz.func293]
  kernel_rfl
theorem x294_ok (pr : Nat → List AV → Option AV) : cOk pr hz 294 x294 := by
  unfold cOk compFunc
  rw [Tryz.func294]
  kernel_rfl
theorem x295_ok (pr : Nat → List AV → Option AV) : cOk pr hz 295 x295 := by
  unfold cOk compFunc
  rw [Tryz.func295]
  kernel_rfl
def h296 : Hints := ⟨fun r i => false, fun id => none, fun _ => none, fun id => bif Nat.beq id 0 then some [0, 1, 2, 6] else bif Nat.beq id 2 then some [0, 1, 2, 6, 7] else none⟩
theorem x296_ok (pr : Nat → List AV → Option AV) : cOk pr h296 296 x296 := by
  unfold cOk compFunc
  rw [Tryz.func296]
  kernel_rfl
theorem x304_ok (pr : Nat → List AV → Option AV) : cOk pr hz 304 x304 := by
  unfold cOk compFunc
  rw [Tryz.func304]
  kernel_rfl
theorem x305_ok (pr : Nat → List AV → Option AV) : cOk pr hz 305 x305 := by
  unfold cOk compFunc
  rw [Tryz.func305]
  kernel_rfl
theorem ok_step {P : Program} {G : Nat → Option AV} {X : Prog} {f k : Nat} {x : XFunc} {r : Option XFunc} (hk : ∃ h, compFunc P G X h k = some x) (hr : ∀ fn, r = some fn → ∃ h, compFunc P G X h f = some fn) : ∀ fn, (bif Nat.beq f k then some x else r) = some fn → ∃ h, compFunc P G X h f = some fn := by
  intro fn h
  cases hb : Nat.beq f k with
  | true => rw [hb] at h; obtain rfl := Nat.eq_of_beq_eq_true hb; obtain rfl := Option.some.inj h; exact hk
  | false => rw [hb] at h; exact hr fn h
theorem progs_ok (pr : Nat → List AV → Option AV) : ProgOK Tryz.prog noG ⟨fnOf, modeOf, pr⟩ := by
  intro f
  show ∀ fn, fnOf f = some fn → _
  unfold fnOf
  refine ok_step ⟨h6, x6_ok pr⟩ ?_
  refine ok_step ⟨h10, x10_ok pr⟩ ?_
  refine ok_step ⟨hz, x11_ok pr⟩ ?_
  refine ok_step ⟨hz, x12_ok pr⟩ ?_
  refine ok_step ⟨hz, x13_ok pr⟩ ?_
  refine ok_step ⟨h14, x14_ok pr⟩ ?_
  refine ok_step ⟨h19, x19_ok pr⟩ ?_
  refine ok_step ⟨hz, x30_ok pr⟩ ?_
  refine ok_step ⟨hz, x33_ok pr⟩ ?_
  refine ok_step ⟨hz, x35_ok pr⟩ ?_
  refine ok_step ⟨h38, x38_ok pr⟩ ?_
  refine ok_step ⟨h39, x39_ok pr⟩ ?_
  refine ok_step ⟨hz, x46_ok pr⟩ ?_
  refine ok_step ⟨h47, x47_ok pr⟩ ?_
  refine ok_step ⟨h48, x48_ok pr⟩ ?_
  refine ok_step ⟨h49, x49_ok pr⟩ ?_
  refine ok_step ⟨hz, x50_ok pr⟩ ?_
  refine ok_step ⟨hz, x51_ok pr⟩ ?_
  refine ok_step ⟨hz, x52_ok pr⟩ ?_
  refine ok_step ⟨hz, x54_ok pr⟩ ?_
  refine ok_step ⟨hz, x55_ok pr⟩ ?_
  refine ok_step ⟨h56, x56_ok pr⟩ ?_
  refine ok_step ⟨hz, x57_ok pr⟩ ?_
  refine ok_step ⟨hz, x58_ok pr⟩ ?_
  refine ok_step ⟨h59, x59_ok pr⟩ ?_
  refine ok_step ⟨hz, x60_ok pr⟩ ?_
  refine ok_step ⟨hz, x61_ok pr⟩ ?_
  refine ok_step ⟨hz, x62_ok pr⟩ ?_
  refine ok_step ⟨h63, x63_ok pr⟩ ?_
  refine ok_step ⟨hz, x64_ok pr⟩ ?_
  refine ok_step ⟨hz, x65_ok pr⟩ ?_
  refine ok_step ⟨hz, x66_ok pr⟩ ?_
  refine ok_step ⟨h68, x68_ok pr⟩ ?_
  refine ok_step ⟨hz, x69_ok pr⟩ ?_
  refine ok_step ⟨hz, x70_ok pr⟩ ?_
  refine ok_step ⟨hz, x71_ok pr⟩ ?_
  refine ok_step ⟨hz, x72_ok pr⟩ ?_
  refine ok_step ⟨h73, x73_ok pr⟩ ?_
  refine ok_step ⟨h84, x84_ok pr⟩ ?_
  refine ok_step ⟨hz, x85_ok pr⟩ ?_
  refine ok_step ⟨h86, x86_ok pr⟩ ?_
  refine ok_step ⟨h87, x87_ok pr⟩ ?_
  refine ok_step ⟨h88, x88_ok pr⟩ ?_
  refine ok_step ⟨hz, x89_ok pr⟩ ?_
  refine ok_step ⟨h90, x90_ok pr⟩ ?_
  refine ok_step ⟨hz, x95_ok pr⟩ ?_
  refine ok_step ⟨hz, x97_ok pr⟩ ?_
  refine ok_step ⟨hz, x99_ok pr⟩ ?_
  refine ok_step ⟨hz, x101_ok pr⟩ ?_
  refine ok_step ⟨hz, x102_ok pr⟩ ?_
  refine ok_step ⟨hz, x103_ok pr⟩ ?_
  refine ok_step ⟨h105, x105_ok pr⟩ ?_
  refine ok_step ⟨hz, x106_ok pr⟩ ?_
  refine ok_step ⟨h107, x107_ok pr⟩ ?_
  refine ok_step ⟨hz, x108_ok pr⟩ ?_
  refine ok_step ⟨hz, x109_ok pr⟩ ?_
  refine ok_step ⟨hz, x110_ok pr⟩ ?_
  refine ok_step ⟨h112, x112_ok pr⟩ ?_
  refine ok_step ⟨h113, x113_ok pr⟩ ?_
  refine ok_step ⟨h114, x114_ok pr⟩ ?_
  refine ok_step ⟨h115, x115_ok pr⟩ ?_
  refine ok_step ⟨h116, x116_ok pr⟩ ?_
  refine ok_step ⟨h117, x117_ok pr⟩ ?_
  refine ok_step ⟨hz, x118_ok pr⟩ ?_
  refine ok_step ⟨hz, x119_ok pr⟩ ?_
  refine ok_step ⟨hz, x120_ok pr⟩ ?_
  refine ok_step ⟨hz, x121_ok pr⟩ ?_
  refine ok_step ⟨hz, x122_ok pr⟩ ?_
  refine ok_step ⟨h123, x123_ok pr⟩ ?_
  refine ok_step ⟨h124, x124_ok pr⟩ ?_
  refine ok_step ⟨hz, x130_ok pr⟩ ?_
  refine ok_step ⟨hz, x131_ok pr⟩ ?_
  refine ok_step ⟨h137, x137_ok pr⟩ ?_
  refine ok_step ⟨hz, x138_ok pr⟩ ?_
  refine ok_step ⟨hz, x139_ok pr⟩ ?_
  refine ok_step ⟨h140, x140_ok pr⟩ ?_
  refine ok_step ⟨h141, x141_ok pr⟩ ?_
  refine ok_step ⟨h142, x142_ok pr⟩ ?_
  refine ok_step ⟨h143, x143_ok pr⟩ ?_
  refine ok_step ⟨h144, x144_ok pr⟩ ?_
  refine ok_step ⟨h145, x145_ok pr⟩ ?_
  refine ok_step ⟨hz, x146_ok pr⟩ ?_
  refine ok_step ⟨h147, x147_ok pr⟩ ?_
  refine ok_step ⟨hz, x148_ok pr⟩ ?_
  refine ok_step ⟨h149, x149_ok pr⟩ ?_
  refine ok_step ⟨h151, x151_ok pr⟩ ?_
  refine ok_step ⟨hz, x152_ok pr⟩ ?_
  refine ok_step ⟨hz, x153_ok pr⟩ ?_
  refine ok_step ⟨h154, x154_ok pr⟩ ?_
  refine ok_step ⟨h155, x155_ok pr⟩ ?_
  refine ok_step ⟨h156, x156_ok pr⟩ ?_
  refine ok_step ⟨hz, x157_ok pr⟩ ?_
  refine ok_step ⟨h158, x158_ok pr⟩ ?_
  refine ok_step ⟨hz, x166_ok pr⟩ ?_
  refine ok_step ⟨hz, x167_ok pr⟩ ?_
  refine ok_step ⟨h169, x169_ok pr⟩ ?_
  refine ok_step ⟨hz, x170_ok pr⟩ ?_
  refine ok_step ⟨h171, x171_ok pr⟩ ?_
  refine ok_step ⟨hz, x172_ok pr⟩ ?_
  refine ok_step ⟨hz, x173_ok pr⟩ ?_
  refine ok_step ⟨hz, x174_ok pr⟩ ?_
  refine ok_step ⟨h175, x175_ok pr⟩ ?_
  refine ok_step ⟨hz, x178_ok pr⟩ ?_
  refine ok_step ⟨h183, x183_ok pr⟩ ?_
  refine ok_step ⟨hz, x191_ok pr⟩ ?_
  refine ok_step ⟨hz, x192_ok pr⟩ ?_
  refine ok_step ⟨hz, x193_ok pr⟩ ?_
  refine ok_step ⟨hz, x194_ok pr⟩ ?_
  refine ok_step ⟨hz, x195_ok pr⟩ ?_
  refine ok_step ⟨h196, x196_ok pr⟩ ?_
  refine ok_step ⟨h197, x197_ok pr⟩ ?_
  refine ok_step ⟨h198, x198_ok pr⟩ ?_
  refine ok_step ⟨hz, x199_ok pr⟩ ?_
  refine ok_step ⟨h200, x200_ok pr⟩ ?_
  refine ok_step ⟨hz, x201_ok pr⟩ ?_
  refine ok_step ⟨hz, x202_ok pr⟩ ?_
  refine ok_step ⟨h203, x203_ok pr⟩ ?_
  refine ok_step ⟨hz, x204_ok pr⟩ ?_
  refine ok_step ⟨hz, x206_ok pr⟩ ?_
  refine ok_step ⟨h207, x207_ok pr⟩ ?_
  refine ok_step ⟨hz, x208_ok pr⟩ ?_
  refine ok_step ⟨h214, x214_ok pr⟩ ?_
  refine ok_step ⟨h222, x222_ok pr⟩ ?_
  refine ok_step ⟨hz, x223_ok pr⟩ ?_
  refine ok_step ⟨hz, x224_ok pr⟩ ?_
  refine ok_step ⟨hz, x225_ok pr⟩ ?_
  refine ok_step ⟨hz, x227_ok pr⟩ ?_
  refine ok_step ⟨hz, x228_ok pr⟩ ?_
  refine ok_step ⟨h243, x243_ok pr⟩ ?_
  refine ok_step ⟨h244, x244_ok pr⟩ ?_
  refine ok_step ⟨hz, x245_ok pr⟩ ?_
  refine ok_step ⟨hz, x246_ok pr⟩ ?_
  refine ok_step ⟨hz, x247_ok pr⟩ ?_
  refine ok_step ⟨hz, x248_ok pr⟩ ?_
  refine ok_step ⟨hz, x249_ok pr⟩ ?_
  refine ok_step ⟨h250, x250_ok pr⟩ ?_
  refine ok_step ⟨h252, x252_ok pr⟩ ?_
  refine ok_step ⟨hz, x258_ok pr⟩ ?_
  refine ok_step ⟨hz, x265_ok pr⟩ ?_
  refine ok_step ⟨hz, x266_ok pr⟩ ?_
  refine ok_step ⟨hz, x267_ok pr⟩ ?_
  refine ok_step ⟨hz, x268_ok pr⟩ ?_
  refine ok_step ⟨hz, x269_ok pr⟩ ?_
  refine ok_step ⟨hz, x276_ok pr⟩ ?_
  refine ok_step ⟨h277, x277_ok pr⟩ ?_
  refine ok_step ⟨hz, x278_ok pr⟩ ?_
  refine ok_step ⟨hz, x283_ok pr⟩ ?_
  refine ok_step ⟨hz, x284_ok pr⟩ ?_
  refine ok_step ⟨h285, x285_ok pr⟩ ?_
  refine ok_step ⟨h286, x286_ok pr⟩ ?_
  refine ok_step ⟨h290, x290_ok pr⟩ ?_
  refine ok_step ⟨hz, x292_ok pr⟩ ?_
  refine ok_step ⟨hz, x293_ok pr⟩ ?_
  refine ok_step ⟨hz, x294_ok pr⟩ ?_
  refine ok_step ⟨hz, x295_ok pr⟩ ?_
  refine ok_step ⟨h296, x296_ok pr⟩ ?_
  refine ok_step ⟨hz, x304_ok pr⟩ ?_
  refine ok_step ⟨hz, x305_ok pr⟩ ?_
  intro fn h; cases h
theorem prog_ok : ProgOK Tryz.prog noG prog := progs_ok primOf
end X
end Go.Proofs.YtplginnkececaaaGreatDoor
