/- The closed call that each law of jitkeep2 makes. No condition. -/
import Derived.Test.YtplginnkececaaaGreatDoorZRA
import Derived.Test.YtplginnkececaaaGreatDoorZYD
import Derived.Test.YtplginnkececaaaGreatDoorZXPR
set_option maxRecDepth 100000
namespace Go.Proofs.YtplginnkececaaaGreatDoor
open Go
namespace Y
open X

theorem ready_run : ((run prog 80 f_jitkeep2_ready [] []).bind fun r => snap r.2 deep r.1) = some (.bool true) := by kernel_rfl

theorem ready_ok (H : Heap) : pureCall prog (R prog) f_jitkeep2_ready [] H = some (.bool true) := by
  refine pure_fz (by simp) rfl ?_
  exact yl_run (k := 80) (v := .bool true) ready_run fun v' H' h => h
end Y
end Go.Proofs.YtplginnkececaaaGreatDoor
