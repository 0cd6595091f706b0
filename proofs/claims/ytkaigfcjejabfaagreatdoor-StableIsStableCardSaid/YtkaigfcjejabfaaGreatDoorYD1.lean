/- The functions' bodies above loops over maps, as they are gone through. No condition. MADE BY PROGRAM (xgen). -/
import Derived.Test.YtkaigfcjejabfaaGreatDoorYP1
set_option maxRecDepth 100000
set_option linter.unusedVariables false
namespace Go.Proofs.YtkaigfcjejabfaaGreatDoor
open Go
namespace X
/-! ### jitkeep2_StableIsStable jitney/jitkeep2.StableIsStable -/
noncomputable def l_jitkeep2_StableIsStable_0 (v12 v67 v68 v69 : AV) (H : Heap) (k0 : Heap → Option (AV × Heap)) : Option (AV × Heap) :=
  loopK prog1 (R prog1) b3_0 (fun t => bif Nat.beq t 12 then v12 else bif Nat.beq t 67 then v67 else bif Nat.beq t 68 then v68 else bif Nat.beq t 69 then v69 else .undef) H (fun i e H => bif Nat.beq i 0 then k0 H else none) (fun e H => some ((e 2), H))
theorem l_jitkeep2_StableIsStable_0_s (v12 v67 v68 v69 : AV) (H : Heap) (k0 : Heap → Option (AV × Heap)) {Q : AV → Heap → Prop} (h : Yl (
(binAV H .lss (.one .int) v69 v68).bind fun v70 =>
 condK v70 (
(indexV H 2 v67 v69).bind fun v71 =>
(loadAV H (some 2) v71).bind fun v72 =>
(boxAV 2 (.agg [(.str []), (.str [])]) H).bind fun r7 =>
(storeAV r7.2 2 r7.1 v72).bind fun H8 =>
(pureCall prog1 (R prog1) f_slices_ContainsFunc_api_Deal_api_Deal [v12, (.func (.func f_jitkeep2_StableIsStable_1) [r7.1])] H8).bind fun v75 =>
(unAV .not v75).bind fun v76 =>
 gB v76 (
 some ((.bool false), H8)) (
(pureCall prog1 (R prog1) f_slices_ContainsFunc_api_Deal_api_Deal [v12, (.func (.func f_jitkeep2_StableIsStable_2) [r7.1])] H8).bind fun v80 =>
(unAV .not v80).bind fun v81 =>
 condK v81 (
 some ((.bool false), H8)) (
(binAV H8 .add (.one .int) v69 (.int .i64 1)).bind fun v83 =>
 l_jitkeep2_StableIsStable_0 v12 v67 v68 v83 H8 k0))) (
 k0 H)) Q) : Yl (l_jitkeep2_StableIsStable_0 v12 v67 v68 v69 H k0) Q := by
  unfold l_jitkeep2_StableIsStable_0
  exact loop_yl (by kernel_rfl) h
theorem r_jitkeep2_StableIsStable (v0 : AV) (H : Heap) {Q : AV → Heap → Prop} (h : Yl (
(buildAV [.nilslice, (.int .i64 0)] [(0, 1, v0)]).bind fun v17 =>
(boxAV 2 v17 H).bind fun r1 =>
(litAV 1 [(.str []), (.str []), (.str [])] [(0, (.str [99, 97])), (1, (.str [99, 98])), (2, (.str [99, 99]))] false r1.2).bind fun r2 =>
(litAV 1 [(.str []), (.str []), (.str [])] [(0, (.str [114, 97])), (1, (.str [114, 98])), (2, (.str [114, 99]))] false r2.2).bind fun r3 =>
(cutCall (R prog1) f_jitmake_Stream_RightWishes [r1.1, r2.1, r3.1] r3.2).bind fun r4 =>
(cutCall (R prog1) f_jitmake_Stream_RightWishes [r1.1, r3.1, r2.1] r4.2).bind fun r5 =>
(pureCall prog1 (R prog1) f_match_Stable [r4.1, r5.1] r5.2).bind fun v32 =>
(extractAV v32 0).bind fun v33 =>
(extractAV v32 1).bind fun v34 =>
(pureCall prog1 (R prog1) f_match_Blocking [r4.1, r5.1, v33] r5.2).bind fun v39 =>
(extractAV v39 0).bind fun v40 =>
(extractAV v39 1).bind fun v41 =>
(litAV 1 [(.int .i64 0), (.int .i64 0)] [(0, v34), (1, v41)] false r5.2).bind fun r6 =>
(pureCall prog1 (R prog1) f_jitkeep2_errs [r6.1] r6.2).bind fun v45 =>
(binAV r6.2 .neq (.one .int) v45 (.int .i64 0)).bind fun v46 =>
 gB v46 (
 some ((.bool false), r6.2)) (
(lenX r6.2 .slice v40).bind fun v49 =>
(binAV r6.2 .neq (.one .int) v49 (.int .i64 0)).bind fun v50 =>
 condK v50 (
 some ((.bool false), r6.2)) (
(pureCall prog1 (R prog1) f_match_Stable [r5.1, r4.1] r6.2).bind fun v55 =>
(extractAV v55 0).bind fun v56 =>
(extractAV v55 1).bind fun v57 =>
(binAV r6.2 .neq (.one .int) v57 (.int .i64 0)).bind fun v59 =>
 gB v59 (
 some ((.bool false), r6.2)) (
(lenX r6.2 .slice v56).bind fun v62 =>
(lenX r6.2 .slice v33).bind fun v64 =>
(binAV r6.2 .neq (.one .int) v62 v64).bind fun v65 =>
 condK v65 (
 some ((.bool false), r6.2)) (
(lenX r6.2 .slice v33).bind fun v68 =>
 l_jitkeep2_StableIsStable_0 v56 v33 v68 (.int .i64 0) r6.2 (fun  H9 =>
(pureCall prog1 (R prog1) f_jitkeep2_ready [] H9).bind fun v84 =>
 some (v84, H9))))))) Q) : Yl (R prog1 f_jitkeep2_StableIsStable [v0] H) Q :=
  R_yl (fn := x3) (by kernel_rfl) rfl (by kernel_rfl) h
end X
end Go.Proofs.YtkaigfcjejabfaaGreatDoor
