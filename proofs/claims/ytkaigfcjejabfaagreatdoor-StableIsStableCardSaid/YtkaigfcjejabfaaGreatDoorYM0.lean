/- Loops over maps, as they are gone through. No condition. MADE BY PROGRAM (xgen). -/
import Derived.Test.YtkaigfcjejabfaaGreatDoorYD
import Derived.Test.YtkaigfcjejabfaaGreatDoorXMV
set_option maxRecDepth 100000
set_option linter.unusedVariables false
namespace Go.Proofs.YtkaigfcjejabfaaGreatDoor
open Go
namespace X
/-! ### match_Stable: a loop over a map -/
def px6_0 : XCode := .region [⟨(some 4), none, .mov (.const .nilslice)⟩,
   ⟨(some 5), none, .mov (.const (.int .i64 0))⟩] []
def px6_1 : XCode := .seq (.region [⟨(some 19), none, .mov (.tmp 0)⟩,
    ⟨(some 20), none, .call (.const (.func (.func 26) [])) [(.tmp 19)]⟩,
    ⟨(some 21), none, .mov (.tmp 1)⟩,
    ⟨(some 22), none, .call (.const (.func (.func 26) [])) [(.tmp 21)]⟩,
    ⟨(some 23), none, .lit 1 [(.int .i64 0), (.int .i64 0)] [(0, (.tmp 20)), (1, (.tmp 22))] false⟩,
    ⟨(some 24), none, .call (.const (.func (.func 25) [])) [(.tmp 23)]⟩,
    ⟨(some 6), none, .mov (.tmp 24)⟩] [])
  (.seq (.region [⟨(some 25), none, .mov (.tmp 6)⟩,
     ⟨(some 26), none, .bin .neq (.one .int) (.tmp 25) (.const (.int .i64 0))⟩] [])
   (.cond (.tmp 26) (.seq (.region [⟨(some 27), none, .mov (.tmp 6)⟩,
       ⟨(some 4), none, .mov (.const .nilslice)⟩,
       ⟨(some 5), none, .mov (.tmp 27)⟩] [])
     (.ret))
    (.skip)))
def px6_2 : XCode := .region [⟨(some 28), none, .mov (.tmp 0)⟩,
   ⟨(some 29), none, .call (.const (.func (.func 27) [])) [(.tmp 28)]⟩,
   ⟨(some 7), none, .mov (.tmp 29)⟩] []
def px6_3 : XCode := .region [⟨(some 30), none, .mkMap⟩,
   ⟨(some 8), none, .mov (.tmp 30)⟩] []
def px6_4 : XCode := .region [⟨(some 31), none, .mov (.tmp 1)⟩,
   ⟨(some 32), none, .len .slice (.tmp 31)⟩,
   ⟨(some 33), none, .mkSlice 1 8 (.int .i64 0) (.tmp 32) (.tmp 32)⟩,
   ⟨(some 9), none, .mov (.tmp 33)⟩] []
def px6_5 : XCode := .region [⟨(some 10), none, .mov (.const .nilslice)⟩] []
def px6_6 : XCode := .seq (.region [⟨(some 34), none, .mov (.tmp 1)⟩,
    ⟨(some 35), none, .len .slice (.tmp 34)⟩,
    ⟨(some 36), none, .mov (.const (.int .i64 0))⟩] [])
  (.block 0 (.seq (.keep [1, 7, 8, 9, 10, 35, 36])
    (.loop b6_0)))
def px6_7 : XCode := .block 2 (.seq (.keep [1, 7, 8, 9, 10])
   (.loop b6_1))
def px6_8 : XCode := .region [⟨(some 16), none, .mov (.const .nilslice)⟩] []
def xs0_6 : List XOper := [⟨(some 141), none, .mov (.tmp 8)⟩]
def xs2_6 : List XOper := [⟨(some 146), none, .extract (.tmp 145) 0⟩,
  ⟨(some 147), none, .extract (.tmp 145) 1⟩,
  ⟨(some 17), none, .mov (.tmp 146)⟩,
  ⟨(some 18), none, .mov (.tmp 147)⟩]
def xy_6 : XCode := .region [⟨(some 148), none, .mov (.tmp 16)⟩,
   ⟨(some 149), none, .mov (.tmp 17)⟩,
   ⟨(some 150), none, .mov (.tmp 1)⟩,
   ⟨(some 151), none, .mov (.tmp 18)⟩,
   ⟨(some 152), none, .indexAddr 2 (.tmp 150) (.tmp 151)⟩,
   ⟨(some 153), none, .fieldAddr 0 (.tmp 152)⟩,
   ⟨(some 154), none, .load none (.tmp 153)⟩,
   ⟨(some 155), none, .build [(.str []), (.str [])] [(0, 1, (.tmp 149)), (1, 1, (.tmp 154))]⟩,
   ⟨(some 156), none, .lit 2 [(.agg [(.str []), (.str [])])] [(0, (.tmp 155))] false⟩,
   ⟨(some 157), none, .append 2 32 (.tmp 148) (.tmp 156)⟩,
   ⟨(some 16), none, .mov (.tmp 157)⟩] []
def xr_6 : XCode := .seq (.region [⟨(some 158), none, .mov (.tmp 16)⟩,
    ⟨(some 159), none, .call (.const (.func (.func 30) [])) [(.tmp 158), (.const (.func (.func 31) []))]⟩] [])
  (.seq (.region [⟨(some 160), none, .mov (.tmp 16)⟩,
     ⟨(some 4), none, .mov (.tmp 160)⟩,
     ⟨(some 5), none, .mov (.const (.int .i64 0))⟩] [])
   (.ret))
def xb_6 : XCode := .seq (.seq (.region xs2_6 []) xy_6) (.keep [1, 16, 142])
noncomputable def l_match_Stable_0 (v1 v7 v8 v9 v10 v35 v36 : AV) (H : Heap) (k0 : AV → AV → AV → AV → AV → Heap → Option (AV × Heap)) : Option (AV × Heap) :=
  loopK prog (R prog) b6_0 (fun t => bif Nat.beq t 1 then v1 else bif Nat.beq t 7 then v7 else bif Nat.beq t 8 then v8 else bif Nat.beq t 9 then v9 else bif Nat.beq t 10 then v10 else bif Nat.beq t 35 then v35 else bif Nat.beq t 36 then v36 else .undef) H (fun i e H => bif Nat.beq i 0 then k0 (e 1) (e 7) (e 8) (e 9) (e 10) H else none) (fun e H => none)
noncomputable def l_match_Stable_1 (v1 v7 v8 v9 v10 : AV) (H : Heap) (k2 : AV → AV → Heap → Option (AV × Heap)) : Option (AV × Heap) :=
  loopK prog (R prog) b6_1 (fun t => bif Nat.beq t 1 then v1 else bif Nat.beq t 7 then v7 else bif Nat.beq t 8 then v8 else bif Nat.beq t 9 then v9 else bif Nat.beq t 10 then v10 else .undef) H (fun i e H => bif Nat.beq i 2 then k2 (e 1) (e 8) H else none) (fun e H => none)
noncomputable def j_match_Stable_1 (v1 v7 v8 v9 v10 v12 v13 v14 v15 v92 : AV) (H : Heap) (k2 : AV → AV → Heap → Option (AV × Heap)) : Option (AV × Heap) :=
 condK v92 (
(mapUpdateAV H (.one .str) v8 v13 v12).bind fun H8 =>
(lenX H8 .slice v10).bind fun v111 =>
(binAV H8 .sub (.one .int) v111 (.int .i64 1)).bind fun v112 =>
(sliceSlAV H8 1 v10 none (some v112)).bind fun v113 =>
 l_match_Stable_1 v1 v7 v8 v9 v113 H8 k2) (
 gB v15 (
(lookupAV H (.one .str) .nilslice false v7 v13).bind fun v119 =>
(indexV H 2 v1 v12).bind fun v122 =>
(fieldAddrAV 0 v122).bind fun v123 =>
(loadAV H none v123).bind fun v124 =>
(indexV H 2 v1 v14).bind fun v127 =>
(fieldAddrAV 0 v127).bind fun v128 =>
(loadAV H none v128).bind fun v129 =>
(pureCall prog (R prog) f_match_likes [v119, v124, v129] H).bind fun v130 =>
 condK v130 (
(mapUpdateAV H (.one .str) v8 v13 v12).bind fun H9 =>
(lenX H9 .slice v10).bind fun v137 =>
(binAV H9 .sub (.one .int) v137 (.int .i64 1)).bind fun v138 =>
(indexV H9 1 v10 v138).bind fun v140 =>
(storeAV H9 1 v140 v14).bind fun H10 =>
 l_match_Stable_1 v1 v7 v8 v9 v10 H10 k2) (
 l_match_Stable_1 v1 v7 v8 v9 v10 H k2)) (
 l_match_Stable_1 v1 v7 v8 v9 v10 H k2))
theorem l_match_Stable_0_s (v1 v7 v8 v9 v10 v35 v36 : AV) (H : Heap) (k0 : AV → AV → AV → AV → AV → Heap → Option (AV × Heap)) {Q : AV → Heap → Prop} (h : Yl (
(binAV H .lss (.one .int) v36 v35).bind fun v37 =>
 condK v37 (
(litAV 1 [(.int .i64 0)] [(0, v36)] false H).bind fun r4 =>
(appendX r4.2 1 8 v10 r4.1).bind fun r5 =>
(binAV r5.2 .add (.one .int) v36 (.int .i64 1)).bind fun v43 =>
 l_match_Stable_0 v1 v7 v8 v9 r5.1 v35 v43 r5.2 k0) (
 k0 v1 v7 v8 v9 v10 H)) Q) : Yl (l_match_Stable_0 v1 v7 v8 v9 v10 v35 v36 H k0) Q := by
  unfold l_match_Stable_0
  exact loop_yl (by kernel_rfl) h
theorem l_match_Stable_1_s (v1 v7 v8 v9 v10 : AV) (H : Heap) (k2 : AV → AV → Heap → Option (AV × Heap)) {Q : AV → Heap → Prop} (h : Yl (
(lenX H .slice v10).bind fun v45 =>
(binAV H .gtr (.one .int) v45 (.int .i64 0)).bind fun v46 =>
 condK v46 (
(lenX H .slice v10).bind fun v49 =>
(binAV H .sub (.one .int) v49 (.int .i64 1)).bind fun v50 =>
(indexV H 1 v10 v50).bind fun v51 =>
(loadAV H none v51).bind fun v52 =>
(indexV H 1 v9 v52).bind fun v55 =>
(loadAV H none v55).bind fun v56 =>
(indexV H 2 v1 v52).bind fun v59 =>
(fieldAddrAV 1 v59).bind fun v60 =>
(loadAV H none v60).bind fun v61 =>
(lenX H .slice v61).bind fun v62 =>
(binAV H .eql (.one .int) v56 v62).bind fun v63 =>
 condK v63 (
(lenX H .slice v10).bind fun v66 =>
(binAV H .sub (.one .int) v66 (.int .i64 1)).bind fun v67 =>
(sliceSlAV H 1 v10 none (some v67)).bind fun v68 =>
 l_match_Stable_1 v1 v7 v8 v9 v68 H k2) (
(indexV H 2 v1 v52).bind fun v71 =>
(fieldAddrAV 1 v71).bind fun v72 =>
(loadAV H none v72).bind fun v73 =>
(indexV H 1 v9 v52).bind fun v76 =>
(loadAV H none v76).bind fun v77 =>
(indexV H 1 v73 v77).bind fun v78 =>
(loadAV H none v78).bind fun v79 =>
(indexV H 1 v9 v52).bind fun v82 =>
(loadAV H none v82).bind fun v83 =>
(binAV H .add (.one .int) v83 (.int .i64 1)).bind fun v84 =>
(indexV H 1 v9 v52).bind fun v85 =>
(storeAV H 1 v85 v84).bind fun H7 =>
(lookupAV H7 (.one .str) (.int .i64 0) true v8 v79).bind fun v89 =>
(extractAV v89 0).bind fun v90 =>
(extractAV v89 1).bind fun v91 =>
(unAV .not v91).bind fun v94 =>
 gB v94 (
(lookupAV H7 (.one .str) .nilslice false v7 v79).bind fun v98 =>
(indexV H7 2 v1 v52).bind fun v101 =>
(fieldAddrAV 0 v101).bind fun v102 =>
(loadAV H7 none v102).bind fun v103 =>
(pureCall prog (R prog) f_slices_Contains_string_string [v98, v103] H7).bind fun v104 =>
 j_match_Stable_1 v1 v7 v8 v9 v10 v52 v79 v90 v91 v104 H7 k2) (
 j_match_Stable_1 v1 v7 v8 v9 v10 v52 v79 v90 v91 (.bool false) H7 k2))) (
 k2 v1 v8 H)) Q) : Yl (l_match_Stable_1 v1 v7 v8 v9 v10 H k2) Q := by
  unfold l_match_Stable_1
  exact loop_yl (by kernel_rfl) h
theorem wa_match_Stable (v0 v1 : AV) (H : Heap) {Q : AV → Heap → Prop} (h : Yl (
(pureCall prog (R prog) f_match_CheckWishes [v0] H).bind fun v20 =>
(pureCall prog (R prog) f_match_CheckWishes [v1] H).bind fun v22 =>
(litAV 1 [(.int .i64 0), (.int .i64 0)] [(0, v20), (1, v22)] false H).bind fun r1 =>
(pureCall prog (R prog) f_base_First [r1.1] r1.2).bind fun v24 =>
(binAV r1.2 .neq (.one .int) v24 (.int .i64 0)).bind fun v26 =>
 condK v26 (
 none) (
(pureCall prog (R prog) f_match_wishes [v0] r1.2).bind fun v29 =>
(newMapAV r1.2).bind fun r2 =>
(lenX r2.2 .slice v1).bind fun v32 =>
(mkSliceAV 1 8 (.int .i64 0) v32 v32 r2.2).bind fun r3 =>
(lenX r3.2 .slice v1).bind fun v35 =>
 l_match_Stable_0 v1 v29 r2.1 r3.1 (.nilslice) v35 (.int .i64 0) r3.2 (fun v1_1 v7 v8 v9 v10 H6 =>
 l_match_Stable_1 v1_1 v7 v8 v9 v10 H6 (fun v1_2 v8_1 H11 =>
 some (.tuple [v8_1, v1_2, (.nilslice)], H11))))) Q) : ∃ e0 H0, code prog (R prog) Li (seqAll ([px6_0, px6_1, px6_2, px6_3, px6_4, px6_5, px6_6, px6_7, px6_8] ++ [.region xs0_6 []])) (env0 [v0, v1]) H = some (.normal, e0, H0) ∧ Q (.tuple ([141, 1, 16].map e0)) H0 :=
  pre_yl [141, 1, 16] (by kernel_rfl) h
theorem wb_match_Stable (e : Env) (vk vv : AV) (H : Heap) {Q : AV → Heap → Prop} (h : Yl (
(extractAV (.tuple [vk, vv]) 0).bind fun v146 =>
(extractAV (.tuple [vk, vv]) 1).bind fun v147 =>
(indexV H 2 (e 1) v147).bind fun v152 =>
(fieldAddrAV 0 v152).bind fun v153 =>
(loadAV H none v153).bind fun v154 =>
(buildAV [(.str []), (.str [])] [(0, 1, v146), (1, 1, v154)]).bind fun v155 =>
(litAV 2 [(.agg [(.str []), (.str [])])] [(0, v155)] false H).bind fun r1 =>
(appendX r1.2 2 32 (e 16) r1.1).bind fun r2 =>
 some (.tuple [(e 1), r2.1, (e 142)], r2.2)) Q) : ∃ y e0 H0, code prog (R prog) Li xb_6 ((dropR [143, 144, 145] e).set 145 (.tuple [vk, vv])) H = some (y, e0, H0) ∧ (y = .normal ∨ y = .exit 6) ∧ Q (.tuple ([1, 16, 142].map e0)) H0 :=
  body_yl 6 [1, 16, 142] (by kernel_rfl) h
theorem wr_match_Stable (e : Env) (H : Heap) {Q : AV → Heap → Prop} (h : Yl (
(R prog f_slices_SortFunc_api_Deal_api_Deal [(e 16), (.func (.func f_match_Stable_1) [])] H).bind fun r1 =>
 some (.tuple [(e 16), (.int .i64 0)], r1.2)) Q) : ∃ y e0 H0, code prog (R prog) Li xr_6 e H = some (y, e0, H0) ∧ (y = .normal ∨ y = .ret) ∧ ∃ u, resultsOf [.tmp 4, .tmp 5] e0 H0 = some u ∧ Q u H0 :=
  rest_yl [.tmp 4, .tmp 5] (by kernel_rfl) h
end X
end Go.Proofs.YtkaigfcjejabfaaGreatDoor
