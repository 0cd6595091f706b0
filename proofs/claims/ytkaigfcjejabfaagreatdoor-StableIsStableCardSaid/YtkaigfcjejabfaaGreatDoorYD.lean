/- The functions' bodies, as they are gone through. No condition. MADE BY PROGRAM (xgen). -/
import Derived.Test.YtkaigfcjejabfaaGreatDoorXD
import Derived.Test.YtkaigfcjejabfaaGreatDoorXN
set_option maxRecDepth 100000
set_option linter.unusedVariables false
namespace Go.Proofs.YtkaigfcjejabfaaGreatDoor
open Go
namespace X
abbrev f_jitkeep2_StableIsStable : Nat := 3
abbrev f_jitmake_Stream_RightWishes : Nat := 5
abbrev f_match_Stable : Nat := 6
abbrev f_match_Blocking : Nat := 7
abbrev f_jitkeep2_errs : Nat := 8
abbrev f_slices_ContainsFunc_api_Deal_api_Deal : Nat := 9
abbrev f_jitkeep2_StableIsStable_1 : Nat := 10
abbrev f_jitkeep2_StableIsStable_2 : Nat := 11
abbrev f_jitkeep2_ready : Nat := 12
abbrev f_jitmake_Stream_Flip : Nat := 23
abbrev f_jitmake_Stream_Order : Nat := 24
abbrev f_base_First : Nat := 25
abbrev f_match_CheckWishes : Nat := 26
abbrev f_match_wishes : Nat := 27
abbrev f_slices_Contains_string_string : Nat := 28
abbrev f_match_likes : Nat := 29
abbrev f_slices_SortFunc_api_Deal_api_Deal : Nat := 30
abbrev f_match_Stable_1 : Nat := 31
abbrev f_strings_Compare : Nat := 32
abbrev f_match_Blocking_1 : Nat := 33
abbrev f_slices_IndexFunc_api_Deal_api_Deal : Nat := 34
abbrev f_request_Days : Nat := 35
abbrev f_match_Most : Nat := 36
abbrev f_fleet_Drivers : Nat := 37
abbrev f_trust_Score : Nat := 38
abbrev f_match_CheckOffers : Nat := 40
abbrev f_match_newGraph : Nat := 48
abbrev f_jitmake_Stream_Next : Nat := 49
abbrev f_base_Key : Nat := 50
abbrev f_slices_Index_string_string : Nat := 51
abbrev f_slices_pdqsortCmpFunc_api_Deal : Nat := 52
abbrev f_math_bits_Len : Nat := 53
abbrev f_internal_bytealg_CompareString : Nat := 54
abbrev f_request_CheckSeries : Nat := 55
abbrev f_request_dayRide : Nat := 56
abbrev f_match_graph_most : Nat := 57
abbrev f_fleet_CheckShifts : Nat := 58
abbrev f_fleet_rosters : Nat := 59
abbrev f_trust_CheckRatings : Nat := 60
abbrev f_trust_faithFault : Nat := 61
abbrev f_base_Moment : Nat := 62
abbrev f_trust_newSums : Nat := 63
abbrev f_trust_sums_score : Nat := 64
abbrev f_base_Out : Nat := 65
abbrev f_match_byOffer : Nat := 66
abbrev f_match_carsOf : Nat := 67
abbrev f_match_ridesOf : Nat := 68
abbrev f_slices_BinarySearch_string_string : Nat := 69
abbrev f_slices_Repeat_int_int : Nat := 73
abbrev f_match_graph_augment : Nat := 74
abbrev f_jitmake_Below : Nat := 75
abbrev f_slices_insertionSortCmpFunc_api_Deal : Nat := 76
abbrev f_slices_heapSortCmpFunc_api_Deal : Nat := 77
abbrev f_slices_breakPatternsCmpFunc_api_Deal : Nat := 78
abbrev f_slices_choosePivotCmpFunc_api_Deal : Nat := 79
abbrev f_slices_reverseRangeCmpFunc_api_Deal : Nat := 80
abbrev f_slices_partialInsertionSortCmpFunc_api_Deal : Nat := 81
abbrev f_slices_partitionEqualCmpFunc_api_Deal : Nat := 82
abbrev f_slices_partitionCmpFunc_api_Deal : Nat := 83
abbrev f_math_bits_Len32 : Nat := 84
abbrev f_math_bits_Len64 : Nat := 85
abbrev f_internal_bytealg_abigen_runtime_cmpstring : Nat := 86
abbrev f_request_seriesFault : Nat := 87
abbrev f_slices_BinarySearchFunc_api_Change_api_Change_int : Nat := 88
abbrev f_request_dayRide_1 : Nat := 89
abbrev f_cmp_Compare_int : Nat := 90
abbrev f_strconv_Itoa : Nat := 91
abbrev f_request_dayRide_2 : Nat := 92
abbrev f_strings_Repeat : Nat := 93
abbrev f_fleet_byShift : Nat := 94
abbrev f_slices_IndexFunc_int_int : Nat := 95
abbrev f_fleet_rosters_1 : Nat := 96
abbrev f_trust_byRating : Nat := 97
abbrev f_trust_counting : Nat := 98
abbrev f_base_Fraction : Nat := 99
abbrev f_cmp_Or_int : Nat := 100
abbrev f_match_names : Nat := 101
abbrev f_match_carsOf_1 : Nat := 102
abbrev f_match_ridesOf_1 : Nat := 103
abbrev f_cmp_Less_string : Nat := 104
abbrev f_slices_isNaN_string : Nat := 105
abbrev f_math_bits_Mul : Nat := 107
abbrev f_slices_siftDownCmpFunc_api_Deal : Nat := 108
abbrev f_slices_nextPowerOfTwo : Nat := 109
abbrev f_slices_xorshift_Next : Nat := 110
abbrev f_slices_medianAdjacentCmpFunc_api_Deal : Nat := 111
abbrev f_slices_medianCmpFunc_api_Deal : Nat := 112
abbrev f_request_allKeys : Nat := 113
abbrev f_request_changesFault : Nat := 114
abbrev f_cmp_isNaN_int : Nat := 115
abbrev f_internal_strconv_Itoa : Nat := 116
abbrev f_strings_HasPrefix : Nat := 117
abbrev f_strings_Builder_Grow : Nat := 118
abbrev f_strings_Builder_WriteString : Nat := 119
abbrev f_strings_Builder_Len : Nat := 120
abbrev f_strings_Builder_String : Nat := 121
abbrev f_trust_sameWords : Nat := 122
abbrev f_base_Gcd : Nat := 123
abbrev f_slices_Sort_string_string : Nat := 124
abbrev f_slices_Compact_string_string : Nat := 125
abbrev f_cmp_isNaN_string : Nat := 126
abbrev f_math_bits_Mul32 : Nat := 127
abbrev f_math_bits_Mul64 : Nat := 128
abbrev f_slices_order2CmpFunc_api_Deal : Nat := 129
abbrev f_slices_ContainsFunc_string_string : Nat := 130
abbrev f_request_allKeys_1 : Nat := 131
abbrev f_internal_strconv_FormatInt : Nat := 132
abbrev f_internal_stringslite_HasPrefix : Nat := 133
abbrev f_strings_Builder_copyCheck : Nat := 134
abbrev f_slices_pdqsortOrdered_string : Nat := 136
abbrev f_slices_IndexFunc_string_string : Nat := 137
abbrev f_internal_strconv_small : Nat := 138
abbrev f_internal_strconv_numDigits : Nat := 139
abbrev f_internal_strconv_formatBase10 : Nat := 140
abbrev f_internal_strconv_formatBits : Nat := 141
abbrev f_internal_abi_NoEscape : Nat := 142
abbrev f_slices_insertionSortOrdered_string : Nat := 144
abbrev f_slices_heapSortOrdered_string : Nat := 145
abbrev f_slices_breakPatternsOrdered_string : Nat := 146
abbrev f_slices_choosePivotOrdered_string : Nat := 147
abbrev f_slices_reverseRangeOrdered_string : Nat := 148
abbrev f_slices_partialInsertionSortOrdered_string : Nat := 149
abbrev f_slices_partitionEqualOrdered_string : Nat := 150
abbrev f_slices_partitionOrdered_string : Nat := 151
abbrev f_internal_strconv_log10Pow2 : Nat := 152
abbrev f_internal_strconv_bool2_int : Nat := 153
abbrev f_internal_strconv_isPowerOfTwo : Nat := 154
abbrev f_math_bits_TrailingZeros : Nat := 155
abbrev f_slices_siftDownOrdered_string : Nat := 156
abbrev f_slices_medianAdjacentOrdered_string : Nat := 157
abbrev f_slices_medianOrdered_string : Nat := 158
abbrev f_math_bits_TrailingZeros32 : Nat := 159
abbrev f_math_bits_TrailingZeros64 : Nat := 160
abbrev f_slices_order2Ordered_string : Nat := 161
/-! ### jitmake_Stream_RightWishes (*jitney/jitmake.Stream).RightWishes -/
noncomputable def l_jitmake_Stream_RightWishes_1 (v0 v2 v7 v13 v14 v15 : AV) (H : Heap) (k0 : AV → Heap → Option (AV × Heap)) : Option (AV × Heap) :=
  loopK prog (R prog) b5_1 (fun t => bif Nat.beq t 0 then v0 else bif Nat.beq t 2 then v2 else bif Nat.beq t 7 then v7 else bif Nat.beq t 13 then v13 else bif Nat.beq t 14 then v14 else bif Nat.beq t 15 then v15 else .undef) H (fun i e H => bif Nat.beq i 0 then k0 (e 7) H else none) (fun e H => some ((e 6), H))
noncomputable def l_jitmake_Stream_RightWishes_0 (v0 v2 v7 v10 v13 v14 v15 v26 v27 v28 : AV) (H : Heap) (k2 : AV → AV → AV → AV → AV → AV → AV → Heap → Option (AV × Heap)) : Option (AV × Heap) :=
  loopK prog (R prog) b5_0 (fun t => bif Nat.beq t 0 then v0 else bif Nat.beq t 2 then v2 else bif Nat.beq t 7 then v7 else bif Nat.beq t 10 then v10 else bif Nat.beq t 13 then v13 else bif Nat.beq t 14 then v14 else bif Nat.beq t 15 then v15 else bif Nat.beq t 26 then v26 else bif Nat.beq t 27 then v27 else bif Nat.beq t 28 then v28 else .undef) H (fun i e H => bif Nat.beq i 2 then k2 (e 0) (e 2) (e 7) (e 10) (e 13) (e 14) (e 15) H else none) (fun e H => some ((e 6), H))
theorem l_jitmake_Stream_RightWishes_0_s (v0 v2 v7 v10 v13 v14 v15 v26 v27 v28 : AV) (H : Heap) (k2 : AV → AV → AV → AV → AV → AV → AV → Heap → Option (AV × Heap)) {Q : AV → Heap → Prop} (h : Yl (
(binAV H .lss (.one .int) v28 v27).bind fun v29 =>
 condK v29 (
(indexV H 1 v26 v28).bind fun v30 =>
(loadAV H none v30).bind fun v31 =>
(R prog f_jitmake_Stream_Flip [v0, (.int .i64 4)] H).bind fun r5 =>
(unAV .not r5.1).bind fun v34 =>
 condK v34 (
(fieldAddrAV 1 v10).bind fun v35 =>
(loadAV r5.2 none v35).bind fun v36 =>
(indexV r5.2 1 v2 v31).bind fun v39 =>
(loadAV r5.2 none v39).bind fun v40 =>
(litAV 1 [(.str [])] [(0, v40)] false r5.2).bind fun r6 =>
(appendX r6.2 1 16 v36 r6.1).bind fun r7 =>
(fieldAddrAV 1 v10).bind fun v43 =>
(storeAV r7.2 1 v43 r7.1).bind fun H8 =>
(binAV H8 .add (.one .int) v28 (.int .i64 1)).bind fun v44 =>
 l_jitmake_Stream_RightWishes_0 v0 v2 v7 v10 v13 v14 v15 v26 v27 v44 H8 k2) (
(binAV r5.2 .add (.one .int) v28 (.int .i64 1)).bind fun v44_1 =>
 l_jitmake_Stream_RightWishes_0 v0 v2 v7 v10 v13 v14 v15 v26 v27 v44_1 r5.2 k2)) (
 k2 v0 v2 v7 v10 v13 v14 v15 H)) Q) : Yl (l_jitmake_Stream_RightWishes_0 v0 v2 v7 v10 v13 v14 v15 v26 v27 v28 H k2) Q := by
  unfold l_jitmake_Stream_RightWishes_0
  exact loop_yl (by kernel_rfl) h
theorem l_jitmake_Stream_RightWishes_1_s (v0 v2 v7 v13 v14 v15 : AV) (H : Heap) (k0 : AV → Heap → Option (AV × Heap)) {Q : AV → Heap → Prop} (h : Yl (
(binAV H .lss (.one .int) v15 v14).bind fun v16 =>
 condK v16 (
(indexV H 1 v13 v15).bind fun v17 =>
(loadAV H none v17).bind fun v18 =>
(R prog f_jitmake_Stream_Flip [v0, (.int .i64 6)] H).bind fun r1 =>
 condK r1.1 (
(binAV r1.2 .add (.one .int) v15 (.int .i64 1)).bind fun v49 =>
 l_jitmake_Stream_RightWishes_1 v0 v2 v7 v13 v14 v49 r1.2 k0) (
(buildAV [(.str []), .nilslice] [(0, 1, v18)]).bind fun v22 =>
(boxAV 2 (.agg [(.str []), .nilslice]) r1.2).bind fun r2 =>
(storeAV r2.2 2 r2.1 v22).bind fun H3 =>
(lenX H3 .slice v2).bind fun v25 =>
(R prog f_jitmake_Stream_Order [v0, v25] H3).bind fun r4 =>
(lenX r4.2 .slice r4.1).bind fun v27 =>
 l_jitmake_Stream_RightWishes_0 v0 v2 v7 r2.1 v13 v14 v15 r4.1 v27 (.int .i64 0) r4.2 (fun v0_1 v2_1 v7_1 v10 v13_1 v14_1 v15_1 H9 =>
(loadAV H9 (some 2) v10).bind fun v46 =>
(litAV 2 [(.agg [(.str []), .nilslice])] [(0, v46)] true H9).bind fun r10 =>
(appendX r10.2 2 40 v7_1 r10.1).bind fun r11 =>
(binAV r11.2 .add (.one .int) v15_1 (.int .i64 1)).bind fun v49_1 =>
 l_jitmake_Stream_RightWishes_1 v0_1 v2_1 r11.1 v13_1 v14_1 v49_1 r11.2 k0))) (
 k0 v7 H)) Q) : Yl (l_jitmake_Stream_RightWishes_1 v0 v2 v7 v13 v14 v15 H k0) Q := by
  unfold l_jitmake_Stream_RightWishes_1
  exact loop_yl (by kernel_rfl) h
theorem r_jitmake_Stream_RightWishes (v0 v1 v2 : AV) (H : Heap) {Q : AV → Heap → Prop} (h : Yl (
(lenX H .slice v1).bind fun v14 =>
 l_jitmake_Stream_RightWishes_1 v0 v2 (.nilslice) v1 v14 (.int .i64 0) H (fun v7 H12 =>
 some (v7, H12))) Q) : Yl (R prog f_jitmake_Stream_RightWishes [v0, v1, v2] H) Q :=
  R_yl (fn := x5) (by kernel_rfl) rfl (by kernel_rfl) h
/-! ### match_Blocking jitney/match.Blocking -/
noncomputable def l_match_Blocking_0 (v0 v2 v9 v10 v11 v12 v42 v43 v44 : AV) (H : Heap) (k0 : AV → AV → AV → AV → Heap → Option (AV × Heap)) : Option (AV × Heap) :=
  loopK prog (R prog) b7_0 (fun t => bif Nat.beq t 0 then v0 else bif Nat.beq t 2 then v2 else bif Nat.beq t 9 then v9 else bif Nat.beq t 10 then v10 else bif Nat.beq t 11 then v11 else bif Nat.beq t 12 then v12 else bif Nat.beq t 42 then v42 else bif Nat.beq t 43 then v43 else bif Nat.beq t 44 then v44 else .undef) H (fun i e H => bif Nat.beq i 0 then k0 (e 0) (e 10) (e 11) (e 12) H else none) (fun e H => some (.tuple [(e 6), (e 7)], H))
noncomputable def j_match_Blocking_2 (v0 v2 v9 v10 v11 v12 v14 v42 v43 v44 v70 : AV) (H : Heap) (k0 : AV → AV → AV → AV → Heap → Option (AV × Heap)) : Option (AV × Heap) :=
 condK v70 (
 some (.tuple [(.nilslice), (.int .i64 7)], H)) (
(fieldAddrAV 1 v14).bind fun v86 =>
(loadAV H none v86).bind fun v87 =>
(lookupAV H (.one .str) (.str []) false v11 v87).bind fun v88 =>
(binAV H .neq (.one .str) v88 (.str [])).bind fun v89 =>
 condK v89 (
 some (.tuple [(.nilslice), (.int .i64 6)], H)) (
(fieldAddrAV 0 v14).bind fun v92 =>
(loadAV H none v92).bind fun v93 =>
(lookupAV H (.one .str) .nilslice false v9 v93).bind fun v94 =>
(fieldAddrAV 1 v14).bind fun v95 =>
(loadAV H none v95).bind fun v96 =>
(pureCall prog (R prog) f_slices_Contains_string_string [v94, v96] H).bind fun v97 =>
(unAV .not v97).bind fun v98 =>
 gB v98 (
 some (.tuple [(.nilslice), (.int .i64 16)], H)) (
(fieldAddrAV 1 v14).bind fun v101 =>
(loadAV H none v101).bind fun v102 =>
(lookupAV H (.one .str) .nilslice false v10 v102).bind fun v103 =>
(fieldAddrAV 0 v14).bind fun v104 =>
(loadAV H none v104).bind fun v105 =>
(pureCall prog (R prog) f_slices_Contains_string_string [v103, v105] H).bind fun v106 =>
(unAV .not v106).bind fun v107 =>
 condK v107 (
 some (.tuple [(.nilslice), (.int .i64 16)], H)) (
(fieldAddrAV 1 v14).bind fun v110 =>
(loadAV H none v110).bind fun v111 =>
(fieldAddrAV 0 v14).bind fun v113 =>
(loadAV H none v113).bind fun v114 =>
(fieldAddrAV 0 v14).bind fun v115 =>
(loadAV H none v115).bind fun v116 =>
(fieldAddrAV 1 v14).bind fun v117 =>
(loadAV H none v117).bind fun v118 =>
(mapUpdateAV H (.one .str) v11 v111 v116).bind fun H6 =>
(mapUpdateAV H6 (.one .str) v12 v114 v118).bind fun H7 =>
(binAV H7 .add (.one .int) v44 (.int .i64 1)).bind fun v119 =>
 l_match_Blocking_0 v0 v2 v9 v10 v11 v12 v42 v43 v119 H7 k0))))
noncomputable def j_match_Blocking_1 (v0 v2 v9 v10 v11 v12 v13 v14 v42 v43 v44 v63 : AV) (H : Heap) (k0 : AV → AV → AV → AV → Heap → Option (AV × Heap)) : Option (AV × Heap) :=
 condK v63 (
 some (.tuple [(.nilslice), (.int .i64 8)], H)) (
(binAV H .gtr (.one .int) v13 (.int .i64 0)).bind fun v72 =>
 gB v72 (
(fieldAddrAV 0 v14).bind fun v74 =>
(loadAV H none v74).bind fun v75 =>
(binAV H .sub (.one .int) v13 (.int .i64 1)).bind fun v78 =>
(indexV H 2 v2 v78).bind fun v79 =>
(fieldAddrAV 0 v79).bind fun v80 =>
(loadAV H none v80).bind fun v81 =>
(binAV H .leq (.one .str) v75 v81).bind fun v82 =>
 j_match_Blocking_2 v0 v2 v9 v10 v11 v12 v14 v42 v43 v44 v82 H k0) (
 j_match_Blocking_2 v0 v2 v9 v10 v11 v12 v14 v42 v43 v44 (.bool false) H k0))
noncomputable def l_match_Blocking_2 (v10 v11 v12 v19 v120 v121 v122 : AV) (H : Heap) (k3 : AV → Heap → Option (AV × Heap)) : Option (AV × Heap) :=
  loopK prog (R prog) b7_2 (fun t => bif Nat.beq t 10 then v10 else bif Nat.beq t 11 then v11 else bif Nat.beq t 12 then v12 else bif Nat.beq t 19 then v19 else bif Nat.beq t 120 then v120 else bif Nat.beq t 121 then v121 else bif Nat.beq t 122 then v122 else .undef) H (fun i e H => bif Nat.beq i 3 then k3 (e 19) H else none) (fun e H => some (.tuple [(e 6), (e 7)], H))
noncomputable def l_match_Blocking_1 (v10 v11 v12 v19 v21 v120 v121 v122 v127 v128 v129 : AV) (H : Heap) (k5 : AV → AV → AV → AV → AV → AV → AV → Heap → Option (AV × Heap)) : Option (AV × Heap) :=
  loopK prog (R prog) b7_1 (fun t => bif Nat.beq t 10 then v10 else bif Nat.beq t 11 then v11 else bif Nat.beq t 12 then v12 else bif Nat.beq t 19 then v19 else bif Nat.beq t 21 then v21 else bif Nat.beq t 120 then v120 else bif Nat.beq t 121 then v121 else bif Nat.beq t 122 then v122 else bif Nat.beq t 127 then v127 else bif Nat.beq t 128 then v128 else bif Nat.beq t 129 then v129 else .undef) H (fun i e H => bif Nat.beq i 5 then k5 (e 10) (e 11) (e 12) (e 19) (e 120) (e 121) (e 122) H else none) (fun e H => some (.tuple [(e 6), (e 7)], H))
theorem l_match_Blocking_0_s (v0 v2 v9 v10 v11 v12 v42 v43 v44 : AV) (H : Heap) (k0 : AV → AV → AV → AV → Heap → Option (AV × Heap)) {Q : AV → Heap → Prop} (h : Yl (
(binAV H .lss (.one .int) v44 v43).bind fun v45 =>
 condK v45 (
(indexV H 2 v42 v44).bind fun v47 =>
(loadAV H (some 2) v47).bind fun v48 =>
(boxAV 2 (.agg [(.str []), (.str [])]) H).bind fun r4 =>
(storeAV r4.2 2 r4.1 v48).bind fun H5 =>
(fieldAddrAV 0 r4.1).bind fun v51 =>
(loadAV H5 none v51).bind fun v52 =>
(lookupAV H5 (.one .str) .nilslice true v9 v52).bind fun v53 =>
(extractAV v53 0).bind fun v54 =>
(extractAV v53 1).bind fun v55 =>
(fieldAddrAV 1 r4.1).bind fun v58 =>
(loadAV H5 none v58).bind fun v59 =>
(lookupAV H5 (.one .str) .nilslice true v10 v59).bind fun v60 =>
(extractAV v60 0).bind fun v61 =>
(extractAV v60 1).bind fun v62 =>
(unAV .not v55).bind fun v65 =>
 gB v65 (
 j_match_Blocking_1 v0 v2 v9 v10 v11 v12 v44 r4.1 v42 v43 v44 (.bool true) H5 k0) (
(unAV .not v62).bind fun v68 =>
 j_match_Blocking_1 v0 v2 v9 v10 v11 v12 v44 r4.1 v42 v43 v44 v68 H5 k0)) (
 k0 v0 v10 v11 v12 H)) Q) : Yl (l_match_Blocking_0 v0 v2 v9 v10 v11 v12 v42 v43 v44 H k0) Q := by
  unfold l_match_Blocking_0
  exact loop_yl (by kernel_rfl) h
theorem l_match_Blocking_1_s (v10 v11 v12 v19 v21 v120 v121 v122 v127 v128 v129 : AV) (H : Heap) (k5 : AV → AV → AV → AV → AV → AV → AV → Heap → Option (AV × Heap)) {Q : AV → Heap → Prop} (h : Yl (
(binAV H .lss (.one .int) v129 v128).bind fun v130 =>
 condK v130 (
(indexV H 1 v127 v129).bind fun v131 =>
(loadAV H none v131).bind fun v132 =>
(fieldAddrAV 1 v21).bind fun v133 =>
(loadAV H none v133).bind fun v134 =>
(fieldAddrAV 0 v21).bind fun v137 =>
(loadAV H none v137).bind fun v138 =>
(lookupAV H (.one .str) (.str []) false v12 v138).bind fun v139 =>
(pureCall prog (R prog) f_match_likes [v134, v132, v139] H).bind fun v140 =>
 gB v140 (
(lookupAV H (.one .str) .nilslice false v10 v132).bind fun v144 =>
(fieldAddrAV 0 v21).bind fun v145 =>
(loadAV H none v145).bind fun v146 =>
(lookupAV H (.one .str) (.str []) false v11 v132).bind fun v149 =>
(pureCall prog (R prog) f_match_likes [v144, v146, v149] H).bind fun v150 =>
 condK v150 (
(fieldAddrAV 0 v21).bind fun v153 =>
(loadAV H none v153).bind fun v154 =>
(buildAV [(.str []), (.str [])] [(0, 1, v154), (1, 1, v132)]).bind fun v156 =>
(litAV 2 [(.agg [(.str []), (.str [])])] [(0, v156)] false H).bind fun r11 =>
(appendX r11.2 2 32 v19 r11.1).bind fun r12 =>
(binAV r12.2 .add (.one .int) v129 (.int .i64 1)).bind fun v159 =>
 l_match_Blocking_1 v10 v11 v12 r12.1 v21 v120 v121 v122 v127 v128 v159 r12.2 k5) (
(binAV H .add (.one .int) v129 (.int .i64 1)).bind fun v159_1 =>
 l_match_Blocking_1 v10 v11 v12 v19 v21 v120 v121 v122 v127 v128 v159_1 H k5)) (
(binAV H .add (.one .int) v129 (.int .i64 1)).bind fun v159_2 =>
 l_match_Blocking_1 v10 v11 v12 v19 v21 v120 v121 v122 v127 v128 v159_2 H k5)) (
 k5 v10 v11 v12 v19 v120 v121 v122 H)) Q) : Yl (l_match_Blocking_1 v10 v11 v12 v19 v21 v120 v121 v122 v127 v128 v129 H k5) Q := by
  unfold l_match_Blocking_1
  exact loop_yl (by kernel_rfl) h
theorem l_match_Blocking_2_s (v10 v11 v12 v19 v120 v121 v122 : AV) (H : Heap) (k3 : AV → Heap → Option (AV × Heap)) {Q : AV → Heap → Prop} (h : Yl (
(binAV H .lss (.one .int) v122 v121).bind fun v123 =>
 condK v123 (
(indexV H 2 v120 v122).bind fun v124 =>
(loadAV H (some 2) v124).bind fun v125 =>
(boxAV 2 (.agg [(.str []), .nilslice]) H).bind fun r9 =>
(storeAV r9.2 2 r9.1 v125).bind fun H10 =>
(fieldAddrAV 1 r9.1).bind fun v126 =>
(loadAV H10 none v126).bind fun v127 =>
(lenX H10 .slice v127).bind fun v128 =>
 l_match_Blocking_1 v10 v11 v12 v19 r9.1 v120 v121 v122 v127 v128 (.int .i64 0) H10 (fun v10_1 v11_1 v12_1 v19_1 v120_1 v121_1 v122_1 H13 =>
(binAV H13 .add (.one .int) v122_1 (.int .i64 1)).bind fun v160 =>
 l_match_Blocking_2 v10_1 v11_1 v12_1 v19_1 v120_1 v121_1 v160 H13 k3)) (
 k3 v19 H)) Q) : Yl (l_match_Blocking_2 v10 v11 v12 v19 v120 v121 v122 H k3) Q := by
  unfold l_match_Blocking_2
  exact loop_yl (by kernel_rfl) h
theorem r_match_Blocking (v0 v1 v2 : AV) (H : Heap) {Q : AV → Heap → Prop} (h : Yl (
(pureCall prog (R prog) f_match_CheckWishes [v0] H).bind fun v25 =>
(pureCall prog (R prog) f_match_CheckWishes [v1] H).bind fun v27 =>
(litAV 1 [(.int .i64 0), (.int .i64 0)] [(0, v25), (1, v27)] false H).bind fun r1 =>
(pureCall prog (R prog) f_base_First [r1.1] r1.2).bind fun v29 =>
(binAV r1.2 .neq (.one .int) v29 (.int .i64 0)).bind fun v31 =>
 condK v31 (
 some (.tuple [(.nilslice), v29], r1.2)) (
(lenX r1.2 .slice v2).bind fun v34 =>
(binAV r1.2 .gtr (.one .int) v34 (.int .i64 200)).bind fun v35 =>
 condK v35 (
 some (.tuple [(.nilslice), (.int .i64 2)], r1.2)) (
(pureCall prog (R prog) f_match_wishes [v0] r1.2).bind fun v37 =>
(pureCall prog (R prog) f_match_wishes [v1] r1.2).bind fun v39 =>
(newMapAV r1.2).bind fun r2 =>
(newMapAV r2.2).bind fun r3 =>
(lenX r3.2 .slice v2).bind fun v43 =>
 l_match_Blocking_0 v0 v2 v37 v39 r2.1 r3.1 v2 v43 (.int .i64 0) r3.2 (fun v0_1 v10 v11 v12 H8 =>
(lenX H8 .slice v0_1).bind fun v121 =>
 l_match_Blocking_2 v10 v11 v12 (.nilslice) v0_1 v121 (.int .i64 0) H8 (fun v19 H14 =>
(R prog f_slices_SortFunc_api_Deal_api_Deal [v19, (.func (.func f_match_Blocking_1) [])] H14).bind fun r15 =>
 some (.tuple [v19, (.int .i64 0)], r15.2)))))) Q) : Yl (R prog f_match_Blocking [v0, v1, v2] H) Q :=
  R_yl (fn := x7) (by kernel_rfl) rfl (by kernel_rfl) h
/-! ### jitkeep2_errs jitney/jitkeep2.errs -/
noncomputable def l_jitkeep2_errs_0 (v5 v6 v7 : AV) (H : Heap) (k0 : Heap → Option (AV × Heap)) : Option (AV × Heap) :=
  loopK prog (R prog) b8_0 (fun t => bif Nat.beq t 5 then v5 else bif Nat.beq t 6 then v6 else bif Nat.beq t 7 then v7 else .undef) H (fun i e H => bif Nat.beq i 0 then k0 H else none) (fun e H => some ((e 2), H))
theorem l_jitkeep2_errs_0_s (v5 v6 v7 : AV) (H : Heap) (k0 : Heap → Option (AV × Heap)) {Q : AV → Heap → Prop} (h : Yl (
(binAV H .lss (.one .int) v7 v6).bind fun v8 =>
 condK v8 (
(indexV H 1 v5 v7).bind fun v9 =>
(loadAV H none v9).bind fun v10 =>
(binAV H .neq (.one .int) v10 (.int .i64 0)).bind fun v12 =>
 condK v12 (
 some (v10, H)) (
(binAV H .add (.one .int) v7 (.int .i64 1)).bind fun v14 =>
 l_jitkeep2_errs_0 v5 v6 v14 H k0)) (
 k0 H)) Q) : Yl (l_jitkeep2_errs_0 v5 v6 v7 H k0) Q := by
  unfold l_jitkeep2_errs_0
  exact loop_yl (by kernel_rfl) h
theorem r_jitkeep2_errs (v0 : AV) (H : Heap) {Q : AV → Heap → Prop} (h : Yl (
(lenX H .slice v0).bind fun v6 =>
 l_jitkeep2_errs_0 v0 v6 (.int .i64 0) H (fun  H1 =>
 some ((.int .i64 0), H1))) Q) : Yl (R prog f_jitkeep2_errs [v0] H) Q :=
  R_yl (fn := x8) (by kernel_rfl) rfl (by kernel_rfl) h
/-! ### slices_ContainsFunc_api_Deal_api_Deal slices.ContainsFunc[[]jitney/api.Deal,jitney/api.Deal] -/
theorem r_slices_ContainsFunc_api_Deal_api_Deal (v0 v1 : AV) (H : Heap) {Q : AV → Heap → Prop} (h : Yl (
(pureCall prog (R prog) f_slices_IndexFunc_api_Deal_api_Deal [v0, v1] H).bind fun v7 =>
(binAV H .geq (.one .int) v7 (.int .i64 0)).bind fun v8 =>
 some (v8, H)) Q) : Yl (R prog f_slices_ContainsFunc_api_Deal_api_Deal [v0, v1] H) Q :=
  R_yl (fn := x9) (by kernel_rfl) rfl (by kernel_rfl) h
/-! ### jitkeep2_StableIsStable_1 jitney/jitkeep2.StableIsStable$1 -/
theorem r_jitkeep2_StableIsStable_1 (v0 v1 : AV) (H : Heap) {Q : AV → Heap → Prop} (h : Yl (
(boxAV 2 v0 H).bind fun r1 =>
(fieldAddrAV 1 r1.1).bind fun v4 =>
(loadAV r1.2 none v4).bind fun v5 =>
(fieldAddrAV 0 v1).bind fun v6 =>
(loadAV r1.2 none v6).bind fun v7 =>
(binAV r1.2 .eql (.one .str) v5 v7).bind fun v8 =>
 some (v8, r1.2)) Q) : Yl (R prog f_jitkeep2_StableIsStable_1 [v0, v1] H) Q :=
  R_yl (fn := x10) (by kernel_rfl) rfl (by kernel_rfl) h
/-! ### jitkeep2_StableIsStable_2 jitney/jitkeep2.StableIsStable$2 -/
theorem r_jitkeep2_StableIsStable_2 (v0 v1 : AV) (H : Heap) {Q : AV → Heap → Prop} (h : Yl (
(boxAV 2 v0 H).bind fun r1 =>
(fieldAddrAV 0 r1.1).bind fun v4 =>
(loadAV r1.2 none v4).bind fun v5 =>
(fieldAddrAV 1 v1).bind fun v6 =>
(loadAV r1.2 none v6).bind fun v7 =>
(binAV r1.2 .eql (.one .str) v5 v7).bind fun v8 =>
 some (v8, r1.2)) Q) : Yl (R prog f_jitkeep2_StableIsStable_2 [v0, v1] H) Q :=
  R_yl (fn := x11) (by kernel_rfl) rfl (by kernel_rfl) h
/-! ### jitmake_Stream_Flip (*jitney/jitmake.Stream).Flip -/
theorem r_jitmake_Stream_Flip (v0 v1 : AV) (H : Heap) {Q : AV → Heap → Prop} (h : Yl (
(R prog f_jitmake_Stream_Next [v0, v1] H).bind fun r1 =>
(binAV r1.2 .eql (.one .int) r1.1 (.int .i64 0)).bind fun v8 =>
 some (v8, r1.2)) Q) : Yl (R prog f_jitmake_Stream_Flip [v0, v1] H) Q :=
  R_yl (fn := x23) (by kernel_rfl) rfl (by kernel_rfl) h
/-! ### jitmake_Stream_Order (*jitney/jitmake.Stream).Order -/
noncomputable def l_jitmake_Stream_Order_0 (v0 v1 v5 v9 v10 : AV) (H : Heap) (k0 : AV → AV → AV → Heap → Option (AV × Heap)) : Option (AV × Heap) :=
  loopK prog (R prog) b24_0 (fun t => bif Nat.beq t 0 then v0 else bif Nat.beq t 1 then v1 else bif Nat.beq t 5 then v5 else bif Nat.beq t 9 then v9 else bif Nat.beq t 10 then v10 else .undef) H (fun i e H => bif Nat.beq i 0 then k0 (e 0) (e 1) (e 5) H else none) (fun e H => some ((e 4), H))
noncomputable def l_jitmake_Stream_Order_1 (v0 v5 v7 : AV) (H : Heap) (k2 : AV → Heap → Option (AV × Heap)) : Option (AV × Heap) :=
  loopK prog (R prog) b24_1 (fun t => bif Nat.beq t 0 then v0 else bif Nat.beq t 5 then v5 else bif Nat.beq t 7 then v7 else .undef) H (fun i e H => bif Nat.beq i 2 then k2 (e 5) H else none) (fun e H => some ((e 4), H))
theorem l_jitmake_Stream_Order_0_s (v0 v1 v5 v9 v10 : AV) (H : Heap) (k0 : AV → AV → AV → Heap → Option (AV × Heap)) {Q : AV → Heap → Prop} (h : Yl (
(binAV H .lss (.one .int) v10 v9).bind fun v11 =>
 condK v11 (
(litAV 1 [(.int .i64 0)] [(0, v10)] false H).bind fun r1 =>
(appendX r1.2 1 8 v5 r1.1).bind fun r2 =>
(binAV r2.2 .add (.one .int) v10 (.int .i64 1)).bind fun v17 =>
 l_jitmake_Stream_Order_0 v0 v1 r2.1 v9 v17 r2.2 k0) (
 k0 v0 v1 v5 H)) Q) : Yl (l_jitmake_Stream_Order_0 v0 v1 v5 v9 v10 H k0) Q := by
  unfold l_jitmake_Stream_Order_0
  exact loop_yl (by kernel_rfl) h
theorem l_jitmake_Stream_Order_1_s (v0 v5 v7 : AV) (H : Heap) (k2 : AV → Heap → Option (AV × Heap)) {Q : AV → Heap → Prop} (h : Yl (
(binAV H .gtr (.one .int) v7 (.int .i64 0)).bind fun v21 =>
 condK v21 (
(binAV H .add (.one .int) v7 (.int .i64 1)).bind fun v26 =>
(R prog f_jitmake_Stream_Next [v0, v26] H).bind fun r4 =>
(indexV r4.2 1 v5 r4.1).bind fun v34 =>
(loadAV r4.2 none v34).bind fun v35 =>
(indexV r4.2 1 v5 v7).bind fun v38 =>
(loadAV r4.2 none v38).bind fun v39 =>
(indexV r4.2 1 v5 v7).bind fun v40 =>
(storeAV r4.2 1 v40 v35).bind fun H5 =>
(indexV H5 1 v5 r4.1).bind fun v41 =>
(storeAV H5 1 v41 v39).bind fun H6 =>
(binAV H6 .sub (.one .int) v7 (.int .i64 1)).bind fun v23 =>
 l_jitmake_Stream_Order_1 v0 v5 v23 H6 k2) (
 k2 v5 H)) Q) : Yl (l_jitmake_Stream_Order_1 v0 v5 v7 H k2) Q := by
  unfold l_jitmake_Stream_Order_1
  exact loop_yl (by kernel_rfl) h
theorem r_jitmake_Stream_Order (v0 v1 : AV) (H : Heap) {Q : AV → Heap → Prop} (h : Yl (
 l_jitmake_Stream_Order_0 v0 v1 (.nilslice) v1 (.int .i64 0) H (fun v0_1 v1_1 v5 H3 =>
(binAV H3 .sub (.one .int) v1_1 (.int .i64 1)).bind fun v19 =>
 l_jitmake_Stream_Order_1 v0_1 v5 v19 H3 (fun v5_1 H7 =>
 some (v5_1, H7)))) Q) : Yl (R prog f_jitmake_Stream_Order [v0, v1] H) Q :=
  R_yl (fn := x24) (by kernel_rfl) rfl (by kernel_rfl) h
/-! ### base_First jitney/base.First -/
noncomputable def l_base_First_0 (v5 v6 v7 : AV) (H : Heap) (k0 : Heap → Option (AV × Heap)) : Option (AV × Heap) :=
  loopK prog (R prog) b25_0 (fun t => bif Nat.beq t 5 then v5 else bif Nat.beq t 6 then v6 else bif Nat.beq t 7 then v7 else .undef) H (fun i e H => bif Nat.beq i 0 then k0 H else none) (fun e H => some ((e 2), H))
theorem l_base_First_0_s (v5 v6 v7 : AV) (H : Heap) (k0 : Heap → Option (AV × Heap)) {Q : AV → Heap → Prop} (h : Yl (
(binAV H .lss (.one .int) v7 v6).bind fun v8 =>
 condK v8 (
(indexV H 1 v5 v7).bind fun v9 =>
(loadAV H none v9).bind fun v10 =>
(binAV H .neq (.one .int) v10 (.int .i64 0)).bind fun v12 =>
 condK v12 (
 some (v10, H)) (
(binAV H .add (.one .int) v7 (.int .i64 1)).bind fun v14 =>
 l_base_First_0 v5 v6 v14 H k0)) (
 k0 H)) Q) : Yl (l_base_First_0 v5 v6 v7 H k0) Q := by
  unfold l_base_First_0
  exact loop_yl (by kernel_rfl) h
theorem r_base_First (v0 : AV) (H : Heap) {Q : AV → Heap → Prop} (h : Yl (
(lenX H .slice v0).bind fun v6 =>
 l_base_First_0 v0 v6 (.int .i64 0) H (fun  H1 =>
 some ((.int .i64 0), H1))) Q) : Yl (R prog f_base_First [v0] H) Q :=
  R_yl (fn := x25) (by kernel_rfl) rfl (by kernel_rfl) h
/-! ### match_CheckWishes jitney/match.CheckWishes -/
noncomputable def l_match_CheckWishes_1 (v0 v10 v11 v12 : AV) (H : Heap) (k0 : Heap → Option (AV × Heap)) : Option (AV × Heap) :=
  loopK prog (R prog) b26_1 (fun t => bif Nat.beq t 0 then v0 else bif Nat.beq t 10 then v10 else bif Nat.beq t 11 then v11 else bif Nat.beq t 12 then v12 else .undef) H (fun i e H => bif Nat.beq i 0 then k0 H else none) (fun e H => some ((e 2), H))
noncomputable def l_match_CheckWishes_0 (v0 v4 v10 v11 v12 v42 v43 v44 : AV) (H : Heap) (k3 : AV → AV → AV → AV → Heap → Option (AV × Heap)) : Option (AV × Heap) :=
  loopK prog (R prog) b26_0 (fun t => bif Nat.beq t 0 then v0 else bif Nat.beq t 4 then v4 else bif Nat.beq t 10 then v10 else bif Nat.beq t 11 then v11 else bif Nat.beq t 12 then v12 else bif Nat.beq t 42 then v42 else bif Nat.beq t 43 then v43 else bif Nat.beq t 44 then v44 else .undef) H (fun i e H => bif Nat.beq i 3 then k3 (e 0) (e 10) (e 11) (e 12) H else none) (fun e H => some ((e 2), H))
theorem l_match_CheckWishes_0_s (v0 v4 v10 v11 v12 v42 v43 v44 : AV) (H : Heap) (k3 : AV → AV → AV → AV → Heap → Option (AV × Heap)) {Q : AV → Heap → Prop} (h : Yl (
(binAV H .lss (.one .int) v44 v43).bind fun v45 =>
 condK v45 (
(indexV H 1 v42 v44).bind fun v47 =>
(loadAV H none v47).bind fun v48 =>
(pureCall prog (R prog) f_base_Key [v48] H).bind fun v50 =>
(unAV .not v50).bind fun v51 =>
 condK v51 (
 some ((.int .i64 5), H)) (
(fieldAddrAV 1 v4).bind fun v52 =>
(loadAV H none v52).bind fun v53 =>
(sliceSlAV H 1 v53 none (some v44)).bind fun v55 =>
(pureCall prog (R prog) f_slices_Contains_string_string [v55, v48] H).bind fun v57 =>
 condK v57 (
 some ((.int .i64 6), H)) (
(binAV H .add (.one .int) v44 (.int .i64 1)).bind fun v58 =>
 l_match_CheckWishes_0 v0 v4 v10 v11 v12 v42 v43 v58 H k3))) (
 k3 v0 v10 v11 v12 H)) Q) : Yl (l_match_CheckWishes_0 v0 v4 v10 v11 v12 v42 v43 v44 H k3) Q := by
  unfold l_match_CheckWishes_0
  exact loop_yl (by kernel_rfl) h
theorem l_match_CheckWishes_1_s (v0 v10 v11 v12 : AV) (H : Heap) (k0 : Heap → Option (AV × Heap)) {Q : AV → Heap → Prop} (h : Yl (
(binAV H .lss (.one .int) v12 v11).bind fun v13 =>
 condK v13 (
(indexV H 2 v10 v12).bind fun v15 =>
(loadAV H (some 2) v15).bind fun v16 =>
(boxAV 2 (.agg [(.str []), .nilslice]) H).bind fun r1 =>
(storeAV r1.2 2 r1.1 v16).bind fun H2 =>
(fieldAddrAV 0 r1.1).bind fun v18 =>
(loadAV H2 none v18).bind fun v19 =>
(pureCall prog (R prog) f_base_Key [v19] H2).bind fun v20 =>
(unAV .not v20).bind fun v21 =>
 condK v21 (
 some ((.int .i64 5), H2)) (
(binAV H2 .gtr (.one .int) v12 (.int .i64 0)).bind fun v24 =>
 gB v24 (
(fieldAddrAV 0 r1.1).bind fun v26 =>
(loadAV H2 none v26).bind fun v27 =>
(binAV H2 .sub (.one .int) v12 (.int .i64 1)).bind fun v30 =>
(indexV H2 2 v0 v30).bind fun v31 =>
(fieldAddrAV 0 v31).bind fun v32 =>
(loadAV H2 none v32).bind fun v33 =>
(binAV H2 .leq (.one .str) v27 v33).bind fun v34 =>
 condK v34 (
 some ((.int .i64 7), H2)) (
(fieldAddrAV 1 r1.1).bind fun v37 =>
(loadAV H2 none v37).bind fun v38 =>
(lenX H2 .slice v38).bind fun v39 =>
(binAV H2 .gtr (.one .int) v39 (.int .i64 100)).bind fun v40 =>
 condK v40 (
 some ((.int .i64 2), H2)) (
(fieldAddrAV 1 r1.1).bind fun v41 =>
(loadAV H2 none v41).bind fun v42 =>
(lenX H2 .slice v42).bind fun v43 =>
 l_match_CheckWishes_0 v0 r1.1 v10 v11 v12 v42 v43 (.int .i64 0) H2 (fun v0_1 v10_1 v11_1 v12_1 H3 =>
(binAV H3 .add (.one .int) v12_1 (.int .i64 1)).bind fun v59 =>
 l_match_CheckWishes_1 v0_1 v10_1 v11_1 v59 H3 k0)))) (
(fieldAddrAV 1 r1.1).bind fun v37_1 =>
(loadAV H2 none v37_1).bind fun v38_1 =>
(lenX H2 .slice v38_1).bind fun v39_1 =>
(binAV H2 .gtr (.one .int) v39_1 (.int .i64 100)).bind fun v40_1 =>
 condK v40_1 (
 some ((.int .i64 2), H2)) (
(fieldAddrAV 1 r1.1).bind fun v41_1 =>
(loadAV H2 none v41_1).bind fun v42_1 =>
(lenX H2 .slice v42_1).bind fun v43_1 =>
 l_match_CheckWishes_0 v0 r1.1 v10 v11 v12 v42_1 v43_1 (.int .i64 0) H2 (fun v0_2 v10_2 v11_2 v12_2 H4 =>
(binAV H4 .add (.one .int) v12_2 (.int .i64 1)).bind fun v59_1 =>
 l_match_CheckWishes_1 v0_2 v10_2 v11_2 v59_1 H4 k0))))) (
 k0 H)) Q) : Yl (l_match_CheckWishes_1 v0 v10 v11 v12 H k0) Q := by
  unfold l_match_CheckWishes_1
  exact loop_yl (by kernel_rfl) h
theorem r_match_CheckWishes (v0 : AV) (H : Heap) {Q : AV → Heap → Prop} (h : Yl (
(lenX H .slice v0).bind fun v8 =>
(binAV H .gtr (.one .int) v8 (.int .i64 200)).bind fun v9 =>
 condK v9 (
 some ((.int .i64 2), H)) (
(lenX H .slice v0).bind fun v11 =>
 l_match_CheckWishes_1 v0 v0 v11 (.int .i64 0) H (fun  H5 =>
 some ((.int .i64 0), H5)))) Q) : Yl (R prog f_match_CheckWishes [v0] H) Q :=
  R_yl (fn := x26) (by kernel_rfl) rfl (by kernel_rfl) h
/-! ### match_wishes jitney/match.wishes -/
noncomputable def l_match_wishes_0 (v3 v7 v8 v9 : AV) (H : Heap) (k0 : AV → Heap → Option (AV × Heap)) : Option (AV × Heap) :=
  loopK prog (R prog) b27_0 (fun t => bif Nat.beq t 3 then v3 else bif Nat.beq t 7 then v7 else bif Nat.beq t 8 then v8 else bif Nat.beq t 9 then v9 else .undef) H (fun i e H => bif Nat.beq i 0 then k0 (e 3) H else none) (fun e H => some ((e 2), H))
theorem l_match_wishes_0_s (v3 v7 v8 v9 : AV) (H : Heap) (k0 : AV → Heap → Option (AV × Heap)) {Q : AV → Heap → Prop} (h : Yl (
(binAV H .lss (.one .int) v9 v8).bind fun v10 =>
 condK v10 (
(indexV H 2 v7 v9).bind fun v11 =>
(loadAV H (some 2) v11).bind fun v12 =>
(boxAV 2 (.agg [(.str []), .nilslice]) H).bind fun r2 =>
(storeAV r2.2 2 r2.1 v12).bind fun H3 =>
(fieldAddrAV 0 r2.1).bind fun v14 =>
(loadAV H3 none v14).bind fun v15 =>
(fieldAddrAV 1 r2.1).bind fun v16 =>
(loadAV H3 none v16).bind fun v17 =>
(mapUpdateAV H3 (.one .str) v3 v15 v17).bind fun H4 =>
(binAV H4 .add (.one .int) v9 (.int .i64 1)).bind fun v18 =>
 l_match_wishes_0 v3 v7 v8 v18 H4 k0) (
 k0 v3 H)) Q) : Yl (l_match_wishes_0 v3 v7 v8 v9 H k0) Q := by
  unfold l_match_wishes_0
  exact loop_yl (by kernel_rfl) h
theorem r_match_wishes (v0 : AV) (H : Heap) {Q : AV → Heap → Prop} (h : Yl (
(newMapAV H).bind fun r1 =>
(lenX r1.2 .slice v0).bind fun v8 =>
 l_match_wishes_0 r1.1 v0 v8 (.int .i64 0) r1.2 (fun v3 H5 =>
 some (v3, H5))) Q) : Yl (R prog f_match_wishes [v0] H) Q :=
  R_yl (fn := x27) (by kernel_rfl) rfl (by kernel_rfl) h
/-! ### slices_Contains_string_string slices.Contains[[]string,string] -/
theorem r_slices_Contains_string_string (v0 v1 : AV) (H : Heap) {Q : AV → Heap → Prop} (h : Yl (
(pureCall prog (R prog) f_slices_Index_string_string [v0, v1] H).bind fun v7 =>
(binAV H .geq (.one .int) v7 (.int .i64 0)).bind fun v8 =>
 some (v8, H)) Q) : Yl (R prog f_slices_Contains_string_string [v0, v1] H) Q :=
  R_yl (fn := x28) (by kernel_rfl) rfl (by kernel_rfl) h
/-! ### match_likes jitney/match.likes -/
theorem r_match_likes (v0 v1 v2 : AV) (H : Heap) {Q : AV → Heap → Prop} (h : Yl (
(pureCall prog (R prog) f_slices_Index_string_string [v0, v1] H).bind fun v11 =>
(pureCall prog (R prog) f_slices_Index_string_string [v0, v2] H).bind fun v14 =>
(binAV H .geq (.one .int) v11 (.int .i64 0)).bind fun v16 =>
 gB v16 (
(binAV H .lss (.one .int) v14 (.int .i64 0)).bind fun v19 =>
 gB v19 (
 some ((.bool true), H)) (
(binAV H .lss (.one .int) v11 v14).bind fun v23 =>
 some (v23, H))) (
 some ((.bool false), H))) Q) : Yl (R prog f_match_likes [v0, v1, v2] H) Q :=
  R_yl (fn := x29) (by kernel_rfl) rfl (by kernel_rfl) h
/-! ### slices_SortFunc_api_Deal_api_Deal slices.SortFunc[[]jitney/api.Deal,jitney/api.Deal] -/
theorem r_slices_SortFunc_api_Deal_api_Deal (v0 v1 : AV) (H : Heap) {Q : AV → Heap → Prop} (h : Yl (
(lenX H .slice v0).bind fun v6 =>
(convAV .u64 v6).bind fun v10 =>
(pureCall prog (R prog) f_math_bits_Len [v10] H).bind fun v11 =>
(R prog f_slices_pdqsortCmpFunc_api_Deal [v0, (.int .i64 0), v6, v11, v1] H).bind fun r1 =>
 some (.tuple [], r1.2)) Q) : Yl (R prog f_slices_SortFunc_api_Deal_api_Deal [v0, v1] H) Q :=
  R_yl (fn := x30) (by kernel_rfl) rfl (by kernel_rfl) h
/-! ### match_Stable_1 jitney/match.Stable$1 -/
theorem r_match_Stable_1 (v0 v1 : AV) (H : Heap) {Q : AV → Heap → Prop} (h : Yl (
(boxAV 2 v0 H).bind fun r1 =>
(boxAV 2 v1 r1.2).bind fun r2 =>
(fieldAddrAV 0 r1.1).bind fun v5 =>
(loadAV r2.2 none v5).bind fun v6 =>
(fieldAddrAV 0 r2.1).bind fun v7 =>
(loadAV r2.2 none v7).bind fun v8 =>
(pureCall prog (R prog) f_strings_Compare [v6, v8] r2.2).bind fun v9 =>
 some (v9, r2.2)) Q) : Yl (R prog f_match_Stable_1 [v0, v1] H) Q :=
  R_yl (fn := x31) (by kernel_rfl) rfl (by kernel_rfl) h
/-! ### strings_Compare strings.Compare -/
theorem r_strings_Compare (v0 v1 : AV) (H : Heap) {Q : AV → Heap → Prop} (h : Yl (
(R prog f_internal_bytealg_CompareString [v0, v1] H).bind fun r1 =>
 some (r1.1, r1.2)) Q) : Yl (R prog f_strings_Compare [v0, v1] H) Q :=
  R_yl (fn := x32) (by kernel_rfl) rfl (by kernel_rfl) h
/-! ### match_Blocking_1 jitney/match.Blocking$1 -/
theorem r_match_Blocking_1 (v0 v1 : AV) (H : Heap) {Q : AV → Heap → Prop} (h : Yl (
(boxAV 2 v0 H).bind fun r1 =>
(boxAV 2 v1 r1.2).bind fun r2 =>
(fieldAddrAV 0 r1.1).bind fun v6 =>
(loadAV r2.2 none v6).bind fun v7 =>
(fieldAddrAV 0 r2.1).bind fun v8 =>
(loadAV r2.2 none v8).bind fun v9 =>
(pureCall prog (R prog) f_strings_Compare [v7, v9] r2.2).bind fun v10 =>
(binAV r2.2 .neq (.one .int) v10 (.int .i64 0)).bind fun v12 =>
 condK v12 (
 some (v10, r2.2)) (
(fieldAddrAV 1 r1.1).bind fun v14 =>
(loadAV r2.2 none v14).bind fun v15 =>
(fieldAddrAV 1 r2.1).bind fun v16 =>
(loadAV r2.2 none v16).bind fun v17 =>
(pureCall prog (R prog) f_strings_Compare [v15, v17] r2.2).bind fun v18 =>
 some (v18, r2.2))) Q) : Yl (R prog f_match_Blocking_1 [v0, v1] H) Q :=
  R_yl (fn := x33) (by kernel_rfl) rfl (by kernel_rfl) h
/-! ### slices_IndexFunc_api_Deal_api_Deal slices.IndexFunc[[]jitney/api.Deal,jitney/api.Deal] -/
noncomputable def l_slices_IndexFunc_api_Deal_api_Deal_0 (v0 v1 v7 v8 : AV) (H : Heap) (k0 : Heap → Option (AV × Heap)) : Option (AV × Heap) :=
  loopK prog (R prog) b34_0 (fun t => bif Nat.beq t 0 then v0 else bif Nat.beq t 1 then v1 else bif Nat.beq t 7 then v7 else bif Nat.beq t 8 then v8 else .undef) H (fun i e H => bif Nat.beq i 0 then k0 H else none) (fun e H => some ((e 4), H))
theorem l_slices_IndexFunc_api_Deal_api_Deal_0_s (v0 v1 v7 v8 : AV) (H : Heap) (k0 : Heap → Option (AV × Heap)) {Q : AV → Heap → Prop} (h : Yl (
(binAV H .lss (.one .int) v8 v7).bind fun v9 =>
 condK v9 (
(indexV H 2 v0 v8).bind fun v14 =>
(loadAV H (some 2) v14).bind fun v15 =>
 callK prog (R prog) v1 [v15] H fun v16 H1 =>
 condK v16 (
 some (v8, H1)) (
(binAV H1 .add (.one .int) v8 (.int .i64 1)).bind fun v18 =>
 l_slices_IndexFunc_api_Deal_api_Deal_0 v0 v1 v7 v18 H1 k0)) (
 k0 H)) Q) : Yl (l_slices_IndexFunc_api_Deal_api_Deal_0 v0 v1 v7 v8 H k0) Q := by
  unfold l_slices_IndexFunc_api_Deal_api_Deal_0
  exact loop_yl (by kernel_rfl) h
theorem r_slices_IndexFunc_api_Deal_api_Deal (v0 v1 : AV) (H : Heap) {Q : AV → Heap → Prop} (h : Yl (
(lenX H .slice v0).bind fun v7 =>
 l_slices_IndexFunc_api_Deal_api_Deal_0 v0 v1 v7 (.int .i64 0) H (fun  H2 =>
 some ((.int .i64 (-1)), H2))) Q) : Yl (R prog f_slices_IndexFunc_api_Deal_api_Deal [v0, v1] H) Q :=
  R_yl (fn := x34) (by kernel_rfl) rfl (by kernel_rfl) h
/-! ### jitmake_Stream_Next (*jitney/jitmake.Stream).Next -/
theorem r_jitmake_Stream_Next (v0 v1 : AV) (H : Heap) {Q : AV → Heap → Prop} (h : Yl (
(nilCheckAV v0).bind fun v8 =>
(fieldAddrAV 1 v8).bind fun v9 =>
(loadAV H none v9).bind fun v10 =>
(binAV H .add (.one .int) v10 (.int .i64 1)).bind fun v11 =>
(nilCheckAV v0).bind fun v12 =>
(fieldAddrAV 1 v12).bind fun v13 =>
(storeAV H 1 v13 v11).bind fun H1 =>
(nilCheckAV v0).bind fun v15 =>
(fieldAddrAV 0 v15).bind fun v16 =>
(loadAV H1 none v16).bind fun v17 =>
(lenX H1 .slice v17).bind fun v18 =>
(binAV H1 .eql (.one .int) v18 (.int .i64 0)).bind fun v19 =>
 condK v19 (
(nilCheckAV v0).bind fun v21 =>
(fieldAddrAV 1 v21).bind fun v22 =>
(loadAV H1 none v22).bind fun v23 =>
(binAV H1 .mul (.one .int) v23 (.int .i64 7919)).bind fun v24 =>
(pureCall prog (R prog) f_jitmake_Below [v24, v1] H1).bind fun v26 =>
 some (v26, H1)) (
(nilCheckAV v0).bind fun v28 =>
(fieldAddrAV 1 v28).bind fun v29 =>
(loadAV H1 none v29).bind fun v30 =>
(binAV H1 .sub (.one .int) v30 (.int .i64 1)).bind fun v31 =>
(nilCheckAV v0).bind fun v33 =>
(fieldAddrAV 0 v33).bind fun v34 =>
(loadAV H1 none v34).bind fun v35 =>
(lenX H1 .slice v35).bind fun v36 =>
(binAV H1 .rem (.one .int) v31 v36).bind fun v37 =>
(nilCheckAV v0).bind fun v39 =>
(fieldAddrAV 1 v39).bind fun v40 =>
(loadAV H1 none v40).bind fun v41 =>
(binAV H1 .sub (.one .int) v41 (.int .i64 1)).bind fun v42 =>
(nilCheckAV v0).bind fun v44 =>
(fieldAddrAV 0 v44).bind fun v45 =>
(loadAV H1 none v45).bind fun v46 =>
(lenX H1 .slice v46).bind fun v47 =>
(binAV H1 .quo (.one .int) v42 v47).bind fun v48 =>
(nilCheckAV v0).bind fun v50 =>
(fieldAddrAV 0 v50).bind fun v51 =>
(loadAV H1 none v51).bind fun v52 =>
(indexV H1 1 v52 v37).bind fun v54 =>
(loadAV H1 none v54).bind fun v55 =>
(pureCall prog (R prog) f_jitmake_Below [v55, (.int .i64 1073741824)] H1).bind fun v56 =>
(binAV H1 .add (.one .int) (.int .i64 7919) v37).bind fun v59 =>
(binAV H1 .mul (.one .int) v48 v59).bind fun v60 =>
(binAV H1 .add (.one .int) v56 v60).bind fun v61 =>
(pureCall prog (R prog) f_jitmake_Below [v61, v1] H1).bind fun v63 =>
 some (v63, H1))) Q) : Yl (R prog f_jitmake_Stream_Next [v0, v1] H) Q :=
  R_yl (fn := x49) (by kernel_rfl) rfl (by kernel_rfl) h
/-! ### base_Key jitney/base.Key -/
noncomputable def l_base_Key_0 (v0 v23 v24 : AV) (H : Heap) (k0 : Heap → Option (AV × Heap)) : Option (AV × Heap) :=
  loopK prog (R prog) b50_0 (fun t => bif Nat.beq t 0 then v0 else bif Nat.beq t 23 then v23 else bif Nat.beq t 24 then v24 else .undef) H (fun i e H => bif Nat.beq i 0 then k0 H else none) (fun e H => some ((e 2), H))
noncomputable def j_base_Key_1 (v0 v23 v24 : AV) (H : Heap) (k0 : Heap → Option (AV × Heap)) : Option (AV × Heap) :=
(binAV H .add (.one .int) v24 (.int .i64 1)).bind fun v53 =>
 l_base_Key_0 v0 v23 v53 H k0
theorem l_base_Key_0_s (v0 v23 v24 : AV) (H : Heap) (k0 : Heap → Option (AV × Heap)) {Q : AV → Heap → Prop} (h : Yl (
(binAV H .lss (.one .int) v24 v23).bind fun v25 =>
 condK v25 (
(indexStrAV v0 v24).bind fun v29 =>
(binAV H .geq (.one .int) v29 (.int .u8 97)).bind fun v31 =>
 gB v31 (
(binAV H .leq (.one .int) v29 (.int .u8 122)).bind fun v34 =>
 gB v34 (
(unAV .not (.bool true)).bind fun v52 =>
 condK v52 (
 some ((.bool false), H)) (
 j_base_Key_1 v0 v23 v24 H k0)) (
(binAV H .geq (.one .int) v29 (.int .u8 48)).bind fun v38 =>
 gB v38 (
(binAV H .leq (.one .int) v29 (.int .u8 57)).bind fun v41 =>
 gB v41 (
(unAV .not (.bool true)).bind fun v52_1 =>
 condK v52_1 (
 some ((.bool false), H)) (
 j_base_Key_1 v0 v23 v24 H k0)) (
(binAV H .eql (.one .int) v29 (.int .u8 45)).bind fun v46 =>
 gB v46 (
(unAV .not (.bool true)).bind fun v52_2 =>
 condK v52_2 (
 some ((.bool false), H)) (
 j_base_Key_1 v0 v23 v24 H k0)) (
(binAV H .eql (.one .int) v29 (.int .u8 95)).bind fun v50 =>
(unAV .not v50).bind fun v52_3 =>
 condK v52_3 (
 some ((.bool false), H)) (
 j_base_Key_1 v0 v23 v24 H k0)))) (
(binAV H .eql (.one .int) v29 (.int .u8 45)).bind fun v46_1 =>
 gB v46_1 (
(unAV .not (.bool true)).bind fun v52_4 =>
 condK v52_4 (
 some ((.bool false), H)) (
 j_base_Key_1 v0 v23 v24 H k0)) (
(binAV H .eql (.one .int) v29 (.int .u8 95)).bind fun v50_1 =>
(unAV .not v50_1).bind fun v52_5 =>
 condK v52_5 (
 some ((.bool false), H)) (
 j_base_Key_1 v0 v23 v24 H k0))))) (
(binAV H .geq (.one .int) v29 (.int .u8 48)).bind fun v38_1 =>
 gB v38_1 (
(binAV H .leq (.one .int) v29 (.int .u8 57)).bind fun v41_1 =>
 gB v41_1 (
(unAV .not (.bool true)).bind fun v52_6 =>
 condK v52_6 (
 some ((.bool false), H)) (
 j_base_Key_1 v0 v23 v24 H k0)) (
(binAV H .eql (.one .int) v29 (.int .u8 45)).bind fun v46_2 =>
 gB v46_2 (
(unAV .not (.bool true)).bind fun v52_7 =>
 condK v52_7 (
 some ((.bool false), H)) (
 j_base_Key_1 v0 v23 v24 H k0)) (
(binAV H .eql (.one .int) v29 (.int .u8 95)).bind fun v50_2 =>
(unAV .not v50_2).bind fun v52_8 =>
 condK v52_8 (
 some ((.bool false), H)) (
 j_base_Key_1 v0 v23 v24 H k0)))) (
(binAV H .eql (.one .int) v29 (.int .u8 45)).bind fun v46_3 =>
 gB v46_3 (
(unAV .not (.bool true)).bind fun v52_9 =>
 condK v52_9 (
 some ((.bool false), H)) (
 j_base_Key_1 v0 v23 v24 H k0)) (
(binAV H .eql (.one .int) v29 (.int .u8 95)).bind fun v50_3 =>
(unAV .not v50_3).bind fun v52_10 =>
 condK v52_10 (
 some ((.bool false), H)) (
 j_base_Key_1 v0 v23 v24 H k0))))) (
 k0 H)) Q) : Yl (l_base_Key_0 v0 v23 v24 H k0) Q := by
  unfold l_base_Key_0
  exact loop_yl (by kernel_rfl) h
theorem r_base_Key (v0 : AV) (H : Heap) {Q : AV → Heap → Prop} (h : Yl (
(binAV H .eql (.one .str) v0 (.str [])).bind fun v6 =>
 gB v6 (
 some ((.bool false), H)) (
(lenX H (.one .str) v0).bind fun v9 =>
(binAV H .gtr (.one .int) v9 (.int .i64 40)).bind fun v10 =>
 gB v10 (
 some ((.bool false), H)) (
(indexStrAV v0 (.int .i64 0)).bind fun v14 =>
(binAV H .lss (.one .int) v14 (.int .u8 97)).bind fun v15 =>
 gB v15 (
 some ((.bool false), H)) (
(indexStrAV v0 (.int .i64 0)).bind fun v19 =>
(binAV H .gtr (.one .int) v19 (.int .u8 122)).bind fun v20 =>
 condK v20 (
 some ((.bool false), H)) (
(lenX H (.one .str) v0).bind fun v23 =>
 l_base_Key_0 v0 v23 (.int .i64 0) H (fun  H1 =>
 some ((.bool true), H1))))))) Q) : Yl (R prog f_base_Key [v0] H) Q :=
  R_yl (fn := x50) (by kernel_rfl) rfl (by kernel_rfl) h
/-! ### slices_Index_string_string slices.Index[[]string,string] -/
noncomputable def l_slices_Index_string_string_0 (v0 v1 v7 v8 : AV) (H : Heap) (k0 : Heap → Option (AV × Heap)) : Option (AV × Heap) :=
  loopK prog (R prog) b51_0 (fun t => bif Nat.beq t 0 then v0 else bif Nat.beq t 1 then v1 else bif Nat.beq t 7 then v7 else bif Nat.beq t 8 then v8 else .undef) H (fun i e H => bif Nat.beq i 0 then k0 H else none) (fun e H => some ((e 4), H))
theorem l_slices_Index_string_string_0_s (v0 v1 v7 v8 : AV) (H : Heap) (k0 : Heap → Option (AV × Heap)) {Q : AV → Heap → Prop} (h : Yl (
(binAV H .lss (.one .int) v8 v7).bind fun v9 =>
 condK v9 (
(indexV H 1 v0 v8).bind fun v14 =>
(loadAV H none v14).bind fun v15 =>
(binAV H .eql (.one .str) v1 v15).bind fun v16 =>
 condK v16 (
 some (v8, H)) (
(binAV H .add (.one .int) v8 (.int .i64 1)).bind fun v18 =>
 l_slices_Index_string_string_0 v0 v1 v7 v18 H k0)) (
 k0 H)) Q) : Yl (l_slices_Index_string_string_0 v0 v1 v7 v8 H k0) Q := by
  unfold l_slices_Index_string_string_0
  exact loop_yl (by kernel_rfl) h
theorem r_slices_Index_string_string (v0 v1 : AV) (H : Heap) {Q : AV → Heap → Prop} (h : Yl (
(lenX H .slice v0).bind fun v7 =>
 l_slices_Index_string_string_0 v0 v1 v7 (.int .i64 0) H (fun  H1 =>
 some ((.int .i64 (-1)), H1))) Q) : Yl (R prog f_slices_Index_string_string [v0, v1] H) Q :=
  R_yl (fn := x51) (by kernel_rfl) rfl (by kernel_rfl) h
/-! ### slices_pdqsortCmpFunc_api_Deal slices.pdqsortCmpFunc[jitney/api.Deal] -/
noncomputable def l_slices_pdqsortCmpFunc_api_Deal_0 (v0 v1 v2 v3 v4 v10 v11 : AV) (H : Heap) : Option (AV × Heap) :=
  loopK prog (R prog) b52_0 (fun t => bif Nat.beq t 0 then v0 else bif Nat.beq t 1 then v1 else bif Nat.beq t 2 then v2 else bif Nat.beq t 3 then v3 else bif Nat.beq t 4 then v4 else bif Nat.beq t 10 then v10 else bif Nat.beq t 11 then v11 else .undef) H (fun i e H => none) (fun e H => some (.tuple [], H))
noncomputable def j_slices_pdqsortCmpFunc_api_Deal_4 (v0 v1 v2 v3 v4 v12 v13 : AV) (H : Heap) : Option (AV × Heap) :=
(R prog f_slices_partitionCmpFunc_api_Deal [v0, v1, v2, v13, v4] H).bind fun r4 =>
(extractAV r4.1 0).bind fun v112 =>
(extractAV r4.1 1).bind fun v113 =>
(binAV r4.2 .sub (.one .int) v112 v1).bind fun v117 =>
(binAV r4.2 .sub (.one .int) v2 v112).bind fun v120 =>
(binAV r4.2 .quo (.one .int) v12 (.int .i64 8)).bind fun v122 =>
(binAV r4.2 .lss (.one .int) v117 v120).bind fun v125 =>
 condK v125 (
(binAV r4.2 .geq (.one .int) v117 v122).bind fun v128 =>
(R prog f_slices_pdqsortCmpFunc_api_Deal [v0, v1, v112, v3, v4] r4.2).bind fun r5 =>
(binAV r5.2 .add (.one .int) v112 (.int .i64 1)).bind fun v136 =>
 l_slices_pdqsortCmpFunc_api_Deal_0 v0 v136 v2 v3 v4 v128 v113 r5.2) (
(binAV r4.2 .geq (.one .int) v120 v122).bind fun v139 =>
(binAV r4.2 .add (.one .int) v112 (.int .i64 1)).bind fun v142 =>
(R prog f_slices_pdqsortCmpFunc_api_Deal [v0, v142, v2, v3, v4] r4.2).bind fun r6 =>
 l_slices_pdqsortCmpFunc_api_Deal_0 v0 v1 v112 v3 v4 v139 v113 r6.2)
noncomputable def j_slices_pdqsortCmpFunc_api_Deal_3 (v0 v1 v2 v3 v4 v10 v11 v12 v13 : AV) (H : Heap) : Option (AV × Heap) :=
(binAV H .gtr (.one .int) v1 (.int .i64 0)).bind fun v82 =>
 gB v82 (
(binAV H .sub (.one .int) v1 (.int .i64 1)).bind fun v87 =>
(indexV H 2 v0 v87).bind fun v88 =>
(loadAV H (some 2) v88).bind fun v89 =>
(indexV H 2 v0 v13).bind fun v92 =>
(loadAV H (some 2) v92).bind fun v93 =>
 callK prog (R prog) v4 [v89, v93] H fun v94 H7 =>
(binAV H7 .lss (.one .int) v94 (.int .i64 0)).bind fun v95 =>
(unAV .not v95).bind fun v96 =>
 condK v96 (
(R prog f_slices_partitionEqualCmpFunc_api_Deal [v0, v1, v2, v13, v4] H7).bind fun r8 =>
 l_slices_pdqsortCmpFunc_api_Deal_0 v0 r8.1 v2 v3 v4 v10 v11 r8.2) (
 j_slices_pdqsortCmpFunc_api_Deal_4 v0 v1 v2 v3 v4 v12 v13 H7)) (
 j_slices_pdqsortCmpFunc_api_Deal_4 v0 v1 v2 v3 v4 v12 v13 H)
noncomputable def j_slices_pdqsortCmpFunc_api_Deal_2 (v0 v1 v2 v3 v4 v10 v11 v12 v13 v14 : AV) (H : Heap) : Option (AV × Heap) :=
 gB v10 (
 gB v11 (
(binAV H .eql (.one .int) v14 (.int .i64 1)).bind fun v74 =>
 condK v74 (
(R prog f_slices_partialInsertionSortCmpFunc_api_Deal [v0, v1, v2, v4] H).bind fun r9 =>
 condK r9.1 (
 some (.tuple [], r9.2)) (
 j_slices_pdqsortCmpFunc_api_Deal_3 v0 v1 v2 v3 v4 v10 v11 v12 v13 r9.2)) (
 j_slices_pdqsortCmpFunc_api_Deal_3 v0 v1 v2 v3 v4 v10 v11 v12 v13 H)) (
 j_slices_pdqsortCmpFunc_api_Deal_3 v0 v1 v2 v3 v4 v10 v11 v12 v13 H)) (
 j_slices_pdqsortCmpFunc_api_Deal_3 v0 v1 v2 v3 v4 v10 v11 v12 v13 H)
noncomputable def j_slices_pdqsortCmpFunc_api_Deal_1 (v0 v1 v2 v3 v4 v10 v11 v12 : AV) (H : Heap) : Option (AV × Heap) :=
(R prog f_slices_choosePivotCmpFunc_api_Deal [v0, v1, v2, v4] H).bind fun r3 =>
(extractAV r3.1 0).bind fun v53 =>
(extractAV r3.1 1).bind fun v54 =>
(binAV r3.2 .eql (.one .int) v54 (.int .i64 2)).bind fun v56 =>
 condK v56 (
(R prog f_slices_reverseRangeCmpFunc_api_Deal [v0, v1, v2, v4] r3.2).bind fun r10 =>
(binAV r10.2 .sub (.one .int) v2 (.int .i64 1)).bind fun v63 =>
(binAV r10.2 .sub (.one .int) v53 v1).bind fun v66 =>
(binAV r10.2 .sub (.one .int) v63 v66).bind fun v67 =>
 j_slices_pdqsortCmpFunc_api_Deal_2 v0 v1 v2 v3 v4 v10 v11 v12 v67 (.int .i64 1) r10.2) (
 j_slices_pdqsortCmpFunc_api_Deal_2 v0 v1 v2 v3 v4 v10 v11 v12 v53 v54 r3.2)
theorem l_slices_pdqsortCmpFunc_api_Deal_0_s (v0 v1 v2 v3 v4 v10 v11 : AV) (H : Heap) {Q : AV → Heap → Prop} (h : Yl (
(binAV H .sub (.one .int) v2 v1).bind fun v23 =>
(binAV H .leq (.one .int) v23 (.int .i64 12)).bind fun v25 =>
 condK v25 (
(R prog f_slices_insertionSortCmpFunc_api_Deal [v0, v1, v2, v4] H).bind fun r1 =>
 some (.tuple [], r1.2)) (
(binAV H .eql (.one .int) v3 (.int .i64 0)).bind fun v32 =>
 condK v32 (
(R prog f_slices_heapSortCmpFunc_api_Deal [v0, v1, v2, v4] H).bind fun r2 =>
 some (.tuple [], r2.2)) (
(unAV .not v10).bind fun v39 =>
 condK v39 (
(R prog f_slices_breakPatternsCmpFunc_api_Deal [v0, v1, v2, v4] H).bind fun r11 =>
(binAV r11.2 .sub (.one .int) v3 (.int .i64 1)).bind fun v46 =>
 j_slices_pdqsortCmpFunc_api_Deal_1 v0 v1 v2 v46 v4 v10 v11 v23 r11.2) (
 j_slices_pdqsortCmpFunc_api_Deal_1 v0 v1 v2 v3 v4 v10 v11 v23 H)))) Q) : Yl (l_slices_pdqsortCmpFunc_api_Deal_0 v0 v1 v2 v3 v4 v10 v11 H) Q := by
  unfold l_slices_pdqsortCmpFunc_api_Deal_0
  exact loop_yl (by kernel_rfl) h
theorem r_slices_pdqsortCmpFunc_api_Deal (v0 v1 v2 v3 v4 : AV) (H : Heap) {Q : AV → Heap → Prop} (h : Yl (
 l_slices_pdqsortCmpFunc_api_Deal_0 v0 v1 v2 v3 v4 (.bool true) (.bool true) H) Q) : Yl (R prog f_slices_pdqsortCmpFunc_api_Deal [v0, v1, v2, v3, v4] H) Q :=
  R_yl (fn := x52) (by kernel_rfl) rfl (by kernel_rfl) h
/-! ### math_bits_Len math/bits.Len -/
theorem r_math_bits_Len (v0 : AV) (H : Heap) {Q : AV → Heap → Prop} (h : Yl (
(R prog f_math_bits_Len64 [v0] H).bind fun r1 =>
 some (r1.1, r1.2)) Q) : Yl (R prog f_math_bits_Len [v0] H) Q :=
  R_yl (fn := x53) (by kernel_rfl) rfl (by kernel_rfl) h
/-! ### internal_bytealg_CompareString internal/bytealg.CompareString -/
theorem r_internal_bytealg_CompareString (v0 v1 : AV) (H : Heap) {Q : AV → Heap → Prop} (h : Yl (
(pureCall prog (R prog) f_internal_bytealg_abigen_runtime_cmpstring [v0, v1] H).bind fun v7 =>
 some (v7, H)) Q) : Yl (R prog f_internal_bytealg_CompareString [v0, v1] H) Q :=
  R_yl (fn := x54) (by kernel_rfl) rfl (by kernel_rfl) h
/-! ### jitmake_Below jitney/jitmake.Below -/
theorem r_jitmake_Below (v0 v1 : AV) (H : Heap) {Q : AV → Heap → Prop} (h : Yl (
(binAV H .lss (.one .int) v1 (.int .i64 1)).bind fun v6 =>
 condK v6 (
 some ((.int .i64 0), H)) (
(binAV H .rem (.one .int) v0 v1).bind fun v9 =>
(binAV H .lss (.one .int) v9 (.int .i64 0)).bind fun v11 =>
 condK v11 (
(binAV H .add (.one .int) v9 v1).bind fun v14 =>
 some (v14, H)) (
 some (v9, H)))) Q) : Yl (R prog f_jitmake_Below [v0, v1] H) Q :=
  R_yl (fn := x75) (by kernel_rfl) rfl (by kernel_rfl) h
/-! ### slices_insertionSortCmpFunc_api_Deal slices.insertionSortCmpFunc[jitney/api.Deal] -/
noncomputable def l_slices_insertionSortCmpFunc_api_Deal_1 (v0 v1 v2 v3 v8 : AV) (H : Heap) (k0 : Heap → Option (AV × Heap)) : Option (AV × Heap) :=
  loopK prog (R prog) b76_1 (fun t => bif Nat.beq t 0 then v0 else bif Nat.beq t 1 then v1 else bif Nat.beq t 2 then v2 else bif Nat.beq t 3 then v3 else bif Nat.beq t 8 then v8 else .undef) H (fun i e H => bif Nat.beq i 0 then k0 H else none) (fun e H => some (.tuple [], H))
noncomputable def l_slices_insertionSortCmpFunc_api_Deal_0 (v0 v1 v2 v3 v8 v9 : AV) (H : Heap) (k2 : AV → AV → AV → AV → AV → Heap → Option (AV × Heap)) : Option (AV × Heap) :=
  loopK prog (R prog) b76_0 (fun t => bif Nat.beq t 0 then v0 else bif Nat.beq t 1 then v1 else bif Nat.beq t 2 then v2 else bif Nat.beq t 3 then v3 else bif Nat.beq t 8 then v8 else bif Nat.beq t 9 then v9 else .undef) H (fun i e H => bif Nat.beq i 2 then k2 (e 0) (e 1) (e 2) (e 3) (e 8) H else none) (fun e H => some (.tuple [], H))
theorem l_slices_insertionSortCmpFunc_api_Deal_0_s (v0 v1 v2 v3 v8 v9 : AV) (H : Heap) (k2 : AV → AV → AV → AV → AV → Heap → Option (AV × Heap)) {Q : AV → Heap → Prop} (h : Yl (
(binAV H .gtr (.one .int) v9 v1).bind fun v20 =>
 gB v20 (
(indexV H 2 v0 v9).bind fun v25 =>
(loadAV H (some 2) v25).bind fun v26 =>
(binAV H .sub (.one .int) v9 (.int .i64 1)).bind fun v29 =>
(indexV H 2 v0 v29).bind fun v30 =>
(loadAV H (some 2) v30).bind fun v31 =>
 callK prog (R prog) v3 [v26, v31] H fun v32 H1 =>
(binAV H1 .lss (.one .int) v32 (.int .i64 0)).bind fun v33 =>
 condK v33 (
(binAV H1 .sub (.one .int) v9 (.int .i64 1)).bind fun v41 =>
(binAV H1 .sub (.one .int) v9 (.int .i64 1)).bind fun v44 =>
(indexV H1 2 v0 v44).bind fun v45 =>
(loadAV H1 (some 2) v45).bind fun v46 =>
(indexV H1 2 v0 v9).bind fun v49 =>
(loadAV H1 (some 2) v49).bind fun v50 =>
(indexV H1 2 v0 v9).bind fun v51 =>
(storeAV H1 2 v51 v46).bind fun H2 =>
(indexV H2 2 v0 v41).bind fun v52 =>
(storeAV H2 2 v52 v50).bind fun H3 =>
(binAV H3 .sub (.one .int) v9 (.int .i64 1)).bind fun v36 =>
 l_slices_insertionSortCmpFunc_api_Deal_0 v0 v1 v2 v3 v8 v36 H3 k2) (
 k2 v0 v1 v2 v3 v8 H1)) (
 k2 v0 v1 v2 v3 v8 H)) Q) : Yl (l_slices_insertionSortCmpFunc_api_Deal_0 v0 v1 v2 v3 v8 v9 H k2) Q := by
  unfold l_slices_insertionSortCmpFunc_api_Deal_0
  exact loop_yl (by kernel_rfl) h
theorem l_slices_insertionSortCmpFunc_api_Deal_1_s (v0 v1 v2 v3 v8 : AV) (H : Heap) (k0 : Heap → Option (AV × Heap)) {Q : AV → Heap → Prop} (h : Yl (
(binAV H .lss (.one .int) v8 v2).bind fun v14 =>
 condK v14 (
 l_slices_insertionSortCmpFunc_api_Deal_0 v0 v1 v2 v3 v8 v8 H (fun v0_1 v1_1 v2_1 v3_1 v8_1 H4 =>
(binAV H4 .add (.one .int) v8_1 (.int .i64 1)).bind fun v16 =>
 l_slices_insertionSortCmpFunc_api_Deal_1 v0_1 v1_1 v2_1 v3_1 v16 H4 k0)) (
 k0 H)) Q) : Yl (l_slices_insertionSortCmpFunc_api_Deal_1 v0 v1 v2 v3 v8 H k0) Q := by
  unfold l_slices_insertionSortCmpFunc_api_Deal_1
  exact loop_yl (by kernel_rfl) h
theorem r_slices_insertionSortCmpFunc_api_Deal (v0 v1 v2 v3 : AV) (H : Heap) {Q : AV → Heap → Prop} (h : Yl (
(binAV H .add (.one .int) v1 (.int .i64 1)).bind fun v11 =>
 l_slices_insertionSortCmpFunc_api_Deal_1 v0 v1 v2 v3 v11 H (fun  H5 =>
 some (.tuple [], H5))) Q) : Yl (R prog f_slices_insertionSortCmpFunc_api_Deal [v0, v1, v2, v3] H) Q :=
  R_yl (fn := x76) (by kernel_rfl) rfl (by kernel_rfl) h
/-! ### slices_heapSortCmpFunc_api_Deal slices.heapSortCmpFunc[jitney/api.Deal] -/
noncomputable def l_slices_heapSortCmpFunc_api_Deal_0 (v0 v3 v8 v9 v10 v11 : AV) (H : Heap) (k0 : AV → AV → AV → AV → AV → Heap → Option (AV × Heap)) : Option (AV × Heap) :=
  loopK prog (R prog) b77_0 (fun t => bif Nat.beq t 0 then v0 else bif Nat.beq t 3 then v3 else bif Nat.beq t 8 then v8 else bif Nat.beq t 9 then v9 else bif Nat.beq t 10 then v10 else bif Nat.beq t 11 then v11 else .undef) H (fun i e H => bif Nat.beq i 0 then k0 (e 0) (e 3) (e 8) (e 9) (e 10) H else none) (fun e H => some (.tuple [], H))
noncomputable def l_slices_heapSortCmpFunc_api_Deal_1 (v0 v3 v8 v9 v12 : AV) (H : Heap) (k2 : Heap → Option (AV × Heap)) : Option (AV × Heap) :=
  loopK prog (R prog) b77_1 (fun t => bif Nat.beq t 0 then v0 else bif Nat.beq t 3 then v3 else bif Nat.beq t 8 then v8 else bif Nat.beq t 9 then v9 else bif Nat.beq t 12 then v12 else .undef) H (fun i e H => bif Nat.beq i 2 then k2 H else none) (fun e H => some (.tuple [], H))
theorem l_slices_heapSortCmpFunc_api_Deal_0_s (v0 v3 v8 v9 v10 v11 : AV) (H : Heap) (k0 : AV → AV → AV → AV → AV → Heap → Option (AV × Heap)) {Q : AV → Heap → Prop} (h : Yl (
(binAV H .geq (.one .int) v11 (.int .i64 0)).bind fun v21 =>
 condK v21 (
(R prog f_slices_siftDownCmpFunc_api_Deal [v0, v11, v10, v8, v3] H).bind fun r1 =>
(binAV r1.2 .sub (.one .int) v11 (.int .i64 1)).bind fun v23 =>
 l_slices_heapSortCmpFunc_api_Deal_0 v0 v3 v8 v9 v10 v23 r1.2 k0) (
 k0 v0 v3 v8 v9 v10 H)) Q) : Yl (l_slices_heapSortCmpFunc_api_Deal_0 v0 v3 v8 v9 v10 v11 H k0) Q := by
  unfold l_slices_heapSortCmpFunc_api_Deal_0
  exact loop_yl (by kernel_rfl) h
theorem l_slices_heapSortCmpFunc_api_Deal_1_s (v0 v3 v8 v9 v12 : AV) (H : Heap) (k2 : Heap → Option (AV × Heap)) {Q : AV → Heap → Prop} (h : Yl (
(binAV H .geq (.one .int) v12 (.int .i64 0)).bind fun v33 =>
 condK v33 (
(binAV H .add (.one .int) v8 v12).bind fun v41 =>
(binAV H .add (.one .int) v8 v12).bind fun v45 =>
(indexV H 2 v0 v45).bind fun v46 =>
(loadAV H (some 2) v46).bind fun v47 =>
(indexV H 2 v0 v8).bind fun v50 =>
(loadAV H (some 2) v50).bind fun v51 =>
(indexV H 2 v0 v8).bind fun v52 =>
(storeAV H 2 v52 v47).bind fun H3 =>
(indexV H3 2 v0 v41).bind fun v53 =>
(storeAV H3 2 v53 v51).bind fun H4 =>
(R prog f_slices_siftDownCmpFunc_api_Deal [v0, v9, v12, v8, v3] H4).bind fun r5 =>
(binAV r5.2 .sub (.one .int) v12 (.int .i64 1)).bind fun v35 =>
 l_slices_heapSortCmpFunc_api_Deal_1 v0 v3 v8 v9 v35 r5.2 k2) (
 k2 H)) Q) : Yl (l_slices_heapSortCmpFunc_api_Deal_1 v0 v3 v8 v9 v12 H k2) Q := by
  unfold l_slices_heapSortCmpFunc_api_Deal_1
  exact loop_yl (by kernel_rfl) h
theorem r_slices_heapSortCmpFunc_api_Deal (v0 v1 v2 v3 : AV) (H : Heap) {Q : AV → Heap → Prop} (h : Yl (
(binAV H .sub (.one .int) v2 v1).bind fun v16 =>
(binAV H .sub (.one .int) v16 (.int .i64 1)).bind fun v18 =>
(binAV H .quo (.one .int) v18 (.int .i64 2)).bind fun v19 =>
 l_slices_heapSortCmpFunc_api_Deal_0 v0 v3 v1 (.int .i64 0) v16 v19 H (fun v0_1 v3_1 v8 v9 v10 H2 =>
(binAV H2 .sub (.one .int) v10 (.int .i64 1)).bind fun v31 =>
 l_slices_heapSortCmpFunc_api_Deal_1 v0_1 v3_1 v8 v9 v31 H2 (fun  H6 =>
 some (.tuple [], H6)))) Q) : Yl (R prog f_slices_heapSortCmpFunc_api_Deal [v0, v1, v2, v3] H) Q :=
  R_yl (fn := x77) (by kernel_rfl) rfl (by kernel_rfl) h
/-! ### slices_breakPatternsCmpFunc_api_Deal slices.breakPatternsCmpFunc[jitney/api.Deal] -/
noncomputable def l_slices_breakPatternsCmpFunc_api_Deal_0 (v0 v1 v8 v9 v10 v11 : AV) (H : Heap) (k0 : Heap → Option (AV × Heap)) : Option (AV × Heap) :=
  loopK prog (R prog) b78_0 (fun t => bif Nat.beq t 0 then v0 else bif Nat.beq t 1 then v1 else bif Nat.beq t 8 then v8 else bif Nat.beq t 9 then v9 else bif Nat.beq t 10 then v10 else bif Nat.beq t 11 then v11 else .undef) H (fun i e H => bif Nat.beq i 0 then k0 H else none) (fun e H => some (.tuple [], H))
noncomputable def j_slices_breakPatternsCmpFunc_api_Deal_1 (v0 v1 v8 v9 v10 v11 v12 : AV) (H : Heap) (k0 : Heap → Option (AV × Heap)) : Option (AV × Heap) :=
(binAV H .add (.one .int) v1 v12).bind fun v54 =>
(binAV H .add (.one .int) v1 v12).bind fun v58 =>
(indexV H 2 v0 v58).bind fun v59 =>
(loadAV H (some 2) v59).bind fun v60 =>
(indexV H 2 v0 v11).bind fun v63 =>
(loadAV H (some 2) v63).bind fun v64 =>
(indexV H 2 v0 v11).bind fun v65 =>
(storeAV H 2 v65 v60).bind fun H5 =>
(indexV H5 2 v0 v54).bind fun v66 =>
(storeAV H5 2 v66 v64).bind fun H6 =>
(binAV H6 .add (.one .int) v11 (.int .i64 1)).bind fun v37 =>
 l_slices_breakPatternsCmpFunc_api_Deal_0 v0 v1 v8 v9 v10 v37 H6 k0
theorem l_slices_breakPatternsCmpFunc_api_Deal_0_s (v0 v1 v8 v9 v10 v11 : AV) (H : Heap) (k0 : Heap → Option (AV × Heap)) {Q : AV → Heap → Prop} (h : Yl (
(binAV H .quo (.one .int) v8 (.int .i64 4)).bind fun v31 =>
(binAV H .mul (.one .int) v31 (.int .i64 2)).bind fun v32 =>
(binAV H .add (.one .int) v1 v32).bind fun v33 =>
(binAV H .add (.one .int) v33 (.int .i64 1)).bind fun v34 =>
(binAV H .leq (.one .int) v11 v34).bind fun v35 =>
 condK v35 (
(R prog f_slices_xorshift_Next [v9] H).bind fun r4 =>
(binAV r4.2 .sub (.one .int) v10 (.int .u64 1)).bind fun v40 =>
(binAV r4.2 .and (.one .int) r4.1 v40).bind fun v41 =>
(convAV .i64 v41).bind fun v42 =>
(binAV r4.2 .geq (.one .int) v42 v8).bind fun v45 =>
 condK v45 (
(binAV r4.2 .sub (.one .int) v42 v8).bind fun v48 =>
 j_slices_breakPatternsCmpFunc_api_Deal_1 v0 v1 v8 v9 v10 v11 v48 r4.2 k0) (
 j_slices_breakPatternsCmpFunc_api_Deal_1 v0 v1 v8 v9 v10 v11 v42 r4.2 k0)) (
 k0 H)) Q) : Yl (l_slices_breakPatternsCmpFunc_api_Deal_0 v0 v1 v8 v9 v10 v11 H k0) Q := by
  unfold l_slices_breakPatternsCmpFunc_api_Deal_0
  exact loop_yl (by kernel_rfl) h
theorem r_slices_breakPatternsCmpFunc_api_Deal (v0 v1 v2 v3 : AV) (H : Heap) {Q : AV → Heap → Prop} (h : Yl (
(binAV H .sub (.one .int) v2 v1).bind fun v15 =>
(binAV H .geq (.one .int) v15 (.int .i64 8)).bind fun v17 =>
 condK v17 (
(convAV .u64 v15).bind fun v19 =>
(boxAV 1 (.int .u64 0) H).bind fun r1 =>
(storeAV r1.2 1 r1.1 v19).bind fun H2 =>
(R prog f_slices_nextPowerOfTwo [v15] H2).bind fun r3 =>
(binAV r3.2 .quo (.one .int) v15 (.int .i64 4)).bind fun v24 =>
(binAV r3.2 .mul (.one .int) v24 (.int .i64 2)).bind fun v25 =>
(binAV r3.2 .add (.one .int) v1 v25).bind fun v26 =>
(binAV r3.2 .sub (.one .int) v26 (.int .i64 1)).bind fun v27 =>
 l_slices_breakPatternsCmpFunc_api_Deal_0 v0 v1 v15 r1.1 r3.1 v27 r3.2 (fun  H7 =>
 some (.tuple [], H7))) (
 some (.tuple [], H))) Q) : Yl (R prog f_slices_breakPatternsCmpFunc_api_Deal [v0, v1, v2, v3] H) Q :=
  R_yl (fn := x78) (by kernel_rfl) rfl (by kernel_rfl) h
/-! ### slices_choosePivotCmpFunc_api_Deal slices.choosePivotCmpFunc[jitney/api.Deal] -/
noncomputable def j_slices_choosePivotCmpFunc_api_Deal_1 (v11 v13 : AV) (H : Heap) : Option (AV × Heap) :=
(loadAV H none v11).bind fun v55 =>
(binAV H .eql (.one .int) v55 (.int .i64 0)).bind fun v58 =>
 condK v58 (
 some (.tuple [v13, (.int .i64 1)], H)) (
(binAV H .eql (.one .int) v55 (.int .i64 12)).bind fun v61 =>
 condK v61 (
 some (.tuple [v13, (.int .i64 2)], H)) (
 some (.tuple [v13, (.int .i64 0)], H)))
theorem r_slices_choosePivotCmpFunc_api_Deal (v0 v1 v2 v3 : AV) (H : Heap) {Q : AV → Heap → Prop} (h : Yl (
(binAV H .sub (.one .int) v2 v1).bind fun v17 =>
(boxAV 1 (.int .i64 0) H).bind fun r1 =>
(binAV r1.2 .quo (.one .int) v17 (.int .i64 4)).bind fun v20 =>
(binAV r1.2 .mul (.one .int) v20 (.int .i64 1)).bind fun v21 =>
(binAV r1.2 .add (.one .int) v1 v21).bind fun v22 =>
(binAV r1.2 .quo (.one .int) v17 (.int .i64 4)).bind fun v25 =>
(binAV r1.2 .mul (.one .int) v25 (.int .i64 2)).bind fun v26 =>
(binAV r1.2 .add (.one .int) v1 v26).bind fun v27 =>
(binAV r1.2 .quo (.one .int) v17 (.int .i64 4)).bind fun v30 =>
(binAV r1.2 .mul (.one .int) v30 (.int .i64 3)).bind fun v31 =>
(binAV r1.2 .add (.one .int) v1 v31).bind fun v32 =>
(binAV r1.2 .geq (.one .int) v17 (.int .i64 8)).bind fun v34 =>
 condK v34 (
(binAV r1.2 .geq (.one .int) v17 (.int .i64 50)).bind fun v36 =>
 condK v36 (
(R prog f_slices_medianAdjacentCmpFunc_api_Deal [v0, v22, r1.1, v3] r1.2).bind fun r2 =>
(R prog f_slices_medianAdjacentCmpFunc_api_Deal [v0, v27, r1.1, v3] r2.2).bind fun r3 =>
(R prog f_slices_medianAdjacentCmpFunc_api_Deal [v0, v32, r1.1, v3] r3.2).bind fun r4 =>
(R prog f_slices_medianCmpFunc_api_Deal [v0, r2.1, r3.1, r4.1, r1.1, v3] r4.2).bind fun r5 =>
 j_slices_choosePivotCmpFunc_api_Deal_1 r1.1 r5.1 r5.2) (
(R prog f_slices_medianCmpFunc_api_Deal [v0, v22, v27, v32, r1.1, v3] r1.2).bind fun r6 =>
 j_slices_choosePivotCmpFunc_api_Deal_1 r1.1 r6.1 r6.2)) (
 j_slices_choosePivotCmpFunc_api_Deal_1 r1.1 v27 r1.2)) Q) : Yl (R prog f_slices_choosePivotCmpFunc_api_Deal [v0, v1, v2, v3] H) Q :=
  R_yl (fn := x79) (by kernel_rfl) rfl (by kernel_rfl) h
/-! ### slices_reverseRangeCmpFunc_api_Deal slices.reverseRangeCmpFunc[jitney/api.Deal] -/
noncomputable def l_slices_reverseRangeCmpFunc_api_Deal_0 (v0 v8 v9 : AV) (H : Heap) (k0 : Heap → Option (AV × Heap)) : Option (AV × Heap) :=
  loopK prog (R prog) b80_0 (fun t => bif Nat.beq t 0 then v0 else bif Nat.beq t 8 then v8 else bif Nat.beq t 9 then v9 else .undef) H (fun i e H => bif Nat.beq i 0 then k0 H else none) (fun e H => some (.tuple [], H))
theorem l_slices_reverseRangeCmpFunc_api_Deal_0_s (v0 v8 v9 : AV) (H : Heap) (k0 : Heap → Option (AV × Heap)) {Q : AV → Heap → Prop} (h : Yl (
(binAV H .lss (.one .int) v8 v9).bind fun v15 =>
 condK v15 (
(indexV H 2 v0 v9).bind fun v22 =>
(loadAV H (some 2) v22).bind fun v23 =>
(indexV H 2 v0 v8).bind fun v26 =>
(loadAV H (some 2) v26).bind fun v27 =>
(indexV H 2 v0 v8).bind fun v28 =>
(storeAV H 2 v28 v23).bind fun H1 =>
(indexV H1 2 v0 v9).bind fun v29 =>
(storeAV H1 2 v29 v27).bind fun H2 =>
(binAV H2 .add (.one .int) v8 (.int .i64 1)).bind fun v31 =>
(binAV H2 .sub (.one .int) v9 (.int .i64 1)).bind fun v33 =>
 l_slices_reverseRangeCmpFunc_api_Deal_0 v0 v31 v33 H2 k0) (
 k0 H)) Q) : Yl (l_slices_reverseRangeCmpFunc_api_Deal_0 v0 v8 v9 H k0) Q := by
  unfold l_slices_reverseRangeCmpFunc_api_Deal_0
  exact loop_yl (by kernel_rfl) h
theorem r_slices_reverseRangeCmpFunc_api_Deal (v0 v1 v2 v3 : AV) (H : Heap) {Q : AV → Heap → Prop} (h : Yl (
(binAV H .sub (.one .int) v2 (.int .i64 1)).bind fun v12 =>
 l_slices_reverseRangeCmpFunc_api_Deal_0 v0 v1 v12 H (fun  H3 =>
 some (.tuple [], H3))) Q) : Yl (R prog f_slices_reverseRangeCmpFunc_api_Deal [v0, v1, v2, v3] H) Q :=
  R_yl (fn := x80) (by kernel_rfl) rfl (by kernel_rfl) h
/-! ### slices_partialInsertionSortCmpFunc_api_Deal slices.partialInsertionSortCmpFunc[jitney/api.Deal] -/
noncomputable def l_slices_partialInsertionSortCmpFunc_api_Deal_3 (v0 v1 v2 v3 v9 v10 : AV) (H : Heap) (k0 : Heap → Option (AV × Heap)) : Option (AV × Heap) :=
  loopK prog (R prog) b81_3 (fun t => bif Nat.beq t 0 then v0 else bif Nat.beq t 1 then v1 else bif Nat.beq t 2 then v2 else bif Nat.beq t 3 then v3 else bif Nat.beq t 9 then v9 else bif Nat.beq t 10 then v10 else .undef) H (fun i e H => bif Nat.beq i 0 then k0 H else none) (fun e H => some ((e 8), H))
noncomputable def l_slices_partialInsertionSortCmpFunc_api_Deal_0 (v0 v1 v2 v3 v9 v10 : AV) (H : Heap) (k2 : AV → AV → AV → AV → AV → AV → Heap → Option (AV × Heap)) : Option (AV × Heap) :=
  loopK prog (R prog) b81_0 (fun t => bif Nat.beq t 0 then v0 else bif Nat.beq t 1 then v1 else bif Nat.beq t 2 then v2 else bif Nat.beq t 3 then v3 else bif Nat.beq t 9 then v9 else bif Nat.beq t 10 then v10 else .undef) H (fun i e H => bif Nat.beq i 2 then k2 (e 0) (e 1) (e 2) (e 3) (e 9) (e 10) H else none) (fun e H => some ((e 8), H))
noncomputable def l_slices_partialInsertionSortCmpFunc_api_Deal_1 (v0 v1 v2 v3 v9 v10 v11 : AV) (H : Heap) (k4 : AV → AV → AV → AV → AV → AV → Heap → Option (AV × Heap)) : Option (AV × Heap) :=
  loopK prog (R prog) b81_1 (fun t => bif Nat.beq t 0 then v0 else bif Nat.beq t 1 then v1 else bif Nat.beq t 2 then v2 else bif Nat.beq t 3 then v3 else bif Nat.beq t 9 then v9 else bif Nat.beq t 10 then v10 else bif Nat.beq t 11 then v11 else .undef) H (fun i e H => bif Nat.beq i 4 then k4 (e 0) (e 1) (e 2) (e 3) (e 9) (e 10) H else none) (fun e H => some ((e 8), H))
noncomputable def l_slices_partialInsertionSortCmpFunc_api_Deal_2 (v0 v1 v2 v3 v9 v10 v12 : AV) (H : Heap) (k6 : AV → AV → AV → AV → AV → AV → Heap → Option (AV × Heap)) : Option (AV × Heap) :=
  loopK prog (R prog) b81_2 (fun t => bif Nat.beq t 0 then v0 else bif Nat.beq t 1 then v1 else bif Nat.beq t 2 then v2 else bif Nat.beq t 3 then v3 else bif Nat.beq t 9 then v9 else bif Nat.beq t 10 then v10 else bif Nat.beq t 12 then v12 else .undef) H (fun i e H => bif Nat.beq i 6 then k6 (e 0) (e 1) (e 2) (e 3) (e 9) (e 10) H else none) (fun e H => some ((e 8), H))
theorem l_slices_partialInsertionSortCmpFunc_api_Deal_0_s (v0 v1 v2 v3 v9 v10 : AV) (H : Heap) (k2 : AV → AV → AV → AV → AV → AV → Heap → Option (AV × Heap)) {Q : AV → Heap → Prop} (h : Yl (
(binAV H .lss (.one .int) v9 v2).bind fun v21 =>
 gB v21 (
(indexV H 2 v0 v9).bind fun v26 =>
(loadAV H (some 2) v26).bind fun v27 =>
(binAV H .sub (.one .int) v9 (.int .i64 1)).bind fun v30 =>
(indexV H 2 v0 v30).bind fun v31 =>
(loadAV H (some 2) v31).bind fun v32 =>
 callK prog (R prog) v3 [v27, v32] H fun v33 H1 =>
(binAV H1 .lss (.one .int) v33 (.int .i64 0)).bind fun v34 =>
(unAV .not v34).bind fun v35 =>
 condK v35 (
(binAV H1 .add (.one .int) v9 (.int .i64 1)).bind fun v38 =>
 l_slices_partialInsertionSortCmpFunc_api_Deal_0 v0 v1 v2 v3 v38 v10 H1 k2) (
 k2 v0 v1 v2 v3 v9 v10 H1)) (
 k2 v0 v1 v2 v3 v9 v10 H)) Q) : Yl (l_slices_partialInsertionSortCmpFunc_api_Deal_0 v0 v1 v2 v3 v9 v10 H k2) Q := by
  unfold l_slices_partialInsertionSortCmpFunc_api_Deal_0
  exact loop_yl (by kernel_rfl) h
theorem l_slices_partialInsertionSortCmpFunc_api_Deal_1_s (v0 v1 v2 v3 v9 v10 v11 : AV) (H : Heap) (k4 : AV → AV → AV → AV → AV → AV → Heap → Option (AV × Heap)) {Q : AV → Heap → Prop} (h : Yl (
(binAV H .geq (.one .int) v11 (.int .i64 1)).bind fun v69 =>
 condK v69 (
(indexV H 2 v0 v11).bind fun v75 =>
(loadAV H (some 2) v75).bind fun v76 =>
(binAV H .sub (.one .int) v11 (.int .i64 1)).bind fun v79 =>
(indexV H 2 v0 v79).bind fun v80 =>
(loadAV H (some 2) v80).bind fun v81 =>
 callK prog (R prog) v3 [v76, v81] H fun v82 H5 =>
(binAV H5 .lss (.one .int) v82 (.int .i64 0)).bind fun v83 =>
(unAV .not v83).bind fun v84 =>
 condK v84 (
 k4 v0 v1 v2 v3 v9 v10 H5) (
(binAV H5 .sub (.one .int) v11 (.int .i64 1)).bind fun v89 =>
(binAV H5 .sub (.one .int) v11 (.int .i64 1)).bind fun v92 =>
(indexV H5 2 v0 v92).bind fun v93 =>
(loadAV H5 (some 2) v93).bind fun v94 =>
(indexV H5 2 v0 v11).bind fun v97 =>
(loadAV H5 (some 2) v97).bind fun v98 =>
(indexV H5 2 v0 v11).bind fun v99 =>
(storeAV H5 2 v99 v94).bind fun H6 =>
(indexV H6 2 v0 v89).bind fun v100 =>
(storeAV H6 2 v100 v98).bind fun H7 =>
(binAV H7 .sub (.one .int) v11 (.int .i64 1)).bind fun v71 =>
 l_slices_partialInsertionSortCmpFunc_api_Deal_1 v0 v1 v2 v3 v9 v10 v71 H7 k4)) (
 k4 v0 v1 v2 v3 v9 v10 H)) Q) : Yl (l_slices_partialInsertionSortCmpFunc_api_Deal_1 v0 v1 v2 v3 v9 v10 v11 H k4) Q := by
  unfold l_slices_partialInsertionSortCmpFunc_api_Deal_1
  exact loop_yl (by kernel_rfl) h
theorem l_slices_partialInsertionSortCmpFunc_api_Deal_2_s (v0 v1 v2 v3 v9 v10 v12 : AV) (H : Heap) (k6 : AV → AV → AV → AV → AV → AV → Heap → Option (AV × Heap)) {Q : AV → Heap → Prop} (h : Yl (
(binAV H .lss (.one .int) v12 v2).bind fun v109 =>
 condK v109 (
(indexV H 2 v0 v12).bind fun v115 =>
(loadAV H (some 2) v115).bind fun v116 =>
(binAV H .sub (.one .int) v12 (.int .i64 1)).bind fun v119 =>
(indexV H 2 v0 v119).bind fun v120 =>
(loadAV H (some 2) v120).bind fun v121 =>
 callK prog (R prog) v3 [v116, v121] H fun v122 H9 =>
(binAV H9 .lss (.one .int) v122 (.int .i64 0)).bind fun v123 =>
(unAV .not v123).bind fun v124 =>
 condK v124 (
 k6 v0 v1 v2 v3 v9 v10 H9) (
(binAV H9 .sub (.one .int) v12 (.int .i64 1)).bind fun v129 =>
(binAV H9 .sub (.one .int) v12 (.int .i64 1)).bind fun v132 =>
(indexV H9 2 v0 v132).bind fun v133 =>
(loadAV H9 (some 2) v133).bind fun v134 =>
(indexV H9 2 v0 v12).bind fun v137 =>
(loadAV H9 (some 2) v137).bind fun v138 =>
(indexV H9 2 v0 v12).bind fun v139 =>
(storeAV H9 2 v139 v134).bind fun H10 =>
(indexV H10 2 v0 v129).bind fun v140 =>
(storeAV H10 2 v140 v138).bind fun H11 =>
(binAV H11 .add (.one .int) v12 (.int .i64 1)).bind fun v111 =>
 l_slices_partialInsertionSortCmpFunc_api_Deal_2 v0 v1 v2 v3 v9 v10 v111 H11 k6)) (
 k6 v0 v1 v2 v3 v9 v10 H)) Q) : Yl (l_slices_partialInsertionSortCmpFunc_api_Deal_2 v0 v1 v2 v3 v9 v10 v12 H k6) Q := by
  unfold l_slices_partialInsertionSortCmpFunc_api_Deal_2
  exact loop_yl (by kernel_rfl) h
theorem l_slices_partialInsertionSortCmpFunc_api_Deal_3_s (v0 v1 v2 v3 v9 v10 : AV) (H : Heap) (k0 : Heap → Option (AV × Heap)) {Q : AV → Heap → Prop} (h : Yl (
(binAV H .lss (.one .int) v10 (.int .i64 5)).bind fun v16 =>
 condK v16 (
 l_slices_partialInsertionSortCmpFunc_api_Deal_0 v0 v1 v2 v3 v9 v10 H (fun v0_1 v1_1 v2_1 v3_1 v9_1 v10_1 H2 =>
(binAV H2 .eql (.one .int) v9_1 v2_1).bind fun v41 =>
 condK v41 (
 some ((.bool true), H2)) (
(binAV H2 .sub (.one .int) v2_1 v1_1).bind fun v44 =>
(binAV H2 .lss (.one .int) v44 (.int .i64 50)).bind fun v45 =>
 condK v45 (
 some ((.bool false), H2)) (
(binAV H2 .sub (.one .int) v9_1 (.int .i64 1)).bind fun v50 =>
(binAV H2 .sub (.one .int) v9_1 (.int .i64 1)).bind fun v53 =>
(indexV H2 2 v0_1 v53).bind fun v54 =>
(loadAV H2 (some 2) v54).bind fun v55 =>
(indexV H2 2 v0_1 v9_1).bind fun v58 =>
(loadAV H2 (some 2) v58).bind fun v59 =>
(indexV H2 2 v0_1 v9_1).bind fun v60 =>
(storeAV H2 2 v60 v55).bind fun H3 =>
(indexV H3 2 v0_1 v50).bind fun v61 =>
(storeAV H3 2 v61 v59).bind fun H4 =>
(binAV H4 .sub (.one .int) v9_1 v1_1).bind fun v64 =>
(binAV H4 .geq (.one .int) v64 (.int .i64 2)).bind fun v65 =>
 condK v65 (
(binAV H4 .sub (.one .int) v9_1 (.int .i64 1)).bind fun v67 =>
 l_slices_partialInsertionSortCmpFunc_api_Deal_1 v0_1 v1_1 v2_1 v3_1 v9_1 v10_1 v67 H4 (fun v0_2 v1_2 v2_2 v3_2 v9_2 v10_2 H8 =>
(binAV H8 .sub (.one .int) v2_2 v9_2).bind fun v103 =>
(binAV H8 .geq (.one .int) v103 (.int .i64 2)).bind fun v104 =>
 condK v104 (
(binAV H8 .add (.one .int) v9_2 (.int .i64 1)).bind fun v106 =>
 l_slices_partialInsertionSortCmpFunc_api_Deal_2 v0_2 v1_2 v2_2 v3_2 v9_2 v10_2 v106 H8 (fun v0_3 v1_3 v2_3 v3_3 v9_3 v10_3 H12 =>
(binAV H12 .add (.one .int) v10_3 (.int .i64 1)).bind fun v18 =>
 l_slices_partialInsertionSortCmpFunc_api_Deal_3 v0_3 v1_3 v2_3 v3_3 v9_3 v18 H12 k0)) (
(binAV H8 .add (.one .int) v10_2 (.int .i64 1)).bind fun v18_1 =>
 l_slices_partialInsertionSortCmpFunc_api_Deal_3 v0_2 v1_2 v2_2 v3_2 v9_2 v18_1 H8 k0))) (
(binAV H4 .sub (.one .int) v2_1 v9_1).bind fun v103_1 =>
(binAV H4 .geq (.one .int) v103_1 (.int .i64 2)).bind fun v104_1 =>
 condK v104_1 (
(binAV H4 .add (.one .int) v9_1 (.int .i64 1)).bind fun v106_1 =>
 l_slices_partialInsertionSortCmpFunc_api_Deal_2 v0_1 v1_1 v2_1 v3_1 v9_1 v10_1 v106_1 H4 (fun v0_4 v1_4 v2_4 v3_4 v9_4 v10_4 H13 =>
(binAV H13 .add (.one .int) v10_4 (.int .i64 1)).bind fun v18_2 =>
 l_slices_partialInsertionSortCmpFunc_api_Deal_3 v0_4 v1_4 v2_4 v3_4 v9_4 v18_2 H13 k0)) (
(binAV H4 .add (.one .int) v10_1 (.int .i64 1)).bind fun v18_3 =>
 l_slices_partialInsertionSortCmpFunc_api_Deal_3 v0_1 v1_1 v2_1 v3_1 v9_1 v18_3 H4 k0)))))) (
 k0 H)) Q) : Yl (l_slices_partialInsertionSortCmpFunc_api_Deal_3 v0 v1 v2 v3 v9 v10 H k0) Q := by
  unfold l_slices_partialInsertionSortCmpFunc_api_Deal_3
  exact loop_yl (by kernel_rfl) h
theorem r_slices_partialInsertionSortCmpFunc_api_Deal (v0 v1 v2 v3 : AV) (H : Heap) {Q : AV → Heap → Prop} (h : Yl (
(binAV H .add (.one .int) v1 (.int .i64 1)).bind fun v14 =>
 l_slices_partialInsertionSortCmpFunc_api_Deal_3 v0 v1 v2 v3 v14 (.int .i64 0) H (fun  H14 =>
 some ((.bool false), H14))) Q) : Yl (R prog f_slices_partialInsertionSortCmpFunc_api_Deal [v0, v1, v2, v3] H) Q :=
  R_yl (fn := x81) (by kernel_rfl) rfl (by kernel_rfl) h
/-! ### slices_partitionEqualCmpFunc_api_Deal slices.partitionEqualCmpFunc[jitney/api.Deal] -/
noncomputable def l_slices_partitionEqualCmpFunc_api_Deal_2 (v0 v1 v4 v11 v12 : AV) (H : Heap) (k0 : AV → Heap → Option (AV × Heap)) : Option (AV × Heap) :=
  loopK prog (R prog) b82_2 (fun t => bif Nat.beq t 0 then v0 else bif Nat.beq t 1 then v1 else bif Nat.beq t 4 then v4 else bif Nat.beq t 11 then v11 else bif Nat.beq t 12 then v12 else .undef) H (fun i e H => bif Nat.beq i 0 then k0 (e 11) H else none) (fun e H => some ((e 10), H))
noncomputable def l_slices_partitionEqualCmpFunc_api_Deal_0 (v0 v1 v4 v11 v12 : AV) (H : Heap) (k2 : AV → AV → AV → AV → AV → Heap → Option (AV × Heap)) : Option (AV × Heap) :=
  loopK prog (R prog) b82_0 (fun t => bif Nat.beq t 0 then v0 else bif Nat.beq t 1 then v1 else bif Nat.beq t 4 then v4 else bif Nat.beq t 11 then v11 else bif Nat.beq t 12 then v12 else .undef) H (fun i e H => bif Nat.beq i 2 then k2 (e 0) (e 1) (e 4) (e 11) (e 12) H else none) (fun e H => some ((e 10), H))
noncomputable def l_slices_partitionEqualCmpFunc_api_Deal_1 (v0 v1 v4 v11 v12 : AV) (H : Heap) (k4 : AV → AV → AV → AV → AV → Heap → Option (AV × Heap)) : Option (AV × Heap) :=
  loopK prog (R prog) b82_1 (fun t => bif Nat.beq t 0 then v0 else bif Nat.beq t 1 then v1 else bif Nat.beq t 4 then v4 else bif Nat.beq t 11 then v11 else bif Nat.beq t 12 then v12 else .undef) H (fun i e H => bif Nat.beq i 4 then k4 (e 0) (e 1) (e 4) (e 11) (e 12) H else none) (fun e H => some ((e 10), H))
theorem l_slices_partitionEqualCmpFunc_api_Deal_0_s (v0 v1 v4 v11 v12 : AV) (H : Heap) (k2 : AV → AV → AV → AV → AV → Heap → Option (AV × Heap)) {Q : AV → Heap → Prop} (h : Yl (
(binAV H .leq (.one .int) v11 v12).bind fun v33 =>
 gB v33 (
(indexV H 2 v0 v1).bind fun v38 =>
(loadAV H (some 2) v38).bind fun v39 =>
(indexV H 2 v0 v11).bind fun v42 =>
(loadAV H (some 2) v42).bind fun v43 =>
 callK prog (R prog) v4 [v39, v43] H fun v44 H3 =>
(binAV H3 .lss (.one .int) v44 (.int .i64 0)).bind fun v45 =>
(unAV .not v45).bind fun v46 =>
 condK v46 (
(binAV H3 .add (.one .int) v11 (.int .i64 1)).bind fun v49 =>
 l_slices_partitionEqualCmpFunc_api_Deal_0 v0 v1 v4 v49 v12 H3 k2) (
 k2 v0 v1 v4 v11 v12 H3)) (
 k2 v0 v1 v4 v11 v12 H)) Q) : Yl (l_slices_partitionEqualCmpFunc_api_Deal_0 v0 v1 v4 v11 v12 H k2) Q := by
  unfold l_slices_partitionEqualCmpFunc_api_Deal_0
  exact loop_yl (by kernel_rfl) h
theorem l_slices_partitionEqualCmpFunc_api_Deal_1_s (v0 v1 v4 v11 v12 : AV) (H : Heap) (k4 : AV → AV → AV → AV → AV → Heap → Option (AV × Heap)) {Q : AV → Heap → Prop} (h : Yl (
(binAV H .leq (.one .int) v11 v12).bind fun v52 =>
 gB v52 (
(indexV H 2 v0 v1).bind fun v57 =>
(loadAV H (some 2) v57).bind fun v58 =>
(indexV H 2 v0 v12).bind fun v61 =>
(loadAV H (some 2) v61).bind fun v62 =>
 callK prog (R prog) v4 [v58, v62] H fun v63 H5 =>
(binAV H5 .lss (.one .int) v63 (.int .i64 0)).bind fun v64 =>
 condK v64 (
(binAV H5 .sub (.one .int) v12 (.int .i64 1)).bind fun v67 =>
 l_slices_partitionEqualCmpFunc_api_Deal_1 v0 v1 v4 v11 v67 H5 k4) (
 k4 v0 v1 v4 v11 v12 H5)) (
 k4 v0 v1 v4 v11 v12 H)) Q) : Yl (l_slices_partitionEqualCmpFunc_api_Deal_1 v0 v1 v4 v11 v12 H k4) Q := by
  unfold l_slices_partitionEqualCmpFunc_api_Deal_1
  exact loop_yl (by kernel_rfl) h
theorem l_slices_partitionEqualCmpFunc_api_Deal_2_s (v0 v1 v4 v11 v12 : AV) (H : Heap) (k0 : AV → Heap → Option (AV × Heap)) {Q : AV → Heap → Prop} (h : Yl (
 l_slices_partitionEqualCmpFunc_api_Deal_0 v0 v1 v4 v11 v12 H (fun v0_1 v1_1 v4_1 v11_1 v12_1 H4 =>
 l_slices_partitionEqualCmpFunc_api_Deal_1 v0_1 v1_1 v4_1 v11_1 v12_1 H4 (fun v0_2 v1_2 v4_2 v11_2 v12_2 H6 =>
(binAV H6 .gtr (.one .int) v11_2 v12_2).bind fun v70 =>
 condK v70 (
 k0 v11_2 H6) (
(indexV H6 2 v0_2 v12_2).bind fun v77 =>
(loadAV H6 (some 2) v77).bind fun v78 =>
(indexV H6 2 v0_2 v11_2).bind fun v81 =>
(loadAV H6 (some 2) v81).bind fun v82 =>
(indexV H6 2 v0_2 v11_2).bind fun v83 =>
(storeAV H6 2 v83 v78).bind fun H7 =>
(indexV H7 2 v0_2 v12_2).bind fun v84 =>
(storeAV H7 2 v84 v82).bind fun H8 =>
(binAV H8 .add (.one .int) v11_2 (.int .i64 1)).bind fun v86 =>
(binAV H8 .sub (.one .int) v12_2 (.int .i64 1)).bind fun v88 =>
 l_slices_partitionEqualCmpFunc_api_Deal_2 v0_2 v1_2 v4_2 v86 v88 H8 k0)))) Q) : Yl (l_slices_partitionEqualCmpFunc_api_Deal_2 v0 v1 v4 v11 v12 H k0) Q := by
  unfold l_slices_partitionEqualCmpFunc_api_Deal_2
  exact loop_yl (by kernel_rfl) h
theorem r_slices_partitionEqualCmpFunc_api_Deal (v0 v1 v2 v3 v4 : AV) (H : Heap) {Q : AV → Heap → Prop} (h : Yl (
(indexV H 2 v0 v3).bind fun v19 =>
(loadAV H (some 2) v19).bind fun v20 =>
(indexV H 2 v0 v1).bind fun v23 =>
(loadAV H (some 2) v23).bind fun v24 =>
(indexV H 2 v0 v1).bind fun v25 =>
(storeAV H 2 v25 v20).bind fun H1 =>
(indexV H1 2 v0 v3).bind fun v26 =>
(storeAV H1 2 v26 v24).bind fun H2 =>
(binAV H2 .add (.one .int) v1 (.int .i64 1)).bind fun v28 =>
(binAV H2 .sub (.one .int) v2 (.int .i64 1)).bind fun v30 =>
 l_slices_partitionEqualCmpFunc_api_Deal_2 v0 v1 v4 v28 v30 H2 (fun v11 H9 =>
 some (v11, H9))) Q) : Yl (R prog f_slices_partitionEqualCmpFunc_api_Deal [v0, v1, v2, v3, v4] H) Q :=
  R_yl (fn := x82) (by kernel_rfl) rfl (by kernel_rfl) h
/-! ### slices_partitionCmpFunc_api_Deal slices.partitionCmpFunc[jitney/api.Deal] -/
noncomputable def l_slices_partitionCmpFunc_api_Deal_0 (v0 v1 v4 v12 v13 : AV) (H : Heap) (k0 : AV → AV → AV → AV → AV → Heap → Option (AV × Heap)) : Option (AV × Heap) :=
  loopK prog (R prog) b83_0 (fun t => bif Nat.beq t 0 then v0 else bif Nat.beq t 1 then v1 else bif Nat.beq t 4 then v4 else bif Nat.beq t 12 then v12 else bif Nat.beq t 13 then v13 else .undef) H (fun i e H => bif Nat.beq i 0 then k0 (e 0) (e 1) (e 4) (e 12) (e 13) H else none) (fun e H => some (.tuple [(e 10), (e 11)], H))
noncomputable def l_slices_partitionCmpFunc_api_Deal_1 (v0 v1 v4 v12 v13 : AV) (H : Heap) (k2 : AV → AV → AV → AV → AV → Heap → Option (AV × Heap)) : Option (AV × Heap) :=
  loopK prog (R prog) b83_1 (fun t => bif Nat.beq t 0 then v0 else bif Nat.beq t 1 then v1 else bif Nat.beq t 4 then v4 else bif Nat.beq t 12 then v12 else bif Nat.beq t 13 then v13 else .undef) H (fun i e H => bif Nat.beq i 2 then k2 (e 0) (e 1) (e 4) (e 12) (e 13) H else none) (fun e H => some (.tuple [(e 10), (e 11)], H))
noncomputable def l_slices_partitionCmpFunc_api_Deal_4 (v0 v1 v4 v12 v13 : AV) (H : Heap) (k4 : AV → AV → AV → Heap → Option (AV × Heap)) : Option (AV × Heap) :=
  loopK prog (R prog) b83_4 (fun t => bif Nat.beq t 0 then v0 else bif Nat.beq t 1 then v1 else bif Nat.beq t 4 then v4 else bif Nat.beq t 12 then v12 else bif Nat.beq t 13 then v13 else .undef) H (fun i e H => bif Nat.beq i 4 then k4 (e 0) (e 1) (e 13) H else none) (fun e H => some (.tuple [(e 10), (e 11)], H))
noncomputable def l_slices_partitionCmpFunc_api_Deal_2 (v0 v1 v4 v12 v13 : AV) (H : Heap) (k6 : AV → AV → AV → AV → AV → Heap → Option (AV × Heap)) : Option (AV × Heap) :=
  loopK prog (R prog) b83_2 (fun t => bif Nat.beq t 0 then v0 else bif Nat.beq t 1 then v1 else bif Nat.beq t 4 then v4 else bif Nat.beq t 12 then v12 else bif Nat.beq t 13 then v13 else .undef) H (fun i e H => bif Nat.beq i 6 then k6 (e 0) (e 1) (e 4) (e 12) (e 13) H else none) (fun e H => some (.tuple [(e 10), (e 11)], H))
noncomputable def l_slices_partitionCmpFunc_api_Deal_3 (v0 v1 v4 v12 v13 : AV) (H : Heap) (k8 : AV → AV → AV → AV → AV → Heap → Option (AV × Heap)) : Option (AV × Heap) :=
  loopK prog (R prog) b83_3 (fun t => bif Nat.beq t 0 then v0 else bif Nat.beq t 1 then v1 else bif Nat.beq t 4 then v4 else bif Nat.beq t 12 then v12 else bif Nat.beq t 13 then v13 else .undef) H (fun i e H => bif Nat.beq i 8 then k8 (e 0) (e 1) (e 4) (e 12) (e 13) H else none) (fun e H => some (.tuple [(e 10), (e 11)], H))
theorem l_slices_partitionCmpFunc_api_Deal_0_s (v0 v1 v4 v12 v13 : AV) (H : Heap) (k0 : AV → AV → AV → AV → AV → Heap → Option (AV × Heap)) {Q : AV → Heap → Prop} (h : Yl (
(binAV H .leq (.one .int) v12 v13).bind fun v34 =>
 gB v34 (
(indexV H 2 v0 v12).bind fun v39 =>
(loadAV H (some 2) v39).bind fun v40 =>
(indexV H 2 v0 v1).bind fun v43 =>
(loadAV H (some 2) v43).bind fun v44 =>
 callK prog (R prog) v4 [v40, v44] H fun v45 H3 =>
(binAV H3 .lss (.one .int) v45 (.int .i64 0)).bind fun v46 =>
 condK v46 (
(binAV H3 .add (.one .int) v12 (.int .i64 1)).bind fun v49 =>
 l_slices_partitionCmpFunc_api_Deal_0 v0 v1 v4 v49 v13 H3 k0) (
 k0 v0 v1 v4 v12 v13 H3)) (
 k0 v0 v1 v4 v12 v13 H)) Q) : Yl (l_slices_partitionCmpFunc_api_Deal_0 v0 v1 v4 v12 v13 H k0) Q := by
  unfold l_slices_partitionCmpFunc_api_Deal_0
  exact loop_yl (by kernel_rfl) h
theorem l_slices_partitionCmpFunc_api_Deal_1_s (v0 v1 v4 v12 v13 : AV) (H : Heap) (k2 : AV → AV → AV → AV → AV → Heap → Option (AV × Heap)) {Q : AV → Heap → Prop} (h : Yl (
(binAV H .leq (.one .int) v12 v13).bind fun v52 =>
 gB v52 (
(indexV H 2 v0 v13).bind fun v57 =>
(loadAV H (some 2) v57).bind fun v58 =>
(indexV H 2 v0 v1).bind fun v61 =>
(loadAV H (some 2) v61).bind fun v62 =>
 callK prog (R prog) v4 [v58, v62] H fun v63 H5 =>
(binAV H5 .lss (.one .int) v63 (.int .i64 0)).bind fun v64 =>
(unAV .not v64).bind fun v65 =>
 condK v65 (
(binAV H5 .sub (.one .int) v13 (.int .i64 1)).bind fun v68 =>
 l_slices_partitionCmpFunc_api_Deal_1 v0 v1 v4 v12 v68 H5 k2) (
 k2 v0 v1 v4 v12 v13 H5)) (
 k2 v0 v1 v4 v12 v13 H)) Q) : Yl (l_slices_partitionCmpFunc_api_Deal_1 v0 v1 v4 v12 v13 H k2) Q := by
  unfold l_slices_partitionCmpFunc_api_Deal_1
  exact loop_yl (by kernel_rfl) h
theorem l_slices_partitionCmpFunc_api_Deal_2_s (v0 v1 v4 v12 v13 : AV) (H : Heap) (k6 : AV → AV → AV → AV → AV → Heap → Option (AV × Heap)) {Q : AV → Heap → Prop} (h : Yl (
(binAV H .leq (.one .int) v12 v13).bind fun v107 =>
 gB v107 (
(indexV H 2 v0 v12).bind fun v112 =>
(loadAV H (some 2) v112).bind fun v113 =>
(indexV H 2 v0 v1).bind fun v116 =>
(loadAV H (some 2) v116).bind fun v117 =>
 callK prog (R prog) v4 [v113, v117] H fun v118 H11 =>
(binAV H11 .lss (.one .int) v118 (.int .i64 0)).bind fun v119 =>
 condK v119 (
(binAV H11 .add (.one .int) v12 (.int .i64 1)).bind fun v122 =>
 l_slices_partitionCmpFunc_api_Deal_2 v0 v1 v4 v122 v13 H11 k6) (
 k6 v0 v1 v4 v12 v13 H11)) (
 k6 v0 v1 v4 v12 v13 H)) Q) : Yl (l_slices_partitionCmpFunc_api_Deal_2 v0 v1 v4 v12 v13 H k6) Q := by
  unfold l_slices_partitionCmpFunc_api_Deal_2
  exact loop_yl (by kernel_rfl) h
theorem l_slices_partitionCmpFunc_api_Deal_3_s (v0 v1 v4 v12 v13 : AV) (H : Heap) (k8 : AV → AV → AV → AV → AV → Heap → Option (AV × Heap)) {Q : AV → Heap → Prop} (h : Yl (
(binAV H .leq (.one .int) v12 v13).bind fun v125 =>
 gB v125 (
(indexV H 2 v0 v13).bind fun v130 =>
(loadAV H (some 2) v130).bind fun v131 =>
(indexV H 2 v0 v1).bind fun v134 =>
(loadAV H (some 2) v134).bind fun v135 =>
 callK prog (R prog) v4 [v131, v135] H fun v136 H13 =>
(binAV H13 .lss (.one .int) v136 (.int .i64 0)).bind fun v137 =>
(unAV .not v137).bind fun v138 =>
 condK v138 (
(binAV H13 .sub (.one .int) v13 (.int .i64 1)).bind fun v141 =>
 l_slices_partitionCmpFunc_api_Deal_3 v0 v1 v4 v12 v141 H13 k8) (
 k8 v0 v1 v4 v12 v13 H13)) (
 k8 v0 v1 v4 v12 v13 H)) Q) : Yl (l_slices_partitionCmpFunc_api_Deal_3 v0 v1 v4 v12 v13 H k8) Q := by
  unfold l_slices_partitionCmpFunc_api_Deal_3
  exact loop_yl (by kernel_rfl) h
theorem l_slices_partitionCmpFunc_api_Deal_4_s (v0 v1 v4 v12 v13 : AV) (H : Heap) (k4 : AV → AV → AV → Heap → Option (AV × Heap)) {Q : AV → Heap → Prop} (h : Yl (
 l_slices_partitionCmpFunc_api_Deal_2 v0 v1 v4 v12 v13 H (fun v0_1 v1_1 v4_1 v12_1 v13_1 H12 =>
 l_slices_partitionCmpFunc_api_Deal_3 v0_1 v1_1 v4_1 v12_1 v13_1 H12 (fun v0_2 v1_2 v4_2 v12_2 v13_2 H14 =>
(binAV H14 .gtr (.one .int) v12_2 v13_2).bind fun v144 =>
 condK v144 (
 k4 v0_2 v1_2 v13_2 H14) (
(indexV H14 2 v0_2 v13_2).bind fun v151 =>
(loadAV H14 (some 2) v151).bind fun v152 =>
(indexV H14 2 v0_2 v12_2).bind fun v155 =>
(loadAV H14 (some 2) v155).bind fun v156 =>
(indexV H14 2 v0_2 v12_2).bind fun v157 =>
(storeAV H14 2 v157 v152).bind fun H15 =>
(indexV H15 2 v0_2 v13_2).bind fun v158 =>
(storeAV H15 2 v158 v156).bind fun H16 =>
(binAV H16 .add (.one .int) v12_2 (.int .i64 1)).bind fun v160 =>
(binAV H16 .sub (.one .int) v13_2 (.int .i64 1)).bind fun v162 =>
 l_slices_partitionCmpFunc_api_Deal_4 v0_2 v1_2 v4_2 v160 v162 H16 k4)))) Q) : Yl (l_slices_partitionCmpFunc_api_Deal_4 v0 v1 v4 v12 v13 H k4) Q := by
  unfold l_slices_partitionCmpFunc_api_Deal_4
  exact loop_yl (by kernel_rfl) h
theorem r_slices_partitionCmpFunc_api_Deal (v0 v1 v2 v3 v4 : AV) (H : Heap) {Q : AV → Heap → Prop} (h : Yl (
(indexV H 2 v0 v3).bind fun v20 =>
(loadAV H (some 2) v20).bind fun v21 =>
(indexV H 2 v0 v1).bind fun v24 =>
(loadAV H (some 2) v24).bind fun v25 =>
(indexV H 2 v0 v1).bind fun v26 =>
(storeAV H 2 v26 v21).bind fun H1 =>
(indexV H1 2 v0 v3).bind fun v27 =>
(storeAV H1 2 v27 v25).bind fun H2 =>
(binAV H2 .add (.one .int) v1 (.int .i64 1)).bind fun v29 =>
(binAV H2 .sub (.one .int) v2 (.int .i64 1)).bind fun v31 =>
 l_slices_partitionCmpFunc_api_Deal_0 v0 v1 v4 v29 v31 H2 (fun v0_1 v1_1 v4_1 v12 v13 H4 =>
 l_slices_partitionCmpFunc_api_Deal_1 v0_1 v1_1 v4_1 v12 v13 H4 (fun v0_2 v1_2 v4_2 v12_1 v13_1 H6 =>
(binAV H6 .gtr (.one .int) v12_1 v13_1).bind fun v71 =>
 condK v71 (
(indexV H6 2 v0_2 v1_2).bind fun v78 =>
(loadAV H6 (some 2) v78).bind fun v79 =>
(indexV H6 2 v0_2 v13_1).bind fun v82 =>
(loadAV H6 (some 2) v82).bind fun v83 =>
(indexV H6 2 v0_2 v13_1).bind fun v84 =>
(storeAV H6 2 v84 v79).bind fun H7 =>
(indexV H7 2 v0_2 v1_2).bind fun v85 =>
(storeAV H7 2 v85 v83).bind fun H8 =>
 some (.tuple [v13_1, (.bool true)], H8)) (
(indexV H6 2 v0_2 v13_1).bind fun v93 =>
(loadAV H6 (some 2) v93).bind fun v94 =>
(indexV H6 2 v0_2 v12_1).bind fun v97 =>
(loadAV H6 (some 2) v97).bind fun v98 =>
(indexV H6 2 v0_2 v12_1).bind fun v99 =>
(storeAV H6 2 v99 v94).bind fun H9 =>
(indexV H9 2 v0_2 v13_1).bind fun v100 =>
(storeAV H9 2 v100 v98).bind fun H10 =>
(binAV H10 .add (.one .int) v12_1 (.int .i64 1)).bind fun v102 =>
(binAV H10 .sub (.one .int) v13_1 (.int .i64 1)).bind fun v104 =>
 l_slices_partitionCmpFunc_api_Deal_4 v0_2 v1_2 v4_2 v102 v104 H10 (fun v0_3 v1_3 v13_2 H17 =>
(indexV H17 2 v0_3 v1_3).bind fun v169 =>
(loadAV H17 (some 2) v169).bind fun v170 =>
(indexV H17 2 v0_3 v13_2).bind fun v173 =>
(loadAV H17 (some 2) v173).bind fun v174 =>
(indexV H17 2 v0_3 v13_2).bind fun v175 =>
(storeAV H17 2 v175 v170).bind fun H18 =>
(indexV H18 2 v0_3 v1_3).bind fun v176 =>
(storeAV H18 2 v176 v174).bind fun H19 =>
 some (.tuple [v13_2, (.bool false)], H19)))))) Q) : Yl (R prog f_slices_partitionCmpFunc_api_Deal [v0, v1, v2, v3, v4] H) Q :=
  R_yl (fn := x83) (by kernel_rfl) rfl (by kernel_rfl) h
/-! ### math_bits_Len32 math/bits.Len32 -/
noncomputable def j_math_bits_Len32_1 (v0 v2 : AV) (H : Heap) : Option (AV × Heap) :=
(convAV .u8 v0).bind fun v15 =>
(indexStrAV (.str [0, 1, 2, 2, 3, 3, 3, 3, 4, 4, 4, 4, 4, 4, 4, 4, 5, 5, 5, 5, 5, 5, 5, 5, 5, 5, 5, 5, 5, 5, 5, 5, 6, 6, 6, 6, 6, 6, 6, 6, 6, 6, 6, 6, 6, 6, 6, 6, 6, 6, 6, 6, 6, 6, 6, 6, 6, 6, 6, 6, 6, 6, 6, 6, 7, 7, 7, 7, 7, 7, 7, 7, 7, 7, 7, 7, 7, 7, 7, 7, 7, 7, 7, 7, 7, 7, 7, 7, 7, 7, 7, 7, 7, 7, 7, 7, 7, 7, 7, 7, 7, 7, 7, 7, 7, 7, 7, 7, 7, 7, 7, 7, 7, 7, 7, 7, 7, 7, 7, 7, 7, 7, 7, 7, 7, 7, 7, 7, 8, 8, 8, 8, 8, 8, 8, 8, 8, 8, 8, 8, 8, 8, 8, 8, 8, 8, 8, 8, 8, 8, 8, 8, 8, 8, 8, 8, 8, 8, 8, 8, 8, 8, 8, 8, 8, 8, 8, 8, 8, 8, 8, 8, 8, 8, 8, 8, 8, 8, 8, 8, 8, 8, 8, 8, 8, 8, 8, 8, 8, 8, 8, 8, 8, 8, 8, 8, 8, 8, 8, 8, 8, 8, 8, 8, 8, 8, 8, 8, 8, 8, 8, 8, 8, 8, 8, 8, 8, 8, 8, 8, 8, 8, 8, 8, 8, 8, 8, 8, 8, 8, 8, 8, 8, 8, 8, 8, 8, 8, 8, 8, 8, 8, 8, 8, 8, 8, 8, 8, 8, 8, 8, 8, 8, 8, 8, 8]) v15).bind fun v16 =>
(convAV .i64 v16).bind fun v17 =>
(binAV H .add (.one .int) v2 v17).bind fun v18 =>
 some (v18, H)
noncomputable def j_math_bits_Len32_2 (v0 v2 : AV) (H : Heap) : Option (AV × Heap) :=
(convAV .u8 v0).bind fun v15 =>
(indexStrAV (.str [0, 1, 2, 2, 3, 3, 3, 3, 4, 4, 4, 4, 4, 4, 4, 4, 5, 5, 5, 5, 5, 5, 5, 5, 5, 5, 5, 5, 5, 5, 5, 5, 6, 6, 6, 6, 6, 6, 6, 6, 6, 6, 6, 6, 6, 6, 6, 6, 6, 6, 6, 6, 6, 6, 6, 6, 6, 6, 6, 6, 6, 6, 6, 6, 7, 7, 7, 7, 7, 7, 7, 7, 7, 7, 7, 7, 7, 7, 7, 7, 7, 7, 7, 7, 7, 7, 7, 7, 7, 7, 7, 7, 7, 7, 7, 7, 7, 7, 7, 7, 7, 7, 7, 7, 7, 7, 7, 7, 7, 7, 7, 7, 7, 7, 7, 7, 7, 7, 7, 7, 7, 7, 7, 7, 7, 7, 7, 7, 8, 8, 8, 8, 8, 8, 8, 8, 8, 8, 8, 8, 8, 8, 8, 8, 8, 8, 8, 8, 8, 8, 8, 8, 8, 8, 8, 8, 8, 8, 8, 8, 8, 8, 8, 8, 8, 8, 8, 8, 8, 8, 8, 8, 8, 8, 8, 8, 8, 8, 8, 8, 8, 8, 8, 8, 8, 8, 8, 8, 8, 8, 8, 8, 8, 8, 8, 8, 8, 8, 8, 8, 8, 8, 8, 8, 8, 8, 8, 8, 8, 8, 8, 8, 8, 8, 8, 8, 8, 8, 8, 8, 8, 8, 8, 8, 8, 8, 8, 8, 8, 8, 8, 8, 8, 8, 8, 8, 8, 8, 8, 8, 8, 8, 8, 8, 8, 8, 8, 8, 8, 8, 8, 8, 8, 8, 8, 8]) v15).bind fun v16 =>
(convAV .i64 v16).bind fun v17 =>
(binAV H .add (.one .int) v2 v17).bind fun v18 =>
 some (v18, H)
theorem r_math_bits_Len32 (v0 : AV) (H : Heap) {Q : AV → Heap → Prop} (h : Yl (
(binAV H .geq (.one .int) v0 (.int .u32 65536)).bind fun v4 =>
 condK v4 (
(binAV H .shr (.one .int) v0 (.int .u64 16)).bind fun v6 =>
(binAV H .geq (.one .int) v6 (.int .u32 256)).bind fun v8 =>
 condK v8 (
(binAV H .shr (.one .int) v6 (.int .u64 8)).bind fun v10 =>
(binAV H .add (.one .int) (.int .i64 16) (.int .i64 8)).bind fun v12 =>
 j_math_bits_Len32_1 v10 v12 H) (
 j_math_bits_Len32_1 v6 (.int .i64 16) H)) (
(binAV H .geq (.one .int) v0 (.int .u32 256)).bind fun v8_1 =>
 condK v8_1 (
(binAV H .shr (.one .int) v0 (.int .u64 8)).bind fun v10_1 =>
(binAV H .add (.one .int) (.int .i64 0) (.int .i64 8)).bind fun v12_1 =>
 j_math_bits_Len32_2 v10_1 v12_1 H) (
 j_math_bits_Len32_2 v0 (.int .i64 0) H))) Q) : Yl (R prog f_math_bits_Len32 [v0] H) Q :=
  R_yl (fn := x84) (by kernel_rfl) rfl (by kernel_rfl) h
/-! ### math_bits_Len64 math/bits.Len64 -/
noncomputable def j_math_bits_Len64_2 (v0 v2 : AV) (H : Heap) : Option (AV × Heap) :=
(convAV .u8 v0).bind fun v21 =>
(indexStrAV (.str [0, 1, 2, 2, 3, 3, 3, 3, 4, 4, 4, 4, 4, 4, 4, 4, 5, 5, 5, 5, 5, 5, 5, 5, 5, 5, 5, 5, 5, 5, 5, 5, 6, 6, 6, 6, 6, 6, 6, 6, 6, 6, 6, 6, 6, 6, 6, 6, 6, 6, 6, 6, 6, 6, 6, 6, 6, 6, 6, 6, 6, 6, 6, 6, 7, 7, 7, 7, 7, 7, 7, 7, 7, 7, 7, 7, 7, 7, 7, 7, 7, 7, 7, 7, 7, 7, 7, 7, 7, 7, 7, 7, 7, 7, 7, 7, 7, 7, 7, 7, 7, 7, 7, 7, 7, 7, 7, 7, 7, 7, 7, 7, 7, 7, 7, 7, 7, 7, 7, 7, 7, 7, 7, 7, 7, 7, 7, 7, 8, 8, 8, 8, 8, 8, 8, 8, 8, 8, 8, 8, 8, 8, 8, 8, 8, 8, 8, 8, 8, 8, 8, 8, 8, 8, 8, 8, 8, 8, 8, 8, 8, 8, 8, 8, 8, 8, 8, 8, 8, 8, 8, 8, 8, 8, 8, 8, 8, 8, 8, 8, 8, 8, 8, 8, 8, 8, 8, 8, 8, 8, 8, 8, 8, 8, 8, 8, 8, 8, 8, 8, 8, 8, 8, 8, 8, 8, 8, 8, 8, 8, 8, 8, 8, 8, 8, 8, 8, 8, 8, 8, 8, 8, 8, 8, 8, 8, 8, 8, 8, 8, 8, 8, 8, 8, 8, 8, 8, 8, 8, 8, 8, 8, 8, 8, 8, 8, 8, 8, 8, 8, 8, 8, 8, 8, 8, 8]) v21).bind fun v22 =>
(convAV .i64 v22).bind fun v23 =>
(binAV H .add (.one .int) v2 v23).bind fun v24 =>
 some (v24, H)
noncomputable def j_math_bits_Len64_3 (v0 v2 : AV) (H : Heap) : Option (AV × Heap) :=
(convAV .u8 v0).bind fun v21 =>
(indexStrAV (.str [0, 1, 2, 2, 3, 3, 3, 3, 4, 4, 4, 4, 4, 4, 4, 4, 5, 5, 5, 5, 5, 5, 5, 5, 5, 5, 5, 5, 5, 5, 5, 5, 6, 6, 6, 6, 6, 6, 6, 6, 6, 6, 6, 6, 6, 6, 6, 6, 6, 6, 6, 6, 6, 6, 6, 6, 6, 6, 6, 6, 6, 6, 6, 6, 7, 7, 7, 7, 7, 7, 7, 7, 7, 7, 7, 7, 7, 7, 7, 7, 7, 7, 7, 7, 7, 7, 7, 7, 7, 7, 7, 7, 7, 7, 7, 7, 7, 7, 7, 7, 7, 7, 7, 7, 7, 7, 7, 7, 7, 7, 7, 7, 7, 7, 7, 7, 7, 7, 7, 7, 7, 7, 7, 7, 7, 7, 7, 7, 8, 8, 8, 8, 8, 8, 8, 8, 8, 8, 8, 8, 8, 8, 8, 8, 8, 8, 8, 8, 8, 8, 8, 8, 8, 8, 8, 8, 8, 8, 8, 8, 8, 8, 8, 8, 8, 8, 8, 8, 8, 8, 8, 8, 8, 8, 8, 8, 8, 8, 8, 8, 8, 8, 8, 8, 8, 8, 8, 8, 8, 8, 8, 8, 8, 8, 8, 8, 8, 8, 8, 8, 8, 8, 8, 8, 8, 8, 8, 8, 8, 8, 8, 8, 8, 8, 8, 8, 8, 8, 8, 8, 8, 8, 8, 8, 8, 8, 8, 8, 8, 8, 8, 8, 8, 8, 8, 8, 8, 8, 8, 8, 8, 8, 8, 8, 8, 8, 8, 8, 8, 8, 8, 8, 8, 8, 8, 8]) v21).bind fun v22 =>
(convAV .i64 v22).bind fun v23 =>
(binAV H .add (.one .int) v2 v23).bind fun v24 =>
 some (v24, H)
noncomputable def j_math_bits_Len64_1 (v0 v2 : AV) (H : Heap) : Option (AV × Heap) :=
(binAV H .geq (.one .int) v0 (.int .u64 65536)).bind fun v8 =>
 condK v8 (
(binAV H .shr (.one .int) v0 (.int .u64 16)).bind fun v10 =>
(binAV H .add (.one .int) v2 (.int .i64 16)).bind fun v12 =>
(binAV H .geq (.one .int) v10 (.int .u64 256)).bind fun v14 =>
 condK v14 (
(binAV H .shr (.one .int) v10 (.int .u64 8)).bind fun v16 =>
(binAV H .add (.one .int) v12 (.int .i64 8)).bind fun v18 =>
 j_math_bits_Len64_2 v16 v18 H) (
 j_math_bits_Len64_2 v10 v12 H)) (
(binAV H .geq (.one .int) v0 (.int .u64 256)).bind fun v14_1 =>
 condK v14_1 (
(binAV H .shr (.one .int) v0 (.int .u64 8)).bind fun v16_1 =>
(binAV H .add (.one .int) v2 (.int .i64 8)).bind fun v18_1 =>
 j_math_bits_Len64_3 v16_1 v18_1 H) (
 j_math_bits_Len64_3 v0 v2 H))
theorem r_math_bits_Len64 (v0 : AV) (H : Heap) {Q : AV → Heap → Prop} (h : Yl (
(binAV H .geq (.one .int) v0 (.int .u64 4294967296)).bind fun v4 =>
 condK v4 (
(binAV H .shr (.one .int) v0 (.int .u64 32)).bind fun v6 =>
 j_math_bits_Len64_1 v6 (.int .i64 32) H) (
 j_math_bits_Len64_1 v0 (.int .i64 0) H)) Q) : Yl (R prog f_math_bits_Len64 [v0] H) Q :=
  R_yl (fn := x85) (by kernel_rfl) rfl (by kernel_rfl) h
/-! ### slices_siftDownCmpFunc_api_Deal slices.siftDownCmpFunc[jitney/api.Deal] -/
noncomputable def l_slices_siftDownCmpFunc_api_Deal_0 (v0 v2 v3 v4 v10 : AV) (H : Heap) (k0 : Heap → Option (AV × Heap)) : Option (AV × Heap) :=
  loopK prog (R prog) b108_0 (fun t => bif Nat.beq t 0 then v0 else bif Nat.beq t 2 then v2 else bif Nat.beq t 3 then v3 else bif Nat.beq t 4 then v4 else bif Nat.beq t 10 then v10 else .undef) H (fun i e H => bif Nat.beq i 0 then k0 H else none) (fun e H => some (.tuple [], H))
noncomputable def j_slices_siftDownCmpFunc_api_Deal_1 (v0 v2 v3 v4 v10 v11 : AV) (H : Heap) (k0 : Heap → Option (AV × Heap)) : Option (AV × Heap) :=
(binAV H .add (.one .int) v3 v10).bind fun v47 =>
(indexV H 2 v0 v47).bind fun v48 =>
(loadAV H (some 2) v48).bind fun v49 =>
(binAV H .add (.one .int) v3 v11).bind fun v53 =>
(indexV H 2 v0 v53).bind fun v54 =>
(loadAV H (some 2) v54).bind fun v55 =>
 callK prog (R prog) v4 [v49, v55] H fun v56 H1 =>
(binAV H1 .lss (.one .int) v56 (.int .i64 0)).bind fun v57 =>
(unAV .not v57).bind fun v58 =>
 condK v58 (
 some (.tuple [], H1)) (
(binAV H1 .add (.one .int) v3 v10).bind fun v62 =>
(binAV H1 .add (.one .int) v3 v11).bind fun v66 =>
(binAV H1 .add (.one .int) v3 v11).bind fun v70 =>
(indexV H1 2 v0 v70).bind fun v71 =>
(loadAV H1 (some 2) v71).bind fun v72 =>
(binAV H1 .add (.one .int) v3 v10).bind fun v76 =>
(indexV H1 2 v0 v76).bind fun v77 =>
(loadAV H1 (some 2) v77).bind fun v78 =>
(indexV H1 2 v0 v62).bind fun v79 =>
(storeAV H1 2 v79 v72).bind fun H2 =>
(indexV H2 2 v0 v66).bind fun v80 =>
(storeAV H2 2 v80 v78).bind fun H3 =>
 l_slices_siftDownCmpFunc_api_Deal_0 v0 v2 v3 v4 v11 H3 k0)
theorem l_slices_siftDownCmpFunc_api_Deal_0_s (v0 v2 v3 v4 v10 : AV) (H : Heap) (k0 : Heap → Option (AV × Heap)) {Q : AV → Heap → Prop} (h : Yl (
(binAV H .mul (.one .int) (.int .i64 2) v10).bind fun v14 =>
(binAV H .add (.one .int) v14 (.int .i64 1)).bind fun v15 =>
(binAV H .geq (.one .int) v15 v2).bind fun v18 =>
 condK v18 (
 k0 H) (
(binAV H .add (.one .int) v15 (.int .i64 1)).bind fun v20 =>
(binAV H .lss (.one .int) v20 v2).bind fun v22 =>
 gB v22 (
(binAV H .add (.one .int) v3 v15).bind fun v28 =>
(indexV H 2 v0 v28).bind fun v29 =>
(loadAV H (some 2) v29).bind fun v30 =>
(binAV H .add (.one .int) v3 v15).bind fun v34 =>
(binAV H .add (.one .int) v34 (.int .i64 1)).bind fun v35 =>
(indexV H 2 v0 v35).bind fun v36 =>
(loadAV H (some 2) v36).bind fun v37 =>
 callK prog (R prog) v4 [v30, v37] H fun v38 H4 =>
(binAV H4 .lss (.one .int) v38 (.int .i64 0)).bind fun v39 =>
 condK v39 (
(binAV H4 .add (.one .int) v15 (.int .i64 1)).bind fun v42 =>
 j_slices_siftDownCmpFunc_api_Deal_1 v0 v2 v3 v4 v10 v42 H4 k0) (
 j_slices_siftDownCmpFunc_api_Deal_1 v0 v2 v3 v4 v10 v15 H4 k0)) (
 j_slices_siftDownCmpFunc_api_Deal_1 v0 v2 v3 v4 v10 v15 H k0))) Q) : Yl (l_slices_siftDownCmpFunc_api_Deal_0 v0 v2 v3 v4 v10 H k0) Q := by
  unfold l_slices_siftDownCmpFunc_api_Deal_0
  exact loop_yl (by kernel_rfl) h
theorem r_slices_siftDownCmpFunc_api_Deal (v0 v1 v2 v3 v4 : AV) (H : Heap) {Q : AV → Heap → Prop} (h : Yl (
 l_slices_siftDownCmpFunc_api_Deal_0 v0 v2 v3 v4 v1 H (fun  H5 =>
 some (.tuple [], H5))) Q) : Yl (R prog f_slices_siftDownCmpFunc_api_Deal [v0, v1, v2, v3, v4] H) Q :=
  R_yl (fn := x108) (by kernel_rfl) rfl (by kernel_rfl) h
/-! ### slices_nextPowerOfTwo slices.nextPowerOfTwo -/
theorem r_slices_nextPowerOfTwo (v0 : AV) (H : Heap) {Q : AV → Heap → Prop} (h : Yl (
(convAV .u64 v0).bind fun v4 =>
(pureCall prog (R prog) f_math_bits_Len [v4] H).bind fun v5 =>
(binAV H .shl (.one .int) (.int .u64 1) v5).bind fun v6 =>
 some (v6, H)) Q) : Yl (R prog f_slices_nextPowerOfTwo [v0] H) Q :=
  R_yl (fn := x109) (by kernel_rfl) rfl (by kernel_rfl) h
/-! ### slices_xorshift_Next (*slices.xorshift).Next -/
theorem r_slices_xorshift_Next (v0 : AV) (H : Heap) {Q : AV → Heap → Prop} (h : Yl (
(nilCheckAV v0).bind fun v4 =>
(loadAV H none v4).bind fun v5 =>
(nilCheckAV v0).bind fun v7 =>
(loadAV H none v7).bind fun v8 =>
(binAV H .shl (.one .int) v8 (.int .u64 13)).bind fun v9 =>
(binAV H .xor (.one .int) v5 v9).bind fun v10 =>
(nilCheckAV v0).bind fun v11 =>
(storeAV H 1 v11 v10).bind fun H1 =>
(nilCheckAV v0).bind fun v13 =>
(loadAV H1 none v13).bind fun v14 =>
(nilCheckAV v0).bind fun v16 =>
(loadAV H1 none v16).bind fun v17 =>
(binAV H1 .shr (.one .int) v17 (.int .u64 7)).bind fun v18 =>
(binAV H1 .xor (.one .int) v14 v18).bind fun v19 =>
(nilCheckAV v0).bind fun v20 =>
(storeAV H1 1 v20 v19).bind fun H2 =>
(nilCheckAV v0).bind fun v22 =>
(loadAV H2 none v22).bind fun v23 =>
(nilCheckAV v0).bind fun v25 =>
(loadAV H2 none v25).bind fun v26 =>
(binAV H2 .shl (.one .int) v26 (.int .u64 17)).bind fun v27 =>
(binAV H2 .xor (.one .int) v23 v27).bind fun v28 =>
(nilCheckAV v0).bind fun v29 =>
(storeAV H2 1 v29 v28).bind fun H3 =>
(nilCheckAV v0).bind fun v31 =>
(loadAV H3 none v31).bind fun v32 =>
 some (v32, H3)) Q) : Yl (R prog f_slices_xorshift_Next [v0] H) Q :=
  R_yl (fn := x110) (by kernel_rfl) rfl (by kernel_rfl) h
/-! ### slices_medianAdjacentCmpFunc_api_Deal slices.medianAdjacentCmpFunc[jitney/api.Deal] -/
theorem r_slices_medianAdjacentCmpFunc_api_Deal (v0 v1 v2 v3 : AV) (H : Heap) {Q : AV → Heap → Prop} (h : Yl (
(binAV H .sub (.one .int) v1 (.int .i64 1)).bind fun v11 =>
(binAV H .add (.one .int) v1 (.int .i64 1)).bind fun v14 =>
(R prog f_slices_medianCmpFunc_api_Deal [v0, v11, v1, v14, v2, v3] H).bind fun r1 =>
 some (r1.1, r1.2)) Q) : Yl (R prog f_slices_medianAdjacentCmpFunc_api_Deal [v0, v1, v2, v3] H) Q :=
  R_yl (fn := x111) (by kernel_rfl) rfl (by kernel_rfl) h
/-! ### slices_medianCmpFunc_api_Deal slices.medianCmpFunc[jitney/api.Deal] -/
theorem r_slices_medianCmpFunc_api_Deal (v0 v1 v2 v3 v4 v5 : AV) (H : Heap) {Q : AV → Heap → Prop} (h : Yl (
(R prog f_slices_order2CmpFunc_api_Deal [v0, v1, v2, v4, v5] H).bind fun r1 =>
(extractAV r1.1 0).bind fun v20 =>
(extractAV r1.1 1).bind fun v21 =>
(R prog f_slices_order2CmpFunc_api_Deal [v0, v21, v3, v4, v5] r1.2).bind fun r2 =>
(extractAV r2.1 0).bind fun v29 =>
(extractAV r2.1 1).bind fun v30 =>
(R prog f_slices_order2CmpFunc_api_Deal [v0, v20, v29, v4, v5] r2.2).bind fun r3 =>
(extractAV r3.1 0).bind fun v38 =>
(extractAV r3.1 1).bind fun v39 =>
 some (v39, r3.2)) Q) : Yl (R prog f_slices_medianCmpFunc_api_Deal [v0, v1, v2, v3, v4, v5] H) Q :=
  R_yl (fn := x112) (by kernel_rfl) rfl (by kernel_rfl) h
/-! ### slices_order2CmpFunc_api_Deal slices.order2CmpFunc[jitney/api.Deal] -/
theorem r_slices_order2CmpFunc_api_Deal (v0 v1 v2 v3 v4 : AV) (H : Heap) {Q : AV → Heap → Prop} (h : Yl (
(indexV H 2 v0 v2).bind fun v15 =>
(loadAV H (some 2) v15).bind fun v16 =>
(indexV H 2 v0 v1).bind fun v19 =>
(loadAV H (some 2) v19).bind fun v20 =>
 callK prog (R prog) v4 [v16, v20] H fun v21 H1 =>
(binAV H1 .lss (.one .int) v21 (.int .i64 0)).bind fun v22 =>
 condK v22 (
(nilCheckAV v3).bind fun v24 =>
(loadAV H1 none v24).bind fun v25 =>
(binAV H1 .add (.one .int) v25 (.int .i64 1)).bind fun v26 =>
(nilCheckAV v3).bind fun v27 =>
(storeAV H1 1 v27 v26).bind fun H2 =>
 some (.tuple [v2, v1], H2)) (
 some (.tuple [v1, v2], H1))) Q) : Yl (R prog f_slices_order2CmpFunc_api_Deal [v0, v1, v2, v3, v4] H) Q :=
  R_yl (fn := x129) (by kernel_rfl) rfl (by kernel_rfl) h
end X
end Go.Proofs.YtkaigfcjejabfaaGreatDoor
