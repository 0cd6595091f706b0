/- The functions' bodies, as they are gone through. No condition. MADE BY PROGRAM (xgen). -/
import Derived.Test.YtplginnkececaaaGreatDoorZXD
import Derived.Test.YtplginnkececaaaGreatDoorZYB
set_option maxRecDepth 100000
set_option linter.unusedVariables false
namespace Go.Proofs.YtplginnkececaaaGreatDoor
open Go
namespace X
abbrev f_jitkeep2_RoomsHold : Nat := 6
abbrev f_jitmake_Stream_Asks : Nat := 10
abbrev f_jitmake_Stream_Range : Nat := 11
abbrev f_jitmake_Stream_Pick : Nat := 12
abbrev f_jitmake_Stream_Some : Nat := 13
abbrev f_request_Standings : Nat := 14
abbrev f_jitref2_AsksFault : Nat := 19
abbrev f_jitref2_Key : Nat := 30
abbrev f_jitmake_Stream_Flip : Nat := 33
abbrev f_jitmake_Stream_Next : Nat := 35
abbrev f_request_Current : Nat := 38
abbrev f_request_CheckAsks : Nat := 39
abbrev f_jitmake_Stream_RightRiders : Nat := 46
abbrev f_jitmake_Stream_RightRooms : Nat := 47
abbrev f_jitmake_Stream_RightAsks : Nat := 48
abbrev f_jitkeep2_errs : Nat := 49
abbrev f_jitkeep2_roomOf : Nat := 50
abbrev f_slices_Contains_api_Ride_api_Ride : Nat := 51
abbrev f_jitkeep2_ready : Nat := 52
abbrev f_jitmake_Stream_Odd : Nat := 54
abbrev f_jitmake_Stream_AskedRide : Nat := 55
abbrev f_jitmake_Stream_SpoiltRide : Nat := 56
abbrev f_slices_SortStableFunc_api_Ask_api_Ask : Nat := 57
abbrev f_jitref2_AskOrder : Nat := 58
abbrev f_slices_CompactFunc_api_Ask_api_Ask : Nat := 59
abbrev f_jitmake_Stream_Asks_1 : Nat := 60
abbrev f_request_fault : Nat := 61
abbrev f_base_Moment : Nat := 62
abbrev f_request_run : Nat := 63
abbrev f_slices_SortFunc_api_Standing_api_Standing : Nat := 64
abbrev f_request_Standings_1 : Nat := 65
abbrev f_strings_Compare : Nat := 66
abbrev f_request_desk_waiting : Nat := 68
abbrev f_request_desk_room : Nat := 69
abbrev f_jitref2_in : Nat := 70
abbrev f_jitref2_Moment : Nat := 71
abbrev f_jitref2_RideFault : Nat := 72
abbrev f_request_Days : Nat := 73
abbrev f_cmp_Or_int : Nat := 84
abbrev f_cmp_Compare_int : Nat := 85
abbrev f_base_First : Nat := 86
abbrev f_request_CheckRiders : Nat := 87
abbrev f_base_Key : Nat := 88
abbrev f_base_Out : Nat := 89
abbrev f_jitref2_only : Nat := 90
abbrev f_jitref2_sign : Nat := 95
abbrev f_jitmake_Below : Nat := 97
abbrev f_request_byAsk : Nat := 99
abbrev f_slices_SortFunc_api_Ride_api_Ride : Nat := 101
abbrev f_request_Current_1 : Nat := 102
abbrev f_request_askFault : Nat := 103
abbrev f_slices_IndexFunc_api_Room_api_Room : Nat := 105
abbrev f_jitkeep2_roomOf_1 : Nat := 106
abbrev f_slices_Index_api_Ride_api_Ride : Nat := 107
abbrev f_match_Most : Nat := 108
abbrev f_fleet_Drivers : Nat := 109
abbrev f_trust_Score : Nat := 110
abbrev f_slices_stableCmpFunc_api_Ask : Nat := 112
abbrev f_request_CheckRooms : Nat := 113
abbrev f_request_newDesk : Nat := 114
abbrev f_request_desk_over : Nat := 115
abbrev f_request_desk_follow : Nat := 116
abbrev f_slices_pdqsortCmpFunc_api_Standing : Nat := 117
abbrev f_math_bits_Len : Nat := 118
abbrev f_internal_bytealg_CompareString : Nat := 119
abbrev f_slices_SortFunc_request_entry_request_entry : Nat := 120
abbrev f_request_byWait : Nat := 121
abbrev f_request_desk_room_1 : Nat := 122
abbrev f_request_CheckSeries : Nat := 123
abbrev f_request_dayRide : Nat := 124
abbrev f_cmp_isNaN_int : Nat := 130
abbrev f_strings_IndexByte : Nat := 131
abbrev f_slices_pdqsortCmpFunc_api_Ride : Nat := 137
abbrev f_request_CheckRide : Nat := 138
abbrev f_request_allKeys : Nat := 139
abbrev f_match_CheckOffers : Nat := 140
abbrev f_match_newGraph : Nat := 141
abbrev f_match_graph_most : Nat := 142
abbrev f_fleet_CheckShifts : Nat := 143
abbrev f_fleet_rosters : Nat := 144
abbrev f_trust_CheckRatings : Nat := 145
abbrev f_trust_faithFault : Nat := 146
abbrev f_trust_newSums : Nat := 147
abbrev f_trust_sums_score : Nat := 148
abbrev f_slices_insertionSortCmpFunc_api_Ask : Nat := 149
abbrev f_slices_symMergeCmpFunc_api_Ask : Nat := 150
abbrev f_request_desk_nextDue : Nat := 151
abbrev f_request_desk_leave : Nat := 152
abbrev f_slices_Sort_int_int : Nat := 153
abbrev f_slices_Compact_int_int : Nat := 154
abbrev f_request_desk_moveUp : Nat := 155
abbrev f_request_desk_permits : Nat := 156
abbrev f_request_desk_place : Nat := 157
abbrev f_slices_insertionSortCmpFunc_api_Standing : Nat := 158
abbrev f_slices_heapSortCmpFunc_api_Standing : Nat := 159
abbrev f_slices_breakPatternsCmpFunc_api_Standing : Nat := 160
abbrev f_slices_choosePivotCmpFunc_api_Standing : Nat := 161
abbrev f_slices_reverseRangeCmpFunc_api_Standing : Nat := 162
abbrev f_slices_partialInsertionSortCmpFunc_api_Standing : Nat := 163
abbrev f_slices_partitionEqualCmpFunc_api_Standing : Nat := 164
abbrev f_slices_partitionCmpFunc_api_Standing : Nat := 165
abbrev f_math_bits_Len32 : Nat := 166
abbrev f_math_bits_Len64 : Nat := 167
abbrev f_internal_bytealg_abigen_runtime_cmpstring : Nat := 168
abbrev f_slices_pdqsortCmpFunc_request_entry : Nat := 169
abbrev f_request_seriesFault : Nat := 170
abbrev f_slices_BinarySearchFunc_api_Change_api_Change_int : Nat := 171
abbrev f_request_dayRide_1 : Nat := 172
abbrev f_strconv_Itoa : Nat := 173
abbrev f_request_dayRide_2 : Nat := 174
abbrev f_strings_Repeat : Nat := 175
abbrev f_internal_stringslite_IndexByte : Nat := 178
abbrev f_slices_insertionSortCmpFunc_api_Ride : Nat := 183
abbrev f_slices_heapSortCmpFunc_api_Ride : Nat := 184
abbrev f_slices_breakPatternsCmpFunc_api_Ride : Nat := 185
abbrev f_slices_choosePivotCmpFunc_api_Ride : Nat := 186
abbrev f_slices_reverseRangeCmpFunc_api_Ride : Nat := 187
abbrev f_slices_partialInsertionSortCmpFunc_api_Ride : Nat := 188
abbrev f_slices_partitionEqualCmpFunc_api_Ride : Nat := 189
abbrev f_slices_partitionCmpFunc_api_Ride : Nat := 190
abbrev f_slices_ContainsFunc_string_string : Nat := 191
abbrev f_request_allKeys_1 : Nat := 192
abbrev f_match_byOffer : Nat := 193
abbrev f_match_carsOf : Nat := 194
abbrev f_match_ridesOf : Nat := 195
abbrev f_slices_Repeat_int_int : Nat := 196
abbrev f_slices_BinarySearch_string_string : Nat := 197
abbrev f_match_graph_augment : Nat := 198
abbrev f_fleet_byShift : Nat := 199
abbrev f_slices_IndexFunc_int_int : Nat := 200
abbrev f_fleet_rosters_1 : Nat := 201
abbrev f_trust_byRating : Nat := 202
abbrev f_trust_counting : Nat := 203
abbrev f_base_Fraction : Nat := 204
abbrev f_request_entry_seats : Nat := 206
abbrev f_slices_pdqsortOrdered_int : Nat := 207
abbrev f_request_desk_fits : Nat := 208
abbrev f_slices_insertionSortCmpFunc_request_entry : Nat := 214
abbrev f_slices_heapSortCmpFunc_request_entry : Nat := 215
abbrev f_slices_breakPatternsCmpFunc_request_entry : Nat := 216
abbrev f_slices_choosePivotCmpFunc_request_entry : Nat := 217
abbrev f_slices_reverseRangeCmpFunc_request_entry : Nat := 218
abbrev f_slices_partialInsertionSortCmpFunc_request_entry : Nat := 219
abbrev f_slices_partitionEqualCmpFunc_request_entry : Nat := 220
abbrev f_slices_partitionCmpFunc_request_entry : Nat := 221
abbrev f_request_changesFault : Nat := 222
abbrev f_internal_strconv_Itoa : Nat := 223
abbrev f_math_bits_Mul : Nat := 224
abbrev f_strings_HasPrefix : Nat := 225
abbrev f_strings_Builder_Grow : Nat := 226
abbrev f_strings_Builder_WriteString : Nat := 227
abbrev f_strings_Builder_Len : Nat := 228
abbrev f_strings_Builder_String : Nat := 229
abbrev f_internal_bytealg_IndexByteString : Nat := 239
abbrev f_slices_IndexFunc_string_string : Nat := 243
abbrev f_match_names : Nat := 244
abbrev f_match_carsOf_1 : Nat := 245
abbrev f_match_ridesOf_1 : Nat := 246
abbrev f_cmp_Less_string : Nat := 247
abbrev f_slices_isNaN_string : Nat := 248
abbrev f_trust_sameWords : Nat := 249
abbrev f_base_Gcd : Nat := 250
abbrev f_slices_insertionSortOrdered_int : Nat := 252
abbrev f_slices_heapSortOrdered_int : Nat := 253
abbrev f_slices_breakPatternsOrdered_int : Nat := 254
abbrev f_slices_choosePivotOrdered_int : Nat := 255
abbrev f_slices_reverseRangeOrdered_int : Nat := 256
abbrev f_slices_partialInsertionSortOrdered_int : Nat := 257
abbrev f_cmp_Less_int : Nat := 258
abbrev f_slices_partitionEqualOrdered_int : Nat := 259
abbrev f_slices_partitionOrdered_int : Nat := 260
abbrev f_internal_strconv_FormatInt : Nat := 265
abbrev f_math_bits_Mul32 : Nat := 266
abbrev f_math_bits_Mul64 : Nat := 267
abbrev f_internal_stringslite_HasPrefix : Nat := 268
abbrev f_strings_Builder_copyCheck : Nat := 269
abbrev f_slices_Sort_string_string : Nat := 276
abbrev f_slices_Compact_string_string : Nat := 277
abbrev f_cmp_isNaN_string : Nat := 278
abbrev f_internal_strconv_small : Nat := 283
abbrev f_internal_strconv_numDigits : Nat := 284
abbrev f_internal_strconv_formatBase10 : Nat := 285
abbrev f_internal_strconv_formatBits : Nat := 286
abbrev f_internal_abi_NoEscape : Nat := 287
abbrev f_slices_pdqsortOrdered_string : Nat := 290
abbrev f_internal_strconv_log10Pow2 : Nat := 292
abbrev f_internal_strconv_bool2_int : Nat := 293
abbrev f_internal_strconv_isPowerOfTwo : Nat := 294
abbrev f_math_bits_TrailingZeros : Nat := 295
abbrev f_slices_insertionSortOrdered_string : Nat := 296
abbrev f_slices_heapSortOrdered_string : Nat := 297
abbrev f_slices_breakPatternsOrdered_string : Nat := 298
abbrev f_slices_choosePivotOrdered_string : Nat := 299
abbrev f_slices_reverseRangeOrdered_string : Nat := 300
abbrev f_slices_partialInsertionSortOrdered_string : Nat := 301
abbrev f_slices_partitionEqualOrdered_string : Nat := 302
abbrev f_slices_partitionOrdered_string : Nat := 303
abbrev f_math_bits_TrailingZeros32 : Nat := 304
abbrev f_math_bits_TrailingZeros64 : Nat := 305
noncomputable def l_jitkeep2_RoomsHold_0 (v5 v8 v10 v12 v57 v58 v59 : AV) (H : Heap) (k0 : AV → AV → AV → AV → Heap → Option (AV × Heap)) : Option (AV × Heap) :=
  loopK prog (R prog) b6_0 (fun t => bif Nat.beq t 5 then v5 else bif Nat.beq t 8 then v8 else bif Nat.beq t 10 then v10 else bif Nat.beq t 12 then v12 else bif Nat.beq t 57 then v57 else bif Nat.beq t 58 then v58 else bif Nat.beq t 59 then v59 else .undef) H (fun i e H => bif Nat.beq i 0 then k0 (e 5) (e 8) (e 10) (e 12) H else none) (fun e H => some ((e 2), H))
noncomputable def j_jitkeep2_RoomsHold_1 (v5 v8 v10 v12 v14 v15 v57 v58 v59 v79 : AV) (H : Heap) (k0 : AV → AV → AV → AV → Heap → Option (AV × Heap)) : Option (AV × Heap) :=
 condK v79 (
(indexV H 1 v12 v15).bind fun v82 =>
(loadAV H none v82).bind fun v83 =>
(fieldAddrAV 0 v14).bind fun v84 =>
(fieldAddrAV 6 v84).bind fun v85 =>
(loadAV H none v85).bind fun v86 =>
(fieldAddrAV 0 v14).bind fun v87 =>
(fieldAddrAV 7 v87).bind fun v88 =>
(loadAV H none v88).bind fun v89 =>
(binAV H .add (.one .int) v86 v89).bind fun v90 =>
(binAV H .add (.one .int) v83 v90).bind fun v91 =>
(indexV H 1 v12 v15).bind fun v92 =>
(storeAV H 1 v92 v91).bind fun H11 =>
(binAV H11 .add (.one .int) v59 (.int .i64 1)).bind fun v93 =>
 l_jitkeep2_RoomsHold_0 v5 v8 v10 v12 v57 v58 v93 H11 k0) (
(binAV H .add (.one .int) v59 (.int .i64 1)).bind fun v93_1 =>
 l_jitkeep2_RoomsHold_0 v5 v8 v10 v12 v57 v58 v93_1 H k0)
noncomputable def l_jitkeep2_RoomsHold_1 (v5 v10 v12 v16 v94 v95 v96 : AV) (H : Heap) (k2 : AV → AV → Heap → Option (AV × Heap)) : Option (AV × Heap) :=
  loopK prog (R prog) b6_1 (fun t => bif Nat.beq t 5 then v5 else bif Nat.beq t 10 then v10 else bif Nat.beq t 12 then v12 else bif Nat.beq t 16 then v16 else bif Nat.beq t 94 then v94 else bif Nat.beq t 95 then v95 else bif Nat.beq t 96 then v96 else .undef) H (fun i e H => bif Nat.beq i 2 then k2 (e 10) (e 16) H else none) (fun e H => some ((e 2), H))
noncomputable def j_jitkeep2_RoomsHold_2 (v5 v10 v12 v16 v94 v95 v96 : AV) (H : Heap) (k2 : AV → AV → Heap → Option (AV × Heap)) : Option (AV × Heap) :=
(binAV H .add (.one .int) v96 (.int .i64 1)).bind fun v174 =>
 l_jitkeep2_RoomsHold_1 v5 v10 v12 v16 v94 v95 v174 H k2
noncomputable def j_jitkeep2_RoomsHold_3 (v5 v10 v12 v16 v18 v94 v95 v96 : AV) (H : Heap) (k2 : AV → AV → Heap → Option (AV × Heap)) : Option (AV × Heap) :=
(fieldAddrAV 0 v18).bind fun v115 =>
(loadAV H (some 8) v115).bind fun v116 =>
(pureCall prog (R prog) f_slices_Contains_api_Ride_api_Ride [v10, v116] H).bind fun v117 =>
(unAV .not v117).bind fun v118 =>
 condK v118 (
 j_jitkeep2_RoomsHold_2 v5 v10 v12 v16 v94 v95 v96 H k2) (
(binAV H .add (.one .int) v16 (.int .i64 1)).bind fun v120 =>
(fieldAddrAV 0 v18).bind fun v122 =>
(loadAV H (some 8) v122).bind fun v123 =>
(pureCall prog (R prog) f_jitkeep2_roomOf [v5, v123] H).bind fun v124 =>
(fieldAddrAV 0 v18).bind fun v125 =>
(fieldAddrAV 6 v125).bind fun v126 =>
(loadAV H none v126).bind fun v127 =>
(fieldAddrAV 0 v18).bind fun v128 =>
(fieldAddrAV 7 v128).bind fun v129 =>
(loadAV H none v129).bind fun v130 =>
(binAV H .add (.one .int) v127 v130).bind fun v131 =>
(fieldAddrAV 8 v18).bind fun v132 =>
(loadAV H none v132).bind fun v133 =>
(binAV H .eql (.one .int) v133 (.int .i64 2)).bind fun v134 =>
 gB v134 (
(binAV H .geq (.one .int) v124 (.int .i64 0)).bind fun v137 =>
 gB v137 (
(indexV H 1 v12 v124).bind fun v142 =>
(loadAV H none v142).bind fun v143 =>
(binAV H .add (.one .int) v143 v131).bind fun v145 =>
(indexV H 3 v5 v124).bind fun v148 =>
(fieldAddrAV 2 v148).bind fun v149 =>
(loadAV H none v149).bind fun v150 =>
(binAV H .leq (.one .int) v145 v150).bind fun v151 =>
 gB v151 (
 some ((.bool false), H)) (
(fieldAddrAV 8 v18).bind fun v154 =>
(loadAV H none v154).bind fun v155 =>
(binAV H .eql (.one .int) v155 (.int .i64 1)).bind fun v156 =>
 gB v156 (
(binAV H .lss (.one .int) v124 (.int .i64 0)).bind fun v159 =>
 gB v159 (
 some ((.bool false), H)) (
(indexV H 1 v12 v124).bind fun v163 =>
(loadAV H none v163).bind fun v164 =>
(indexV H 3 v5 v124).bind fun v167 =>
(fieldAddrAV 2 v167).bind fun v168 =>
(loadAV H none v168).bind fun v169 =>
(binAV H .gtr (.one .int) v164 v169).bind fun v170 =>
 condK v170 (
 some ((.bool false), H)) (
 j_jitkeep2_RoomsHold_2 v5 v10 v12 v120 v94 v95 v96 H k2))) (
 j_jitkeep2_RoomsHold_2 v5 v10 v12 v120 v94 v95 v96 H k2))) (
(fieldAddrAV 8 v18).bind fun v154_1 =>
(loadAV H none v154_1).bind fun v155_1 =>
(binAV H .eql (.one .int) v155_1 (.int .i64 1)).bind fun v156_1 =>
 gB v156_1 (
(binAV H .lss (.one .int) v124 (.int .i64 0)).bind fun v159_1 =>
 gB v159_1 (
 some ((.bool false), H)) (
(indexV H 1 v12 v124).bind fun v163_1 =>
(loadAV H none v163_1).bind fun v164_1 =>
(indexV H 3 v5 v124).bind fun v167_1 =>
(fieldAddrAV 2 v167_1).bind fun v168_1 =>
(loadAV H none v168_1).bind fun v169_1 =>
(binAV H .gtr (.one .int) v164_1 v169_1).bind fun v170_1 =>
 condK v170_1 (
 some ((.bool false), H)) (
 j_jitkeep2_RoomsHold_2 v5 v10 v12 v120 v94 v95 v96 H k2))) (
 j_jitkeep2_RoomsHold_2 v5 v10 v12 v120 v94 v95 v96 H k2))) (
(fieldAddrAV 8 v18).bind fun v154_2 =>
(loadAV H none v154_2).bind fun v155_2 =>
(binAV H .eql (.one .int) v155_2 (.int .i64 1)).bind fun v156_2 =>
 gB v156_2 (
(binAV H .lss (.one .int) v124 (.int .i64 0)).bind fun v159_2 =>
 gB v159_2 (
 some ((.bool false), H)) (
(indexV H 1 v12 v124).bind fun v163_2 =>
(loadAV H none v163_2).bind fun v164_2 =>
(indexV H 3 v5 v124).bind fun v167_2 =>
(fieldAddrAV 2 v167_2).bind fun v168_2 =>
(loadAV H none v168_2).bind fun v169_2 =>
(binAV H .gtr (.one .int) v164_2 v169_2).bind fun v170_2 =>
 condK v170_2 (
 some ((.bool false), H)) (
 j_jitkeep2_RoomsHold_2 v5 v10 v12 v120 v94 v95 v96 H k2))) (
 j_jitkeep2_RoomsHold_2 v5 v10 v12 v120 v94 v95 v96 H k2)))
theorem l_jitkeep2_RoomsHold_0_s (v5 v8 v10 v12 v57 v58 v59 : AV) (H : Heap) (k0 : AV → AV → AV → AV → Heap → Option (AV × Heap)) {Q : AV → Heap → Prop} (h : Yl (
(binAV H .lss (.one .int) v59 v58).bind fun v60 =>
 condK v60 (
(indexV H 10 v57 v59).bind fun v61 =>
(loadAV H (some 10) v61).bind fun v62 =>
(boxAV 10 (.agg [(.str []), (.str []), (.str []), (.str []), (.int .i64 0), (.int .i64 0), (.int .i64 0), (.int .i64 0), (.int .i64 0), (.int .i64 0)]) H).bind fun r9 =>
(storeAV r9.2 10 r9.1 v62).bind fun H10 =>
(fieldAddrAV 0 r9.1).bind fun v64 =>
(loadAV H10 (some 8) v64).bind fun v65 =>
(pureCall prog (R prog) f_jitkeep2_roomOf [v5, v65] H10).bind fun v66 =>
(binAV H10 .geq (.one .int) v66 (.int .i64 0)).bind fun v68 =>
 gB v68 (
(fieldAddrAV 8 r9.1).bind fun v70 =>
(loadAV H10 none v70).bind fun v71 =>
(binAV H10 .eql (.one .int) v71 (.int .i64 1)).bind fun v72 =>
 gB v72 (
(fieldAddrAV 0 r9.1).bind fun v76 =>
(loadAV H10 (some 8) v76).bind fun v77 =>
(pureCall prog (R prog) f_slices_Contains_api_Ride_api_Ride [v10, v77] H10).bind fun v78 =>
 j_jitkeep2_RoomsHold_1 v5 v8 v10 v12 r9.1 v66 v57 v58 v59 v78 H10 k0) (
 j_jitkeep2_RoomsHold_1 v5 v8 v10 v12 r9.1 v66 v57 v58 v59 (.bool false) H10 k0)) (
 j_jitkeep2_RoomsHold_1 v5 v8 v10 v12 r9.1 v66 v57 v58 v59 (.bool false) H10 k0)) (
 k0 v5 v8 v10 v12 H)) Q) : Yl (l_jitkeep2_RoomsHold_0 v5 v8 v10 v12 v57 v58 v59 H k0) Q := by
  unfold l_jitkeep2_RoomsHold_0
  exact loop_yl (by kernel_rfl) h
theorem l_jitkeep2_RoomsHold_1_s (v5 v10 v12 v16 v94 v95 v96 : AV) (H : Heap) (k2 : AV → AV → Heap → Option (AV × Heap)) {Q : AV → Heap → Prop} (h : Yl (
(binAV H .lss (.one .int) v96 v95).bind fun v97 =>
 condK v97 (
(indexV H 10 v94 v96).bind fun v98 =>
(loadAV H (some 10) v98).bind fun v99 =>
(boxAV 10 (.agg [(.str []), (.str []), (.str []), (.str []), (.int .i64 0), (.int .i64 0), (.int .i64 0), (.int .i64 0), (.int .i64 0), (.int .i64 0)]) H).bind fun r13 =>
(storeAV r13.2 10 r13.1 v99).bind fun H14 =>
(fieldAddrAV 8 r13.1).bind fun v100 =>
(loadAV H14 none v100).bind fun v101 =>
(binAV H14 .eql (.one .int) v101 (.int .i64 3)).bind fun v102 =>
 gB v102 (
(fieldAddrAV 0 r13.1).bind fun v110 =>
(loadAV H14 (some 8) v110).bind fun v111 =>
(pureCall prog (R prog) f_slices_Contains_api_Ride_api_Ride [v10, v111] H14).bind fun v112 =>
 condK v112 (
 some ((.bool false), H14)) (
 j_jitkeep2_RoomsHold_3 v5 v10 v12 v16 r13.1 v94 v95 v96 H14 k2)) (
(fieldAddrAV 8 r13.1).bind fun v104 =>
(loadAV H14 none v104).bind fun v105 =>
(binAV H14 .eql (.one .int) v105 (.int .i64 4)).bind fun v106 =>
 gB v106 (
(fieldAddrAV 0 r13.1).bind fun v110_1 =>
(loadAV H14 (some 8) v110_1).bind fun v111_1 =>
(pureCall prog (R prog) f_slices_Contains_api_Ride_api_Ride [v10, v111_1] H14).bind fun v112_1 =>
 condK v112_1 (
 some ((.bool false), H14)) (
 j_jitkeep2_RoomsHold_3 v5 v10 v12 v16 r13.1 v94 v95 v96 H14 k2)) (
 j_jitkeep2_RoomsHold_3 v5 v10 v12 v16 r13.1 v94 v95 v96 H14 k2))) (
 k2 v10 v16 H)) Q) : Yl (l_jitkeep2_RoomsHold_1 v5 v10 v12 v16 v94 v95 v96 H k2) Q := by
  unfold l_jitkeep2_RoomsHold_1
  exact loop_yl (by kernel_rfl) h
theorem r_jitkeep2_RoomsHold (v0 : AV) (H : Heap) {Q : AV → Heap → Prop} (h : Yl (
(buildAV [.nilslice, (.int .i64 0)] [(0, 1, v0)]).bind fun v22 =>
(boxAV 2 v22 H).bind fun r1 =>
(cutCall (R prog) f_jitmake_Stream_RightRiders [r1.1] r1.2).bind fun r2 =>
(cutCall (R prog) f_jitmake_Stream_RightRooms [r1.1] r2.2).bind fun r3 =>
(R prog f_jitmake_Stream_Range [r1.1, (.int .i64 0), (.int .i64 18)] r3.2).bind fun r4 =>
(cutCall (R prog) f_jitmake_Stream_RightAsks [r1.1, r4.1] r4.2).bind fun r5 =>
(R prog f_jitmake_Stream_Range [r1.1, (.int .i64 0), (.int .i64 120)] r5.2).bind fun r6 =>
(pureCall prog (R prog) f_request_Standings [r2.1, r3.1, r5.1, r6.1] r6.2).bind fun v39 =>
(extractAV v39 0).bind fun v40 =>
(extractAV v39 1).bind fun v41 =>
(pureCall prog (R prog) f_request_Current [r2.1, r5.1, r6.1] r6.2).bind fun v46 =>
(extractAV v46 0).bind fun v47 =>
(extractAV v46 1).bind fun v48 =>
(litAV 1 [(.int .i64 0), (.int .i64 0)] [(0, v41), (1, v48)] false r6.2).bind fun r7 =>
(pureCall prog (R prog) f_jitkeep2_errs [r7.1] r7.2).bind fun v52 =>
(binAV r7.2 .neq (.one .int) v52 (.int .i64 0)).bind fun v53 =>
 condK v53 (
 some ((.bool false), r7.2)) (
(lenX r7.2 .slice r3.1).bind fun v55 =>
(mkSliceAV 1 8 (.int .i64 0) v55 v55 r7.2).bind fun r8 =>
(lenX r8.2 .slice v40).bind fun v58 =>
 l_jitkeep2_RoomsHold_0 r3.1 v40 v47 r8.1 v40 v58 (.int .i64 0) r8.2 (fun v5 v8 v10 v12 H12 =>
(lenX H12 .slice v8).bind fun v95 =>
 l_jitkeep2_RoomsHold_1 v5 v10 v12 (.int .i64 0) v8 v95 (.int .i64 0) H12 (fun v10_1 v16 H15 =>
(lenX H15 .slice v10_1).bind fun v177 =>
(binAV H15 .eql (.one .int) v16 v177).bind fun v178 =>
 gB v178 (
(pureCall prog (R prog) f_jitkeep2_ready [] H15).bind fun v180 =>
 some (v180, H15)) (
 some ((.bool false), H15)))))) Q) : Yl (R prog f_jitkeep2_RoomsHold [v0] H) Q :=
  R_yl (fn := x6) (by kernel_rfl) rfl (by kernel_rfl) h
noncomputable def l_jitmake_Stream_Asks_0 (v0 v5 v6 v9 v10 : AV) (H : Heap) (k0 : AV → AV → Heap → Option (AV × Heap)) : Option (AV × Heap) :=
  loopK prog (R prog) b10_0 (fun t => bif Nat.beq t 0 then v0 else bif Nat.beq t 5 then v5 else bif Nat.beq t 6 then v6 else bif Nat.beq t 9 then v9 else bif Nat.beq t 10 then v10 else .undef) H (fun i e H => bif Nat.beq i 0 then k0 (e 0) (e 5) H else none) (fun e H => some ((e 4), H))
noncomputable def j_jitmake_Stream_Asks_3 (v0 v5 v6 v7 v9 v10 : AV) (H : Heap) (k0 : AV → AV → Heap → Option (AV × Heap)) : Option (AV × Heap) :=
(R prog f_jitmake_Stream_Flip [v0, (.int .i64 100)] H).bind fun r8 =>
 condK r8.1 (
(cutCall (R prog) f_jitmake_Stream_Odd [v0, (.int .i64 0), (.int .i64 100)] r8.2).bind fun r9 =>
(cutCall (R prog) f_jitmake_Stream_Odd [v0, (.int .i64 1), (.int .i64 4)] r9.2).bind fun r10 =>
(fieldAddrAV 0 v7).bind fun v78 =>
(storeAV r10.2 1 v78 r9.1).bind fun H11 =>
(fieldAddrAV 1 v7).bind fun v79 =>
(storeAV H11 1 v79 r10.1).bind fun H12 =>
(loadAV H12 (some 10) v7).bind fun v81 =>
(litAV 10 [(.agg [(.int .i64 0), (.int .i64 0), (.str []), (.str []), (.str []), (.str []), (.int .i64 0), (.int .i64 0), (.int .i64 0), (.int .i64 0)])] [(0, v81)] false H12).bind fun r13 =>
(appendX r13.2 10 112 v5 r13.1).bind fun r14 =>
(binAV r14.2 .add (.one .int) v10 (.int .i64 1)).bind fun v84 =>
 l_jitmake_Stream_Asks_0 v0 r14.1 v6 v9 v84 r14.2 k0) (
(loadAV r8.2 (some 10) v7).bind fun v81_1 =>
(litAV 10 [(.agg [(.int .i64 0), (.int .i64 0), (.str []), (.str []), (.str []), (.str []), (.int .i64 0), (.int .i64 0), (.int .i64 0), (.int .i64 0)])] [(0, v81_1)] false r8.2).bind fun r15 =>
(appendX r15.2 10 112 v5 r15.1).bind fun r16 =>
(binAV r16.2 .add (.one .int) v10 (.int .i64 1)).bind fun v84_1 =>
 l_jitmake_Stream_Asks_0 v0 r16.1 v6 v9 v84_1 r16.2 k0)
noncomputable def j_jitmake_Stream_Asks_2 (v0 v5 v6 v7 v9 v10 : AV) (H : Heap) (k0 : AV → AV → Heap → Option (AV × Heap)) : Option (AV × Heap) :=
(R prog f_jitmake_Stream_Flip [v0, (.int .i64 60)] H).bind fun r17 =>
 condK r17.1 (
(fieldAddrAV 2 v7).bind fun v68 =>
(loadAV r17.2 (some 8) v68).bind fun v69 =>
(cutCall (R prog) f_jitmake_Stream_SpoiltRide [v0, v69] r17.2).bind fun r18 =>
(fieldAddrAV 2 v7).bind fun v71 =>
(storeAV r18.2 8 v71 r18.1).bind fun H19 =>
 j_jitmake_Stream_Asks_3 v0 v5 v6 v7 v9 v10 H19 k0) (
 j_jitmake_Stream_Asks_3 v0 v5 v6 v7 v9 v10 r17.2 k0)
noncomputable def j_jitmake_Stream_Asks_1 (v0 v5 v6 v7 v9 v10 : AV) (H : Heap) (k0 : AV → AV → Heap → Option (AV × Heap)) : Option (AV × Heap) :=
(fieldAddrAV 1 v7).bind fun v54 =>
(loadAV H none v54).bind fun v55 =>
(binAV H .gtr (.one .int) v55 (.int .i64 2)).bind fun v56 =>
 condK v56 (
(fieldAddrAV 2 v7).bind fun v57 =>
(fieldAddrAV 0 v57).bind fun v58 =>
(loadAV H none v58).bind fun v59 =>
(fieldAddrAV 2 v7).bind fun v60 =>
(fieldAddrAV 1 v60).bind fun v61 =>
(loadAV H none v61).bind fun v62 =>
(buildAV [(.str []), (.str []), (.str []), (.str []), (.int .i64 0), (.int .i64 0), (.int .i64 0), (.int .i64 0)] [(0, 1, v59), (1, 1, v62)]).bind fun v63 =>
(fieldAddrAV 2 v7).bind fun v64 =>
(storeAV H 8 v64 v63).bind fun H20 =>
 j_jitmake_Stream_Asks_2 v0 v5 v6 v7 v9 v10 H20 k0) (
 j_jitmake_Stream_Asks_2 v0 v5 v6 v7 v9 v10 H k0)
noncomputable def j_jitmake_Stream_Asks_4 (v0 v5 v6 v7 v9 v10 v37 : AV) (H : Heap) (k0 : AV → AV → Heap → Option (AV × Heap)) : Option (AV × Heap) :=
 condK v37 (
(lenX H .slice v5).bind fun v41 =>
(R prog f_jitmake_Stream_Next [v0, v41] H).bind fun r21 =>
(indexV r21.2 10 v5 r21.1).bind fun v43 =>
(fieldAddrAV 2 v43).bind fun v44 =>
(loadAV r21.2 (some 8) v44).bind fun v45 =>
(boxAV 8 (.agg [(.str []), (.str []), (.str []), (.str []), (.int .i64 0), (.int .i64 0), (.int .i64 0), (.int .i64 0)]) r21.2).bind fun r22 =>
(storeAV r22.2 8 r22.1 v45).bind fun H23 =>
(fieldAddrAV 0 r22.1).bind fun v46 =>
(loadAV H23 none v46).bind fun v47 =>
(fieldAddrAV 1 r22.1).bind fun v48 =>
(loadAV H23 none v48).bind fun v49 =>
(fieldAddrAV 2 v7).bind fun v50 =>
(fieldAddrAV 0 v50).bind fun v51 =>
(storeAV H23 1 v51 v47).bind fun H24 =>
(fieldAddrAV 2 v7).bind fun v52 =>
(fieldAddrAV 1 v52).bind fun v53 =>
(storeAV H24 1 v53 v49).bind fun H25 =>
 chkK [(v48, v51)] (
 j_jitmake_Stream_Asks_1 v0 v5 v6 v7 v9 v10 H25 k0)) (
 j_jitmake_Stream_Asks_1 v0 v5 v6 v7 v9 v10 H k0)
theorem l_jitmake_Stream_Asks_0_s (v0 v5 v6 v9 v10 : AV) (H : Heap) (k0 : AV → AV → Heap → Option (AV × Heap)) {Q : AV → Heap → Prop} (h : Yl (
(binAV H .lss (.one .int) v10 v9).bind fun v11 =>
 condK v11 (
(litAV 1 [(.int .i64 0), (.int .i64 0), (.int .i64 0), (.int .i64 0), (.int .i64 0), (.int .i64 0)] [(0, (.int .i64 0)), (1, (.int .i64 1)), (2, (.int .i64 2)), (3, (.int .i64 5)), (4, (.int .i64 10)), (5, (.int .i64 20))] false H).bind fun r1 =>
(cutCall (R prog) f_jitmake_Stream_Pick [v0, r1.1] r1.2).bind fun r2 =>
(binAV r2.2 .add (.one .int) v6 r2.1).bind fun v16 =>
(litAV 1 [(.int .i64 0), (.int .i64 0), (.int .i64 0), (.int .i64 0), (.int .i64 0), (.int .i64 0)] [(0, (.int .i64 1)), (1, (.int .i64 1)), (2, (.int .i64 1)), (3, (.int .i64 2)), (4, (.int .i64 3)), (5, (.int .i64 4))] false r2.2).bind fun r3 =>
(cutCall (R prog) f_jitmake_Stream_Pick [v0, r3.1] r3.2).bind fun r4 =>
(cutCall (R prog) f_jitmake_Stream_AskedRide [v0, v16] r4.2).bind fun r5 =>
(buildAV [(.int .i64 0), (.int .i64 0), (.str []), (.str []), (.str []), (.str []), (.int .i64 0), (.int .i64 0), (.int .i64 0), (.int .i64 0)] [(0, 1, v16), (1, 1, r4.1), (2, 8, r5.1)]).bind fun v24 =>
(boxAV 10 (.agg [(.int .i64 0), (.int .i64 0), (.str []), (.str []), (.str []), (.str []), (.int .i64 0), (.int .i64 0), (.int .i64 0), (.int .i64 0)]) r5.2).bind fun r6 =>
(storeAV r6.2 10 r6.1 v24).bind fun H7 =>
(fieldAddrAV 1 r6.1).bind fun v25 =>
(loadAV H7 none v25).bind fun v26 =>
(binAV H7 .neq (.one .int) v26 (.int .i64 1)).bind fun v27 =>
 gB v27 (
(lenX H7 .slice v5).bind fun v30 =>
(binAV H7 .gtr (.one .int) v30 (.int .i64 0)).bind fun v31 =>
 gB v31 (
(R prog f_jitmake_Stream_Flip [v0, (.int .i64 5)] H7).bind fun r26 =>
(unAV .not r26.1).bind fun v36 =>
 j_jitmake_Stream_Asks_4 v0 v5 v16 r6.1 v9 v10 v36 r26.2 k0) (
 j_jitmake_Stream_Asks_4 v0 v5 v16 r6.1 v9 v10 (.bool false) H7 k0)) (
 j_jitmake_Stream_Asks_4 v0 v5 v16 r6.1 v9 v10 (.bool false) H7 k0)) (
 k0 v0 v5 H)) Q) : Yl (l_jitmake_Stream_Asks_0 v0 v5 v6 v9 v10 H k0) Q := by
  unfold l_jitmake_Stream_Asks_0
  exact loop_yl (by kernel_rfl) h
theorem r_jitmake_Stream_Asks (v0 v1 : AV) (H : Heap) {Q : AV → Heap → Prop} (h : Yl (
 l_jitmake_Stream_Asks_0 v0 (.nilslice) (.int .i64 0) v1 (.int .i64 0) H (fun v0_1 v5 H27 =>
(R prog f_slices_SortStableFunc_api_Ask_api_Ask [v5, (.func (.func f_jitref2_AskOrder) [])] H27).bind fun r28 =>
(R prog f_jitmake_Stream_Flip [v0_1, (.int .i64 60)] r28.2).bind fun r29 =>
 condK r29.1 (
 some (v5, r29.2)) (
(R prog f_slices_CompactFunc_api_Ask_api_Ask [v5, (.func (.func f_jitmake_Stream_Asks_1) [])] r29.2).bind fun r30 =>
 some (r30.1, r30.2)))) Q) : Yl (R prog f_jitmake_Stream_Asks [v0, v1] H) Q :=
  R_yl (fn := x10) (by kernel_rfl) rfl (by kernel_rfl) h
theorem r_jitmake_Stream_Range (v0 v1 v2 : AV) (H : Heap) {Q : AV → Heap → Prop} (h : Yl (
(binAV H .lss (.one .int) v2 v1).bind fun v9 =>
 condK v9 (
 some (v1, H)) (
(binAV H .sub (.one .int) v2 v1).bind fun v15 =>
(binAV H .add (.one .int) v15 (.int .i64 1)).bind fun v16 =>
(R prog f_jitmake_Stream_Next [v0, v16] H).bind fun r1 =>
(binAV r1.2 .add (.one .int) v1 r1.1).bind fun v18 =>
 some (v18, r1.2))) Q) : Yl (R prog f_jitmake_Stream_Range [v0, v1, v2] H) Q :=
  R_yl (fn := x11) (by kernel_rfl) rfl (by kernel_rfl) h
theorem r_jitmake_Stream_Pick (v0 v1 : AV) (H : Heap) {Q : AV → Heap → Prop} (h : Yl (
(lenX H .slice v1).bind fun v8 =>
(R prog f_jitmake_Stream_Next [v0, v8] H).bind fun r1 =>
(indexV r1.2 1 v1 r1.1).bind fun v10 =>
(loadAV r1.2 none v10).bind fun v11 =>
 some (v11, r1.2)) Q) : Yl (R prog f_jitmake_Stream_Pick [v0, v1] H) Q :=
  R_yl (fn := x12) (by kernel_rfl) rfl (by kernel_rfl) h
theorem r_jitmake_Stream_Some (v0 v1 : AV) (H : Heap) {Q : AV → Heap → Prop} (h : Yl (
(lenX H .slice v1).bind fun v8 =>
(R prog f_jitmake_Stream_Next [v0, v8] H).bind fun r1 =>
(indexV r1.2 1 v1 r1.1).bind fun v10 =>
(loadAV r1.2 none v10).bind fun v11 =>
 some (v11, r1.2)) Q) : Yl (R prog f_jitmake_Stream_Some [v0, v1] H) Q :=
  R_yl (fn := x13) (by kernel_rfl) rfl (by kernel_rfl) h
noncomputable def l_request_Standings_0 (v11 v31 v32 v33 : AV) (H : Heap) (k0 : AV → Heap → Option (AV × Heap)) : Option (AV × Heap) :=
  loopK prog (R prog) b14_0 (fun t => bif Nat.beq t 11 then v11 else bif Nat.beq t 31 then v31 else bif Nat.beq t 32 then v32 else bif Nat.beq t 33 then v33 else .undef) H (fun i e H => bif Nat.beq i 0 then k0 (e 11) H else none) (fun e H => some (.tuple [(e 8), (e 9)], H))
theorem l_request_Standings_0_s (v11 v31 v32 v33 : AV) (H : Heap) (k0 : AV → Heap → Option (AV × Heap)) {Q : AV → Heap → Prop} (h : Yl (
(binAV H .lss (.one .int) v33 v32).bind fun v34 =>
 condK v34 (
(indexV H 1 v31 v33).bind fun v35 =>
(loadAV H none v35).bind fun v36 =>
(nilCheckAV v36).bind fun v39 =>
(fieldAddrAV 0 v39).bind fun v40 =>
(loadAV H (some 10) v40).bind fun v41 =>
(litAV 10 [(.agg [(.str []), (.str []), (.str []), (.str []), (.int .i64 0), (.int .i64 0), (.int .i64 0), (.int .i64 0), (.int .i64 0), (.int .i64 0)])] [(0, v41)] false H).bind fun r2 =>
(appendX r2.2 10 112 v11 r2.1).bind fun r3 =>
(binAV r3.2 .add (.one .int) v33 (.int .i64 1)).bind fun v44 =>
 l_request_Standings_0 r3.1 v31 v32 v44 r3.2 k0) (
 k0 v11 H)) Q) : Yl (l_request_Standings_0 v11 v31 v32 v33 H k0) Q := by
  unfold l_request_Standings_0
  exact loop_yl (by kernel_rfl) h
theorem r_request_Standings (v0 v1 v2 v3 : AV) (H : Heap) {Q : AV → Heap → Prop} (h : Yl (
(pureCall prog (R prog) f_request_fault [v0, v1, v2] H).bind fun v17 =>
(binAV H .neq (.one .int) v17 (.int .i64 0)).bind fun v19 =>
 condK v19 (
 some (.tuple [(.nilslice), v17], H)) (
(pureCall prog (R prog) f_base_Moment [v3] H).bind fun v22 =>
(unAV .not v22).bind fun v23 =>
 condK v23 (
 some (.tuple [(.nilslice), (.int .i64 1)], H)) (
(R prog f_request_run [v0, v1, v2, v3] H).bind fun r1 =>
(nilCheckAV r1.1).bind fun v29 =>
(fieldAddrAV 3 v29).bind fun v30 =>
(loadAV r1.2 none v30).bind fun v31 =>
(lenX r1.2 .slice v31).bind fun v32 =>
 l_request_Standings_0 (.nilslice) v31 v32 (.int .i64 0) r1.2 (fun v11 H4 =>
(R prog f_slices_SortFunc_api_Standing_api_Standing [v11, (.func (.func f_request_Standings_1) [])] H4).bind fun r5 =>
 some (.tuple [v11, (.int .i64 0)], r5.2))))) Q) : Yl (R prog f_request_Standings [v0, v1, v2, v3] H) Q :=
  R_yl (fn := x14) (by kernel_rfl) rfl (by kernel_rfl) h
noncomputable def l_jitref2_AsksFault_0 (v0 v9 v10 v11 : AV) (H : Heap) (k0 : Heap → Option (AV × Heap)) : Option (AV × Heap) :=
  loopK prog (R prog) b19_0 (fun t => bif Nat.beq t 0 then v0 else bif Nat.beq t 9 then v9 else bif Nat.beq t 10 then v10 else bif Nat.beq t 11 then v11 else .undef) H (fun i e H => bif Nat.beq i 0 then k0 H else none) (fun e H => some ((e 2), H))
noncomputable def j_jitref2_AsksFault_1 (v0 v3 v4 v9 v10 v11 : AV) (H : Heap) (k0 : Heap → Option (AV × Heap)) : Option (AV × Heap) :=
(binAV H .gtr (.one .int) v3 (.int .i64 0)).bind fun v63 =>
 gB v63 (
(binAV H .sub (.one .int) v3 (.int .i64 1)).bind fun v67 =>
(indexV H 10 v0 v67).bind fun v68 =>
(loadAV H (some 10) v68).bind fun v69 =>
(loadAV H (some 10) v4).bind fun v70 =>
(pureCall prog (R prog) f_jitref2_AskOrder [v69, v70] H).bind fun v71 =>
(binAV H .geq (.one .int) v71 (.int .i64 0)).bind fun v72 =>
 condK v72 (
 some ((.int .i64 7), H)) (
(binAV H .add (.one .int) v11 (.int .i64 1)).bind fun v74 =>
 l_jitref2_AsksFault_0 v0 v9 v10 v74 H k0)) (
(binAV H .add (.one .int) v11 (.int .i64 1)).bind fun v74_1 =>
 l_jitref2_AsksFault_0 v0 v9 v10 v74_1 H k0)
noncomputable def j_jitref2_AsksFault_3 (v0 v3 v4 v9 v10 v11 v51 : AV) (H : Heap) (k0 : Heap → Option (AV × Heap)) : Option (AV × Heap) :=
 condK v51 (
 some ((.int .i64 5), H)) (
(fieldAddrAV 2 v4).bind fun v52 =>
(loadAV H (some 8) v52).bind fun v53 =>
(fieldAddrAV 2 v4).bind fun v54 =>
(fieldAddrAV 0 v54).bind fun v55 =>
(loadAV H none v55).bind fun v56 =>
(fieldAddrAV 2 v4).bind fun v57 =>
(fieldAddrAV 1 v57).bind fun v58 =>
(loadAV H none v58).bind fun v59 =>
(buildAV [(.str []), (.str []), (.str []), (.str []), (.int .i64 0), (.int .i64 0), (.int .i64 0), (.int .i64 0)] [(0, 1, v56), (1, 1, v59)]).bind fun v60 =>
(binAV H .neq (.agg [.str, .str, .str, .str, .int, .int, .int, .int]) v53 v60).bind fun v61 =>
 condK v61 (
 some ((.int .i64 3), H)) (
 j_jitref2_AsksFault_1 v0 v3 v4 v9 v10 v11 H k0))
noncomputable def j_jitref2_AsksFault_2 (v0 v3 v4 v9 v10 v11 v33 : AV) (H : Heap) (k0 : Heap → Option (AV × Heap)) : Option (AV × Heap) :=
 condK v33 (
(fieldAddrAV 2 v4).bind fun v34 =>
(loadAV H (some 8) v34).bind fun v35 =>
(pureCall prog (R prog) f_jitref2_RideFault [v35] H).bind fun v36 =>
(binAV H .neq (.one .int) v36 (.int .i64 0)).bind fun v38 =>
 condK v38 (
 some (v36, H)) (
 j_jitref2_AsksFault_1 v0 v3 v4 v9 v10 v11 H k0)) (
(fieldAddrAV 2 v4).bind fun v40 =>
(fieldAddrAV 0 v40).bind fun v41 =>
(loadAV H none v41).bind fun v42 =>
(pureCall prog (R prog) f_jitref2_Key [v42] H).bind fun v43 =>
(unAV .not v43).bind fun v44 =>
 gB v44 (
 j_jitref2_AsksFault_3 v0 v3 v4 v9 v10 v11 (.bool true) H k0) (
(fieldAddrAV 2 v4).bind fun v46 =>
(fieldAddrAV 1 v46).bind fun v47 =>
(loadAV H none v47).bind fun v48 =>
(pureCall prog (R prog) f_jitref2_Key [v48] H).bind fun v49 =>
(unAV .not v49).bind fun v50 =>
 j_jitref2_AsksFault_3 v0 v3 v4 v9 v10 v11 v50 H k0))
theorem l_jitref2_AsksFault_0_s (v0 v9 v10 v11 : AV) (H : Heap) (k0 : Heap → Option (AV × Heap)) {Q : AV → Heap → Prop} (h : Yl (
(binAV H .lss (.one .int) v11 v10).bind fun v12 =>
 condK v12 (
(indexV H 10 v9 v11).bind fun v14 =>
(loadAV H (some 10) v14).bind fun v15 =>
(boxAV 10 (.agg [(.int .i64 0), (.int .i64 0), (.str []), (.str []), (.str []), (.str []), (.int .i64 0), (.int .i64 0), (.int .i64 0), (.int .i64 0)]) H).bind fun r1 =>
(storeAV r1.2 10 r1.1 v15).bind fun H2 =>
(fieldAddrAV 0 r1.1).bind fun v17 =>
(loadAV H2 none v17).bind fun v18 =>
(pureCall prog (R prog) f_jitref2_Moment [v18] H2).bind fun v19 =>
(unAV .not v19).bind fun v20 =>
 condK v20 (
 some ((.int .i64 1), H2)) (
(fieldAddrAV 1 r1.1).bind fun v22 =>
(loadAV H2 none v22).bind fun v23 =>
(pureCall prog (R prog) f_jitref2_in [v23, (.int .i64 1), (.int .i64 4)] H2).bind fun v24 =>
(unAV .not v24).bind fun v25 =>
 condK v25 (
 some ((.int .i64 4), H2)) (
(fieldAddrAV 1 r1.1).bind fun v26 =>
(loadAV H2 none v26).bind fun v27 =>
(binAV H2 .eql (.one .int) v27 (.int .i64 1)).bind fun v28 =>
 gB v28 (
 j_jitref2_AsksFault_2 v0 v11 r1.1 v9 v10 v11 (.bool true) H2 k0) (
(fieldAddrAV 1 r1.1).bind fun v30 =>
(loadAV H2 none v30).bind fun v31 =>
(binAV H2 .eql (.one .int) v31 (.int .i64 2)).bind fun v32 =>
 j_jitref2_AsksFault_2 v0 v11 r1.1 v9 v10 v11 v32 H2 k0)))) (
 k0 H)) Q) : Yl (l_jitref2_AsksFault_0 v0 v9 v10 v11 H k0) Q := by
  unfold l_jitref2_AsksFault_0
  exact loop_yl (by kernel_rfl) h
theorem r_jitref2_AsksFault (v0 : AV) (H : Heap) {Q : AV → Heap → Prop} (h : Yl (
(lenX H .slice v0).bind fun v7 =>
(binAV H .gtr (.one .int) v7 (.int .i64 2000)).bind fun v8 =>
 condK v8 (
 some ((.int .i64 2), H)) (
(lenX H .slice v0).bind fun v10 =>
 l_jitref2_AsksFault_0 v0 v0 v10 (.int .i64 0) H (fun  H3 =>
 some ((.int .i64 0), H3)))) Q) : Yl (R prog f_jitref2_AsksFault [v0] H) Q :=
  R_yl (fn := x19) (by kernel_rfl) rfl (by kernel_rfl) h
theorem r_jitref2_Key (v0 : AV) (H : Heap) {Q : AV → Heap → Prop} (h : Yl (
(lenX H (.one .str) v0).bind fun v4 =>
(pureCall prog (R prog) f_jitref2_in [v4, (.int .i64 1), (.int .i64 40)] H).bind fun v5 =>
 gB v5 (
(sliceStrAV v0 none (some (.int .i64 1))).bind fun v8 =>
(pureCall prog (R prog) f_jitref2_only [v8, (.str [97, 98, 99, 100, 101, 102, 103, 104, 105, 106, 107, 108, 109, 110, 111, 112, 113, 114, 115, 116, 117, 118, 119, 120, 121, 122])] H).bind fun v9 =>
 gB v9 (
(pureCall prog (R prog) f_jitref2_only [v0, (.str [97, 98, 99, 100, 101, 102, 103, 104, 105, 106, 107, 108, 109, 110, 111, 112, 113, 114, 115, 116, 117, 118, 119, 120, 121, 122, 48, 49, 50, 51, 52, 53, 54, 55, 56, 57, 45, 95])] H).bind fun v13 =>
 some (v13, H)) (
 some ((.bool false), H))) (
 some ((.bool false), H))) Q) : Yl (R prog f_jitref2_Key [v0] H) Q :=
  R_yl (fn := x30) (by kernel_rfl) rfl (by kernel_rfl) h
theorem r_jitmake_Stream_Flip (v0 v1 : AV) (H : Heap) {Q : AV → Heap → Prop} (h : Yl (
(R prog f_jitmake_Stream_Next [v0, v1] H).bind fun r1 =>
(binAV r1.2 .eql (.one .int) r1.1 (.int .i64 0)).bind fun v8 =>
 some (v8, r1.2)) Q) : Yl (R prog f_jitmake_Stream_Flip [v0, v1] H) Q :=
  R_yl (fn := x33) (by kernel_rfl) rfl (by kernel_rfl) h
theorem r_jitmake_Stream_Next (v0 v1 : AV) (H : Heap) {Q : AV → Heap → Prop} (h : Yl (
(nilCheckAV v0).bind fun v8 =>
(fieldAddrAV 1 v8).bind fun v9 =>
(loadAV H none v9).bind fun v10 =>
(binAV H .add (.one .int) v10 (.int .i64 1)).bind fun v11 =>
(nilCheckAV v0).bind fun v12 =>
(fieldAddrAV 1 v12).bind fun v13 =>
(storeAV H 1 v13 v11).bind fun H1 =>
(nilCheckAV v0).bind fun v15 =>
(fieldAddrAV 0 v15).bind fun v16 =>
(loadAV H1 none v16).bind fun v17 =>
(lenX H1 .slice v17).bind fun v18 =>
(binAV H1 .eql (.one .int) v18 (.int .i64 0)).bind fun v19 =>
 condK v19 (
(nilCheckAV v0).bind fun v21 =>
(fieldAddrAV 1 v21).bind fun v22 =>
(loadAV H1 none v22).bind fun v23 =>
(binAV H1 .mul (.one .int) v23 (.int .i64 7919)).bind fun v24 =>
(pureCall prog (R prog) f_jitmake_Below [v24, v1] H1).bind fun v26 =>
 some (v26, H1)) (
(nilCheckAV v0).bind fun v28 =>
(fieldAddrAV 1 v28).bind fun v29 =>
(loadAV H1 none v29).bind fun v30 =>
(binAV H1 .sub (.one .int) v30 (.int .i64 1)).bind fun v31 =>
(nilCheckAV v0).bind fun v33 =>
(fieldAddrAV 0 v33).bind fun v34 =>
(loadAV H1 none v34).bind fun v35 =>
(lenX H1 .slice v35).bind fun v36 =>
(binAV H1 .rem (.one .int) v31 v36).bind fun v37 =>
(nilCheckAV v0).bind fun v39 =>
(fieldAddrAV 1 v39).bind fun v40 =>
(loadAV H1 none v40).bind fun v41 =>
(binAV H1 .sub (.one .int) v41 (.int .i64 1)).bind fun v42 =>
(nilCheckAV v0).bind fun v44 =>
(fieldAddrAV 0 v44).bind fun v45 =>
(loadAV H1 none v45).bind fun v46 =>
(lenX H1 .slice v46).bind fun v47 =>
(binAV H1 .quo (.one .int) v42 v47).bind fun v48 =>
(nilCheckAV v0).bind fun v50 =>
(fieldAddrAV 0 v50).bind fun v51 =>
(loadAV H1 none v51).bind fun v52 =>
(indexV H1 1 v52 v37).bind fun v54 =>
(loadAV H1 none v54).bind fun v55 =>
(pureCall prog (R prog) f_jitmake_Below [v55, (.int .i64 1073741824)] H1).bind fun v56 =>
(binAV H1 .add (.one .int) (.int .i64 7919) v37).bind fun v59 =>
(binAV H1 .mul (.one .int) v48 v59).bind fun v60 =>
(binAV H1 .add (.one .int) v56 v60).bind fun v61 =>
(pureCall prog (R prog) f_jitmake_Below [v61, v1] H1).bind fun v63 =>
 some (v63, H1))) Q) : Yl (R prog f_jitmake_Stream_Next [v0, v1] H) Q :=
  R_yl (fn := x35) (by kernel_rfl) rfl (by kernel_rfl) h
noncomputable def l_request_Current_0 (v9 v30 v31 v32 : AV) (H : Heap) (k0 : AV → Heap → Option (AV × Heap)) : Option (AV × Heap) :=
  loopK prog (R prog) b38_0 (fun t => bif Nat.beq t 9 then v9 else bif Nat.beq t 30 then v30 else bif Nat.beq t 31 then v31 else bif Nat.beq t 32 then v32 else .undef) H (fun i e H => bif Nat.beq i 0 then k0 (e 9) H else none) (fun e H => some (.tuple [(e 6), (e 7)], H))
theorem l_request_Current_0_s (v9 v30 v31 v32 : AV) (H : Heap) (k0 : AV → Heap → Option (AV × Heap)) {Q : AV → Heap → Prop} (h : Yl (
(binAV H .lss (.one .int) v32 v31).bind fun v33 =>
 condK v33 (
(indexV H 1 v30 v32).bind fun v34 =>
(loadAV H none v34).bind fun v35 =>
(nilCheckAV v35).bind fun v37 =>
(fieldAddrAV 10 v37).bind fun v38 =>
(loadAV H none v38).bind fun v39 =>
 condK v39 (
(nilCheckAV v35).bind fun v42 =>
(fieldAddrAV 0 v42).bind fun v43 =>
(fieldAddrAV 0 v43).bind fun v44 =>
(loadAV H (some 8) v44).bind fun v45 =>
(litAV 8 [(.agg [(.str []), (.str []), (.str []), (.str []), (.int .i64 0), (.int .i64 0), (.int .i64 0), (.int .i64 0)])] [(0, v45)] false H).bind fun r3 =>
(appendX r3.2 8 96 v9 r3.1).bind fun r4 =>
(binAV r4.2 .add (.one .int) v32 (.int .i64 1)).bind fun v48 =>
 l_request_Current_0 r4.1 v30 v31 v48 r4.2 k0) (
(binAV H .add (.one .int) v32 (.int .i64 1)).bind fun v48_1 =>
 l_request_Current_0 v9 v30 v31 v48_1 H k0)) (
 k0 v9 H)) Q) : Yl (l_request_Current_0 v9 v30 v31 v32 H k0) Q := by
  unfold l_request_Current_0
  exact loop_yl (by kernel_rfl) h
theorem r_request_Current (v0 v1 v2 : AV) (H : Heap) {Q : AV → Heap → Prop} (h : Yl (
(pureCall prog (R prog) f_request_CheckRiders [v0] H).bind fun v13 =>
(pureCall prog (R prog) f_request_CheckAsks [v1] H).bind fun v15 =>
(litAV 1 [(.int .i64 0), (.int .i64 0)] [(0, v13), (1, v15)] false H).bind fun r1 =>
(pureCall prog (R prog) f_base_First [r1.1] r1.2).bind fun v17 =>
(binAV r1.2 .neq (.one .int) v17 (.int .i64 0)).bind fun v19 =>
 condK v19 (
 some (.tuple [(.nilslice), v17], r1.2)) (
(pureCall prog (R prog) f_base_Moment [v2] r1.2).bind fun v22 =>
(unAV .not v22).bind fun v23 =>
 condK v23 (
 some (.tuple [(.nilslice), (.int .i64 1)], r1.2)) (
(R prog f_request_run [v0, (.nilslice), v1, v2] r1.2).bind fun r2 =>
(nilCheckAV r2.1).bind fun v28 =>
(fieldAddrAV 3 v28).bind fun v29 =>
(loadAV r2.2 none v29).bind fun v30 =>
(lenX r2.2 .slice v30).bind fun v31 =>
 l_request_Current_0 (.nilslice) v30 v31 (.int .i64 0) r2.2 (fun v9 H5 =>
(R prog f_slices_SortFunc_api_Ride_api_Ride [v9, (.func (.func f_request_Current_1) [])] H5).bind fun r6 =>
 some (.tuple [v9, (.int .i64 0)], r6.2))))) Q) : Yl (R prog f_request_Current [v0, v1, v2] H) Q :=
  R_yl (fn := x38) (by kernel_rfl) rfl (by kernel_rfl) h
noncomputable def l_request_CheckAsks_0 (v0 v9 v10 v11 : AV) (H : Heap) (k0 : Heap → Option (AV × Heap)) : Option (AV × Heap) :=
  loopK prog (R prog) b39_0 (fun t => bif Nat.beq t 0 then v0 else bif Nat.beq t 9 then v9 else bif Nat.beq t 10 then v10 else bif Nat.beq t 11 then v11 else .undef) H (fun i e H => bif Nat.beq i 0 then k0 H else none) (fun e H => some ((e 2), H))
theorem l_request_CheckAsks_0_s (v0 v9 v10 v11 : AV) (H : Heap) (k0 : Heap → Option (AV × Heap)) {Q : AV → Heap → Prop} (h : Yl (
(binAV H .lss (.one .int) v11 v10).bind fun v12 =>
 condK v12 (
(indexV H 10 v9 v11).bind fun v14 =>
(loadAV H (some 10) v14).bind fun v15 =>
(boxAV 10 (.agg [(.int .i64 0), (.int .i64 0), (.str []), (.str []), (.str []), (.str []), (.int .i64 0), (.int .i64 0), (.int .i64 0), (.int .i64 0)]) H).bind fun r1 =>
(storeAV r1.2 10 r1.1 v15).bind fun H2 =>
(loadAV H2 (some 10) r1.1).bind fun v16 =>
(pureCall prog (R prog) f_request_askFault [v16] H2).bind fun v17 =>
(binAV H2 .neq (.one .int) v17 (.int .i64 0)).bind fun v19 =>
 condK v19 (
 some (v17, H2)) (
(binAV H2 .gtr (.one .int) v11 (.int .i64 0)).bind fun v22 =>
 gB v22 (
(loadAV H2 (some 10) r1.1).bind fun v24 =>
(binAV H2 .sub (.one .int) v11 (.int .i64 1)).bind fun v27 =>
(indexV H2 10 v0 v27).bind fun v28 =>
(loadAV H2 (some 10) v28).bind fun v29 =>
(pureCall prog (R prog) f_request_byAsk [v24, v29] H2).bind fun v30 =>
(binAV H2 .leq (.one .int) v30 (.int .i64 0)).bind fun v31 =>
 condK v31 (
 some ((.int .i64 7), H2)) (
(binAV H2 .add (.one .int) v11 (.int .i64 1)).bind fun v33 =>
 l_request_CheckAsks_0 v0 v9 v10 v33 H2 k0)) (
(binAV H2 .add (.one .int) v11 (.int .i64 1)).bind fun v33_1 =>
 l_request_CheckAsks_0 v0 v9 v10 v33_1 H2 k0))) (
 k0 H)) Q) : Yl (l_request_CheckAsks_0 v0 v9 v10 v11 H k0) Q := by
  unfold l_request_CheckAsks_0
  exact loop_yl (by kernel_rfl) h
theorem r_request_CheckAsks (v0 : AV) (H : Heap) {Q : AV → Heap → Prop} (h : Yl (
(lenX H .slice v0).bind fun v7 =>
(binAV H .gtr (.one .int) v7 (.int .i64 2000)).bind fun v8 =>
 condK v8 (
 some ((.int .i64 2), H)) (
(lenX H .slice v0).bind fun v10 =>
 l_request_CheckAsks_0 v0 v0 v10 (.int .i64 0) H (fun  H3 =>
 some ((.int .i64 0), H3)))) Q) : Yl (R prog f_request_CheckAsks [v0] H) Q :=
  R_yl (fn := x39) (by kernel_rfl) rfl (by kernel_rfl) h
theorem r_jitmake_Stream_RightRiders (v0 : AV) (H : Heap) {Q : AV → Heap → Prop} (h : Yl (
(litAV 1 [(.int .i64 0), (.int .i64 0), (.int .i64 0), (.int .i64 0)] [(0, (.int .i64 1)), (1, (.int .i64 2)), (2, (.int .i64 3)), (3, (.int .i64 9))] false H).bind fun r1 =>
(cutCall (R prog) f_jitmake_Stream_Pick [v0, r1.1] r1.2).bind fun r2 =>
(litAV 1 [(.int .i64 0), (.int .i64 0), (.int .i64 0)] [(0, (.int .i64 2)), (1, (.int .i64 4)), (2, (.int .i64 9))] false r2.2).bind fun r3 =>
(cutCall (R prog) f_jitmake_Stream_Pick [v0, r3.1] r3.2).bind fun r4 =>
(buildAV [(.str []), (.int .i64 0), (.int .i64 0)] [(0, 1, (.str [97, 110, 110])), (1, 1, r2.1), (2, 1, r4.1)]).bind fun v10 =>
(buildAV [(.str []), (.int .i64 0), (.int .i64 0)] [(0, 1, (.str [98, 111, 98])), (1, 1, (.int .i64 9)), (2, 1, (.int .i64 20))]).bind fun v11 =>
(litAV 1 [(.int .i64 0), (.int .i64 0), (.int .i64 0)] [(0, (.int .i64 0)), (1, (.int .i64 1)), (2, (.int .i64 5))] false r4.2).bind fun r5 =>
(cutCall (R prog) f_jitmake_Stream_Pick [v0, r5.1] r5.2).bind fun r6 =>
(buildAV [(.str []), (.int .i64 0), (.int .i64 0)] [(0, 1, (.str [99, 105, 100])), (1, 1, r6.1), (2, 1, (.int .i64 5))]).bind fun v15 =>
(litAV 3 [(.agg [(.str []), (.int .i64 0), (.int .i64 0)]), (.agg [(.str []), (.int .i64 0), (.int .i64 0)]), (.agg [(.str []), (.int .i64 0), (.int .i64 0)])] [(0, v10), (1, v11), (2, v15)] false r6.2).bind fun r7 =>
(litAV 1 [(.int .i64 0), (.int .i64 0), (.int .i64 0), (.int .i64 0)] [(0, (.int .i64 2)), (1, (.int .i64 3)), (2, (.int .i64 3)), (3, (.int .i64 3))] false r7.2).bind fun r8 =>
(cutCall (R prog) f_jitmake_Stream_Pick [v0, r8.1] r8.2).bind fun r9 =>
(sliceSlAV r9.2 3 r7.1 none (some r9.1)).bind fun v21 =>
 some (v21, r9.2)) Q) : Yl (R prog f_jitmake_Stream_RightRiders [v0] H) Q :=
  R_yl (fn := x46) (by kernel_rfl) rfl (by kernel_rfl) h
noncomputable def l_jitmake_Stream_RightRooms_0 (v0 v3 v4 v10 v11 : AV) (H : Heap) (k0 : AV → Heap → Option (AV × Heap)) : Option (AV × Heap) :=
  loopK prog (R prog) b47_0 (fun t => bif Nat.beq t 0 then v0 else bif Nat.beq t 3 then v3 else bif Nat.beq t 4 then v4 else bif Nat.beq t 10 then v10 else bif Nat.beq t 11 then v11 else .undef) H (fun i e H => bif Nat.beq i 0 then k0 (e 3) H else none) (fun e H => some ((e 2), H))
theorem l_jitmake_Stream_RightRooms_0_s (v0 v3 v4 v10 v11 : AV) (H : Heap) (k0 : AV → Heap → Option (AV × Heap)) {Q : AV → Heap → Prop} (h : Yl (
(binAV H .lss (.one .int) v11 v10).bind fun v12 =>
 condK v12 (
(litAV 1 [(.int .i64 0), (.int .i64 0), (.int .i64 0)] [(0, (.int .i64 20)), (1, (.int .i64 40)), (2, (.int .i64 100))] false H).bind fun r4 =>
(cutCall (R prog) f_jitmake_Stream_Pick [v0, r4.1] r4.2).bind fun r5 =>
(binAV r5.2 .add (.one .int) v4 r5.1).bind fun v17 =>
(buildAV [(.int .i64 0), (.int .i64 0)] [(0, 1, v4), (1, 1, v17)]).bind fun v21 =>
(litAV 1 [(.int .i64 0), (.int .i64 0), (.int .i64 0), (.int .i64 0), (.int .i64 0)] [(0, (.int .i64 0)), (1, (.int .i64 1)), (2, (.int .i64 2)), (3, (.int .i64 3)), (4, (.int .i64 5))] false r5.2).bind fun r6 =>
(cutCall (R prog) f_jitmake_Stream_Pick [v0, r6.1] r6.2).bind fun r7 =>
(buildAV [(.int .i64 0), (.int .i64 0), (.int .i64 0)] [(0, 2, v21), (2, 1, r7.1)]).bind fun v25 =>
(litAV 3 [(.agg [(.int .i64 0), (.int .i64 0), (.int .i64 0)])] [(0, v25)] false r7.2).bind fun r8 =>
(appendX r8.2 3 24 v3 r8.1).bind fun r9 =>
(litAV 1 [(.int .i64 0), (.int .i64 0), (.int .i64 0)] [(0, (.int .i64 0)), (1, (.int .i64 0)), (2, (.int .i64 10))] false r9.2).bind fun r10 =>
(cutCall (R prog) f_jitmake_Stream_Pick [v0, r10.1] r10.2).bind fun r11 =>
(binAV r11.2 .add (.one .int) v17 r11.1).bind fun v32 =>
(binAV r11.2 .add (.one .int) v11 (.int .i64 1)).bind fun v33 =>
 l_jitmake_Stream_RightRooms_0 v0 r9.1 v32 v10 v33 r11.2 k0) (
 k0 v3 H)) Q) : Yl (l_jitmake_Stream_RightRooms_0 v0 v3 v4 v10 v11 H k0) Q := by
  unfold l_jitmake_Stream_RightRooms_0
  exact loop_yl (by kernel_rfl) h
theorem r_jitmake_Stream_RightRooms (v0 : AV) (H : Heap) {Q : AV → Heap → Prop} (h : Yl (
(litAV 1 [(.int .i64 0), (.int .i64 0), (.int .i64 0)] [(0, (.int .i64 0)), (1, (.int .i64 0)), (2, (.int .i64 10))] false H).bind fun r1 =>
(cutCall (R prog) f_jitmake_Stream_Pick [v0, r1.1] r1.2).bind fun r2 =>
(R prog f_jitmake_Stream_Range [v0, (.int .i64 0), (.int .i64 3)] r2.2).bind fun r3 =>
 l_jitmake_Stream_RightRooms_0 v0 (.nilslice) r2.1 r3.1 (.int .i64 0) r3.2 (fun v3 H12 =>
 some (v3, H12))) Q) : Yl (R prog f_jitmake_Stream_RightRooms [v0] H) Q :=
  R_yl (fn := x47) (by kernel_rfl) rfl (by kernel_rfl) h
noncomputable def l_jitmake_Stream_RightAsks_0 (v0 v1 v6 : AV) (H : Heap) (k0 : Heap → Option (AV × Heap)) : Option (AV × Heap) :=
  loopK prog (R prog) b48_0 (fun t => bif Nat.beq t 0 then v0 else bif Nat.beq t 1 then v1 else bif Nat.beq t 6 then v6 else .undef) H (fun i e H => bif Nat.beq i 0 then k0 H else none) (fun e H => some ((e 4), H))
theorem l_jitmake_Stream_RightAsks_0_s (v0 v1 v6 : AV) (H : Heap) (k0 : Heap → Option (AV × Heap)) {Q : AV → Heap → Prop} (h : Yl (
(binAV H .lss (.one .int) v6 (.int .i64 5)).bind fun v7 =>
 condK v7 (
(cutCall (R prog) f_jitmake_Stream_Asks [v0, v1] H).bind fun r1 =>
(pureCall prog (R prog) f_jitref2_AsksFault [r1.1] r1.2).bind fun v12 =>
(binAV r1.2 .eql (.one .int) v12 (.int .i64 0)).bind fun v13 =>
 condK v13 (
 some (r1.1, r1.2)) (
(binAV r1.2 .add (.one .int) v6 (.int .i64 1)).bind fun v15 =>
 l_jitmake_Stream_RightAsks_0 v0 v1 v15 r1.2 k0)) (
 k0 H)) Q) : Yl (l_jitmake_Stream_RightAsks_0 v0 v1 v6 H k0) Q := by
  unfold l_jitmake_Stream_RightAsks_0
  exact loop_yl (by kernel_rfl) h
theorem r_jitmake_Stream_RightAsks (v0 v1 : AV) (H : Heap) {Q : AV → Heap → Prop} (h : Yl (
 l_jitmake_Stream_RightAsks_0 v0 v1 (.int .i64 0) H (fun  H2 =>
 some ((.nilslice), H2))) Q) : Yl (R prog f_jitmake_Stream_RightAsks [v0, v1] H) Q :=
  R_yl (fn := x48) (by kernel_rfl) rfl (by kernel_rfl) h
noncomputable def l_jitkeep2_errs_0 (v5 v6 v7 : AV) (H : Heap) (k0 : Heap → Option (AV × Heap)) : Option (AV × Heap) :=
  loopK prog (R prog) b49_0 (fun t => bif Nat.beq t 5 then v5 else bif Nat.beq t 6 then v6 else bif Nat.beq t 7 then v7 else .undef) H (fun i e H => bif Nat.beq i 0 then k0 H else none) (fun e H => some ((e 2), H))
theorem l_jitkeep2_errs_0_s (v5 v6 v7 : AV) (H : Heap) (k0 : Heap → Option (AV × Heap)) {Q : AV → Heap → Prop} (h : Yl (
(binAV H .lss (.one .int) v7 v6).bind fun v8 =>
 condK v8 (
(indexV H 1 v5 v7).bind fun v9 =>
(loadAV H none v9).bind fun v10 =>
(binAV H .neq (.one .int) v10 (.int .i64 0)).bind fun v12 =>
 condK v12 (
 some (v10, H)) (
(binAV H .add (.one .int) v7 (.int .i64 1)).bind fun v14 =>
 l_jitkeep2_errs_0 v5 v6 v14 H k0)) (
 k0 H)) Q) : Yl (l_jitkeep2_errs_0 v5 v6 v7 H k0) Q := by
  unfold l_jitkeep2_errs_0
  exact loop_yl (by kernel_rfl) h
theorem r_jitkeep2_errs (v0 : AV) (H : Heap) {Q : AV → Heap → Prop} (h : Yl (
(lenX H .slice v0).bind fun v6 =>
 l_jitkeep2_errs_0 v0 v6 (.int .i64 0) H (fun  H1 =>
 some ((.int .i64 0), H1))) Q) : Yl (R prog f_jitkeep2_errs [v0] H) Q :=
  R_yl (fn := x49) (by kernel_rfl) rfl (by kernel_rfl) h
theorem r_jitkeep2_roomOf (v0 v1 : AV) (H : Heap) {Q : AV → Heap → Prop} (h : Yl (
(boxAV 8 v1 H).bind fun r1 =>
(pureCall prog (R prog) f_slices_IndexFunc_api_Room_api_Room [v0, (.func (.func f_jitkeep2_roomOf_1) [r1.1])] r1.2).bind fun v7 =>
 some (v7, r1.2)) Q) : Yl (R prog f_jitkeep2_roomOf [v0, v1] H) Q :=
  R_yl (fn := x50) (by kernel_rfl) rfl (by kernel_rfl) h
theorem r_slices_Contains_api_Ride_api_Ride (v0 v1 : AV) (H : Heap) {Q : AV → Heap → Prop} (h : Yl (
(boxAV 8 v1 H).bind fun r1 =>
(loadAV r1.2 (some 8) r1.1).bind fun v6 =>
(pureCall prog (R prog) f_slices_Index_api_Ride_api_Ride [v0, v6] r1.2).bind fun v7 =>
(binAV r1.2 .geq (.one .int) v7 (.int .i64 0)).bind fun v8 =>
 some (v8, r1.2)) Q) : Yl (R prog f_slices_Contains_api_Ride_api_Ride [v0, v1] H) Q :=
  R_yl (fn := x51) (by kernel_rfl) rfl (by kernel_rfl) h
theorem r_jitmake_Stream_Odd (v0 v1 v2 : AV) (H : Heap) {Q : AV → Heap → Prop} (h : Yl (
(R prog f_jitmake_Stream_Flip [v0, (.int .i64 12)] H).bind fun r1 =>
 condK r1.1 (
(binAV r1.2 .sub (.one .int) v1 (.int .i64 1)).bind fun v11 =>
(binAV r1.2 .add (.one .int) v2 (.int .i64 1)).bind fun v13 =>
(litAV 1 [(.int .i64 0), (.int .i64 0), (.int .i64 0), (.int .i64 0), (.int .i64 0), (.int .i64 0)] [(0, v11), (1, v13), (2, v1), (3, v2), (4, (.int .i64 (-1099511627776))), (5, (.int .i64 1099511627776))] false r1.2).bind fun r2 =>
(cutCall (R prog) f_jitmake_Stream_Pick [v0, r2.1] r2.2).bind fun r3 =>
 some (r3.1, r3.2)) (
(R prog f_jitmake_Stream_Range [v0, v1, v2] r1.2).bind fun r4 =>
 some (r4.1, r4.2))) Q) : Yl (R prog f_jitmake_Stream_Odd [v0, v1, v2] H) Q :=
  R_yl (fn := x54) (by kernel_rfl) rfl (by kernel_rfl) h
theorem r_jitmake_Stream_AskedRide (v0 v1 : AV) (H : Heap) {Q : AV → Heap → Prop} (h : Yl (
(boxAV 8 (.agg [(.str []), (.str []), (.str []), (.str []), (.int .i64 0), (.int .i64 0), (.int .i64 0), (.int .i64 0)]) H).bind fun r1 =>
(litAV 1 [(.str []), (.str []), (.str []), (.str []), (.str []), (.str [])] [(0, (.str [114, 97])), (1, (.str [114, 98])), (2, (.str [114, 99])), (3, (.str [114, 100])), (4, (.str [114, 101])), (5, (.str [114, 102]))] false r1.2).bind fun r2 =>
(cutCall (R prog) f_jitmake_Stream_Some [v0, r2.1] r2.2).bind fun r3 =>
(litAV 1 [(.str []), (.str []), (.str []), (.str [])] [(0, (.str [97, 110, 110])), (1, (.str [97, 110, 110])), (2, (.str [98, 111, 98])), (3, (.str [99, 105, 100]))] false r3.2).bind fun r4 =>
(cutCall (R prog) f_jitmake_Stream_Some [v0, r4.1] r4.2).bind fun r5 =>
(litAV 1 [(.str []), (.str [])] [(0, (.str [104, 111, 109, 101])), (1, (.str [119, 111, 114, 107]))] false r5.2).bind fun r6 =>
(cutCall (R prog) f_jitmake_Stream_Some [v0, r6.1] r6.2).bind fun r7 =>
(litAV 1 [(.str []), (.str [])] [(0, (.str [99, 108, 117, 98])), (1, (.str [115, 104, 111, 112]))] false r7.2).bind fun r8 =>
(cutCall (R prog) f_jitmake_Stream_Some [v0, r8.1] r8.2).bind fun r9 =>
(litAV 1 [(.int .i64 0), (.int .i64 0), (.int .i64 0), (.int .i64 0), (.int .i64 0)] [(0, (.int .i64 0)), (1, (.int .i64 5)), (2, (.int .i64 10)), (3, (.int .i64 30)), (4, (.int .i64 50))] false r9.2).bind fun r10 =>
(cutCall (R prog) f_jitmake_Stream_Pick [v0, r10.1] r10.2).bind fun r11 =>
(binAV r11.2 .add (.one .int) v1 r11.1).bind fun v22 =>
(litAV 1 [(.int .i64 0), (.int .i64 0), (.int .i64 0), (.int .i64 0)] [(0, (.int .i64 1)), (1, (.int .i64 1)), (2, (.int .i64 2)), (3, (.int .i64 3))] false r11.2).bind fun r12 =>
(cutCall (R prog) f_jitmake_Stream_Pick [v0, r12.1] r12.2).bind fun r13 =>
(litAV 1 [(.int .i64 0), (.int .i64 0), (.int .i64 0), (.int .i64 0)] [(0, (.int .i64 0)), (1, (.int .i64 0)), (2, (.int .i64 0)), (3, (.int .i64 1))] false r13.2).bind fun r14 =>
(cutCall (R prog) f_jitmake_Stream_Pick [v0, r14.1] r14.2).bind fun r15 =>
(buildAV [(.str []), (.str []), (.str []), (.str []), (.int .i64 0), (.int .i64 0), (.int .i64 0), (.int .i64 0)] [(0, 1, r3.1), (1, 1, r5.1), (2, 1, r7.1), (3, 1, r9.1), (4, 1, v22), (6, 1, r13.1), (7, 1, r15.1)]).bind fun v29 =>
(boxAV 8 (.agg [(.str []), (.str []), (.str []), (.str []), (.int .i64 0), (.int .i64 0), (.int .i64 0), (.int .i64 0)]) r15.2).bind fun r16 =>
(storeAV r16.2 8 r16.1 v29).bind fun H17 =>
(fieldAddrAV 4 r16.1).bind fun v30 =>
(loadAV H17 none v30).bind fun v31 =>
(litAV 1 [(.int .i64 0), (.int .i64 0), (.int .i64 0), (.int .i64 0)] [(0, (.int .i64 1)), (1, (.int .i64 10)), (2, (.int .i64 20)), (3, (.int .i64 40))] false H17).bind fun r18 =>
(cutCall (R prog) f_jitmake_Stream_Pick [v0, r18.1] r18.2).bind fun r19 =>
(binAV r19.2 .add (.one .int) v31 r19.1).bind fun v35 =>
(fieldAddrAV 5 r16.1).bind fun v36 =>
(storeAV r19.2 1 v36 v35).bind fun H20 =>
 chkK [(v30, v0)] (
(loadAV H20 (some 8) r16.1).bind fun v37 =>
(storeAV H20 8 r1.1 v37).bind fun H21 =>
(loadAV H21 (some 8) r1.1).bind fun c22 =>
 some (c22, H21))) Q) : Yl (R prog f_jitmake_Stream_AskedRide [v0, v1] H) Q :=
  R_yl (fn := x55) (by kernel_rfl) rfl (by kernel_rfl) h
noncomputable def j_jitmake_Stream_SpoiltRide_1 (v3 v4 : AV) (H : Heap) : Option (AV × Heap) :=
(loadAV H (some 8) v3).bind fun v54 =>
(storeAV H 8 v4 v54).bind fun H3 =>
(loadAV H3 (some 8) v4).bind fun c4 =>
 some (c4, H3)
theorem r_jitmake_Stream_SpoiltRide (v0 v1 : AV) (H : Heap) {Q : AV → Heap → Prop} (h : Yl (
(boxAV 8 v1 H).bind fun r1 =>
(boxAV 8 (.agg [(.str []), (.str []), (.str []), (.str []), (.int .i64 0), (.int .i64 0), (.int .i64 0), (.int .i64 0)]) r1.2).bind fun r2 =>
(R prog f_jitmake_Stream_Next [v0, (.int .i64 6)] r2.2).bind fun r5 =>
(binAV r5.2 .eql (.one .int) r5.1 (.int .i64 0)).bind fun v11 =>
 condK v11 (
(fieldAddrAV 0 r1.1).bind fun v13 =>
(fieldAddrAV 1 r1.1).bind fun v18 =>
(loadAV r5.2 none v13).bind fun v14 =>
(litAV 1 [(.str []), (.str []), (.str [])] [(0, v14), (1, (.str [])), (2, (.str [65]))] false r5.2).bind fun r6 =>
(loadAV r6.2 none v18).bind fun v19 =>
(litAV 1 [(.str []), (.str []), (.str [])] [(0, v19), (1, (.str [66])), (2, (.str []))] false r6.2).bind fun r7 =>
(cutCall (R prog) f_jitmake_Stream_Some [v0, r6.1] r7.2).bind fun r8 =>
(cutCall (R prog) f_jitmake_Stream_Some [v0, r7.1] r8.2).bind fun r9 =>
(fieldAddrAV 0 r1.1).bind fun v22 =>
(storeAV r9.2 1 v22 r8.1).bind fun H10 =>
(fieldAddrAV 1 r1.1).bind fun v23 =>
(storeAV H10 1 v23 r9.1).bind fun H11 =>
 chkK [(v18, v0)] (
 j_jitmake_Stream_SpoiltRide_1 r1.1 r2.1 H11)) (
(binAV r5.2 .eql (.one .int) r5.1 (.int .i64 1)).bind fun v25 =>
 condK v25 (
(litAV 1 [(.str []), (.str []), (.str [])] [(0, (.str [104, 111, 109, 101])), (1, (.str [])), (2, (.str [99, 108, 117, 98]))] false r5.2).bind fun r12 =>
(cutCall (R prog) f_jitmake_Stream_Some [v0, r12.1] r12.2).bind fun r13 =>
(litAV 1 [(.str []), (.str [])] [(0, (.str [99, 108, 117, 98])), (1, (.str [65]))] false r13.2).bind fun r14 =>
(cutCall (R prog) f_jitmake_Stream_Some [v0, r14.1] r14.2).bind fun r15 =>
(fieldAddrAV 2 r1.1).bind fun v32 =>
(storeAV r15.2 1 v32 r13.1).bind fun H16 =>
(fieldAddrAV 3 r1.1).bind fun v33 =>
(storeAV H16 1 v33 r15.1).bind fun H17 =>
 j_jitmake_Stream_SpoiltRide_1 r1.1 r2.1 H17) (
(binAV r5.2 .eql (.one .int) r5.1 (.int .i64 2)).bind fun v35 =>
 condK v35 (
(cutCall (R prog) f_jitmake_Stream_Odd [v0, (.int .i64 0), (.int .i64 100)] r5.2).bind fun r18 =>
(fieldAddrAV 4 r1.1).bind fun v38 =>
(storeAV r18.2 1 v38 r18.1).bind fun H19 =>
 j_jitmake_Stream_SpoiltRide_1 r1.1 r2.1 H19) (
(binAV r5.2 .eql (.one .int) r5.1 (.int .i64 3)).bind fun v40 =>
 condK v40 (
(cutCall (R prog) f_jitmake_Stream_Odd [v0, (.int .i64 0), (.int .i64 200)] r5.2).bind fun r20 =>
(fieldAddrAV 5 r1.1).bind fun v43 =>
(storeAV r20.2 1 v43 r20.1).bind fun H21 =>
 j_jitmake_Stream_SpoiltRide_1 r1.1 r2.1 H21) (
(binAV r5.2 .eql (.one .int) r5.1 (.int .i64 4)).bind fun v45 =>
 condK v45 (
(litAV 1 [(.int .i64 0), (.int .i64 0), (.int .i64 0), (.int .i64 0)] [(0, (.int .i64 0)), (1, (.int .i64 60)), (2, (.int .i64 61)), (3, (.int .i64 (-1)))] false r5.2).bind fun r22 =>
(cutCall (R prog) f_jitmake_Stream_Pick [v0, r22.1] r22.2).bind fun r23 =>
(litAV 1 [(.int .i64 0), (.int .i64 0), (.int .i64 0)] [(0, (.int .i64 0)), (1, (.int .i64 0)), (2, (.int .i64 61))] false r23.2).bind fun r24 =>
(cutCall (R prog) f_jitmake_Stream_Pick [v0, r24.1] r24.2).bind fun r25 =>
(fieldAddrAV 6 r1.1).bind fun v52 =>
(storeAV r25.2 1 v52 r23.1).bind fun H26 =>
(fieldAddrAV 7 r1.1).bind fun v53 =>
(storeAV H26 1 v53 r25.1).bind fun H27 =>
 j_jitmake_Stream_SpoiltRide_1 r1.1 r2.1 H27) (
(cutCall (R prog) f_jitmake_Stream_Odd [v0, (.int .i64 0), (.int .i64 60)] r5.2).bind fun r28 =>
(fieldAddrAV 7 r1.1).bind fun v9 =>
(storeAV r28.2 1 v9 r28.1).bind fun H29 =>
 j_jitmake_Stream_SpoiltRide_1 r1.1 r2.1 H29)))))) Q) : Yl (R prog f_jitmake_Stream_SpoiltRide [v0, v1] H) Q :=
  R_yl (fn := x56) (by kernel_rfl) rfl (by kernel_rfl) h
theorem r_slices_SortStableFunc_api_Ask_api_Ask (v0 v1 : AV) (H : Heap) {Q : AV → Heap → Prop} (h : Yl (
(lenX H .slice v0).bind fun v6 =>
(R prog f_slices_stableCmpFunc_api_Ask [v0, v6, v1] H).bind fun r1 =>
 some (.tuple [], r1.2)) Q) : Yl (R prog f_slices_SortStableFunc_api_Ask_api_Ask [v0, v1] H) Q :=
  R_yl (fn := x57) (by kernel_rfl) rfl (by kernel_rfl) h
theorem r_jitref2_AskOrder (v0 v1 : AV) (H : Heap) {Q : AV → Heap → Prop} (h : Yl (
(boxAV 10 v0 H).bind fun r1 =>
(boxAV 10 v1 r1.2).bind fun r2 =>
(fieldAddrAV 0 r1.1).bind fun v6 =>
(loadAV r2.2 none v6).bind fun v7 =>
(fieldAddrAV 0 r2.1).bind fun v8 =>
(loadAV r2.2 none v8).bind fun v9 =>
(binAV r2.2 .neq (.one .int) v7 v9).bind fun v10 =>
 condK v10 (
(fieldAddrAV 0 r1.1).bind fun v11 =>
(loadAV r2.2 none v11).bind fun v12 =>
(fieldAddrAV 0 r2.1).bind fun v13 =>
(loadAV r2.2 none v13).bind fun v14 =>
(binAV r2.2 .sub (.one .int) v12 v14).bind fun v15 =>
(pureCall prog (R prog) f_jitref2_sign [v15] r2.2).bind fun v16 =>
 some (v16, r2.2)) (
(fieldAddrAV 2 r1.1).bind fun v18 =>
(fieldAddrAV 0 v18).bind fun v19 =>
(loadAV r2.2 none v19).bind fun v20 =>
(fieldAddrAV 2 r2.1).bind fun v21 =>
(fieldAddrAV 0 v21).bind fun v22 =>
(loadAV r2.2 none v22).bind fun v23 =>
(binAV r2.2 .neq (.one .str) v20 v23).bind fun v24 =>
 condK v24 (
(fieldAddrAV 2 r1.1).bind fun v25 =>
(fieldAddrAV 0 v25).bind fun v26 =>
(loadAV r2.2 none v26).bind fun v27 =>
(fieldAddrAV 2 r2.1).bind fun v28 =>
(fieldAddrAV 0 v28).bind fun v29 =>
(loadAV r2.2 none v29).bind fun v30 =>
(pureCall prog (R prog) f_strings_Compare [v27, v30] r2.2).bind fun v31 =>
 some (v31, r2.2)) (
(fieldAddrAV 1 r1.1).bind fun v32 =>
(loadAV r2.2 none v32).bind fun v33 =>
(fieldAddrAV 1 r2.1).bind fun v34 =>
(loadAV r2.2 none v34).bind fun v35 =>
(binAV r2.2 .sub (.one .int) v33 v35).bind fun v36 =>
(pureCall prog (R prog) f_jitref2_sign [v36] r2.2).bind fun v37 =>
 some (v37, r2.2)))) Q) : Yl (R prog f_jitref2_AskOrder [v0, v1] H) Q :=
  R_yl (fn := x58) (by kernel_rfl) rfl (by kernel_rfl) h
noncomputable def l_slices_CompactFunc_api_Ask_api_Ask_1 (v0 v1 v5 : AV) (H : Heap) (k0 : AV → Heap → Option (AV × Heap)) : Option (AV × Heap) :=
  loopK prog (R prog) b59_1 (fun t => bif Nat.beq t 0 then v0 else bif Nat.beq t 1 then v1 else bif Nat.beq t 5 then v5 else .undef) H (fun i e H => bif Nat.beq i 0 then k0 (e 0) H else none) (fun e H => some ((e 4), H))
noncomputable def l_slices_CompactFunc_api_Ask_api_Ask_0 (v0 v1 v5 v6 v7 : AV) (H : Heap) (k2 : AV → AV → Heap → Option (AV × Heap)) : Option (AV × Heap) :=
  loopK prog (R prog) b59_0 (fun t => bif Nat.beq t 0 then v0 else bif Nat.beq t 1 then v1 else bif Nat.beq t 5 then v5 else bif Nat.beq t 6 then v6 else bif Nat.beq t 7 then v7 else .undef) H (fun i e H => bif Nat.beq i 2 then k2 (e 0) (e 5) H else none) (fun e H => some ((e 4), H))
theorem l_slices_CompactFunc_api_Ask_api_Ask_0_s (v0 v1 v5 v6 v7 : AV) (H : Heap) (k2 : AV → AV → Heap → Option (AV × Heap)) {Q : AV → Heap → Prop} (h : Yl (
(lenX H .slice v6).bind fun v34 =>
(binAV H .lss (.one .int) v7 v34).bind fun v35 =>
 condK v35 (
(indexV H 10 v6 v7).bind fun v41 =>
(loadAV H (some 10) v41).bind fun v42 =>
(binAV H .sub (.one .int) v7 (.int .i64 1)).bind fun v45 =>
(indexV H 10 v6 v45).bind fun v46 =>
(loadAV H (some 10) v46).bind fun v47 =>
 callK prog (R prog) v1 [v42, v47] H fun v48 H2 =>
(unAV .not v48).bind fun v49 =>
 condK v49 (
(indexV H2 10 v6 v7).bind fun v54 =>
(loadAV H2 (some 10) v54).bind fun v55 =>
(indexV H2 10 v0 v5).bind fun v56 =>
(storeAV H2 10 v56 v55).bind fun H3 =>
(binAV H3 .add (.one .int) v5 (.int .i64 1)).bind fun v58 =>
(binAV H3 .add (.one .int) v7 (.int .i64 1)).bind fun v37 =>
 l_slices_CompactFunc_api_Ask_api_Ask_0 v0 v1 v58 v6 v37 H3 k2) (
(binAV H2 .add (.one .int) v7 (.int .i64 1)).bind fun v37_1 =>
 l_slices_CompactFunc_api_Ask_api_Ask_0 v0 v1 v5 v6 v37_1 H2 k2)) (
 k2 v0 v5 H)) Q) : Yl (l_slices_CompactFunc_api_Ask_api_Ask_0 v0 v1 v5 v6 v7 H k2) Q := by
  unfold l_slices_CompactFunc_api_Ask_api_Ask_0
  exact loop_yl (by kernel_rfl) h
theorem l_slices_CompactFunc_api_Ask_api_Ask_1_s (v0 v1 v5 : AV) (H : Heap) (k0 : AV → Heap → Option (AV × Heap)) {Q : AV → Heap → Prop} (h : Yl (
(lenX H .slice v0).bind fun v14 =>
(binAV H .lss (.one .int) v5 v14).bind fun v15 =>
 condK v15 (
(indexV H 10 v0 v5).bind fun v21 =>
(loadAV H (some 10) v21).bind fun v22 =>
(binAV H .sub (.one .int) v5 (.int .i64 1)).bind fun v25 =>
(indexV H 10 v0 v25).bind fun v26 =>
(loadAV H (some 10) v26).bind fun v27 =>
 callK prog (R prog) v1 [v22, v27] H fun v28 H1 =>
 condK v28 (
(sliceSlAV H1 10 v0 (some v5) none).bind fun v31 =>
 l_slices_CompactFunc_api_Ask_api_Ask_0 v0 v1 v5 v31 (.int .i64 1) H1 (fun v0_1 v5_1 H4 =>
(sliceSlAV H4 10 v0_1 (some v5_1) none).bind fun v61 =>
(clearAV H4 10 (.agg [(.int .i64 0), (.int .i64 0), (.str []), (.str []), (.str []), (.str []), (.int .i64 0), (.int .i64 0), (.int .i64 0), (.int .i64 0)]) v61).bind fun H5 =>
(sliceSlAV H5 10 v0_1 none (some v5_1)).bind fun v64 =>
 some (v64, H5))) (
(binAV H1 .add (.one .int) v5 (.int .i64 1)).bind fun v17 =>
 l_slices_CompactFunc_api_Ask_api_Ask_1 v0 v1 v17 H1 k0)) (
 k0 v0 H)) Q) : Yl (l_slices_CompactFunc_api_Ask_api_Ask_1 v0 v1 v5 H k0) Q := by
  unfold l_slices_CompactFunc_api_Ask_api_Ask_1
  exact loop_yl (by kernel_rfl) h
theorem r_slices_CompactFunc_api_Ask_api_Ask (v0 v1 : AV) (H : Heap) {Q : AV → Heap → Prop} (h : Yl (
(lenX H .slice v0).bind fun v9 =>
(binAV H .lss (.one .int) v9 (.int .i64 2)).bind fun v10 =>
 condK v10 (
 some (v0, H)) (
 l_slices_CompactFunc_api_Ask_api_Ask_1 v0 v1 (.int .i64 1) H (fun v0_1 H6 =>
 some (v0_1, H6)))) Q) : Yl (R prog f_slices_CompactFunc_api_Ask_api_Ask [v0, v1] H) Q :=
  R_yl (fn := x59) (by kernel_rfl) rfl (by kernel_rfl) h
theorem r_jitmake_Stream_Asks_1 (v0 v1 : AV) (H : Heap) {Q : AV → Heap → Prop} (h : Yl (
(boxAV 10 v0 H).bind fun r1 =>
(boxAV 10 v1 r1.2).bind fun r2 =>
(loadAV r2.2 (some 10) r1.1).bind fun v5 =>
(loadAV r2.2 (some 10) r2.1).bind fun v6 =>
(pureCall prog (R prog) f_jitref2_AskOrder [v5, v6] r2.2).bind fun v7 =>
(binAV r2.2 .eql (.one .int) v7 (.int .i64 0)).bind fun v8 =>
 some (v8, r2.2)) Q) : Yl (R prog f_jitmake_Stream_Asks_1 [v0, v1] H) Q :=
  R_yl (fn := x60) (by kernel_rfl) rfl (by kernel_rfl) h
theorem r_request_fault (v0 v1 v2 : AV) (H : Heap) {Q : AV → Heap → Prop} (h : Yl (
(pureCall prog (R prog) f_request_CheckRiders [v0] H).bind fun v8 =>
(pureCall prog (R prog) f_request_CheckRooms [v1] H).bind fun v10 =>
(pureCall prog (R prog) f_request_CheckAsks [v2] H).bind fun v12 =>
(litAV 1 [(.int .i64 0), (.int .i64 0), (.int .i64 0)] [(0, v8), (1, v10), (2, v12)] false H).bind fun r1 =>
(pureCall prog (R prog) f_base_First [r1.1] r1.2).bind fun v14 =>
 some (v14, r1.2)) Q) : Yl (R prog f_request_fault [v0, v1, v2] H) Q :=
  R_yl (fn := x61) (by kernel_rfl) rfl (by kernel_rfl) h
theorem r_base_Moment (v0 : AV) (H : Heap) {Q : AV → Heap → Prop} (h : Yl (
(pureCall prog (R prog) f_base_Out [v0, (.int .i64 0), (.int .i64 345686399999)] H).bind fun v4 =>
(unAV .not v4).bind fun v5 =>
 some (v5, H)) Q) : Yl (R prog f_base_Moment [v0] H) Q :=
  R_yl (fn := x62) (by kernel_rfl) rfl (by kernel_rfl) h
noncomputable def l_request_run_0 (v3 v9 v15 v16 v17 : AV) (H : Heap) (k0 : AV → AV → Heap → Option (AV × Heap)) : Option (AV × Heap) :=
  loopK prog (R prog) b63_0 (fun t => bif Nat.beq t 3 then v3 else bif Nat.beq t 9 then v9 else bif Nat.beq t 15 then v15 else bif Nat.beq t 16 then v16 else bif Nat.beq t 17 then v17 else .undef) H (fun i e H => bif Nat.beq i 0 then k0 (e 3) (e 9) H else none) (fun e H => some ((e 8), H))
theorem l_request_run_0_s (v3 v9 v15 v16 v17 : AV) (H : Heap) (k0 : AV → AV → Heap → Option (AV × Heap)) {Q : AV → Heap → Prop} (h : Yl (
(binAV H .lss (.one .int) v17 v16).bind fun v18 =>
 condK v18 (
(indexV H 10 v15 v17).bind fun v20 =>
(loadAV H (some 10) v20).bind fun v21 =>
(boxAV 10 (.agg [(.int .i64 0), (.int .i64 0), (.str []), (.str []), (.str []), (.str []), (.int .i64 0), (.int .i64 0), (.int .i64 0), (.int .i64 0)]) H).bind fun r2 =>
(storeAV r2.2 10 r2.1 v21).bind fun H3 =>
(fieldAddrAV 0 r2.1).bind fun v22 =>
(loadAV H3 none v22).bind fun v23 =>
(binAV H3 .gtr (.one .int) v23 v3).bind fun v25 =>
 condK v25 (
 k0 v3 v9 H3) (
(fieldAddrAV 0 r2.1).bind fun v27 =>
(loadAV H3 none v27).bind fun v28 =>
(R prog f_request_desk_over [v9, v28] H3).bind fun r4 =>
(loadAV r4.2 (some 10) r2.1).bind fun v31 =>
(R prog f_request_desk_follow [v9, v31] r4.2).bind fun r5 =>
(unAV .not r5.1).bind fun v33 =>
 condK v33 (
(nilCheckAV v9).bind fun v36 =>
(fieldAddrAV 6 v36).bind fun v37 =>
(loadAV r5.2 none v37).bind fun v38 =>
(litAV 1 [(.int .i64 0)] [(0, v17)] false r5.2).bind fun r6 =>
(appendX r6.2 1 8 v38 r6.1).bind fun r7 =>
(nilCheckAV v9).bind fun v42 =>
(fieldAddrAV 6 v42).bind fun v43 =>
(storeAV r7.2 1 v43 r7.1).bind fun H8 =>
(binAV H8 .add (.one .int) v17 (.int .i64 1)).bind fun v44 =>
 l_request_run_0 v3 v9 v15 v16 v44 H8 k0) (
(binAV r5.2 .add (.one .int) v17 (.int .i64 1)).bind fun v44_1 =>
 l_request_run_0 v3 v9 v15 v16 v44_1 r5.2 k0))) (
 k0 v3 v9 H)) Q) : Yl (l_request_run_0 v3 v9 v15 v16 v17 H k0) Q := by
  unfold l_request_run_0
  exact loop_yl (by kernel_rfl) h
theorem r_request_run (v0 v1 v2 v3 : AV) (H : Heap) {Q : AV → Heap → Prop} (h : Yl (
(R prog f_request_newDesk [v0, v1] H).bind fun r1 =>
(lenX r1.2 .slice v2).bind fun v16 =>
 l_request_run_0 v3 r1.1 v2 v16 (.int .i64 0) r1.2 (fun v3_1 v9 H9 =>
(R prog f_request_desk_over [v9, v3_1] H9).bind fun r10 =>
 some (v9, r10.2))) Q) : Yl (R prog f_request_run [v0, v1, v2, v3] H) Q :=
  R_yl (fn := x63) (by kernel_rfl) rfl (by kernel_rfl) h
theorem r_slices_SortFunc_api_Standing_api_Standing (v0 v1 : AV) (H : Heap) {Q : AV → Heap → Prop} (h : Yl (
(lenX H .slice v0).bind fun v6 =>
(convAV .u64 v6).bind fun v10 =>
(pureCall prog (R prog) f_math_bits_Len [v10] H).bind fun v11 =>
(R prog f_slices_pdqsortCmpFunc_api_Standing [v0, (.int .i64 0), v6, v11, v1] H).bind fun r1 =>
 some (.tuple [], r1.2)) Q) : Yl (R prog f_slices_SortFunc_api_Standing_api_Standing [v0, v1] H) Q :=
  R_yl (fn := x64) (by kernel_rfl) rfl (by kernel_rfl) h
theorem r_request_Standings_1 (v0 v1 : AV) (H : Heap) {Q : AV → Heap → Prop} (h : Yl (
(boxAV 10 v0 H).bind fun r1 =>
(boxAV 10 v1 r1.2).bind fun r2 =>
(fieldAddrAV 0 r1.1).bind fun v5 =>
(fieldAddrAV 0 v5).bind fun v6 =>
(loadAV r2.2 none v6).bind fun v7 =>
(fieldAddrAV 0 r2.1).bind fun v8 =>
(fieldAddrAV 0 v8).bind fun v9 =>
(loadAV r2.2 none v9).bind fun v10 =>
(pureCall prog (R prog) f_strings_Compare [v7, v10] r2.2).bind fun v11 =>
 some (v11, r2.2)) Q) : Yl (R prog f_request_Standings_1 [v0, v1] H) Q :=
  R_yl (fn := x65) (by kernel_rfl) rfl (by kernel_rfl) h
theorem r_strings_Compare (v0 v1 : AV) (H : Heap) {Q : AV → Heap → Prop} (h : Yl (
(R prog f_internal_bytealg_CompareString [v0, v1] H).bind fun r1 =>
 some (r1.1, r1.2)) Q) : Yl (R prog f_strings_Compare [v0, v1] H) Q :=
  R_yl (fn := x66) (by kernel_rfl) rfl (by kernel_rfl) h
noncomputable def l_request_desk_waiting_0 (v0 v1 v5 v11 v12 v13 : AV) (H : Heap) (k0 : AV → Heap → Option (AV × Heap)) : Option (AV × Heap) :=
  loopK prog (R prog) b68_0 (fun t => bif Nat.beq t 0 then v0 else bif Nat.beq t 1 then v1 else bif Nat.beq t 5 then v5 else bif Nat.beq t 11 then v11 else bif Nat.beq t 12 then v12 else bif Nat.beq t 13 then v13 else .undef) H (fun i e H => bif Nat.beq i 0 then k0 (e 5) H else none) (fun e H => some ((e 4), H))
theorem l_request_desk_waiting_0_s (v0 v1 v5 v11 v12 v13 : AV) (H : Heap) (k0 : AV → Heap → Option (AV × Heap)) {Q : AV → Heap → Prop} (h : Yl (
(binAV H .lss (.one .int) v13 v12).bind fun v14 =>
 condK v14 (
(indexV H 1 v11 v13).bind fun v15 =>
(loadAV H none v15).bind fun v16 =>
(nilCheckAV v16).bind fun v18 =>
(fieldAddrAV 10 v18).bind fun v19 =>
(loadAV H none v19).bind fun v20 =>
 gB v20 (
(nilCheckAV v16).bind fun v23 =>
(fieldAddrAV 0 v23).bind fun v24 =>
(fieldAddrAV 8 v24).bind fun v25 =>
(loadAV H none v25).bind fun v26 =>
(binAV H .eql (.one .int) v26 (.int .i64 2)).bind fun v27 =>
 gB v27 (
(nilCheckAV v16).bind fun v32 =>
(fieldAddrAV 0 v32).bind fun v33 =>
(fieldAddrAV 0 v33).bind fun v34 =>
(loadAV H (some 8) v34).bind fun v35 =>
(pureCall prog (R prog) f_request_desk_room [v0, v35] H).bind fun v36 =>
(binAV H .eql (.one .int) v36 v1).bind fun v38 =>
 condK v38 (
(litAV 1 [.nilptr] [(0, v16)] true H).bind fun r1 =>
(appendX r1.2 1 8 v5 r1.1).bind fun r2 =>
(binAV r2.2 .add (.one .int) v13 (.int .i64 1)).bind fun v44 =>
 l_request_desk_waiting_0 v0 v1 r2.1 v11 v12 v44 r2.2 k0) (
(binAV H .add (.one .int) v13 (.int .i64 1)).bind fun v44_1 =>
 l_request_desk_waiting_0 v0 v1 v5 v11 v12 v44_1 H k0)) (
(binAV H .add (.one .int) v13 (.int .i64 1)).bind fun v44_2 =>
 l_request_desk_waiting_0 v0 v1 v5 v11 v12 v44_2 H k0)) (
(binAV H .add (.one .int) v13 (.int .i64 1)).bind fun v44_3 =>
 l_request_desk_waiting_0 v0 v1 v5 v11 v12 v44_3 H k0)) (
 k0 v5 H)) Q) : Yl (l_request_desk_waiting_0 v0 v1 v5 v11 v12 v13 H k0) Q := by
  unfold l_request_desk_waiting_0
  exact loop_yl (by kernel_rfl) h
theorem r_request_desk_waiting (v0 v1 : AV) (H : Heap) {Q : AV → Heap → Prop} (h : Yl (
(nilCheckAV v0).bind fun v9 =>
(fieldAddrAV 3 v9).bind fun v10 =>
(loadAV H none v10).bind fun v11 =>
(lenX H .slice v11).bind fun v12 =>
 l_request_desk_waiting_0 v0 v1 (.nilslice) v11 v12 (.int .i64 0) H (fun v5 H3 =>
(R prog f_slices_SortFunc_request_entry_request_entry [v5, (.func (.func f_request_byWait) [])] H3).bind fun r4 =>
 some (v5, r4.2))) Q) : Yl (R prog f_request_desk_waiting [v0, v1] H) Q :=
  R_yl (fn := x68) (by kernel_rfl) rfl (by kernel_rfl) h
theorem r_request_desk_room (v0 v1 : AV) (H : Heap) {Q : AV → Heap → Prop} (h : Yl (
(boxAV 8 v1 H).bind fun r1 =>
(nilCheckAV v0).bind fun v6 =>
(fieldAddrAV 1 v6).bind fun v7 =>
(loadAV r1.2 none v7).bind fun v8 =>
(pureCall prog (R prog) f_slices_IndexFunc_api_Room_api_Room [v8, (.func (.func f_request_desk_room_1) [r1.1])] r1.2).bind fun v10 =>
 some (v10, r1.2)) Q) : Yl (R prog f_request_desk_room [v0, v1] H) Q :=
  R_yl (fn := x69) (by kernel_rfl) rfl (by kernel_rfl) h
theorem r_jitref2_in (v0 v1 v2 : AV) (H : Heap) {Q : AV → Heap → Prop} (h : Yl (
(binAV H .leq (.one .int) v1 v0).bind fun v9 =>
 gB v9 (
(binAV H .leq (.one .int) v0 v2).bind fun v13 =>
 some (v13, H)) (
 some ((.bool false), H))) Q) : Yl (R prog f_jitref2_in [v0, v1, v2] H) Q :=
  R_yl (fn := x70) (by kernel_rfl) rfl (by kernel_rfl) h
theorem r_jitref2_Moment (v0 : AV) (H : Heap) {Q : AV → Heap → Prop} (h : Yl (
(pureCall prog (R prog) f_jitref2_in [v0, (.int .i64 0), (.int .i64 345686399999)] H).bind fun v4 =>
 some (v4, H)) Q) : Yl (R prog f_jitref2_Moment [v0] H) Q :=
  R_yl (fn := x71) (by kernel_rfl) rfl (by kernel_rfl) h
noncomputable def j_jitref2_RideFault_2 (v1 v32 : AV) (H : Heap) : Option (AV × Heap) :=
 condK v32 (
 some ((.int .i64 1), H)) (
(fieldAddrAV 6 v1).bind fun v59 =>
(loadAV H none v59).bind fun v60 =>
(fieldAddrAV 7 v1).bind fun v61 =>
(loadAV H none v61).bind fun v62 =>
(binAV H .add (.one .int) v60 v62).bind fun v63 =>
(binAV H .eql (.one .int) v63 (.int .i64 0)).bind fun v64 =>
 condK v64 (
 some ((.int .i64 3), H)) (
 some ((.int .i64 0), H)))
noncomputable def j_jitref2_RideFault_1 (v1 v3 : AV) (H : Heap) : Option (AV × Heap) :=
 condK v3 (
 some ((.int .i64 5), H)) (
(fieldAddrAV 2 v1).bind fun v27 =>
(loadAV H none v27).bind fun v28 =>
(fieldAddrAV 3 v1).bind fun v29 =>
(loadAV H none v29).bind fun v30 =>
(binAV H .eql (.one .str) v28 v30).bind fun v31 =>
 condK v31 (
 some ((.int .i64 6), H)) (
(fieldAddrAV 4 v1).bind fun v33 =>
(loadAV H none v33).bind fun v34 =>
(pureCall prog (R prog) f_jitref2_Moment [v34] H).bind fun v35 =>
(unAV .not v35).bind fun v36 =>
 gB v36 (
 j_jitref2_RideFault_2 v1 (.bool true) H) (
(fieldAddrAV 5 v1).bind fun v38 =>
(loadAV H none v38).bind fun v39 =>
(fieldAddrAV 4 v1).bind fun v40 =>
(loadAV H none v40).bind fun v41 =>
(binAV H .add (.one .int) v41 (.int .i64 1)).bind fun v42 =>
(pureCall prog (R prog) f_jitref2_in [v39, v42, (.int .i64 345686400000)] H).bind fun v43 =>
(unAV .not v43).bind fun v44 =>
 gB v44 (
 j_jitref2_RideFault_2 v1 (.bool true) H) (
(fieldAddrAV 6 v1).bind fun v47 =>
(loadAV H none v47).bind fun v48 =>
(pureCall prog (R prog) f_jitref2_in [v48, (.int .i64 0), (.int .i64 60)] H).bind fun v49 =>
(unAV .not v49).bind fun v50 =>
 gB v50 (
 j_jitref2_RideFault_2 v1 (.bool true) H) (
(fieldAddrAV 7 v1).bind fun v53 =>
(loadAV H none v53).bind fun v54 =>
(pureCall prog (R prog) f_jitref2_in [v54, (.int .i64 0), (.int .i64 60)] H).bind fun v55 =>
(unAV .not v55).bind fun v56 =>
 j_jitref2_RideFault_2 v1 v56 H)))))
theorem r_jitref2_RideFault (v0 : AV) (H : Heap) {Q : AV → Heap → Prop} (h : Yl (
(boxAV 8 v0 H).bind fun r1 =>
(fieldAddrAV 0 r1.1).bind fun v4 =>
(loadAV r1.2 none v4).bind fun v5 =>
(pureCall prog (R prog) f_jitref2_Key [v5] r1.2).bind fun v6 =>
(unAV .not v6).bind fun v7 =>
 gB v7 (
 j_jitref2_RideFault_1 r1.1 (.bool true) r1.2) (
(fieldAddrAV 1 r1.1).bind fun v9 =>
(loadAV r1.2 none v9).bind fun v10 =>
(pureCall prog (R prog) f_jitref2_Key [v10] r1.2).bind fun v11 =>
(unAV .not v11).bind fun v12 =>
 gB v12 (
 j_jitref2_RideFault_1 r1.1 (.bool true) r1.2) (
(fieldAddrAV 2 r1.1).bind fun v15 =>
(loadAV r1.2 none v15).bind fun v16 =>
(pureCall prog (R prog) f_jitref2_Key [v16] r1.2).bind fun v17 =>
(unAV .not v17).bind fun v18 =>
 gB v18 (
 j_jitref2_RideFault_1 r1.1 (.bool true) r1.2) (
(fieldAddrAV 3 r1.1).bind fun v21 =>
(loadAV r1.2 none v21).bind fun v22 =>
(pureCall prog (R prog) f_jitref2_Key [v22] r1.2).bind fun v23 =>
(unAV .not v23).bind fun v24 =>
 j_jitref2_RideFault_1 r1.1 v24 r1.2)))) Q) : Yl (R prog f_jitref2_RideFault [v0] H) Q :=
  R_yl (fn := x72) (by kernel_rfl) rfl (by kernel_rfl) h
noncomputable def l_cmp_Or_int_0 (v3 v6 v7 v8 : AV) (H : Heap) (k0 : AV → Heap → Option (AV × Heap)) : Option (AV × Heap) :=
  loopK prog (R prog) b84_0 (fun t => bif Nat.beq t 3 then v3 else bif Nat.beq t 6 then v6 else bif Nat.beq t 7 then v7 else bif Nat.beq t 8 then v8 else .undef) H (fun i e H => bif Nat.beq i 0 then k0 (e 3) H else none) (fun e H => some ((e 2), H))
theorem l_cmp_Or_int_0_s (v3 v6 v7 v8 : AV) (H : Heap) (k0 : AV → Heap → Option (AV × Heap)) {Q : AV → Heap → Prop} (h : Yl (
(binAV H .lss (.one .int) v8 v7).bind fun v9 =>
 condK v9 (
(indexV H 1 v6 v8).bind fun v10 =>
(loadAV H none v10).bind fun v11 =>
(binAV H .neq (.one .int) v11 v3).bind fun v14 =>
 condK v14 (
 some (v11, H)) (
(binAV H .add (.one .int) v8 (.int .i64 1)).bind fun v16 =>
 l_cmp_Or_int_0 v3 v6 v7 v16 H k0)) (
 k0 v3 H)) Q) : Yl (l_cmp_Or_int_0 v3 v6 v7 v8 H k0) Q := by
  unfold l_cmp_Or_int_0
  exact loop_yl (by kernel_rfl) h
theorem r_cmp_Or_int (v0 : AV) (H : Heap) {Q : AV → Heap → Prop} (h : Yl (
(lenX H .slice v0).bind fun v7 =>
 l_cmp_Or_int_0 (.int .i64 0) v0 v7 (.int .i64 0) H (fun v3 H1 =>
 some (v3, H1))) Q) : Yl (R prog f_cmp_Or_int [v0] H) Q :=
  R_yl (fn := x84) (by kernel_rfl) rfl (by kernel_rfl) h
theorem r_cmp_Compare_int (v0 v1 : AV) (H : Heap) {Q : AV → Heap → Prop} (h : Yl (
(pureCall prog (R prog) f_cmp_isNaN_int [v0] H).bind fun v8 =>
(pureCall prog (R prog) f_cmp_isNaN_int [v1] H).bind fun v10 =>
 condK v8 (
 condK v10 (
 some ((.int .i64 0), H)) (
 some ((.int .i64 (-1)), H))) (
 condK v10 (
 some ((.int .i64 1), H)) (
(binAV H .lss (.one .int) v0 v1).bind fun v16 =>
 condK v16 (
 some ((.int .i64 (-1)), H)) (
(binAV H .gtr (.one .int) v0 v1).bind fun v19 =>
 condK v19 (
 some ((.int .i64 1), H)) (
 some ((.int .i64 0), H)))))) Q) : Yl (R prog f_cmp_Compare_int [v0, v1] H) Q :=
  R_yl (fn := x85) (by kernel_rfl) rfl (by kernel_rfl) h
noncomputable def l_base_First_0 (v5 v6 v7 : AV) (H : Heap) (k0 : Heap → Option (AV × Heap)) : Option (AV × Heap) :=
  loopK prog (R prog) b86_0 (fun t => bif Nat.beq t 5 then v5 else bif Nat.beq t 6 then v6 else bif Nat.beq t 7 then v7 else .undef) H (fun i e H => bif Nat.beq i 0 then k0 H else none) (fun e H => some ((e 2), H))
theorem l_base_First_0_s (v5 v6 v7 : AV) (H : Heap) (k0 : Heap → Option (AV × Heap)) {Q : AV → Heap → Prop} (h : Yl (
(binAV H .lss (.one .int) v7 v6).bind fun v8 =>
 condK v8 (
(indexV H 1 v5 v7).bind fun v9 =>
(loadAV H none v9).bind fun v10 =>
(binAV H .neq (.one .int) v10 (.int .i64 0)).bind fun v12 =>
 condK v12 (
 some (v10, H)) (
(binAV H .add (.one .int) v7 (.int .i64 1)).bind fun v14 =>
 l_base_First_0 v5 v6 v14 H k0)) (
 k0 H)) Q) : Yl (l_base_First_0 v5 v6 v7 H k0) Q := by
  unfold l_base_First_0
  exact loop_yl (by kernel_rfl) h
theorem r_base_First (v0 : AV) (H : Heap) {Q : AV → Heap → Prop} (h : Yl (
(lenX H .slice v0).bind fun v6 =>
 l_base_First_0 v0 v6 (.int .i64 0) H (fun  H1 =>
 some ((.int .i64 0), H1))) Q) : Yl (R prog f_base_First [v0] H) Q :=
  R_yl (fn := x86) (by kernel_rfl) rfl (by kernel_rfl) h
noncomputable def l_request_CheckRiders_0 (v0 v8 v9 v10 : AV) (H : Heap) (k0 : Heap → Option (AV × Heap)) : Option (AV × Heap) :=
  loopK prog (R prog) b87_0 (fun t => bif Nat.beq t 0 then v0 else bif Nat.beq t 8 then v8 else bif Nat.beq t 9 then v9 else bif Nat.beq t 10 then v10 else .undef) H (fun i e H => bif Nat.beq i 0 then k0 H else none) (fun e H => some ((e 2), H))
noncomputable def j_request_CheckRiders_1 (v0 v4 v8 v9 v10 v20 : AV) (H : Heap) (k0 : Heap → Option (AV × Heap)) : Option (AV × Heap) :=
 condK v20 (
 some ((.int .i64 7), H)) (
(fieldAddrAV 1 v4).bind fun v35 =>
(loadAV H none v35).bind fun v36 =>
(pureCall prog (R prog) f_base_Out [v36, (.int .i64 0), (.int .i64 1000)] H).bind fun v37 =>
 gB v37 (
 some ((.int .i64 1), H)) (
(fieldAddrAV 2 v4).bind fun v39 =>
(loadAV H none v39).bind fun v40 =>
(pureCall prog (R prog) f_base_Out [v40, (.int .i64 0), (.int .i64 120)] H).bind fun v41 =>
 condK v41 (
 some ((.int .i64 1), H)) (
(binAV H .add (.one .int) v10 (.int .i64 1)).bind fun v43 =>
 l_request_CheckRiders_0 v0 v8 v9 v43 H k0)))
theorem l_request_CheckRiders_0_s (v0 v8 v9 v10 : AV) (H : Heap) (k0 : Heap → Option (AV × Heap)) {Q : AV → Heap → Prop} (h : Yl (
(binAV H .lss (.one .int) v10 v9).bind fun v11 =>
 condK v11 (
(indexV H 3 v8 v10).bind fun v13 =>
(loadAV H (some 3) v13).bind fun v14 =>
(boxAV 3 (.agg [(.str []), (.int .i64 0), (.int .i64 0)]) H).bind fun r1 =>
(storeAV r1.2 3 r1.1 v14).bind fun H2 =>
(fieldAddrAV 0 r1.1).bind fun v16 =>
(loadAV H2 none v16).bind fun v17 =>
(pureCall prog (R prog) f_base_Key [v17] H2).bind fun v18 =>
(unAV .not v18).bind fun v19 =>
 condK v19 (
 some ((.int .i64 5), H2)) (
(binAV H2 .gtr (.one .int) v10 (.int .i64 0)).bind fun v22 =>
 gB v22 (
(fieldAddrAV 0 r1.1).bind fun v24 =>
(loadAV H2 none v24).bind fun v25 =>
(binAV H2 .sub (.one .int) v10 (.int .i64 1)).bind fun v28 =>
(indexV H2 3 v0 v28).bind fun v29 =>
(fieldAddrAV 0 v29).bind fun v30 =>
(loadAV H2 none v30).bind fun v31 =>
(binAV H2 .leq (.one .str) v25 v31).bind fun v32 =>
 j_request_CheckRiders_1 v0 r1.1 v8 v9 v10 v32 H2 k0) (
 j_request_CheckRiders_1 v0 r1.1 v8 v9 v10 (.bool false) H2 k0))) (
 k0 H)) Q) : Yl (l_request_CheckRiders_0 v0 v8 v9 v10 H k0) Q := by
  unfold l_request_CheckRiders_0
  exact loop_yl (by kernel_rfl) h
theorem r_request_CheckRiders (v0 : AV) (H : Heap) {Q : AV → Heap → Prop} (h : Yl (
(lenX H .slice v0).bind fun v6 =>
(binAV H .gtr (.one .int) v6 (.int .i64 500)).bind fun v7 =>
 condK v7 (
 some ((.int .i64 2), H)) (
(lenX H .slice v0).bind fun v9 =>
 l_request_CheckRiders_0 v0 v0 v9 (.int .i64 0) H (fun  H3 =>
 some ((.int .i64 0), H3)))) Q) : Yl (R prog f_request_CheckRiders [v0] H) Q :=
  R_yl (fn := x87) (by kernel_rfl) rfl (by kernel_rfl) h
noncomputable def l_base_Key_0 (v0 v23 v24 : AV) (H : Heap) (k0 : Heap → Option (AV × Heap)) : Option (AV × Heap) :=
  loopK prog (R prog) b88_0 (fun t => bif Nat.beq t 0 then v0 else bif Nat.beq t 23 then v23 else bif Nat.beq t 24 then v24 else .undef) H (fun i e H => bif Nat.beq i 0 then k0 H else none) (fun e H => some ((e 2), H))
noncomputable def j_base_Key_1 (v0 v23 v24 : AV) (H : Heap) (k0 : Heap → Option (AV × Heap)) : Option (AV × Heap) :=
(binAV H .add (.one .int) v24 (.int .i64 1)).bind fun v53 =>
 l_base_Key_0 v0 v23 v53 H k0
theorem l_base_Key_0_s (v0 v23 v24 : AV) (H : Heap) (k0 : Heap → Option (AV × Heap)) {Q : AV → Heap → Prop} (h : Yl (
(binAV H .lss (.one .int) v24 v23).bind fun v25 =>
 condK v25 (
(indexStrAV v0 v24).bind fun v29 =>
(binAV H .geq (.one .int) v29 (.int .u8 97)).bind fun v31 =>
 gB v31 (
(binAV H .leq (.one .int) v29 (.int .u8 122)).bind fun v34 =>
 gB v34 (
(unAV .not (.bool true)).bind fun v52 =>
 condK v52 (
 some ((.bool false), H)) (
 j_base_Key_1 v0 v23 v24 H k0)) (
(binAV H .geq (.one .int) v29 (.int .u8 48)).bind fun v38 =>
 gB v38 (
(binAV H .leq (.one .int) v29 (.int .u8 57)).bind fun v41 =>
 gB v41 (
(unAV .not (.bool true)).bind fun v52_1 =>
 condK v52_1 (
 some ((.bool false), H)) (
 j_base_Key_1 v0 v23 v24 H k0)) (
(binAV H .eql (.one .int) v29 (.int .u8 45)).bind fun v46 =>
 gB v46 (
(unAV .not (.bool true)).bind fun v52_2 =>
 condK v52_2 (
 some ((.bool false), H)) (
 j_base_Key_1 v0 v23 v24 H k0)) (
(binAV H .eql (.one .int) v29 (.int .u8 95)).bind fun v50 =>
(unAV .not v50).bind fun v52_3 =>
 condK v52_3 (
 some ((.bool false), H)) (
 j_base_Key_1 v0 v23 v24 H k0)))) (
(binAV H .eql (.one .int) v29 (.int .u8 45)).bind fun v46_1 =>
 gB v46_1 (
(unAV .not (.bool true)).bind fun v52_4 =>
 condK v52_4 (
 some ((.bool false), H)) (
 j_base_Key_1 v0 v23 v24 H k0)) (
(binAV H .eql (.one .int) v29 (.int .u8 95)).bind fun v50_1 =>
(unAV .not v50_1).bind fun v52_5 =>
 condK v52_5 (
 some ((.bool false), H)) (
 j_base_Key_1 v0 v23 v24 H k0))))) (
(binAV H .geq (.one .int) v29 (.int .u8 48)).bind fun v38_1 =>
 gB v38_1 (
(binAV H .leq (.one .int) v29 (.int .u8 57)).bind fun v41_1 =>
 gB v41_1 (
(unAV .not (.bool true)).bind fun v52_6 =>
 condK v52_6 (
 some ((.bool false), H)) (
 j_base_Key_1 v0 v23 v24 H k0)) (
(binAV H .eql (.one .int) v29 (.int .u8 45)).bind fun v46_2 =>
 gB v46_2 (
(unAV .not (.bool true)).bind fun v52_7 =>
 condK v52_7 (
 some ((.bool false), H)) (
 j_base_Key_1 v0 v23 v24 H k0)) (
(binAV H .eql (.one .int) v29 (.int .u8 95)).bind fun v50_2 =>
(unAV .not v50_2).bind fun v52_8 =>
 condK v52_8 (
 some ((.bool false), H)) (
 j_base_Key_1 v0 v23 v24 H k0)))) (
(binAV H .eql (.one .int) v29 (.int .u8 45)).bind fun v46_3 =>
 gB v46_3 (
(unAV .not (.bool true)).bind fun v52_9 =>
 condK v52_9 (
 some ((.bool false), H)) (
 j_base_Key_1 v0 v23 v24 H k0)) (
(binAV H .eql (.one .int) v29 (.int .u8 95)).bind fun v50_3 =>
(unAV .not v50_3).bind fun v52_10 =>
 condK v52_10 (
 some ((.bool false), H)) (
 j_base_Key_1 v0 v23 v24 H k0))))) (
 k0 H)) Q) : Yl (l_base_Key_0 v0 v23 v24 H k0) Q := by
  unfold l_base_Key_0
  exact loop_yl (by kernel_rfl) h
theorem r_base_Key (v0 : AV) (H : Heap) {Q : AV → Heap → Prop} (h : Yl (
(binAV H .eql (.one .str) v0 (.str [])).bind fun v6 =>
 gB v6 (
 some ((.bool false), H)) (
(lenX H (.one .str) v0).bind fun v9 =>
(binAV H .gtr (.one .int) v9 (.int .i64 40)).bind fun v10 =>
 gB v10 (
 some ((.bool false), H)) (
(indexStrAV v0 (.int .i64 0)).bind fun v14 =>
(binAV H .lss (.one .int) v14 (.int .u8 97)).bind fun v15 =>
 gB v15 (
 some ((.bool false), H)) (
(indexStrAV v0 (.int .i64 0)).bind fun v19 =>
(binAV H .gtr (.one .int) v19 (.int .u8 122)).bind fun v20 =>
 condK v20 (
 some ((.bool false), H)) (
(lenX H (.one .str) v0).bind fun v23 =>
 l_base_Key_0 v0 v23 (.int .i64 0) H (fun  H1 =>
 some ((.bool true), H1))))))) Q) : Yl (R prog f_base_Key [v0] H) Q :=
  R_yl (fn := x88) (by kernel_rfl) rfl (by kernel_rfl) h
theorem r_base_Out (v0 v1 v2 : AV) (H : Heap) {Q : AV → Heap → Prop} (h : Yl (
(binAV H .lss (.one .int) v0 v1).bind fun v9 =>
 gB v9 (
 some ((.bool true), H)) (
(binAV H .gtr (.one .int) v0 v2).bind fun v13 =>
 some (v13, H))) Q) : Yl (R prog f_base_Out [v0, v1, v2] H) Q :=
  R_yl (fn := x89) (by kernel_rfl) rfl (by kernel_rfl) h
noncomputable def l_jitref2_only_0 (v0 v1 v7 v8 : AV) (H : Heap) (k0 : Heap → Option (AV × Heap)) : Option (AV × Heap) :=
  loopK prog (R prog) b90_0 (fun t => bif Nat.beq t 0 then v0 else bif Nat.beq t 1 then v1 else bif Nat.beq t 7 then v7 else bif Nat.beq t 8 then v8 else .undef) H (fun i e H => bif Nat.beq i 0 then k0 H else none) (fun e H => some ((e 4), H))
theorem l_jitref2_only_0_s (v0 v1 v7 v8 : AV) (H : Heap) (k0 : Heap → Option (AV × Heap)) {Q : AV → Heap → Prop} (h : Yl (
(binAV H .lss (.one .int) v8 v7).bind fun v9 =>
 condK v9 (
(indexStrAV v0 v8).bind fun v14 =>
(pureCall prog (R prog) f_strings_IndexByte [v1, v14] H).bind fun v15 =>
(binAV H .lss (.one .int) v15 (.int .i64 0)).bind fun v16 =>
 condK v16 (
 some ((.bool false), H)) (
(binAV H .add (.one .int) v8 (.int .i64 1)).bind fun v17 =>
 l_jitref2_only_0 v0 v1 v7 v17 H k0)) (
 k0 H)) Q) : Yl (l_jitref2_only_0 v0 v1 v7 v8 H k0) Q := by
  unfold l_jitref2_only_0
  exact loop_yl (by kernel_rfl) h
theorem r_jitref2_only (v0 v1 : AV) (H : Heap) {Q : AV → Heap → Prop} (h : Yl (
(lenX H (.one .str) v0).bind fun v7 =>
 l_jitref2_only_0 v0 v1 v7 (.int .i64 0) H (fun  H1 =>
 some ((.bool true), H1))) Q) : Yl (R prog f_jitref2_only [v0, v1] H) Q :=
  R_yl (fn := x90) (by kernel_rfl) rfl (by kernel_rfl) h
theorem r_jitref2_sign (v0 : AV) (H : Heap) {Q : AV → Heap → Prop} (h : Yl (
(binAV H .lss (.one .int) v0 (.int .i64 0)).bind fun v5 =>
 condK v5 (
 some ((.int .i64 (-1)), H)) (
(binAV H .gtr (.one .int) v0 (.int .i64 0)).bind fun v8 =>
 condK v8 (
 some ((.int .i64 1), H)) (
 some ((.int .i64 0), H)))) Q) : Yl (R prog f_jitref2_sign [v0] H) Q :=
  R_yl (fn := x95) (by kernel_rfl) rfl (by kernel_rfl) h
theorem r_jitmake_Below (v0 v1 : AV) (H : Heap) {Q : AV → Heap → Prop} (h : Yl (
(binAV H .lss (.one .int) v1 (.int .i64 1)).bind fun v6 =>
 condK v6 (
 some ((.int .i64 0), H)) (
(binAV H .rem (.one .int) v0 v1).bind fun v9 =>
(binAV H .lss (.one .int) v9 (.int .i64 0)).bind fun v11 =>
 condK v11 (
(binAV H .add (.one .int) v9 v1).bind fun v14 =>
 some (v14, H)) (
 some (v9, H)))) Q) : Yl (R prog f_jitmake_Below [v0, v1] H) Q :=
  R_yl (fn := x97) (by kernel_rfl) rfl (by kernel_rfl) h
theorem r_request_byAsk (v0 v1 : AV) (H : Heap) {Q : AV → Heap → Prop} (h : Yl (
(boxAV 10 v0 H).bind fun r1 =>
(boxAV 10 v1 r1.2).bind fun r2 =>
(fieldAddrAV 0 r1.1).bind fun v5 =>
(loadAV r2.2 none v5).bind fun v6 =>
(fieldAddrAV 0 r2.1).bind fun v7 =>
(loadAV r2.2 none v7).bind fun v8 =>
(pureCall prog (R prog) f_cmp_Compare_int [v6, v8] r2.2).bind fun v9 =>
(fieldAddrAV 2 r1.1).bind fun v10 =>
(fieldAddrAV 0 v10).bind fun v11 =>
(loadAV r2.2 none v11).bind fun v12 =>
(fieldAddrAV 2 r2.1).bind fun v13 =>
(fieldAddrAV 0 v13).bind fun v14 =>
(loadAV r2.2 none v14).bind fun v15 =>
(pureCall prog (R prog) f_strings_Compare [v12, v15] r2.2).bind fun v16 =>
(fieldAddrAV 1 r1.1).bind fun v17 =>
(loadAV r2.2 none v17).bind fun v18 =>
(fieldAddrAV 1 r2.1).bind fun v19 =>
(loadAV r2.2 none v19).bind fun v20 =>
(pureCall prog (R prog) f_cmp_Compare_int [v18, v20] r2.2).bind fun v21 =>
(litAV 1 [(.int .i64 0), (.int .i64 0), (.int .i64 0)] [(0, v9), (1, v16), (2, v21)] false r2.2).bind fun r3 =>
(pureCall prog (R prog) f_cmp_Or_int [r3.1] r3.2).bind fun v23 =>
 some (v23, r3.2)) Q) : Yl (R prog f_request_byAsk [v0, v1] H) Q :=
  R_yl (fn := x99) (by kernel_rfl) rfl (by kernel_rfl) h
theorem r_slices_SortFunc_api_Ride_api_Ride (v0 v1 : AV) (H : Heap) {Q : AV → Heap → Prop} (h : Yl (
(lenX H .slice v0).bind fun v6 =>
(convAV .u64 v6).bind fun v10 =>
(pureCall prog (R prog) f_math_bits_Len [v10] H).bind fun v11 =>
(R prog f_slices_pdqsortCmpFunc_api_Ride [v0, (.int .i64 0), v6, v11, v1] H).bind fun r1 =>
 some (.tuple [], r1.2)) Q) : Yl (R prog f_slices_SortFunc_api_Ride_api_Ride [v0, v1] H) Q :=
  R_yl (fn := x101) (by kernel_rfl) rfl (by kernel_rfl) h
theorem r_request_Current_1 (v0 v1 : AV) (H : Heap) {Q : AV → Heap → Prop} (h : Yl (
(boxAV 8 v0 H).bind fun r1 =>
(boxAV 8 v1 r1.2).bind fun r2 =>
(fieldAddrAV 0 r1.1).bind fun v5 =>
(loadAV r2.2 none v5).bind fun v6 =>
(fieldAddrAV 0 r2.1).bind fun v7 =>
(loadAV r2.2 none v7).bind fun v8 =>
(pureCall prog (R prog) f_strings_Compare [v6, v8] r2.2).bind fun v9 =>
 some (v9, r2.2)) Q) : Yl (R prog f_request_Current_1 [v0, v1] H) Q :=
  R_yl (fn := x102) (by kernel_rfl) rfl (by kernel_rfl) h
noncomputable def j_request_askFault_1 (v1 v12 : AV) (H : Heap) : Option (AV × Heap) :=
 condK v12 (
(fieldAddrAV 2 v1).bind fun v21 =>
(loadAV H (some 8) v21).bind fun v22 =>
(pureCall prog (R prog) f_request_CheckRide [v22] H).bind fun v23 =>
 some (v23, H)) (
(fieldAddrAV 2 v1).bind fun v25 =>
(fieldAddrAV 0 v25).bind fun v26 =>
(loadAV H none v26).bind fun v27 =>
(fieldAddrAV 2 v1).bind fun v28 =>
(fieldAddrAV 1 v28).bind fun v29 =>
(loadAV H none v29).bind fun v30 =>
(litAV 1 [(.str []), (.str [])] [(0, v27), (1, v30)] false H).bind fun r2 =>
(pureCall prog (R prog) f_request_allKeys [r2.1] r2.2).bind fun v32 =>
(unAV .not v32).bind fun v33 =>
 condK v33 (
 some ((.int .i64 5), r2.2)) (
(fieldAddrAV 2 v1).bind fun v35 =>
(loadAV r2.2 (some 8) v35).bind fun v36 =>
(fieldAddrAV 2 v1).bind fun v37 =>
(fieldAddrAV 0 v37).bind fun v38 =>
(loadAV r2.2 none v38).bind fun v39 =>
(fieldAddrAV 2 v1).bind fun v40 =>
(fieldAddrAV 1 v40).bind fun v41 =>
(loadAV r2.2 none v41).bind fun v42 =>
(buildAV [(.str []), (.str []), (.str []), (.str []), (.int .i64 0), (.int .i64 0), (.int .i64 0), (.int .i64 0)] [(0, 1, v39), (1, 1, v42)]).bind fun v43 =>
(binAV r2.2 .neq (.agg [.str, .str, .str, .str, .int, .int, .int, .int]) v36 v43).bind fun v44 =>
 condK v44 (
 some ((.int .i64 3), r2.2)) (
 some ((.int .i64 0), r2.2))))
theorem r_request_askFault (v0 : AV) (H : Heap) {Q : AV → Heap → Prop} (h : Yl (
(boxAV 10 v0 H).bind fun r1 =>
(fieldAddrAV 0 r1.1).bind fun v4 =>
(loadAV r1.2 none v4).bind fun v5 =>
(pureCall prog (R prog) f_base_Moment [v5] r1.2).bind fun v6 =>
(unAV .not v6).bind fun v7 =>
 condK v7 (
 some ((.int .i64 1), r1.2)) (
(fieldAddrAV 1 r1.1).bind fun v9 =>
(loadAV r1.2 none v9).bind fun v10 =>
(pureCall prog (R prog) f_base_Out [v10, (.int .i64 1), (.int .i64 4)] r1.2).bind fun v11 =>
 condK v11 (
 some ((.int .i64 4), r1.2)) (
(fieldAddrAV 1 r1.1).bind fun v13 =>
(loadAV r1.2 none v13).bind fun v14 =>
(binAV r1.2 .eql (.one .int) v14 (.int .i64 1)).bind fun v15 =>
 gB v15 (
 j_request_askFault_1 r1.1 (.bool true) r1.2) (
(fieldAddrAV 1 r1.1).bind fun v17 =>
(loadAV r1.2 none v17).bind fun v18 =>
(binAV r1.2 .eql (.one .int) v18 (.int .i64 2)).bind fun v19 =>
 j_request_askFault_1 r1.1 v19 r1.2)))) Q) : Yl (R prog f_request_askFault [v0] H) Q :=
  R_yl (fn := x103) (by kernel_rfl) rfl (by kernel_rfl) h
noncomputable def l_slices_IndexFunc_api_Room_api_Room_0 (v0 v1 v7 v8 : AV) (H : Heap) (k0 : Heap → Option (AV × Heap)) : Option (AV × Heap) :=
  loopK prog (R prog) b105_0 (fun t => bif Nat.beq t 0 then v0 else bif Nat.beq t 1 then v1 else bif Nat.beq t 7 then v7 else bif Nat.beq t 8 then v8 else .undef) H (fun i e H => bif Nat.beq i 0 then k0 H else none) (fun e H => some ((e 4), H))
theorem l_slices_IndexFunc_api_Room_api_Room_0_s (v0 v1 v7 v8 : AV) (H : Heap) (k0 : Heap → Option (AV × Heap)) {Q : AV → Heap → Prop} (h : Yl (
(binAV H .lss (.one .int) v8 v7).bind fun v9 =>
 condK v9 (
(indexV H 3 v0 v8).bind fun v14 =>
(loadAV H (some 3) v14).bind fun v15 =>
 callK prog (R prog) v1 [v15] H fun v16 H1 =>
 condK v16 (
 some (v8, H1)) (
(binAV H1 .add (.one .int) v8 (.int .i64 1)).bind fun v18 =>
 l_slices_IndexFunc_api_Room_api_Room_0 v0 v1 v7 v18 H1 k0)) (
 k0 H)) Q) : Yl (l_slices_IndexFunc_api_Room_api_Room_0 v0 v1 v7 v8 H k0) Q := by
  unfold l_slices_IndexFunc_api_Room_api_Room_0
  exact loop_yl (by kernel_rfl) h
theorem r_slices_IndexFunc_api_Room_api_Room (v0 v1 : AV) (H : Heap) {Q : AV → Heap → Prop} (h : Yl (
(lenX H .slice v0).bind fun v7 =>
 l_slices_IndexFunc_api_Room_api_Room_0 v0 v1 v7 (.int .i64 0) H (fun  H2 =>
 some ((.int .i64 (-1)), H2))) Q) : Yl (R prog f_slices_IndexFunc_api_Room_api_Room [v0, v1] H) Q :=
  R_yl (fn := x105) (by kernel_rfl) rfl (by kernel_rfl) h
theorem r_jitkeep2_roomOf_1 (v0 v1 : AV) (H : Heap) {Q : AV → Heap → Prop} (h : Yl (
(boxAV 3 v0 H).bind fun r1 =>
(fieldAddrAV 0 r1.1).bind fun v4 =>
(fieldAddrAV 0 v4).bind fun v5 =>
(loadAV r1.2 none v5).bind fun v6 =>
(fieldAddrAV 4 v1).bind fun v7 =>
(loadAV r1.2 none v7).bind fun v8 =>
(binAV r1.2 .leq (.one .int) v6 v8).bind fun v9 =>
 gB v9 (
(fieldAddrAV 4 v1).bind fun v11 =>
(loadAV r1.2 none v11).bind fun v12 =>
(fieldAddrAV 0 r1.1).bind fun v13 =>
(fieldAddrAV 1 v13).bind fun v14 =>
(loadAV r1.2 none v14).bind fun v15 =>
(binAV r1.2 .lss (.one .int) v12 v15).bind fun v16 =>
 some (v16, r1.2)) (
 some ((.bool false), r1.2))) Q) : Yl (R prog f_jitkeep2_roomOf_1 [v0, v1] H) Q :=
  R_yl (fn := x106) (by kernel_rfl) rfl (by kernel_rfl) h
noncomputable def l_slices_Index_api_Ride_api_Ride_0 (v0 v3 v7 v8 : AV) (H : Heap) (k0 : Heap → Option (AV × Heap)) : Option (AV × Heap) :=
  loopK prog (R prog) b107_0 (fun t => bif Nat.beq t 0 then v0 else bif Nat.beq t 3 then v3 else bif Nat.beq t 7 then v7 else bif Nat.beq t 8 then v8 else .undef) H (fun i e H => bif Nat.beq i 0 then k0 H else none) (fun e H => some ((e 4), H))
theorem l_slices_Index_api_Ride_api_Ride_0_s (v0 v3 v7 v8 : AV) (H : Heap) (k0 : Heap → Option (AV × Heap)) {Q : AV → Heap → Prop} (h : Yl (
(binAV H .lss (.one .int) v8 v7).bind fun v9 =>
 condK v9 (
(loadAV H (some 8) v3).bind fun v11 =>
(indexV H 8 v0 v8).bind fun v14 =>
(loadAV H (some 8) v14).bind fun v15 =>
(binAV H .eql (.agg [.str, .str, .str, .str, .int, .int, .int, .int]) v11 v15).bind fun v16 =>
 condK v16 (
 some (v8, H)) (
(binAV H .add (.one .int) v8 (.int .i64 1)).bind fun v18 =>
 l_slices_Index_api_Ride_api_Ride_0 v0 v3 v7 v18 H k0)) (
 k0 H)) Q) : Yl (l_slices_Index_api_Ride_api_Ride_0 v0 v3 v7 v8 H k0) Q := by
  unfold l_slices_Index_api_Ride_api_Ride_0
  exact loop_yl (by kernel_rfl) h
theorem r_slices_Index_api_Ride_api_Ride (v0 v1 : AV) (H : Heap) {Q : AV → Heap → Prop} (h : Yl (
(boxAV 8 v1 H).bind fun r1 =>
(lenX r1.2 .slice v0).bind fun v7 =>
 l_slices_Index_api_Ride_api_Ride_0 v0 r1.1 v7 (.int .i64 0) r1.2 (fun  H2 =>
 some ((.int .i64 (-1)), H2))) Q) : Yl (R prog f_slices_Index_api_Ride_api_Ride [v0, v1] H) Q :=
  R_yl (fn := x107) (by kernel_rfl) rfl (by kernel_rfl) h
noncomputable def l_slices_stableCmpFunc_api_Ask_0 (v0 v1 v2 v6 v7 v8 : AV) (H : Heap) (k0 : AV → AV → AV → AV → AV → Heap → Option (AV × Heap)) : Option (AV × Heap) :=
  loopK prog (R prog) b112_0 (fun t => bif Nat.beq t 0 then v0 else bif Nat.beq t 1 then v1 else bif Nat.beq t 2 then v2 else bif Nat.beq t 6 then v6 else bif Nat.beq t 7 then v7 else bif Nat.beq t 8 then v8 else .undef) H (fun i e H => bif Nat.beq i 0 then k0 (e 0) (e 1) (e 2) (e 6) (e 7) H else none) (fun e H => some (.tuple [], H))
noncomputable def l_slices_stableCmpFunc_api_Ask_2 (v0 v1 v2 v6 : AV) (H : Heap) (k2 : Heap → Option (AV × Heap)) : Option (AV × Heap) :=
  loopK prog (R prog) b112_2 (fun t => bif Nat.beq t 0 then v0 else bif Nat.beq t 1 then v1 else bif Nat.beq t 2 then v2 else bif Nat.beq t 6 then v6 else .undef) H (fun i e H => bif Nat.beq i 2 then k2 H else none) (fun e H => some (.tuple [], H))
noncomputable def l_slices_stableCmpFunc_api_Ask_1 (v0 v1 v2 v6 v7 v8 : AV) (H : Heap) (k4 : AV → AV → AV → AV → AV → Heap → Option (AV × Heap)) : Option (AV × Heap) :=
  loopK prog (R prog) b112_1 (fun t => bif Nat.beq t 0 then v0 else bif Nat.beq t 1 then v1 else bif Nat.beq t 2 then v2 else bif Nat.beq t 6 then v6 else bif Nat.beq t 7 then v7 else bif Nat.beq t 8 then v8 else .undef) H (fun i e H => bif Nat.beq i 4 then k4 (e 0) (e 1) (e 2) (e 6) (e 7) H else none) (fun e H => some (.tuple [], H))
theorem l_slices_stableCmpFunc_api_Ask_0_s (v0 v1 v2 v6 v7 v8 : AV) (H : Heap) (k0 : AV → AV → AV → AV → AV → Heap → Option (AV × Heap)) {Q : AV → Heap → Prop} (h : Yl (
(binAV H .leq (.one .int) v8 v1).bind fun v13 =>
 condK v13 (
(R prog f_slices_insertionSortCmpFunc_api_Ask [v0, v7, v8, v2] H).bind fun r1 =>
(binAV r1.2 .add (.one .int) v8 v6).bind fun v22 =>
 l_slices_stableCmpFunc_api_Ask_0 v0 v1 v2 v6 v8 v22 r1.2 k0) (
 k0 v0 v1 v2 v6 v7 H)) Q) : Yl (l_slices_stableCmpFunc_api_Ask_0 v0 v1 v2 v6 v7 v8 H k0) Q := by
  unfold l_slices_stableCmpFunc_api_Ask_0
  exact loop_yl (by kernel_rfl) h
theorem l_slices_stableCmpFunc_api_Ask_1_s (v0 v1 v2 v6 v7 v8 : AV) (H : Heap) (k4 : AV → AV → AV → AV → AV → Heap → Option (AV × Heap)) {Q : AV → Heap → Prop} (h : Yl (
(binAV H .leq (.one .int) v8 v1).bind fun v35 =>
 condK v35 (
(binAV H .add (.one .int) v7 v6).bind fun v40 =>
(R prog f_slices_symMergeCmpFunc_api_Ask [v0, v7, v40, v8, v2] H).bind fun r4 =>
(binAV r4.2 .mul (.one .int) (.int .i64 2) v6).bind fun v47 =>
(binAV r4.2 .add (.one .int) v8 v47).bind fun v48 =>
 l_slices_stableCmpFunc_api_Ask_1 v0 v1 v2 v6 v8 v48 r4.2 k4) (
 k4 v0 v1 v2 v6 v7 H)) Q) : Yl (l_slices_stableCmpFunc_api_Ask_1 v0 v1 v2 v6 v7 v8 H k4) Q := by
  unfold l_slices_stableCmpFunc_api_Ask_1
  exact loop_yl (by kernel_rfl) h
theorem l_slices_stableCmpFunc_api_Ask_2_s (v0 v1 v2 v6 : AV) (H : Heap) (k2 : Heap → Option (AV × Heap)) {Q : AV → Heap → Prop} (h : Yl (
(binAV H .lss (.one .int) v6 v1).bind fun v30 =>
 condK v30 (
(binAV H .mul (.one .int) (.int .i64 2) v6).bind fun v32 =>
 l_slices_stableCmpFunc_api_Ask_1 v0 v1 v2 v6 (.int .i64 0) v32 H (fun v0_1 v1_1 v2_1 v6_1 v7 H5 =>
(binAV H5 .add (.one .int) v7 v6_1).bind fun v51 =>
(binAV H5 .lss (.one .int) v51 v1_1).bind fun v54 =>
 condK v54 (
(R prog f_slices_symMergeCmpFunc_api_Ask [v0_1, v7, v51, v1_1, v2_1] H5).bind fun r6 =>
(binAV r6.2 .mul (.one .int) v6_1 (.int .i64 2)).bind fun v62 =>
 l_slices_stableCmpFunc_api_Ask_2 v0_1 v1_1 v2_1 v62 r6.2 k2) (
(binAV H5 .mul (.one .int) v6_1 (.int .i64 2)).bind fun v62_1 =>
 l_slices_stableCmpFunc_api_Ask_2 v0_1 v1_1 v2_1 v62_1 H5 k2))) (
 k2 H)) Q) : Yl (l_slices_stableCmpFunc_api_Ask_2 v0 v1 v2 v6 H k2) Q := by
  unfold l_slices_stableCmpFunc_api_Ask_2
  exact loop_yl (by kernel_rfl) h
theorem r_slices_stableCmpFunc_api_Ask (v0 v1 v2 : AV) (H : Heap) {Q : AV → Heap → Prop} (h : Yl (
 l_slices_stableCmpFunc_api_Ask_0 v0 v1 v2 (.int .i64 20) (.int .i64 0) (.int .i64 20) H (fun v0_1 v1_1 v2_1 v6 v7 H2 =>
(R prog f_slices_insertionSortCmpFunc_api_Ask [v0_1, v7, v1_1, v2_1] H2).bind fun r3 =>
 l_slices_stableCmpFunc_api_Ask_2 v0_1 v1_1 v2_1 v6 r3.2 (fun  H7 =>
 some (.tuple [], H7)))) Q) : Yl (R prog f_slices_stableCmpFunc_api_Ask [v0, v1, v2] H) Q :=
  R_yl (fn := x112) (by kernel_rfl) rfl (by kernel_rfl) h
noncomputable def l_request_CheckRooms_0 (v0 v8 v9 v10 : AV) (H : Heap) (k0 : Heap → Option (AV × Heap)) : Option (AV × Heap) :=
  loopK prog (R prog) b113_0 (fun t => bif Nat.beq t 0 then v0 else bif Nat.beq t 8 then v8 else bif Nat.beq t 9 then v9 else bif Nat.beq t 10 then v10 else .undef) H (fun i e H => bif Nat.beq i 0 then k0 H else none) (fun e H => some ((e 2), H))
noncomputable def j_request_CheckRooms_1 (v0 v3 v4 v8 v9 v10 v15 : AV) (H : Heap) (k0 : Heap → Option (AV × Heap)) : Option (AV × Heap) :=
 condK v15 (
 some ((.int .i64 1), H)) (
(binAV H .gtr (.one .int) v3 (.int .i64 0)).bind fun v42 =>
 gB v42 (
(fieldAddrAV 0 v4).bind fun v44 =>
(fieldAddrAV 0 v44).bind fun v45 =>
(loadAV H none v45).bind fun v46 =>
(binAV H .sub (.one .int) v3 (.int .i64 1)).bind fun v49 =>
(indexV H 3 v0 v49).bind fun v50 =>
(fieldAddrAV 0 v50).bind fun v51 =>
(fieldAddrAV 1 v51).bind fun v52 =>
(loadAV H none v52).bind fun v53 =>
(binAV H .lss (.one .int) v46 v53).bind fun v54 =>
 condK v54 (
 some ((.int .i64 7), H)) (
(binAV H .add (.one .int) v10 (.int .i64 1)).bind fun v56 =>
 l_request_CheckRooms_0 v0 v8 v9 v56 H k0)) (
(binAV H .add (.one .int) v10 (.int .i64 1)).bind fun v56_1 =>
 l_request_CheckRooms_0 v0 v8 v9 v56_1 H k0))
theorem l_request_CheckRooms_0_s (v0 v8 v9 v10 : AV) (H : Heap) (k0 : Heap → Option (AV × Heap)) {Q : AV → Heap → Prop} (h : Yl (
(binAV H .lss (.one .int) v10 v9).bind fun v11 =>
 condK v11 (
(indexV H 3 v8 v10).bind fun v13 =>
(loadAV H (some 3) v13).bind fun v14 =>
(boxAV 3 (.agg [(.int .i64 0), (.int .i64 0), (.int .i64 0)]) H).bind fun r1 =>
(storeAV r1.2 3 r1.1 v14).bind fun H2 =>
(fieldAddrAV 0 r1.1).bind fun v16 =>
(fieldAddrAV 0 v16).bind fun v17 =>
(loadAV H2 none v17).bind fun v18 =>
(pureCall prog (R prog) f_base_Out [v18, (.int .i64 0), (.int .i64 345686400000)] H2).bind fun v19 =>
 gB v19 (
 j_request_CheckRooms_1 v0 v10 r1.1 v8 v9 v10 (.bool true) H2 k0) (
(fieldAddrAV 0 r1.1).bind fun v21 =>
(fieldAddrAV 0 v21).bind fun v22 =>
(loadAV H2 none v22).bind fun v23 =>
(fieldAddrAV 0 r1.1).bind fun v24 =>
(fieldAddrAV 1 v24).bind fun v25 =>
(loadAV H2 none v25).bind fun v26 =>
(binAV H2 .geq (.one .int) v23 v26).bind fun v27 =>
 gB v27 (
 j_request_CheckRooms_1 v0 v10 r1.1 v8 v9 v10 (.bool true) H2 k0) (
(fieldAddrAV 0 r1.1).bind fun v30 =>
(fieldAddrAV 1 v30).bind fun v31 =>
(loadAV H2 none v31).bind fun v32 =>
(binAV H2 .gtr (.one .int) v32 (.int .i64 345686400000)).bind fun v33 =>
 gB v33 (
 j_request_CheckRooms_1 v0 v10 r1.1 v8 v9 v10 (.bool true) H2 k0) (
(fieldAddrAV 2 r1.1).bind fun v36 =>
(loadAV H2 none v36).bind fun v37 =>
(pureCall prog (R prog) f_base_Out [v37, (.int .i64 0), (.int .i64 1000000)] H2).bind fun v38 =>
 j_request_CheckRooms_1 v0 v10 r1.1 v8 v9 v10 v38 H2 k0)))) (
 k0 H)) Q) : Yl (l_request_CheckRooms_0 v0 v8 v9 v10 H k0) Q := by
  unfold l_request_CheckRooms_0
  exact loop_yl (by kernel_rfl) h
theorem r_request_CheckRooms (v0 : AV) (H : Heap) {Q : AV → Heap → Prop} (h : Yl (
(lenX H .slice v0).bind fun v6 =>
(binAV H .gtr (.one .int) v6 (.int .i64 200)).bind fun v7 =>
 condK v7 (
 some ((.int .i64 2), H)) (
(lenX H .slice v0).bind fun v9 =>
 l_request_CheckRooms_0 v0 v0 v9 (.int .i64 0) H (fun  H3 =>
 some ((.int .i64 0), H3)))) Q) : Yl (R prog f_request_CheckRooms [v0] H) Q :=
  R_yl (fn := x113) (by kernel_rfl) rfl (by kernel_rfl) h
noncomputable def l_request_newDesk_0 (v5 v16 v17 v18 : AV) (H : Heap) (k0 : AV → Heap → Option (AV × Heap)) : Option (AV × Heap) :=
  loopK prog (R prog) b114_0 (fun t => bif Nat.beq t 5 then v5 else bif Nat.beq t 16 then v16 else bif Nat.beq t 17 then v17 else bif Nat.beq t 18 then v18 else .undef) H (fun i e H => bif Nat.beq i 0 then k0 (e 5) H else none) (fun e H => some ((e 4), H))
theorem l_request_newDesk_0_s (v5 v16 v17 v18 : AV) (H : Heap) (k0 : AV → Heap → Option (AV × Heap)) {Q : AV → Heap → Prop} (h : Yl (
(binAV H .lss (.one .int) v18 v17).bind fun v19 =>
 condK v19 (
(indexV H 3 v16 v18).bind fun v20 =>
(loadAV H (some 3) v20).bind fun v21 =>
(boxAV 3 (.agg [(.str []), (.int .i64 0), (.int .i64 0)]) H).bind fun r5 =>
(storeAV r5.2 3 r5.1 v21).bind fun H6 =>
(nilCheckAV v5).bind fun v23 =>
(fieldAddrAV 0 v23).bind fun v24 =>
(loadAV H6 none v24).bind fun v25 =>
(fieldAddrAV 0 r5.1).bind fun v26 =>
(loadAV H6 none v26).bind fun v27 =>
(loadAV H6 (some 3) r5.1).bind fun v28 =>
(mapUpdateAV H6 (.one .str) v25 v27 v28).bind fun H7 =>
(binAV H7 .add (.one .int) v18 (.int .i64 1)).bind fun v29 =>
 l_request_newDesk_0 v5 v16 v17 v29 H7 k0) (
 k0 v5 H)) Q) : Yl (l_request_newDesk_0 v5 v16 v17 v18 H k0) Q := by
  unfold l_request_newDesk_0
  exact loop_yl (by kernel_rfl) h
theorem r_request_newDesk (v0 v1 : AV) (H : Heap) {Q : AV → Heap → Prop} (h : Yl (
(newMapAV H).bind fun r1 =>
(newMapAV r1.2).bind fun r2 =>
(lenX r2.2 .slice v1).bind fun v12 =>
(mkSliceAV 1 8 (.int .i64 0) v12 v12 r2.2).bind fun r3 =>
(buildAV [.nilmap, .nilslice, .nilmap, .nilslice, .nilslice, .nilslice, .nilslice, .nilslice] [(0, 1, r1.1), (1, 1, v1), (2, 1, r2.1), (4, 1, r3.1)]).bind fun v14 =>
(boxAV 8 v14 r3.2).bind fun r4 =>
(lenX r4.2 .slice v0).bind fun v17 =>
 l_request_newDesk_0 r4.1 v0 v17 (.int .i64 0) r4.2 (fun v5 H8 =>
 some (v5, H8))) Q) : Yl (R prog f_request_newDesk [v0, v1] H) Q :=
  R_yl (fn := x114) (by kernel_rfl) rfl (by kernel_rfl) h
noncomputable def l_request_desk_over_2 (v0 v1 : AV) (H : Heap) : Option (AV × Heap) :=
  loopK prog (R prog) b115_2 (fun t => bif Nat.beq t 0 then v0 else bif Nat.beq t 1 then v1 else .undef) H (fun i e H => none) (fun e H => some (.tuple [], H))
noncomputable def l_request_desk_over_0 (v0 v1 v4 v6 v22 v23 v24 : AV) (H : Heap) (k2 : AV → AV → AV → AV → Heap → Option (AV × Heap)) : Option (AV × Heap) :=
  loopK prog (R prog) b115_0 (fun t => bif Nat.beq t 0 then v0 else bif Nat.beq t 1 then v1 else bif Nat.beq t 4 then v4 else bif Nat.beq t 6 then v6 else bif Nat.beq t 22 then v22 else bif Nat.beq t 23 then v23 else bif Nat.beq t 24 then v24 else .undef) H (fun i e H => bif Nat.beq i 2 then k2 (e 0) (e 1) (e 4) (e 6) H else none) (fun e H => some (.tuple [], H))
noncomputable def l_request_desk_over_1 (v0 v1 v4 v55 v56 v57 : AV) (H : Heap) (k4 : AV → AV → Heap → Option (AV × Heap)) : Option (AV × Heap) :=
  loopK prog (R prog) b115_1 (fun t => bif Nat.beq t 0 then v0 else bif Nat.beq t 1 then v1 else bif Nat.beq t 4 then v4 else bif Nat.beq t 55 then v55 else bif Nat.beq t 56 then v56 else bif Nat.beq t 57 then v57 else .undef) H (fun i e H => bif Nat.beq i 4 then k4 (e 0) (e 1) H else none) (fun e H => some (.tuple [], H))
theorem l_request_desk_over_0_s (v0 v1 v4 v6 v22 v23 v24 : AV) (H : Heap) (k2 : AV → AV → AV → AV → Heap → Option (AV × Heap)) {Q : AV → Heap → Prop} (h : Yl (
(binAV H .lss (.one .int) v24 v23).bind fun v25 =>
 condK v25 (
(indexV H 1 v22 v24).bind fun v26 =>
(loadAV H none v26).bind fun v27 =>
(nilCheckAV v27).bind fun v29 =>
(fieldAddrAV 10 v29).bind fun v30 =>
(loadAV H none v30).bind fun v31 =>
 gB v31 (
(nilCheckAV v27).bind fun v34 =>
(fieldAddrAV 0 v34).bind fun v35 =>
(fieldAddrAV 0 v35).bind fun v36 =>
(fieldAddrAV 5 v36).bind fun v37 =>
(loadAV H none v37).bind fun v38 =>
(binAV H .eql (.one .int) v38 v4).bind fun v40 =>
 condK v40 (
(R prog f_request_desk_leave [v0, v27] H).bind fun r1 =>
(litAV 1 [(.int .i64 0)] [(0, r1.1)] false r1.2).bind fun r2 =>
(appendX r2.2 1 8 v6 r2.1).bind fun r3 =>
(nilCheckAV v27).bind fun v49 =>
(fieldAddrAV 10 v49).bind fun v50 =>
(storeAV r3.2 1 v50 (.bool false)).bind fun H4 =>
(binAV H4 .add (.one .int) v24 (.int .i64 1)).bind fun v51 =>
 l_request_desk_over_0 v0 v1 v4 r3.1 v22 v23 v51 H4 k2) (
(binAV H .add (.one .int) v24 (.int .i64 1)).bind fun v51_1 =>
 l_request_desk_over_0 v0 v1 v4 v6 v22 v23 v51_1 H k2)) (
(binAV H .add (.one .int) v24 (.int .i64 1)).bind fun v51_2 =>
 l_request_desk_over_0 v0 v1 v4 v6 v22 v23 v51_2 H k2)) (
 k2 v0 v1 v4 v6 H)) Q) : Yl (l_request_desk_over_0 v0 v1 v4 v6 v22 v23 v24 H k2) Q := by
  unfold l_request_desk_over_0
  exact loop_yl (by kernel_rfl) h
theorem l_request_desk_over_1_s (v0 v1 v4 v55 v56 v57 : AV) (H : Heap) (k4 : AV → AV → Heap → Option (AV × Heap)) {Q : AV → Heap → Prop} (h : Yl (
(binAV H .lss (.one .int) v57 v56).bind fun v58 =>
 condK v58 (
(indexV H 1 v55 v57).bind fun v59 =>
(loadAV H none v59).bind fun v60 =>
(R prog f_request_desk_moveUp [v0, v60, v4] H).bind fun r8 =>
(binAV r8.2 .add (.one .int) v57 (.int .i64 1)).bind fun v65 =>
 l_request_desk_over_1 v0 v1 v4 v55 v56 v65 r8.2 k4) (
 k4 v0 v1 H)) Q) : Yl (l_request_desk_over_1 v0 v1 v4 v55 v56 v57 H k4) Q := by
  unfold l_request_desk_over_1
  exact loop_yl (by kernel_rfl) h
theorem l_request_desk_over_2_s (v0 v1 : AV) (H : Heap) {Q : AV → Heap → Prop} (h : Yl (
(pureCall prog (R prog) f_request_desk_nextDue [v0, v1] H).bind fun v14 =>
(extractAV v14 0).bind fun v15 =>
(extractAV v14 1).bind fun v16 =>
(unAV .not v16).bind fun v18 =>
 condK v18 (
 some (.tuple [], H)) (
(nilCheckAV v0).bind fun v20 =>
(fieldAddrAV 3 v20).bind fun v21 =>
(loadAV H none v21).bind fun v22 =>
(lenX H .slice v22).bind fun v23 =>
 l_request_desk_over_0 v0 v1 v15 (.nilslice) v22 v23 (.int .i64 0) H (fun v0_1 v1_1 v4 v6 H5 =>
(R prog f_slices_Sort_int_int [v6] H5).bind fun r6 =>
(R prog f_slices_Compact_int_int [v6] r6.2).bind fun r7 =>
(lenX r7.2 .slice r7.1).bind fun v56 =>
 l_request_desk_over_1 v0_1 v1_1 v4 r7.1 v56 (.int .i64 0) r7.2 (fun v0_2 v1_2 H9 =>
 l_request_desk_over_2 v0_2 v1_2 H9)))) Q) : Yl (l_request_desk_over_2 v0 v1 H) Q := by
  unfold l_request_desk_over_2
  exact loop_yl (by kernel_rfl) h
theorem r_request_desk_over (v0 v1 : AV) (H : Heap) {Q : AV → Heap → Prop} (h : Yl (
 l_request_desk_over_2 v0 v1 H) Q) : Yl (R prog f_request_desk_over [v0, v1] H) Q :=
  R_yl (fn := x115) (by kernel_rfl) rfl (by kernel_rfl) h
noncomputable def j_request_desk_follow_1 (v0 v3 v5 : AV) (H : Heap) : Option (AV × Heap) :=
(R prog f_request_desk_leave [v0, v5] H).bind fun r9 =>
(fieldAddrAV 1 v3).bind fun v109 =>
(loadAV r9.2 none v109).bind fun v110 =>
(binAV r9.2 .eql (.one .int) v110 (.int .i64 2)).bind fun v111 =>
 condK v111 (
(fieldAddrAV 2 v3).bind fun v114 =>
(loadAV r9.2 (some 8) v114).bind fun v115 =>
(nilCheckAV v5).bind fun v116 =>
(fieldAddrAV 0 v116).bind fun v117 =>
(fieldAddrAV 0 v117).bind fun v118 =>
(storeAV r9.2 8 v118 v115).bind fun H10 =>
(nilCheckAV v5).bind fun v119 =>
(fieldAddrAV 0 v119).bind fun v120 =>
(fieldAddrAV 8 v120).bind fun v121 =>
(storeAV H10 1 v121 (.int .i64 2)).bind fun H11 =>
(fieldAddrAV 0 v3).bind fun v124 =>
(loadAV H11 none v124).bind fun v125 =>
(R prog f_request_desk_place [v0, v5, v125] H11).bind fun r12 =>
(fieldAddrAV 0 v3).bind fun v168 =>
(loadAV r12.2 none v168).bind fun v169 =>
(R prog f_request_desk_moveUp [v0, r9.1, v169] r12.2).bind fun r13 =>
 some ((.bool true), r13.2)) (
(nilCheckAV v0).bind fun v129 =>
(fieldAddrAV 7 v129).bind fun v130 =>
(loadAV r9.2 none v130).bind fun v131 =>
(fieldAddrAV 0 v3).bind fun v132 =>
(loadAV r9.2 none v132).bind fun v133 =>
(fieldAddrAV 1 v3).bind fun v134 =>
(loadAV r9.2 none v134).bind fun v135 =>
(nilCheckAV v5).bind fun v137 =>
(fieldAddrAV 0 v137).bind fun v138 =>
(fieldAddrAV 0 v138).bind fun v139 =>
(loadAV r9.2 (some 8) v139).bind fun v140 =>
(buildAV [(.int .i64 0), (.int .i64 0), (.str []), (.str []), (.str []), (.str []), (.int .i64 0), (.int .i64 0), (.int .i64 0), (.int .i64 0)] [(0, 1, v133), (1, 1, v135), (2, 8, v140)]).bind fun v141 =>
(litAV 10 [(.agg [(.int .i64 0), (.int .i64 0), (.str []), (.str []), (.str []), (.str []), (.int .i64 0), (.int .i64 0), (.int .i64 0), (.int .i64 0)])] [(0, v141)] false r9.2).bind fun r14 =>
(appendX r14.2 10 112 v131 r14.1).bind fun r15 =>
(nilCheckAV v0).bind fun v144 =>
(fieldAddrAV 7 v144).bind fun v145 =>
(storeAV r15.2 1 v145 r15.1).bind fun H16 =>
(fieldAddrAV 0 v3).bind fun v149 =>
(loadAV H16 none v149).bind fun v150 =>
(nilCheckAV v5).bind fun v151 =>
(fieldAddrAV 10 v151).bind fun v152 =>
(storeAV H16 1 v152 (.bool false)).bind fun H17 =>
(nilCheckAV v5).bind fun v153 =>
(fieldAddrAV 0 v153).bind fun v154 =>
(fieldAddrAV 8 v154).bind fun v155 =>
(storeAV H17 1 v155 (.int .i64 3)).bind fun H18 =>
(nilCheckAV v5).bind fun v156 =>
(fieldAddrAV 0 v156).bind fun v157 =>
(fieldAddrAV 9 v157).bind fun v158 =>
(storeAV H18 1 v158 v150).bind fun H19 =>
 chkK [(v149, v152), (v149, v155)] (
(fieldAddrAV 1 v3).bind fun v159 =>
(loadAV H19 none v159).bind fun v160 =>
(binAV H19 .eql (.one .int) v160 (.int .i64 4)).bind fun v161 =>
 condK v161 (
(nilCheckAV v5).bind fun v163 =>
(fieldAddrAV 0 v163).bind fun v164 =>
(fieldAddrAV 8 v164).bind fun v165 =>
(storeAV H19 1 v165 (.int .i64 4)).bind fun H20 =>
(fieldAddrAV 0 v3).bind fun v168_1 =>
(loadAV H20 none v168_1).bind fun v169_1 =>
(R prog f_request_desk_moveUp [v0, r9.1, v169_1] H20).bind fun r21 =>
 some ((.bool true), r21.2)) (
(fieldAddrAV 0 v3).bind fun v168_2 =>
(loadAV H19 none v168_2).bind fun v169_2 =>
(R prog f_request_desk_moveUp [v0, r9.1, v169_2] H19).bind fun r22 =>
 some ((.bool true), r22.2))))
noncomputable def j_request_desk_follow_2 (v0 v3 v5 v78 : AV) (H : Heap) : Option (AV × Heap) :=
 condK v78 (
 condK v78 (
 some ((.bool false), H)) (
 j_request_desk_follow_1 v0 v3 v5 H)) (
(fieldAddrAV 1 v3).bind fun v92 =>
(loadAV H none v92).bind fun v93 =>
(binAV H .eql (.one .int) v93 (.int .i64 4)).bind fun v94 =>
 gB v94 (
(nilCheckAV v5).bind fun v97 =>
(fieldAddrAV 0 v97).bind fun v98 =>
(fieldAddrAV 0 v98).bind fun v99 =>
(fieldAddrAV 4 v99).bind fun v100 =>
(loadAV H none v100).bind fun v101 =>
(fieldAddrAV 0 v3).bind fun v102 =>
(loadAV H none v102).bind fun v103 =>
(binAV H .gtr (.one .int) v101 v103).bind fun v104 =>
 condK v104 (
 some ((.bool false), H)) (
 j_request_desk_follow_1 v0 v3 v5 H)) (
 j_request_desk_follow_1 v0 v3 v5 H))
theorem r_request_desk_follow (v0 v1 : AV) (H : Heap) {Q : AV → Heap → Prop} (h : Yl (
(boxAV 10 v1 H).bind fun r1 =>
(nilCheckAV v0).bind fun v8 =>
(fieldAddrAV 2 v8).bind fun v9 =>
(loadAV r1.2 none v9).bind fun v10 =>
(fieldAddrAV 2 r1.1).bind fun v11 =>
(fieldAddrAV 0 v11).bind fun v12 =>
(loadAV r1.2 none v12).bind fun v13 =>
(lookupAV r1.2 (.one .str) .nilptr false v10 v13).bind fun v14 =>
(fieldAddrAV 1 r1.1).bind fun v15 =>
(loadAV r1.2 none v15).bind fun v16 =>
(binAV r1.2 .eql (.one .int) v16 (.int .i64 1)).bind fun v17 =>
 condK v17 (
(binAV r1.2 .neq .ptr v14 (.nilptr)).bind fun v19 =>
 gB v19 (
 some ((.bool false), r1.2)) (
(fieldAddrAV 2 r1.1).bind fun v22 =>
(loadAV r1.2 (some 8) v22).bind fun v23 =>
(fieldAddrAV 0 r1.1).bind fun v24 =>
(loadAV r1.2 none v24).bind fun v25 =>
(cutCall (R prog) f_request_desk_permits [v0, v23, v25, (.nilptr)] r1.2).bind fun r2 =>
(unAV .not r2.1).bind fun v27 =>
 condK v27 (
 some ((.bool false), r2.2)) (
(fieldAddrAV 2 r1.1).bind fun v29 =>
(loadAV r2.2 (some 8) v29).bind fun v30 =>
(buildAV [(.str []), (.str []), (.str []), (.str []), (.int .i64 0), (.int .i64 0), (.int .i64 0), (.int .i64 0), (.int .i64 0), (.int .i64 0)] [(0, 8, v30)]).bind fun v31 =>
(buildAV [(.str []), (.str []), (.str []), (.str []), (.int .i64 0), (.int .i64 0), (.int .i64 0), (.int .i64 0), (.int .i64 0), (.int .i64 0), (.bool false)] [(0, 10, v31), (10, 1, (.bool true))]).bind fun v32 =>
(boxAV 11 v32 r2.2).bind fun r3 =>
(fieldAddrAV 0 r1.1).bind fun v36 =>
(loadAV r3.2 none v36).bind fun v37 =>
(R prog f_request_desk_place [v0, r3.1, v37] r3.2).bind fun r4 =>
(nilCheckAV v0).bind fun v40 =>
(fieldAddrAV 2 v40).bind fun v41 =>
(loadAV r4.2 none v41).bind fun v42 =>
(fieldAddrAV 2 r1.1).bind fun v43 =>
(fieldAddrAV 0 v43).bind fun v44 =>
(loadAV r4.2 none v44).bind fun v45 =>
(mapUpdateAV r4.2 (.one .str) v42 v45 r3.1).bind fun H5 =>
(nilCheckAV v0).bind fun v49 =>
(fieldAddrAV 3 v49).bind fun v50 =>
(loadAV H5 none v50).bind fun v51 =>
(litAV 1 [.nilptr] [(0, r3.1)] true H5).bind fun r6 =>
(appendX r6.2 1 8 v51 r6.1).bind fun r7 =>
(nilCheckAV v0).bind fun v55 =>
(fieldAddrAV 3 v55).bind fun v56 =>
(storeAV r7.2 1 v56 r7.1).bind fun H8 =>
 some ((.bool true), H8)))) (
(binAV r1.2 .eql .ptr v14 (.nilptr)).bind fun v58 =>
 gB v58 (
 some ((.bool false), r1.2)) (
(nilCheckAV v14).bind fun v61 =>
(fieldAddrAV 10 v61).bind fun v62 =>
(loadAV r1.2 none v62).bind fun v63 =>
(unAV .not v63).bind fun v64 =>
 gB v64 (
 some ((.bool false), r1.2)) (
(nilCheckAV v14).bind fun v68 =>
(fieldAddrAV 0 v68).bind fun v69 =>
(fieldAddrAV 0 v69).bind fun v70 =>
(fieldAddrAV 1 v70).bind fun v71 =>
(loadAV r1.2 none v71).bind fun v72 =>
(fieldAddrAV 2 r1.1).bind fun v73 =>
(fieldAddrAV 1 v73).bind fun v74 =>
(loadAV r1.2 none v74).bind fun v75 =>
(binAV r1.2 .neq (.one .str) v72 v75).bind fun v76 =>
 condK v76 (
 some ((.bool false), r1.2)) (
(fieldAddrAV 1 r1.1).bind fun v79 =>
(loadAV r1.2 none v79).bind fun v80 =>
(binAV r1.2 .eql (.one .int) v80 (.int .i64 2)).bind fun v81 =>
 gB v81 (
(fieldAddrAV 2 r1.1).bind fun v84 =>
(loadAV r1.2 (some 8) v84).bind fun v85 =>
(fieldAddrAV 0 r1.1).bind fun v86 =>
(loadAV r1.2 none v86).bind fun v87 =>
(cutCall (R prog) f_request_desk_permits [v0, v85, v87, v14] r1.2).bind fun r23 =>
(unAV .not r23.1).bind fun v90 =>
 j_request_desk_follow_2 v0 r1.1 v14 v90 r23.2) (
 j_request_desk_follow_2 v0 r1.1 v14 (.bool false) r1.2)))))) Q) : Yl (R prog f_request_desk_follow [v0, v1] H) Q :=
  R_yl (fn := x116) (by kernel_rfl) rfl (by kernel_rfl) h
noncomputable def l_slices_pdqsortCmpFunc_api_Standing_0 (v0 v1 v2 v3 v4 v10 v11 : AV) (H : Heap) : Option (AV × Heap) :=
  loopK prog (R prog) b117_0 (fun t => bif Nat.beq t 0 then v0 else bif Nat.beq t 1 then v1 else bif Nat.beq t 2 then v2 else bif Nat.beq t 3 then v3 else bif Nat.beq t 4 then v4 else bif Nat.beq t 10 then v10 else bif Nat.beq t 11 then v11 else .undef) H (fun i e H => none) (fun e H => some (.tuple [], H))
noncomputable def j_slices_pdqsortCmpFunc_api_Standing_4 (v0 v1 v2 v3 v4 v12 v13 : AV) (H : Heap) : Option (AV × Heap) :=
(R prog f_slices_partitionCmpFunc_api_Standing [v0, v1, v2, v13, v4] H).bind fun r4 =>
(extractAV r4.1 0).bind fun v112 =>
(extractAV r4.1 1).bind fun v113 =>
(binAV r4.2 .sub (.one .int) v112 v1).bind fun v117 =>
(binAV r4.2 .sub (.one .int) v2 v112).bind fun v120 =>
(binAV r4.2 .quo (.one .int) v12 (.int .i64 8)).bind fun v122 =>
(binAV r4.2 .lss (.one .int) v117 v120).bind fun v125 =>
 condK v125 (
(binAV r4.2 .geq (.one .int) v117 v122).bind fun v128 =>
(R prog f_slices_pdqsortCmpFunc_api_Standing [v0, v1, v112, v3, v4] r4.2).bind fun r5 =>
(binAV r5.2 .add (.one .int) v112 (.int .i64 1)).bind fun v136 =>
 l_slices_pdqsortCmpFunc_api_Standing_0 v0 v136 v2 v3 v4 v128 v113 r5.2) (
(binAV r4.2 .geq (.one .int) v120 v122).bind fun v139 =>
(binAV r4.2 .add (.one .int) v112 (.int .i64 1)).bind fun v142 =>
(R prog f_slices_pdqsortCmpFunc_api_Standing [v0, v142, v2, v3, v4] r4.2).bind fun r6 =>
 l_slices_pdqsortCmpFunc_api_Standing_0 v0 v1 v112 v3 v4 v139 v113 r6.2)
noncomputable def j_slices_pdqsortCmpFunc_api_Standing_3 (v0 v1 v2 v3 v4 v10 v11 v12 v13 : AV) (H : Heap) : Option (AV × Heap) :=
(binAV H .gtr (.one .int) v1 (.int .i64 0)).bind fun v82 =>
 gB v82 (
(binAV H .sub (.one .int) v1 (.int .i64 1)).bind fun v87 =>
(indexV H 10 v0 v87).bind fun v88 =>
(loadAV H (some 10) v88).bind fun v89 =>
(indexV H 10 v0 v13).bind fun v92 =>
(loadAV H (some 10) v92).bind fun v93 =>
 callK prog (R prog) v4 [v89, v93] H fun v94 H7 =>
(binAV H7 .lss (.one .int) v94 (.int .i64 0)).bind fun v95 =>
(unAV .not v95).bind fun v96 =>
 condK v96 (
(R prog f_slices_partitionEqualCmpFunc_api_Standing [v0, v1, v2, v13, v4] H7).bind fun r8 =>
 l_slices_pdqsortCmpFunc_api_Standing_0 v0 r8.1 v2 v3 v4 v10 v11 r8.2) (
 j_slices_pdqsortCmpFunc_api_Standing_4 v0 v1 v2 v3 v4 v12 v13 H7)) (
 j_slices_pdqsortCmpFunc_api_Standing_4 v0 v1 v2 v3 v4 v12 v13 H)
noncomputable def j_slices_pdqsortCmpFunc_api_Standing_2 (v0 v1 v2 v3 v4 v10 v11 v12 v13 v14 : AV) (H : Heap) : Option (AV × Heap) :=
 gB v10 (
 gB v11 (
(binAV H .eql (.one .int) v14 (.int .i64 1)).bind fun v74 =>
 condK v74 (
(R prog f_slices_partialInsertionSortCmpFunc_api_Standing [v0, v1, v2, v4] H).bind fun r9 =>
 condK r9.1 (
 some (.tuple [], r9.2)) (
 j_slices_pdqsortCmpFunc_api_Standing_3 v0 v1 v2 v3 v4 v10 v11 v12 v13 r9.2)) (
 j_slices_pdqsortCmpFunc_api_Standing_3 v0 v1 v2 v3 v4 v10 v11 v12 v13 H)) (
 j_slices_pdqsortCmpFunc_api_Standing_3 v0 v1 v2 v3 v4 v10 v11 v12 v13 H)) (
 j_slices_pdqsortCmpFunc_api_Standing_3 v0 v1 v2 v3 v4 v10 v11 v12 v13 H)
noncomputable def j_slices_pdqsortCmpFunc_api_Standing_1 (v0 v1 v2 v3 v4 v10 v11 v12 : AV) (H : Heap) : Option (AV × Heap) :=
(R prog f_slices_choosePivotCmpFunc_api_Standing [v0, v1, v2, v4] H).bind fun r3 =>
(extractAV r3.1 0).bind fun v53 =>
(extractAV r3.1 1).bind fun v54 =>
(binAV r3.2 .eql (.one .int) v54 (.int .i64 2)).bind fun v56 =>
 condK v56 (
(R prog f_slices_reverseRangeCmpFunc_api_Standing [v0, v1, v2, v4] r3.2).bind fun r10 =>
(binAV r10.2 .sub (.one .int) v2 (.int .i64 1)).bind fun v63 =>
(binAV r10.2 .sub (.one .int) v53 v1).bind fun v66 =>
(binAV r10.2 .sub (.one .int) v63 v66).bind fun v67 =>
 j_slices_pdqsortCmpFunc_api_Standing_2 v0 v1 v2 v3 v4 v10 v11 v12 v67 (.int .i64 1) r10.2) (
 j_slices_pdqsortCmpFunc_api_Standing_2 v0 v1 v2 v3 v4 v10 v11 v12 v53 v54 r3.2)
theorem l_slices_pdqsortCmpFunc_api_Standing_0_s (v0 v1 v2 v3 v4 v10 v11 : AV) (H : Heap) {Q : AV → Heap → Prop} (h : Yl (
(binAV H .sub (.one .int) v2 v1).bind fun v23 =>
(binAV H .leq (.one .int) v23 (.int .i64 12)).bind fun v25 =>
 condK v25 (
(R prog f_slices_insertionSortCmpFunc_api_Standing [v0, v1, v2, v4] H).bind fun r1 =>
 some (.tuple [], r1.2)) (
(binAV H .eql (.one .int) v3 (.int .i64 0)).bind fun v32 =>
 condK v32 (
(R prog f_slices_heapSortCmpFunc_api_Standing [v0, v1, v2, v4] H).bind fun r2 =>
 some (.tuple [], r2.2)) (
(unAV .not v10).bind fun v39 =>
 condK v39 (
(R prog f_slices_breakPatternsCmpFunc_api_Standing [v0, v1, v2, v4] H).bind fun r11 =>
(binAV r11.2 .sub (.one .int) v3 (.int .i64 1)).bind fun v46 =>
 j_slices_pdqsortCmpFunc_api_Standing_1 v0 v1 v2 v46 v4 v10 v11 v23 r11.2) (
 j_slices_pdqsortCmpFunc_api_Standing_1 v0 v1 v2 v3 v4 v10 v11 v23 H)))) Q) : Yl (l_slices_pdqsortCmpFunc_api_Standing_0 v0 v1 v2 v3 v4 v10 v11 H) Q := by
  unfold l_slices_pdqsortCmpFunc_api_Standing_0
  exact loop_yl (by kernel_rfl) h
theorem r_slices_pdqsortCmpFunc_api_Standing (v0 v1 v2 v3 v4 : AV) (H : Heap) {Q : AV → Heap → Prop} (h : Yl (
 l_slices_pdqsortCmpFunc_api_Standing_0 v0 v1 v2 v3 v4 (.bool true) (.bool true) H) Q) : Yl (R prog f_slices_pdqsortCmpFunc_api_Standing [v0, v1, v2, v3, v4] H) Q :=
  R_yl (fn := x117) (by kernel_rfl) rfl (by kernel_rfl) h
theorem r_internal_bytealg_CompareString (v0 v1 : AV) (H : Heap) {Q : AV → Heap → Prop} (h : Yl (
(pureCall prog (R prog) f_internal_bytealg_abigen_runtime_cmpstring [v0, v1] H).bind fun v7 =>
 some (v7, H)) Q) : Yl (R prog f_internal_bytealg_CompareString [v0, v1] H) Q :=
  R_yl (fn := x119) (by kernel_rfl) rfl (by kernel_rfl) h
theorem r_slices_SortFunc_request_entry_request_entry (v0 v1 : AV) (H : Heap) {Q : AV → Heap → Prop} (h : Yl (
(lenX H .slice v0).bind fun v6 =>
(convAV .u64 v6).bind fun v10 =>
(pureCall prog (R prog) f_math_bits_Len [v10] H).bind fun v11 =>
(R prog f_slices_pdqsortCmpFunc_request_entry [v0, (.int .i64 0), v6, v11, v1] H).bind fun r1 =>
 some (.tuple [], r1.2)) Q) : Yl (R prog f_slices_SortFunc_request_entry_request_entry [v0, v1] H) Q :=
  R_yl (fn := x120) (by kernel_rfl) rfl (by kernel_rfl) h
theorem r_request_byWait (v0 v1 : AV) (H : Heap) {Q : AV → Heap → Prop} (h : Yl (
(nilCheckAV v0).bind fun v6 =>
(fieldAddrAV 0 v6).bind fun v7 =>
(fieldAddrAV 9 v7).bind fun v8 =>
(loadAV H none v8).bind fun v9 =>
(nilCheckAV v1).bind fun v11 =>
(fieldAddrAV 0 v11).bind fun v12 =>
(fieldAddrAV 9 v12).bind fun v13 =>
(loadAV H none v13).bind fun v14 =>
(pureCall prog (R prog) f_cmp_Compare_int [v9, v14] H).bind fun v15 =>
(nilCheckAV v0).bind fun v17 =>
(fieldAddrAV 0 v17).bind fun v18 =>
(fieldAddrAV 0 v18).bind fun v19 =>
(fieldAddrAV 0 v19).bind fun v20 =>
(loadAV H none v20).bind fun v21 =>
(nilCheckAV v1).bind fun v23 =>
(fieldAddrAV 0 v23).bind fun v24 =>
(fieldAddrAV 0 v24).bind fun v25 =>
(fieldAddrAV 0 v25).bind fun v26 =>
(loadAV H none v26).bind fun v27 =>
(pureCall prog (R prog) f_strings_Compare [v21, v27] H).bind fun v28 =>
(litAV 1 [(.int .i64 0), (.int .i64 0)] [(0, v15), (1, v28)] false H).bind fun r1 =>
(pureCall prog (R prog) f_cmp_Or_int [r1.1] r1.2).bind fun v30 =>
 some (v30, r1.2)) Q) : Yl (R prog f_request_byWait [v0, v1] H) Q :=
  R_yl (fn := x121) (by kernel_rfl) rfl (by kernel_rfl) h
theorem r_request_desk_room_1 (v0 v1 : AV) (H : Heap) {Q : AV → Heap → Prop} (h : Yl (
(boxAV 3 v0 H).bind fun r1 =>
(fieldAddrAV 4 v1).bind fun v4 =>
(loadAV r1.2 none v4).bind fun v5 =>
(fieldAddrAV 0 r1.1).bind fun v6 =>
(fieldAddrAV 0 v6).bind fun v7 =>
(loadAV r1.2 none v7).bind fun v8 =>
(binAV r1.2 .geq (.one .int) v5 v8).bind fun v9 =>
 gB v9 (
(fieldAddrAV 4 v1).bind fun v11 =>
(loadAV r1.2 none v11).bind fun v12 =>
(fieldAddrAV 0 r1.1).bind fun v13 =>
(fieldAddrAV 1 v13).bind fun v14 =>
(loadAV r1.2 none v14).bind fun v15 =>
(binAV r1.2 .lss (.one .int) v12 v15).bind fun v16 =>
 some (v16, r1.2)) (
 some ((.bool false), r1.2))) Q) : Yl (R prog f_request_desk_room_1 [v0, v1] H) Q :=
  R_yl (fn := x122) (by kernel_rfl) rfl (by kernel_rfl) h
theorem r_cmp_isNaN_int (v0 : AV) (H : Heap) {Q : AV → Heap → Prop} (h : Yl (
(binAV H .neq (.one .int) v0 v0).bind fun v5 =>
 some (v5, H)) Q) : Yl (R prog f_cmp_isNaN_int [v0] H) Q :=
  R_yl (fn := x130) (by kernel_rfl) rfl (by kernel_rfl) h
theorem r_strings_IndexByte (v0 v1 : AV) (H : Heap) {Q : AV → Heap → Prop} (h : Yl (
(R prog f_internal_stringslite_IndexByte [v0, v1] H).bind fun r1 =>
 some (r1.1, r1.2)) Q) : Yl (R prog f_strings_IndexByte [v0, v1] H) Q :=
  R_yl (fn := x131) (by kernel_rfl) rfl (by kernel_rfl) h
noncomputable def l_slices_pdqsortCmpFunc_api_Ride_0 (v0 v1 v2 v3 v4 v10 v11 : AV) (H : Heap) : Option (AV × Heap) :=
  loopK prog (R prog) b137_0 (fun t => bif Nat.beq t 0 then v0 else bif Nat.beq t 1 then v1 else bif Nat.beq t 2 then v2 else bif Nat.beq t 3 then v3 else bif Nat.beq t 4 then v4 else bif Nat.beq t 10 then v10 else bif Nat.beq t 11 then v11 else .undef) H (fun i e H => none) (fun e H => some (.tuple [], H))
noncomputable def j_slices_pdqsortCmpFunc_api_Ride_4 (v0 v1 v2 v3 v4 v12 v13 : AV) (H : Heap) : Option (AV × Heap) :=
(R prog f_slices_partitionCmpFunc_api_Ride [v0, v1, v2, v13, v4] H).bind fun r4 =>
(extractAV r4.1 0).bind fun v112 =>
(extractAV r4.1 1).bind fun v113 =>
(binAV r4.2 .sub (.one .int) v112 v1).bind fun v117 =>
(binAV r4.2 .sub (.one .int) v2 v112).bind fun v120 =>
(binAV r4.2 .quo (.one .int) v12 (.int .i64 8)).bind fun v122 =>
(binAV r4.2 .lss (.one .int) v117 v120).bind fun v125 =>
 condK v125 (
(binAV r4.2 .geq (.one .int) v117 v122).bind fun v128 =>
(R prog f_slices_pdqsortCmpFunc_api_Ride [v0, v1, v112, v3, v4] r4.2).bind fun r5 =>
(binAV r5.2 .add (.one .int) v112 (.int .i64 1)).bind fun v136 =>
 l_slices_pdqsortCmpFunc_api_Ride_0 v0 v136 v2 v3 v4 v128 v113 r5.2) (
(binAV r4.2 .geq (.one .int) v120 v122).bind fun v139 =>
(binAV r4.2 .add (.one .int) v112 (.int .i64 1)).bind fun v142 =>
(R prog f_slices_pdqsortCmpFunc_api_Ride [v0, v142, v2, v3, v4] r4.2).bind fun r6 =>
 l_slices_pdqsortCmpFunc_api_Ride_0 v0 v1 v112 v3 v4 v139 v113 r6.2)
noncomputable def j_slices_pdqsortCmpFunc_api_Ride_3 (v0 v1 v2 v3 v4 v10 v11 v12 v13 : AV) (H : Heap) : Option (AV × Heap) :=
(binAV H .gtr (.one .int) v1 (.int .i64 0)).bind fun v82 =>
 gB v82 (
(binAV H .sub (.one .int) v1 (.int .i64 1)).bind fun v87 =>
(indexV H 8 v0 v87).bind fun v88 =>
(loadAV H (some 8) v88).bind fun v89 =>
(indexV H 8 v0 v13).bind fun v92 =>
(loadAV H (some 8) v92).bind fun v93 =>
 callK prog (R prog) v4 [v89, v93] H fun v94 H7 =>
(binAV H7 .lss (.one .int) v94 (.int .i64 0)).bind fun v95 =>
(unAV .not v95).bind fun v96 =>
 condK v96 (
(R prog f_slices_partitionEqualCmpFunc_api_Ride [v0, v1, v2, v13, v4] H7).bind fun r8 =>
 l_slices_pdqsortCmpFunc_api_Ride_0 v0 r8.1 v2 v3 v4 v10 v11 r8.2) (
 j_slices_pdqsortCmpFunc_api_Ride_4 v0 v1 v2 v3 v4 v12 v13 H7)) (
 j_slices_pdqsortCmpFunc_api_Ride_4 v0 v1 v2 v3 v4 v12 v13 H)
noncomputable def j_slices_pdqsortCmpFunc_api_Ride_2 (v0 v1 v2 v3 v4 v10 v11 v12 v13 v14 : AV) (H : Heap) : Option (AV × Heap) :=
 gB v10 (
 gB v11 (
(binAV H .eql (.one .int) v14 (.int .i64 1)).bind fun v74 =>
 condK v74 (
(R prog f_slices_partialInsertionSortCmpFunc_api_Ride [v0, v1, v2, v4] H).bind fun r9 =>
 condK r9.1 (
 some (.tuple [], r9.2)) (
 j_slices_pdqsortCmpFunc_api_Ride_3 v0 v1 v2 v3 v4 v10 v11 v12 v13 r9.2)) (
 j_slices_pdqsortCmpFunc_api_Ride_3 v0 v1 v2 v3 v4 v10 v11 v12 v13 H)) (
 j_slices_pdqsortCmpFunc_api_Ride_3 v0 v1 v2 v3 v4 v10 v11 v12 v13 H)) (
 j_slices_pdqsortCmpFunc_api_Ride_3 v0 v1 v2 v3 v4 v10 v11 v12 v13 H)
noncomputable def j_slices_pdqsortCmpFunc_api_Ride_1 (v0 v1 v2 v3 v4 v10 v11 v12 : AV) (H : Heap) : Option (AV × Heap) :=
(R prog f_slices_choosePivotCmpFunc_api_Ride [v0, v1, v2, v4] H).bind fun r3 =>
(extractAV r3.1 0).bind fun v53 =>
(extractAV r3.1 1).bind fun v54 =>
(binAV r3.2 .eql (.one .int) v54 (.int .i64 2)).bind fun v56 =>
 condK v56 (
(R prog f_slices_reverseRangeCmpFunc_api_Ride [v0, v1, v2, v4] r3.2).bind fun r10 =>
(binAV r10.2 .sub (.one .int) v2 (.int .i64 1)).bind fun v63 =>
(binAV r10.2 .sub (.one .int) v53 v1).bind fun v66 =>
(binAV r10.2 .sub (.one .int) v63 v66).bind fun v67 =>
 j_slices_pdqsortCmpFunc_api_Ride_2 v0 v1 v2 v3 v4 v10 v11 v12 v67 (.int .i64 1) r10.2) (
 j_slices_pdqsortCmpFunc_api_Ride_2 v0 v1 v2 v3 v4 v10 v11 v12 v53 v54 r3.2)
theorem l_slices_pdqsortCmpFunc_api_Ride_0_s (v0 v1 v2 v3 v4 v10 v11 : AV) (H : Heap) {Q : AV → Heap → Prop} (h : Yl (
(binAV H .sub (.one .int) v2 v1).bind fun v23 =>
(binAV H .leq (.one .int) v23 (.int .i64 12)).bind fun v25 =>
 condK v25 (
(R prog f_slices_insertionSortCmpFunc_api_Ride [v0, v1, v2, v4] H).bind fun r1 =>
 some (.tuple [], r1.2)) (
(binAV H .eql (.one .int) v3 (.int .i64 0)).bind fun v32 =>
 condK v32 (
(R prog f_slices_heapSortCmpFunc_api_Ride [v0, v1, v2, v4] H).bind fun r2 =>
 some (.tuple [], r2.2)) (
(unAV .not v10).bind fun v39 =>
 condK v39 (
(R prog f_slices_breakPatternsCmpFunc_api_Ride [v0, v1, v2, v4] H).bind fun r11 =>
(binAV r11.2 .sub (.one .int) v3 (.int .i64 1)).bind fun v46 =>
 j_slices_pdqsortCmpFunc_api_Ride_1 v0 v1 v2 v46 v4 v10 v11 v23 r11.2) (
 j_slices_pdqsortCmpFunc_api_Ride_1 v0 v1 v2 v3 v4 v10 v11 v23 H)))) Q) : Yl (l_slices_pdqsortCmpFunc_api_Ride_0 v0 v1 v2 v3 v4 v10 v11 H) Q := by
  unfold l_slices_pdqsortCmpFunc_api_Ride_0
  exact loop_yl (by kernel_rfl) h
theorem r_slices_pdqsortCmpFunc_api_Ride (v0 v1 v2 v3 v4 : AV) (H : Heap) {Q : AV → Heap → Prop} (h : Yl (
 l_slices_pdqsortCmpFunc_api_Ride_0 v0 v1 v2 v3 v4 (.bool true) (.bool true) H) Q) : Yl (R prog f_slices_pdqsortCmpFunc_api_Ride [v0, v1, v2, v3, v4] H) Q :=
  R_yl (fn := x137) (by kernel_rfl) rfl (by kernel_rfl) h
noncomputable def j_request_CheckRide_1 (v1 v21 : AV) (H : Heap) : Option (AV × Heap) :=
 condK v21 (
 some ((.int .i64 1), H)) (
(fieldAddrAV 6 v1).bind fun v45 =>
(loadAV H none v45).bind fun v46 =>
(fieldAddrAV 7 v1).bind fun v47 =>
(loadAV H none v47).bind fun v48 =>
(binAV H .add (.one .int) v46 v48).bind fun v49 =>
(binAV H .eql (.one .int) v49 (.int .i64 0)).bind fun v50 =>
 condK v50 (
 some ((.int .i64 3), H)) (
 some ((.int .i64 0), H)))
theorem r_request_CheckRide (v0 : AV) (H : Heap) {Q : AV → Heap → Prop} (h : Yl (
(boxAV 8 v0 H).bind fun r1 =>
(fieldAddrAV 0 r1.1).bind fun v4 =>
(loadAV r1.2 none v4).bind fun v5 =>
(fieldAddrAV 1 r1.1).bind fun v6 =>
(loadAV r1.2 none v6).bind fun v7 =>
(fieldAddrAV 2 r1.1).bind fun v8 =>
(loadAV r1.2 none v8).bind fun v9 =>
(fieldAddrAV 3 r1.1).bind fun v10 =>
(loadAV r1.2 none v10).bind fun v11 =>
(litAV 1 [(.str []), (.str []), (.str []), (.str [])] [(0, v5), (1, v7), (2, v9), (3, v11)] false r1.2).bind fun r2 =>
(pureCall prog (R prog) f_request_allKeys [r2.1] r2.2).bind fun v13 =>
(unAV .not v13).bind fun v14 =>
 condK v14 (
 some ((.int .i64 5), r2.2)) (
(fieldAddrAV 2 r1.1).bind fun v16 =>
(loadAV r2.2 none v16).bind fun v17 =>
(fieldAddrAV 3 r1.1).bind fun v18 =>
(loadAV r2.2 none v18).bind fun v19 =>
(binAV r2.2 .eql (.one .str) v17 v19).bind fun v20 =>
 condK v20 (
 some ((.int .i64 6), r2.2)) (
(fieldAddrAV 4 r1.1).bind fun v22 =>
(loadAV r2.2 none v22).bind fun v23 =>
(pureCall prog (R prog) f_base_Moment [v23] r2.2).bind fun v24 =>
(unAV .not v24).bind fun v25 =>
 gB v25 (
 j_request_CheckRide_1 r1.1 (.bool true) r2.2) (
(fieldAddrAV 5 r1.1).bind fun v27 =>
(loadAV r2.2 none v27).bind fun v28 =>
(fieldAddrAV 4 r1.1).bind fun v29 =>
(loadAV r2.2 none v29).bind fun v30 =>
(binAV r2.2 .add (.one .int) v30 (.int .i64 1)).bind fun v31 =>
(pureCall prog (R prog) f_base_Out [v28, v31, (.int .i64 345686400000)] r2.2).bind fun v32 =>
 gB v32 (
 j_request_CheckRide_1 r1.1 (.bool true) r2.2) (
(fieldAddrAV 6 r1.1).bind fun v35 =>
(loadAV r2.2 none v35).bind fun v36 =>
(pureCall prog (R prog) f_base_Out [v36, (.int .i64 0), (.int .i64 60)] r2.2).bind fun v37 =>
 gB v37 (
 j_request_CheckRide_1 r1.1 (.bool true) r2.2) (
(fieldAddrAV 7 r1.1).bind fun v40 =>
(loadAV r2.2 none v40).bind fun v41 =>
(pureCall prog (R prog) f_base_Out [v41, (.int .i64 0), (.int .i64 60)] r2.2).bind fun v42 =>
 j_request_CheckRide_1 r1.1 v42 r2.2)))))) Q) : Yl (R prog f_request_CheckRide [v0] H) Q :=
  R_yl (fn := x138) (by kernel_rfl) rfl (by kernel_rfl) h
theorem r_request_allKeys (v0 : AV) (H : Heap) {Q : AV → Heap → Prop} (h : Yl (
(pureCall prog (R prog) f_slices_ContainsFunc_string_string [v0, (.func (.func f_request_allKeys_1) [])] H).bind fun v4 =>
(unAV .not v4).bind fun v5 =>
 some (v5, H)) Q) : Yl (R prog f_request_allKeys [v0] H) Q :=
  R_yl (fn := x139) (by kernel_rfl) rfl (by kernel_rfl) h
noncomputable def l_slices_insertionSortCmpFunc_api_Ask_1 (v0 v1 v2 v3 v8 : AV) (H : Heap) (k0 : Heap → Option (AV × Heap)) : Option (AV × Heap) :=
  loopK prog (R prog) b149_1 (fun t => bif Nat.beq t 0 then v0 else bif Nat.beq t 1 then v1 else bif Nat.beq t 2 then v2 else bif Nat.beq t 3 then v3 else bif Nat.beq t 8 then v8 else .undef) H (fun i e H => bif Nat.beq i 0 then k0 H else none) (fun e H => some (.tuple [], H))
noncomputable def l_slices_insertionSortCmpFunc_api_Ask_0 (v0 v1 v2 v3 v8 v9 : AV) (H : Heap) (k2 : AV → AV → AV → AV → AV → Heap → Option (AV × Heap)) : Option (AV × Heap) :=
  loopK prog (R prog) b149_0 (fun t => bif Nat.beq t 0 then v0 else bif Nat.beq t 1 then v1 else bif Nat.beq t 2 then v2 else bif Nat.beq t 3 then v3 else bif Nat.beq t 8 then v8 else bif Nat.beq t 9 then v9 else .undef) H (fun i e H => bif Nat.beq i 2 then k2 (e 0) (e 1) (e 2) (e 3) (e 8) H else none) (fun e H => some (.tuple [], H))
theorem l_slices_insertionSortCmpFunc_api_Ask_0_s (v0 v1 v2 v3 v8 v9 : AV) (H : Heap) (k2 : AV → AV → AV → AV → AV → Heap → Option (AV × Heap)) {Q : AV → Heap → Prop} (h : Yl (
(binAV H .gtr (.one .int) v9 v1).bind fun v20 =>
 gB v20 (
(indexV H 10 v0 v9).bind fun v25 =>
(loadAV H (some 10) v25).bind fun v26 =>
(binAV H .sub (.one .int) v9 (.int .i64 1)).bind fun v29 =>
(indexV H 10 v0 v29).bind fun v30 =>
(loadAV H (some 10) v30).bind fun v31 =>
 callK prog (R prog) v3 [v26, v31] H fun v32 H1 =>
(binAV H1 .lss (.one .int) v32 (.int .i64 0)).bind fun v33 =>
 condK v33 (
(binAV H1 .sub (.one .int) v9 (.int .i64 1)).bind fun v41 =>
(binAV H1 .sub (.one .int) v9 (.int .i64 1)).bind fun v44 =>
(indexV H1 10 v0 v44).bind fun v45 =>
(loadAV H1 (some 10) v45).bind fun v46 =>
(indexV H1 10 v0 v9).bind fun v49 =>
(loadAV H1 (some 10) v49).bind fun v50 =>
(indexV H1 10 v0 v9).bind fun v51 =>
(storeAV H1 10 v51 v46).bind fun H2 =>
(indexV H2 10 v0 v41).bind fun v52 =>
(storeAV H2 10 v52 v50).bind fun H3 =>
(binAV H3 .sub (.one .int) v9 (.int .i64 1)).bind fun v36 =>
 l_slices_insertionSortCmpFunc_api_Ask_0 v0 v1 v2 v3 v8 v36 H3 k2) (
 k2 v0 v1 v2 v3 v8 H1)) (
 k2 v0 v1 v2 v3 v8 H)) Q) : Yl (l_slices_insertionSortCmpFunc_api_Ask_0 v0 v1 v2 v3 v8 v9 H k2) Q := by
  unfold l_slices_insertionSortCmpFunc_api_Ask_0
  exact loop_yl (by kernel_rfl) h
theorem l_slices_insertionSortCmpFunc_api_Ask_1_s (v0 v1 v2 v3 v8 : AV) (H : Heap) (k0 : Heap → Option (AV × Heap)) {Q : AV → Heap → Prop} (h : Yl (
(binAV H .lss (.one .int) v8 v2).bind fun v14 =>
 condK v14 (
 l_slices_insertionSortCmpFunc_api_Ask_0 v0 v1 v2 v3 v8 v8 H (fun v0_1 v1_1 v2_1 v3_1 v8_1 H4 =>
(binAV H4 .add (.one .int) v8_1 (.int .i64 1)).bind fun v16 =>
 l_slices_insertionSortCmpFunc_api_Ask_1 v0_1 v1_1 v2_1 v3_1 v16 H4 k0)) (
 k0 H)) Q) : Yl (l_slices_insertionSortCmpFunc_api_Ask_1 v0 v1 v2 v3 v8 H k0) Q := by
  unfold l_slices_insertionSortCmpFunc_api_Ask_1
  exact loop_yl (by kernel_rfl) h
theorem r_slices_insertionSortCmpFunc_api_Ask (v0 v1 v2 v3 : AV) (H : Heap) {Q : AV → Heap → Prop} (h : Yl (
(binAV H .add (.one .int) v1 (.int .i64 1)).bind fun v11 =>
 l_slices_insertionSortCmpFunc_api_Ask_1 v0 v1 v2 v3 v11 H (fun  H5 =>
 some (.tuple [], H5))) Q) : Yl (R prog f_slices_insertionSortCmpFunc_api_Ask [v0, v1, v2, v3] H) Q :=
  R_yl (fn := x149) (by kernel_rfl) rfl (by kernel_rfl) h
noncomputable def l_request_desk_nextDue_0 (v1 v6 v14 v15 v16 : AV) (H : Heap) (k0 : AV → AV → Heap → Option (AV × Heap)) : Option (AV × Heap) :=
  loopK prog (R prog) b151_0 (fun t => bif Nat.beq t 1 then v1 else bif Nat.beq t 6 then v6 else bif Nat.beq t 14 then v14 else bif Nat.beq t 15 then v15 else bif Nat.beq t 16 then v16 else .undef) H (fun i e H => bif Nat.beq i 0 then k0 (e 1) (e 6) H else none) (fun e H => some (.tuple [(e 4), (e 5)], H))
theorem l_request_desk_nextDue_0_s (v1 v6 v14 v15 v16 : AV) (H : Heap) (k0 : AV → AV → Heap → Option (AV × Heap)) {Q : AV → Heap → Prop} (h : Yl (
(binAV H .lss (.one .int) v16 v15).bind fun v17 =>
 condK v17 (
(indexV H 1 v14 v16).bind fun v18 =>
(loadAV H none v18).bind fun v19 =>
(nilCheckAV v19).bind fun v21 =>
(fieldAddrAV 10 v21).bind fun v22 =>
(loadAV H none v22).bind fun v23 =>
 condK v23 (
(nilCheckAV v19).bind fun v26 =>
(fieldAddrAV 0 v26).bind fun v27 =>
(fieldAddrAV 0 v27).bind fun v28 =>
(fieldAddrAV 5 v28).bind fun v29 =>
(loadAV H none v29).bind fun v30 =>
(mmAV false [v6, v30]).bind fun v31 =>
(binAV H .add (.one .int) v16 (.int .i64 1)).bind fun v32 =>
 l_request_desk_nextDue_0 v1 v31 v14 v15 v32 H k0) (
(binAV H .add (.one .int) v16 (.int .i64 1)).bind fun v32_1 =>
 l_request_desk_nextDue_0 v1 v6 v14 v15 v32_1 H k0)) (
 k0 v1 v6 H)) Q) : Yl (l_request_desk_nextDue_0 v1 v6 v14 v15 v16 H k0) Q := by
  unfold l_request_desk_nextDue_0
  exact loop_yl (by kernel_rfl) h
theorem r_request_desk_nextDue (v0 v1 : AV) (H : Heap) {Q : AV → Heap → Prop} (h : Yl (
(binAV H .add (.one .int) v1 (.int .i64 1)).bind fun v10 =>
(nilCheckAV v0).bind fun v12 =>
(fieldAddrAV 3 v12).bind fun v13 =>
(loadAV H none v13).bind fun v14 =>
(lenX H .slice v14).bind fun v15 =>
 l_request_desk_nextDue_0 v1 v10 v14 v15 (.int .i64 0) H (fun v1_1 v6 H1 =>
(binAV H1 .leq (.one .int) v6 v1_1).bind fun v36 =>
 some (.tuple [v6, v36], H1))) Q) : Yl (R prog f_request_desk_nextDue [v0, v1] H) Q :=
  R_yl (fn := x151) (by kernel_rfl) rfl (by kernel_rfl) h
theorem r_request_desk_leave (v0 v1 : AV) (H : Heap) {Q : AV → Heap → Prop} (h : Yl (
(nilCheckAV v1).bind fun v8 =>
(fieldAddrAV 0 v8).bind fun v9 =>
(fieldAddrAV 0 v9).bind fun v10 =>
(loadAV H (some 8) v10).bind fun v11 =>
(pureCall prog (R prog) f_request_desk_room [v0, v11] H).bind fun v12 =>
(nilCheckAV v1).bind fun v14 =>
(fieldAddrAV 0 v14).bind fun v15 =>
(fieldAddrAV 8 v15).bind fun v16 =>
(loadAV H none v16).bind fun v17 =>
(binAV H .eql (.one .int) v17 (.int .i64 1)).bind fun v18 =>
 condK v18 (
(nilCheckAV v0).bind fun v20 =>
(fieldAddrAV 4 v20).bind fun v21 =>
(loadAV H none v21).bind fun v22 =>
(indexV H 1 v22 v12).bind fun v24 =>
(loadAV H none v24).bind fun v25 =>
(pureCall prog (R prog) f_request_entry_seats [v1] H).bind fun v27 =>
(binAV H .sub (.one .int) v25 v27).bind fun v28 =>
(indexV H 1 v22 v12).bind fun v29 =>
(storeAV H 1 v29 v28).bind fun H1 =>
 some (v12, H1)) (
 some (v12, H))) Q) : Yl (R prog f_request_desk_leave [v0, v1] H) Q :=
  R_yl (fn := x152) (by kernel_rfl) rfl (by kernel_rfl) h
theorem r_slices_Sort_int_int (v0 : AV) (H : Heap) {Q : AV → Heap → Prop} (h : Yl (
(lenX H .slice v0).bind fun v4 =>
(convAV .u64 v4).bind fun v8 =>
(pureCall prog (R prog) f_math_bits_Len [v8] H).bind fun v9 =>
(R prog f_slices_pdqsortOrdered_int [v0, (.int .i64 0), v4, v9] H).bind fun r1 =>
 some (.tuple [], r1.2)) Q) : Yl (R prog f_slices_Sort_int_int [v0] H) Q :=
  R_yl (fn := x153) (by kernel_rfl) rfl (by kernel_rfl) h
noncomputable def l_slices_Compact_int_int_1 (v0 v3 : AV) (H : Heap) (k0 : AV → Heap → Option (AV × Heap)) : Option (AV × Heap) :=
  loopK prog (R prog) b154_1 (fun t => bif Nat.beq t 0 then v0 else bif Nat.beq t 3 then v3 else .undef) H (fun i e H => bif Nat.beq i 0 then k0 (e 0) H else none) (fun e H => some ((e 2), H))
noncomputable def l_slices_Compact_int_int_0 (v0 v3 v4 v5 : AV) (H : Heap) (k2 : AV → AV → Heap → Option (AV × Heap)) : Option (AV × Heap) :=
  loopK prog (R prog) b154_0 (fun t => bif Nat.beq t 0 then v0 else bif Nat.beq t 3 then v3 else bif Nat.beq t 4 then v4 else bif Nat.beq t 5 then v5 else .undef) H (fun i e H => bif Nat.beq i 2 then k2 (e 0) (e 3) H else none) (fun e H => some ((e 2), H))
theorem l_slices_Compact_int_int_0_s (v0 v3 v4 v5 : AV) (H : Heap) (k2 : AV → AV → Heap → Option (AV × Heap)) {Q : AV → Heap → Prop} (h : Yl (
(lenX H .slice v4).bind fun v31 =>
(binAV H .lss (.one .int) v5 v31).bind fun v32 =>
 condK v32 (
(indexV H 1 v4 v5).bind fun v37 =>
(loadAV H none v37).bind fun v38 =>
(binAV H .sub (.one .int) v5 (.int .i64 1)).bind fun v41 =>
(indexV H 1 v4 v41).bind fun v42 =>
(loadAV H none v42).bind fun v43 =>
(binAV H .neq (.one .int) v38 v43).bind fun v44 =>
 condK v44 (
(indexV H 1 v4 v5).bind fun v49 =>
(loadAV H none v49).bind fun v50 =>
(indexV H 1 v0 v3).bind fun v51 =>
(storeAV H 1 v51 v50).bind fun H1 =>
(binAV H1 .add (.one .int) v3 (.int .i64 1)).bind fun v53 =>
(binAV H1 .add (.one .int) v5 (.int .i64 1)).bind fun v34 =>
 l_slices_Compact_int_int_0 v0 v53 v4 v34 H1 k2) (
(binAV H .add (.one .int) v5 (.int .i64 1)).bind fun v34_1 =>
 l_slices_Compact_int_int_0 v0 v3 v4 v34_1 H k2)) (
 k2 v0 v3 H)) Q) : Yl (l_slices_Compact_int_int_0 v0 v3 v4 v5 H k2) Q := by
  unfold l_slices_Compact_int_int_0
  exact loop_yl (by kernel_rfl) h
theorem l_slices_Compact_int_int_1_s (v0 v3 : AV) (H : Heap) (k0 : AV → Heap → Option (AV × Heap)) {Q : AV → Heap → Prop} (h : Yl (
(lenX H .slice v0).bind fun v12 =>
(binAV H .lss (.one .int) v3 v12).bind fun v13 =>
 condK v13 (
(indexV H 1 v0 v3).bind fun v18 =>
(loadAV H none v18).bind fun v19 =>
(binAV H .sub (.one .int) v3 (.int .i64 1)).bind fun v22 =>
(indexV H 1 v0 v22).bind fun v23 =>
(loadAV H none v23).bind fun v24 =>
(binAV H .eql (.one .int) v19 v24).bind fun v25 =>
 condK v25 (
(sliceSlAV H 1 v0 (some v3) none).bind fun v28 =>
 l_slices_Compact_int_int_0 v0 v3 v28 (.int .i64 1) H (fun v0_1 v3_1 H2 =>
(sliceSlAV H2 1 v0_1 (some v3_1) none).bind fun v56 =>
(clearAV H2 1 (.int .i64 0) v56).bind fun H3 =>
(sliceSlAV H3 1 v0_1 none (some v3_1)).bind fun v59 =>
 some (v59, H3))) (
(binAV H .add (.one .int) v3 (.int .i64 1)).bind fun v15 =>
 l_slices_Compact_int_int_1 v0 v15 H k0)) (
 k0 v0 H)) Q) : Yl (l_slices_Compact_int_int_1 v0 v3 H k0) Q := by
  unfold l_slices_Compact_int_int_1
  exact loop_yl (by kernel_rfl) h
theorem r_slices_Compact_int_int (v0 : AV) (H : Heap) {Q : AV → Heap → Prop} (h : Yl (
(lenX H .slice v0).bind fun v7 =>
(binAV H .lss (.one .int) v7 (.int .i64 2)).bind fun v8 =>
 condK v8 (
 some (v0, H)) (
 l_slices_Compact_int_int_1 v0 (.int .i64 1) H (fun v0_1 H4 =>
 some (v0_1, H4)))) Q) : Yl (R prog f_slices_Compact_int_int [v0] H) Q :=
  R_yl (fn := x154) (by kernel_rfl) rfl (by kernel_rfl) h
noncomputable def l_request_desk_moveUp_0 (v0 v2 v12 v13 v14 : AV) (H : Heap) (k0 : Heap → Option (AV × Heap)) : Option (AV × Heap) :=
  loopK prog (R prog) b155_0 (fun t => bif Nat.beq t 0 then v0 else bif Nat.beq t 2 then v2 else bif Nat.beq t 12 then v12 else bif Nat.beq t 13 then v13 else bif Nat.beq t 14 then v14 else .undef) H (fun i e H => bif Nat.beq i 0 then k0 H else none) (fun e H => some (.tuple [], H))
theorem l_request_desk_moveUp_0_s (v0 v2 v12 v13 v14 : AV) (H : Heap) (k0 : Heap → Option (AV × Heap)) {Q : AV → Heap → Prop} (h : Yl (
(binAV H .lss (.one .int) v14 v13).bind fun v15 =>
 condK v15 (
(indexV H 1 v12 v14).bind fun v16 =>
(loadAV H none v16).bind fun v17 =>
(pureCall prog (R prog) f_request_desk_fits [v0, v17] H).bind fun v20 =>
 condK v20 (
(R prog f_request_desk_place [v0, v17, v2] H).bind fun r2 =>
(nilCheckAV v0).bind fun v27 =>
(fieldAddrAV 5 v27).bind fun v28 =>
(loadAV r2.2 none v28).bind fun v29 =>
(nilCheckAV v17).bind fun v31 =>
(fieldAddrAV 0 v31).bind fun v32 =>
(loadAV r2.2 (some 10) v32).bind fun v33 =>
(litAV 10 [(.agg [(.str []), (.str []), (.str []), (.str []), (.int .i64 0), (.int .i64 0), (.int .i64 0), (.int .i64 0), (.int .i64 0), (.int .i64 0)])] [(0, v33)] false r2.2).bind fun r3 =>
(appendX r3.2 10 112 v29 r3.1).bind fun r4 =>
(nilCheckAV v0).bind fun v36 =>
(fieldAddrAV 5 v36).bind fun v37 =>
(storeAV r4.2 1 v37 r4.1).bind fun H5 =>
(binAV H5 .add (.one .int) v14 (.int .i64 1)).bind fun v38 =>
 l_request_desk_moveUp_0 v0 v2 v12 v13 v38 H5 k0) (
(binAV H .add (.one .int) v14 (.int .i64 1)).bind fun v38_1 =>
 l_request_desk_moveUp_0 v0 v2 v12 v13 v38_1 H k0)) (
 k0 H)) Q) : Yl (l_request_desk_moveUp_0 v0 v2 v12 v13 v14 H k0) Q := by
  unfold l_request_desk_moveUp_0
  exact loop_yl (by kernel_rfl) h
theorem r_request_desk_moveUp (v0 v1 v2 : AV) (H : Heap) {Q : AV → Heap → Prop} (h : Yl (
(binAV H .lss (.one .int) v1 (.int .i64 0)).bind fun v9 =>
 condK v9 (
 some (.tuple [], H)) (
(R prog f_request_desk_waiting [v0, v1] H).bind fun r1 =>
(lenX r1.2 .slice r1.1).bind fun v13 =>
 l_request_desk_moveUp_0 v0 v2 r1.1 v13 (.int .i64 0) r1.2 (fun  H6 =>
 some (.tuple [], H6)))) Q) : Yl (R prog f_request_desk_moveUp [v0, v1, v2] H) Q :=
  R_yl (fn := x155) (by kernel_rfl) rfl (by kernel_rfl) h
noncomputable def l_request_desk_permits_0 (v2 v3 v5 v9 v10 v11 v12 v33 v34 v35 : AV) (H : Heap) (k0 : AV → AV → AV → AV → AV → AV → AV → Heap → Option (AV × Heap)) : Option (AV × Heap) :=
  loopK prog (R prog) b156_0 (fun t => bif Nat.beq t 2 then v2 else bif Nat.beq t 3 then v3 else bif Nat.beq t 5 then v5 else bif Nat.beq t 9 then v9 else bif Nat.beq t 10 then v10 else bif Nat.beq t 11 then v11 else bif Nat.beq t 12 then v12 else bif Nat.beq t 33 then v33 else bif Nat.beq t 34 then v34 else bif Nat.beq t 35 then v35 else .undef) H (fun i e H => bif Nat.beq i 0 then k0 (e 2) (e 3) (e 5) (e 9) (e 10) (e 11) (e 12) H else none) (fun e H => some ((e 8), H))
noncomputable def j_request_desk_permits_1 (v2 v3 v5 v9 v10 v11 v12 v14 v33 v34 v35 v58 : AV) (H : Heap) (k0 : AV → AV → AV → AV → AV → AV → AV → Heap → Option (AV × Heap)) : Option (AV × Heap) :=
 condK v58 (
(binAV H .add (.one .int) v11 (.int .i64 1)).bind fun v60 =>
(pureCall prog (R prog) f_request_entry_seats [v14] H).bind fun v63 =>
(binAV H .add (.one .int) v12 v63).bind fun v64 =>
(binAV H .add (.one .int) v35 (.int .i64 1)).bind fun v65 =>
 l_request_desk_permits_0 v2 v3 v5 v9 v10 v60 v64 v33 v34 v65 H k0) (
(binAV H .add (.one .int) v35 (.int .i64 1)).bind fun v65_1 =>
 l_request_desk_permits_0 v2 v3 v5 v9 v10 v11 v12 v33 v34 v65_1 H k0)
theorem l_request_desk_permits_0_s (v2 v3 v5 v9 v10 v11 v12 v33 v34 v35 : AV) (H : Heap) (k0 : AV → AV → AV → AV → AV → AV → AV → Heap → Option (AV × Heap)) {Q : AV → Heap → Prop} (h : Yl (
(binAV H .lss (.one .int) v35 v34).bind fun v36 =>
 condK v36 (
(indexV H 1 v33 v35).bind fun v37 =>
(loadAV H none v37).bind fun v38 =>
(nilCheckAV v38).bind fun v40 =>
(fieldAddrAV 10 v40).bind fun v41 =>
(loadAV H none v41).bind fun v42 =>
 gB v42 (
(nilCheckAV v38).bind fun v45 =>
(fieldAddrAV 0 v45).bind fun v46 =>
(fieldAddrAV 0 v46).bind fun v47 =>
(fieldAddrAV 1 v47).bind fun v48 =>
(loadAV H none v48).bind fun v49 =>
(fieldAddrAV 1 v5).bind fun v50 =>
(loadAV H none v50).bind fun v51 =>
(binAV H .eql (.one .str) v49 v51).bind fun v52 =>
 gB v52 (
(binAV H .neq .ptr v38 v3).bind fun v57 =>
 j_request_desk_permits_1 v2 v3 v5 v9 v10 v11 v12 v38 v33 v34 v35 v57 H k0) (
 j_request_desk_permits_1 v2 v3 v5 v9 v10 v11 v12 v38 v33 v34 v35 (.bool false) H k0)) (
 j_request_desk_permits_1 v2 v3 v5 v9 v10 v11 v12 v38 v33 v34 v35 (.bool false) H k0)) (
 k0 v2 v3 v5 v9 v10 v11 v12 H)) Q) : Yl (l_request_desk_permits_0 v2 v3 v5 v9 v10 v11 v12 v33 v34 v35 H k0) Q := by
  unfold l_request_desk_permits_0
  exact loop_yl (by kernel_rfl) h
theorem r_request_desk_permits (v0 v1 v2 v3 : AV) (H : Heap) {Q : AV → Heap → Prop} (h : Yl (
(boxAV 8 v1 H).bind fun r1 =>
(nilCheckAV v0).bind fun v17 =>
(fieldAddrAV 0 v17).bind fun v18 =>
(loadAV r1.2 none v18).bind fun v19 =>
(fieldAddrAV 1 r1.1).bind fun v20 =>
(loadAV r1.2 none v20).bind fun v21 =>
(lookupAV r1.2 (.one .str) (.agg [(.str []), (.int .i64 0), (.int .i64 0)]) true v19 v21).bind fun v22 =>
(extractAV v22 0).bind fun v23 =>
(extractAV v22 1).bind fun v24 =>
(boxAV 3 (.agg [(.str []), (.int .i64 0), (.int .i64 0)]) r1.2).bind fun r2 =>
(storeAV r2.2 3 r2.1 v23).bind fun H3 =>
(fieldAddrAV 6 r1.1).bind fun v25 =>
(loadAV H3 none v25).bind fun v26 =>
(fieldAddrAV 7 r1.1).bind fun v27 =>
(loadAV H3 none v27).bind fun v28 =>
(binAV H3 .add (.one .int) v26 v28).bind fun v29 =>
(nilCheckAV v0).bind fun v31 =>
(fieldAddrAV 3 v31).bind fun v32 =>
(loadAV H3 none v32).bind fun v33 =>
(lenX H3 .slice v33).bind fun v34 =>
 l_request_desk_permits_0 v2 v3 r1.1 r2.1 v24 (.int .i64 0) v29 v33 v34 (.int .i64 0) H3 (fun v2_1 v3_1 v5 v9 v10 v11 v12 H4 =>
 gB v10 (
(binAV H4 .neq .ptr v3_1 (.nilptr)).bind fun v69 =>
 gB v69 (
(fieldAddrAV 2 v9).bind fun v79 =>
(loadAV H4 none v79).bind fun v80 =>
(binAV H4 .leq (.one .int) v12 v80).bind fun v81 =>
 gB v81 (
(fieldAddrAV 4 v5).bind fun v84 =>
(loadAV H4 none v84).bind fun v85 =>
(binAV H4 .geq (.one .int) v85 v2_1).bind fun v87 =>
 some (v87, H4)) (
 some ((.bool false), H4))) (
(fieldAddrAV 1 v9).bind fun v72 =>
(loadAV H4 none v72).bind fun v73 =>
(binAV H4 .lss (.one .int) v11 v73).bind fun v74 =>
 gB v74 (
(fieldAddrAV 2 v9).bind fun v79_1 =>
(loadAV H4 none v79_1).bind fun v80_1 =>
(binAV H4 .leq (.one .int) v12 v80_1).bind fun v81_1 =>
 gB v81_1 (
(fieldAddrAV 4 v5).bind fun v84_1 =>
(loadAV H4 none v84_1).bind fun v85_1 =>
(binAV H4 .geq (.one .int) v85_1 v2_1).bind fun v87_1 =>
 some (v87_1, H4)) (
 some ((.bool false), H4))) (
 some ((.bool false), H4)))) (
 some ((.bool false), H4)))) Q) : Yl (R prog f_request_desk_permits [v0, v1, v2, v3] H) Q :=
  R_yl (fn := x156) (by kernel_rfl) rfl (by kernel_rfl) h
theorem r_request_desk_place (v0 v1 v2 : AV) (H : Heap) {Q : AV → Heap → Prop} (h : Yl (
(pureCall prog (R prog) f_request_desk_fits [v0, v1] H).bind fun v9 =>
 condK v9 (
(nilCheckAV v0).bind fun v11 =>
(fieldAddrAV 4 v11).bind fun v12 =>
(loadAV H none v12).bind fun v13 =>
(nilCheckAV v1).bind fun v16 =>
(fieldAddrAV 0 v16).bind fun v17 =>
(fieldAddrAV 0 v17).bind fun v18 =>
(loadAV H (some 8) v18).bind fun v19 =>
(pureCall prog (R prog) f_request_desk_room [v0, v19] H).bind fun v20 =>
(indexV H 1 v13 v20).bind fun v21 =>
(loadAV H none v21).bind fun v22 =>
(pureCall prog (R prog) f_request_entry_seats [v1] H).bind fun v24 =>
(binAV H .add (.one .int) v22 v24).bind fun v25 =>
(indexV H 1 v13 v20).bind fun v26 =>
(storeAV H 1 v26 v25).bind fun H1 =>
(nilCheckAV v1).bind fun v31 =>
(fieldAddrAV 0 v31).bind fun v32 =>
(fieldAddrAV 8 v32).bind fun v33 =>
(storeAV H1 1 v33 (.int .i64 1)).bind fun H2 =>
(nilCheckAV v1).bind fun v34 =>
(fieldAddrAV 0 v34).bind fun v35 =>
(fieldAddrAV 9 v35).bind fun v36 =>
(storeAV H2 1 v36 v2).bind fun H3 =>
 some (.tuple [], H3)) (
(nilCheckAV v1).bind fun v31_1 =>
(fieldAddrAV 0 v31_1).bind fun v32_1 =>
(fieldAddrAV 8 v32_1).bind fun v33_1 =>
(storeAV H 1 v33_1 (.int .i64 2)).bind fun H4 =>
(nilCheckAV v1).bind fun v34_1 =>
(fieldAddrAV 0 v34_1).bind fun v35_1 =>
(fieldAddrAV 9 v35_1).bind fun v36_1 =>
(storeAV H4 1 v36_1 v2).bind fun H5 =>
 some (.tuple [], H5))) Q) : Yl (R prog f_request_desk_place [v0, v1, v2] H) Q :=
  R_yl (fn := x157) (by kernel_rfl) rfl (by kernel_rfl) h
noncomputable def l_slices_insertionSortCmpFunc_api_Standing_1 (v0 v1 v2 v3 v8 : AV) (H : Heap) (k0 : Heap → Option (AV × Heap)) : Option (AV × Heap) :=
  loopK prog (R prog) b158_1 (fun t => bif Nat.beq t 0 then v0 else bif Nat.beq t 1 then v1 else bif Nat.beq t 2 then v2 else bif Nat.beq t 3 then v3 else bif Nat.beq t 8 then v8 else .undef) H (fun i e H => bif Nat.beq i 0 then k0 H else none) (fun e H => some (.tuple [], H))
noncomputable def l_slices_insertionSortCmpFunc_api_Standing_0 (v0 v1 v2 v3 v8 v9 : AV) (H : Heap) (k2 : AV → AV → AV → AV → AV → Heap → Option (AV × Heap)) : Option (AV × Heap) :=
  loopK prog (R prog) b158_0 (fun t => bif Nat.beq t 0 then v0 else bif Nat.beq t 1 then v1 else bif Nat.beq t 2 then v2 else bif Nat.beq t 3 then v3 else bif Nat.beq t 8 then v8 else bif Nat.beq t 9 then v9 else .undef) H (fun i e H => bif Nat.beq i 2 then k2 (e 0) (e 1) (e 2) (e 3) (e 8) H else none) (fun e H => some (.tuple [], H))
theorem l_slices_insertionSortCmpFunc_api_Standing_0_s (v0 v1 v2 v3 v8 v9 : AV) (H : Heap) (k2 : AV → AV → AV → AV → AV → Heap → Option (AV × Heap)) {Q : AV → Heap → Prop} (h : Yl (
(binAV H .gtr (.one .int) v9 v1).bind fun v20 =>
 gB v20 (
(indexV H 10 v0 v9).bind fun v25 =>
(loadAV H (some 10) v25).bind fun v26 =>
(binAV H .sub (.one .int) v9 (.int .i64 1)).bind fun v29 =>
(indexV H 10 v0 v29).bind fun v30 =>
(loadAV H (some 10) v30).bind fun v31 =>
 callK prog (R prog) v3 [v26, v31] H fun v32 H1 =>
(binAV H1 .lss (.one .int) v32 (.int .i64 0)).bind fun v33 =>
 condK v33 (
(binAV H1 .sub (.one .int) v9 (.int .i64 1)).bind fun v41 =>
(binAV H1 .sub (.one .int) v9 (.int .i64 1)).bind fun v44 =>
(indexV H1 10 v0 v44).bind fun v45 =>
(loadAV H1 (some 10) v45).bind fun v46 =>
(indexV H1 10 v0 v9).bind fun v49 =>
(loadAV H1 (some 10) v49).bind fun v50 =>
(indexV H1 10 v0 v9).bind fun v51 =>
(storeAV H1 10 v51 v46).bind fun H2 =>
(indexV H2 10 v0 v41).bind fun v52 =>
(storeAV H2 10 v52 v50).bind fun H3 =>
(binAV H3 .sub (.one .int) v9 (.int .i64 1)).bind fun v36 =>
 l_slices_insertionSortCmpFunc_api_Standing_0 v0 v1 v2 v3 v8 v36 H3 k2) (
 k2 v0 v1 v2 v3 v8 H1)) (
 k2 v0 v1 v2 v3 v8 H)) Q) : Yl (l_slices_insertionSortCmpFunc_api_Standing_0 v0 v1 v2 v3 v8 v9 H k2) Q := by
  unfold l_slices_insertionSortCmpFunc_api_Standing_0
  exact loop_yl (by kernel_rfl) h
theorem l_slices_insertionSortCmpFunc_api_Standing_1_s (v0 v1 v2 v3 v8 : AV) (H : Heap) (k0 : Heap → Option (AV × Heap)) {Q : AV → Heap → Prop} (h : Yl (
(binAV H .lss (.one .int) v8 v2).bind fun v14 =>
 condK v14 (
 l_slices_insertionSortCmpFunc_api_Standing_0 v0 v1 v2 v3 v8 v8 H (fun v0_1 v1_1 v2_1 v3_1 v8_1 H4 =>
(binAV H4 .add (.one .int) v8_1 (.int .i64 1)).bind fun v16 =>
 l_slices_insertionSortCmpFunc_api_Standing_1 v0_1 v1_1 v2_1 v3_1 v16 H4 k0)) (
 k0 H)) Q) : Yl (l_slices_insertionSortCmpFunc_api_Standing_1 v0 v1 v2 v3 v8 H k0) Q := by
  unfold l_slices_insertionSortCmpFunc_api_Standing_1
  exact loop_yl (by kernel_rfl) h
theorem r_slices_insertionSortCmpFunc_api_Standing (v0 v1 v2 v3 : AV) (H : Heap) {Q : AV → Heap → Prop} (h : Yl (
(binAV H .add (.one .int) v1 (.int .i64 1)).bind fun v11 =>
 l_slices_insertionSortCmpFunc_api_Standing_1 v0 v1 v2 v3 v11 H (fun  H5 =>
 some (.tuple [], H5))) Q) : Yl (R prog f_slices_insertionSortCmpFunc_api_Standing [v0, v1, v2, v3] H) Q :=
  R_yl (fn := x158) (by kernel_rfl) rfl (by kernel_rfl) h
noncomputable def l_slices_pdqsortCmpFunc_request_entry_0 (v0 v1 v2 v3 v4 v10 v11 : AV) (H : Heap) : Option (AV × Heap) :=
  loopK prog (R prog) b169_0 (fun t => bif Nat.beq t 0 then v0 else bif Nat.beq t 1 then v1 else bif Nat.beq t 2 then v2 else bif Nat.beq t 3 then v3 else bif Nat.beq t 4 then v4 else bif Nat.beq t 10 then v10 else bif Nat.beq t 11 then v11 else .undef) H (fun i e H => none) (fun e H => some (.tuple [], H))
noncomputable def j_slices_pdqsortCmpFunc_request_entry_4 (v0 v1 v2 v3 v4 v12 v13 : AV) (H : Heap) : Option (AV × Heap) :=
(R prog f_slices_partitionCmpFunc_request_entry [v0, v1, v2, v13, v4] H).bind fun r4 =>
(extractAV r4.1 0).bind fun v112 =>
(extractAV r4.1 1).bind fun v113 =>
(binAV r4.2 .sub (.one .int) v112 v1).bind fun v117 =>
(binAV r4.2 .sub (.one .int) v2 v112).bind fun v120 =>
(binAV r4.2 .quo (.one .int) v12 (.int .i64 8)).bind fun v122 =>
(binAV r4.2 .lss (.one .int) v117 v120).bind fun v125 =>
 condK v125 (
(binAV r4.2 .geq (.one .int) v117 v122).bind fun v128 =>
(R prog f_slices_pdqsortCmpFunc_request_entry [v0, v1, v112, v3, v4] r4.2).bind fun r5 =>
(binAV r5.2 .add (.one .int) v112 (.int .i64 1)).bind fun v136 =>
 l_slices_pdqsortCmpFunc_request_entry_0 v0 v136 v2 v3 v4 v128 v113 r5.2) (
(binAV r4.2 .geq (.one .int) v120 v122).bind fun v139 =>
(binAV r4.2 .add (.one .int) v112 (.int .i64 1)).bind fun v142 =>
(R prog f_slices_pdqsortCmpFunc_request_entry [v0, v142, v2, v3, v4] r4.2).bind fun r6 =>
 l_slices_pdqsortCmpFunc_request_entry_0 v0 v1 v112 v3 v4 v139 v113 r6.2)
noncomputable def j_slices_pdqsortCmpFunc_request_entry_3 (v0 v1 v2 v3 v4 v10 v11 v12 v13 : AV) (H : Heap) : Option (AV × Heap) :=
(binAV H .gtr (.one .int) v1 (.int .i64 0)).bind fun v82 =>
 gB v82 (
(binAV H .sub (.one .int) v1 (.int .i64 1)).bind fun v87 =>
(indexV H 1 v0 v87).bind fun v88 =>
(loadAV H none v88).bind fun v89 =>
(indexV H 1 v0 v13).bind fun v92 =>
(loadAV H none v92).bind fun v93 =>
 callK prog (R prog) v4 [v89, v93] H fun v94 H7 =>
(binAV H7 .lss (.one .int) v94 (.int .i64 0)).bind fun v95 =>
(unAV .not v95).bind fun v96 =>
 condK v96 (
(R prog f_slices_partitionEqualCmpFunc_request_entry [v0, v1, v2, v13, v4] H7).bind fun r8 =>
 l_slices_pdqsortCmpFunc_request_entry_0 v0 r8.1 v2 v3 v4 v10 v11 r8.2) (
 j_slices_pdqsortCmpFunc_request_entry_4 v0 v1 v2 v3 v4 v12 v13 H7)) (
 j_slices_pdqsortCmpFunc_request_entry_4 v0 v1 v2 v3 v4 v12 v13 H)
noncomputable def j_slices_pdqsortCmpFunc_request_entry_2 (v0 v1 v2 v3 v4 v10 v11 v12 v13 v14 : AV) (H : Heap) : Option (AV × Heap) :=
 gB v10 (
 gB v11 (
(binAV H .eql (.one .int) v14 (.int .i64 1)).bind fun v74 =>
 condK v74 (
(R prog f_slices_partialInsertionSortCmpFunc_request_entry [v0, v1, v2, v4] H).bind fun r9 =>
 condK r9.1 (
 some (.tuple [], r9.2)) (
 j_slices_pdqsortCmpFunc_request_entry_3 v0 v1 v2 v3 v4 v10 v11 v12 v13 r9.2)) (
 j_slices_pdqsortCmpFunc_request_entry_3 v0 v1 v2 v3 v4 v10 v11 v12 v13 H)) (
 j_slices_pdqsortCmpFunc_request_entry_3 v0 v1 v2 v3 v4 v10 v11 v12 v13 H)) (
 j_slices_pdqsortCmpFunc_request_entry_3 v0 v1 v2 v3 v4 v10 v11 v12 v13 H)
noncomputable def j_slices_pdqsortCmpFunc_request_entry_1 (v0 v1 v2 v3 v4 v10 v11 v12 : AV) (H : Heap) : Option (AV × Heap) :=
(R prog f_slices_choosePivotCmpFunc_request_entry [v0, v1, v2, v4] H).bind fun r3 =>
(extractAV r3.1 0).bind fun v53 =>
(extractAV r3.1 1).bind fun v54 =>
(binAV r3.2 .eql (.one .int) v54 (.int .i64 2)).bind fun v56 =>
 condK v56 (
(R prog f_slices_reverseRangeCmpFunc_request_entry [v0, v1, v2, v4] r3.2).bind fun r10 =>
(binAV r10.2 .sub (.one .int) v2 (.int .i64 1)).bind fun v63 =>
(binAV r10.2 .sub (.one .int) v53 v1).bind fun v66 =>
(binAV r10.2 .sub (.one .int) v63 v66).bind fun v67 =>
 j_slices_pdqsortCmpFunc_request_entry_2 v0 v1 v2 v3 v4 v10 v11 v12 v67 (.int .i64 1) r10.2) (
 j_slices_pdqsortCmpFunc_request_entry_2 v0 v1 v2 v3 v4 v10 v11 v12 v53 v54 r3.2)
theorem l_slices_pdqsortCmpFunc_request_entry_0_s (v0 v1 v2 v3 v4 v10 v11 : AV) (H : Heap) {Q : AV → Heap → Prop} (h : Yl (
(binAV H .sub (.one .int) v2 v1).bind fun v23 =>
(binAV H .leq (.one .int) v23 (.int .i64 12)).bind fun v25 =>
 condK v25 (
(R prog f_slices_insertionSortCmpFunc_request_entry [v0, v1, v2, v4] H).bind fun r1 =>
 some (.tuple [], r1.2)) (
(binAV H .eql (.one .int) v3 (.int .i64 0)).bind fun v32 =>
 condK v32 (
(R prog f_slices_heapSortCmpFunc_request_entry [v0, v1, v2, v4] H).bind fun r2 =>
 some (.tuple [], r2.2)) (
(unAV .not v10).bind fun v39 =>
 condK v39 (
(R prog f_slices_breakPatternsCmpFunc_request_entry [v0, v1, v2, v4] H).bind fun r11 =>
(binAV r11.2 .sub (.one .int) v3 (.int .i64 1)).bind fun v46 =>
 j_slices_pdqsortCmpFunc_request_entry_1 v0 v1 v2 v46 v4 v10 v11 v23 r11.2) (
 j_slices_pdqsortCmpFunc_request_entry_1 v0 v1 v2 v3 v4 v10 v11 v23 H)))) Q) : Yl (l_slices_pdqsortCmpFunc_request_entry_0 v0 v1 v2 v3 v4 v10 v11 H) Q := by
  unfold l_slices_pdqsortCmpFunc_request_entry_0
  exact loop_yl (by kernel_rfl) h
theorem r_slices_pdqsortCmpFunc_request_entry (v0 v1 v2 v3 v4 : AV) (H : Heap) {Q : AV → Heap → Prop} (h : Yl (
 l_slices_pdqsortCmpFunc_request_entry_0 v0 v1 v2 v3 v4 (.bool true) (.bool true) H) Q) : Yl (R prog f_slices_pdqsortCmpFunc_request_entry [v0, v1, v2, v3, v4] H) Q :=
  R_yl (fn := x169) (by kernel_rfl) rfl (by kernel_rfl) h
theorem r_internal_stringslite_IndexByte (v0 v1 : AV) (H : Heap) {Q : AV → Heap → Prop} (h : Yl (
(pureCall prog (R prog) f_internal_bytealg_IndexByteString [v0, v1] H).bind fun v7 =>
 some (v7, H)) Q) : Yl (R prog f_internal_stringslite_IndexByte [v0, v1] H) Q :=
  R_yl (fn := x178) (by kernel_rfl) rfl (by kernel_rfl) h
noncomputable def l_slices_insertionSortCmpFunc_api_Ride_1 (v0 v1 v2 v3 v8 : AV) (H : Heap) (k0 : Heap → Option (AV × Heap)) : Option (AV × Heap) :=
  loopK prog (R prog) b183_1 (fun t => bif Nat.beq t 0 then v0 else bif Nat.beq t 1 then v1 else bif Nat.beq t 2 then v2 else bif Nat.beq t 3 then v3 else bif Nat.beq t 8 then v8 else .undef) H (fun i e H => bif Nat.beq i 0 then k0 H else none) (fun e H => some (.tuple [], H))
noncomputable def l_slices_insertionSortCmpFunc_api_Ride_0 (v0 v1 v2 v3 v8 v9 : AV) (H : Heap) (k2 : AV → AV → AV → AV → AV → Heap → Option (AV × Heap)) : Option (AV × Heap) :=
  loopK prog (R prog) b183_0 (fun t => bif Nat.beq t 0 then v0 else bif Nat.beq t 1 then v1 else bif Nat.beq t 2 then v2 else bif Nat.beq t 3 then v3 else bif Nat.beq t 8 then v8 else bif Nat.beq t 9 then v9 else .undef) H (fun i e H => bif Nat.beq i 2 then k2 (e 0) (e 1) (e 2) (e 3) (e 8) H else none) (fun e H => some (.tuple [], H))
theorem l_slices_insertionSortCmpFunc_api_Ride_0_s (v0 v1 v2 v3 v8 v9 : AV) (H : Heap) (k2 : AV → AV → AV → AV → AV → Heap → Option (AV × Heap)) {Q : AV → Heap → Prop} (h : Yl (
(binAV H .gtr (.one .int) v9 v1).bind fun v20 =>
 gB v20 (
(indexV H 8 v0 v9).bind fun v25 =>
(loadAV H (some 8) v25).bind fun v26 =>
(binAV H .sub (.one .int) v9 (.int .i64 1)).bind fun v29 =>
(indexV H 8 v0 v29).bind fun v30 =>
(loadAV H (some 8) v30).bind fun v31 =>
 callK prog (R prog) v3 [v26, v31] H fun v32 H1 =>
(binAV H1 .lss (.one .int) v32 (.int .i64 0)).bind fun v33 =>
 condK v33 (
(binAV H1 .sub (.one .int) v9 (.int .i64 1)).bind fun v41 =>
(binAV H1 .sub (.one .int) v9 (.int .i64 1)).bind fun v44 =>
(indexV H1 8 v0 v44).bind fun v45 =>
(loadAV H1 (some 8) v45).bind fun v46 =>
(indexV H1 8 v0 v9).bind fun v49 =>
(loadAV H1 (some 8) v49).bind fun v50 =>
(indexV H1 8 v0 v9).bind fun v51 =>
(storeAV H1 8 v51 v46).bind fun H2 =>
(indexV H2 8 v0 v41).bind fun v52 =>
(storeAV H2 8 v52 v50).bind fun H3 =>
(binAV H3 .sub (.one .int) v9 (.int .i64 1)).bind fun v36 =>
 l_slices_insertionSortCmpFunc_api_Ride_0 v0 v1 v2 v3 v8 v36 H3 k2) (
 k2 v0 v1 v2 v3 v8 H1)) (
 k2 v0 v1 v2 v3 v8 H)) Q) : Yl (l_slices_insertionSortCmpFunc_api_Ride_0 v0 v1 v2 v3 v8 v9 H k2) Q := by
  unfold l_slices_insertionSortCmpFunc_api_Ride_0
  exact loop_yl (by kernel_rfl) h
theorem l_slices_insertionSortCmpFunc_api_Ride_1_s (v0 v1 v2 v3 v8 : AV) (H : Heap) (k0 : Heap → Option (AV × Heap)) {Q : AV → Heap → Prop} (h : Yl (
(binAV H .lss (.one .int) v8 v2).bind fun v14 =>
 condK v14 (
 l_slices_insertionSortCmpFunc_api_Ride_0 v0 v1 v2 v3 v8 v8 H (fun v0_1 v1_1 v2_1 v3_1 v8_1 H4 =>
(binAV H4 .add (.one .int) v8_1 (.int .i64 1)).bind fun v16 =>
 l_slices_insertionSortCmpFunc_api_Ride_1 v0_1 v1_1 v2_1 v3_1 v16 H4 k0)) (
 k0 H)) Q) : Yl (l_slices_insertionSortCmpFunc_api_Ride_1 v0 v1 v2 v3 v8 H k0) Q := by
  unfold l_slices_insertionSortCmpFunc_api_Ride_1
  exact loop_yl (by kernel_rfl) h
theorem r_slices_insertionSortCmpFunc_api_Ride (v0 v1 v2 v3 : AV) (H : Heap) {Q : AV → Heap → Prop} (h : Yl (
(binAV H .add (.one .int) v1 (.int .i64 1)).bind fun v11 =>
 l_slices_insertionSortCmpFunc_api_Ride_1 v0 v1 v2 v3 v11 H (fun  H5 =>
 some (.tuple [], H5))) Q) : Yl (R prog f_slices_insertionSortCmpFunc_api_Ride [v0, v1, v2, v3] H) Q :=
  R_yl (fn := x183) (by kernel_rfl) rfl (by kernel_rfl) h
theorem r_slices_ContainsFunc_string_string (v0 v1 : AV) (H : Heap) {Q : AV → Heap → Prop} (h : Yl (
(pureCall prog (R prog) f_slices_IndexFunc_string_string [v0, v1] H).bind fun v7 =>
(binAV H .geq (.one .int) v7 (.int .i64 0)).bind fun v8 =>
 some (v8, H)) Q) : Yl (R prog f_slices_ContainsFunc_string_string [v0, v1] H) Q :=
  R_yl (fn := x191) (by kernel_rfl) rfl (by kernel_rfl) h
theorem r_request_allKeys_1 (v0 : AV) (H : Heap) {Q : AV → Heap → Prop} (h : Yl (
(pureCall prog (R prog) f_base_Key [v0] H).bind fun v4 =>
(unAV .not v4).bind fun v5 =>
 some (v5, H)) Q) : Yl (R prog f_request_allKeys_1 [v0] H) Q :=
  R_yl (fn := x192) (by kernel_rfl) rfl (by kernel_rfl) h
theorem r_request_entry_seats (v0 : AV) (H : Heap) {Q : AV → Heap → Prop} (h : Yl (
(nilCheckAV v0).bind fun v4 =>
(fieldAddrAV 0 v4).bind fun v5 =>
(fieldAddrAV 0 v5).bind fun v6 =>
(fieldAddrAV 6 v6).bind fun v7 =>
(loadAV H none v7).bind fun v8 =>
(nilCheckAV v0).bind fun v10 =>
(fieldAddrAV 0 v10).bind fun v11 =>
(fieldAddrAV 0 v11).bind fun v12 =>
(fieldAddrAV 7 v12).bind fun v13 =>
(loadAV H none v13).bind fun v14 =>
(binAV H .add (.one .int) v8 v14).bind fun v15 =>
 some (v15, H)) Q) : Yl (R prog f_request_entry_seats [v0] H) Q :=
  R_yl (fn := x206) (by kernel_rfl) rfl (by kernel_rfl) h
noncomputable def l_slices_pdqsortOrdered_int_0 (v0 v1 v2 v3 v8 v9 : AV) (H : Heap) : Option (AV × Heap) :=
  loopK prog (R prog) b207_0 (fun t => bif Nat.beq t 0 then v0 else bif Nat.beq t 1 then v1 else bif Nat.beq t 2 then v2 else bif Nat.beq t 3 then v3 else bif Nat.beq t 8 then v8 else bif Nat.beq t 9 then v9 else .undef) H (fun i e H => none) (fun e H => some (.tuple [], H))
noncomputable def j_slices_pdqsortOrdered_int_4 (v0 v1 v2 v3 v10 v11 : AV) (H : Heap) : Option (AV × Heap) :=
(R prog f_slices_partitionOrdered_int [v0, v1, v2, v11] H).bind fun r4 =>
(extractAV r4.1 0).bind fun v100 =>
(extractAV r4.1 1).bind fun v101 =>
(binAV r4.2 .sub (.one .int) v100 v1).bind fun v105 =>
(binAV r4.2 .sub (.one .int) v2 v100).bind fun v108 =>
(binAV r4.2 .quo (.one .int) v10 (.int .i64 8)).bind fun v110 =>
(binAV r4.2 .lss (.one .int) v105 v108).bind fun v113 =>
 condK v113 (
(binAV r4.2 .geq (.one .int) v105 v110).bind fun v116 =>
(R prog f_slices_pdqsortOrdered_int [v0, v1, v100, v3] r4.2).bind fun r5 =>
(binAV r5.2 .add (.one .int) v100 (.int .i64 1)).bind fun v123 =>
 l_slices_pdqsortOrdered_int_0 v0 v123 v2 v3 v116 v101 r5.2) (
(binAV r4.2 .geq (.one .int) v108 v110).bind fun v126 =>
(binAV r4.2 .add (.one .int) v100 (.int .i64 1)).bind fun v129 =>
(R prog f_slices_pdqsortOrdered_int [v0, v129, v2, v3] r4.2).bind fun r6 =>
 l_slices_pdqsortOrdered_int_0 v0 v1 v100 v3 v126 v101 r6.2)
noncomputable def j_slices_pdqsortOrdered_int_3 (v0 v1 v2 v3 v8 v9 v10 v11 : AV) (H : Heap) : Option (AV × Heap) :=
(binAV H .gtr (.one .int) v1 (.int .i64 0)).bind fun v74 =>
 gB v74 (
(binAV H .sub (.one .int) v1 (.int .i64 1)).bind fun v78 =>
(indexV H 1 v0 v78).bind fun v79 =>
(loadAV H none v79).bind fun v80 =>
(indexV H 1 v0 v11).bind fun v83 =>
(loadAV H none v83).bind fun v84 =>
(pureCall prog (R prog) f_cmp_Less_int [v80, v84] H).bind fun v85 =>
(unAV .not v85).bind fun v86 =>
 condK v86 (
(R prog f_slices_partitionEqualOrdered_int [v0, v1, v2, v11] H).bind fun r7 =>
 l_slices_pdqsortOrdered_int_0 v0 r7.1 v2 v3 v8 v9 r7.2) (
 j_slices_pdqsortOrdered_int_4 v0 v1 v2 v3 v10 v11 H)) (
 j_slices_pdqsortOrdered_int_4 v0 v1 v2 v3 v10 v11 H)
noncomputable def j_slices_pdqsortOrdered_int_2 (v0 v1 v2 v3 v8 v9 v10 v11 v12 : AV) (H : Heap) : Option (AV × Heap) :=
 gB v8 (
 gB v9 (
(binAV H .eql (.one .int) v12 (.int .i64 1)).bind fun v67 =>
 condK v67 (
(R prog f_slices_partialInsertionSortOrdered_int [v0, v1, v2] H).bind fun r8 =>
 condK r8.1 (
 some (.tuple [], r8.2)) (
 j_slices_pdqsortOrdered_int_3 v0 v1 v2 v3 v8 v9 v10 v11 r8.2)) (
 j_slices_pdqsortOrdered_int_3 v0 v1 v2 v3 v8 v9 v10 v11 H)) (
 j_slices_pdqsortOrdered_int_3 v0 v1 v2 v3 v8 v9 v10 v11 H)) (
 j_slices_pdqsortOrdered_int_3 v0 v1 v2 v3 v8 v9 v10 v11 H)
noncomputable def j_slices_pdqsortOrdered_int_1 (v0 v1 v2 v3 v8 v9 v10 : AV) (H : Heap) : Option (AV × Heap) :=
(R prog f_slices_choosePivotOrdered_int [v0, v1, v2] H).bind fun r3 =>
(extractAV r3.1 0).bind fun v47 =>
(extractAV r3.1 1).bind fun v48 =>
(binAV r3.2 .eql (.one .int) v48 (.int .i64 2)).bind fun v50 =>
 condK v50 (
(R prog f_slices_reverseRangeOrdered_int [v0, v1, v2] r3.2).bind fun r9 =>
(binAV r9.2 .sub (.one .int) v2 (.int .i64 1)).bind fun v56 =>
(binAV r9.2 .sub (.one .int) v47 v1).bind fun v59 =>
(binAV r9.2 .sub (.one .int) v56 v59).bind fun v60 =>
 j_slices_pdqsortOrdered_int_2 v0 v1 v2 v3 v8 v9 v10 v60 (.int .i64 1) r9.2) (
 j_slices_pdqsortOrdered_int_2 v0 v1 v2 v3 v8 v9 v10 v47 v48 r3.2)
theorem l_slices_pdqsortOrdered_int_0_s (v0 v1 v2 v3 v8 v9 : AV) (H : Heap) {Q : AV → Heap → Prop} (h : Yl (
(binAV H .sub (.one .int) v2 v1).bind fun v21 =>
(binAV H .leq (.one .int) v21 (.int .i64 12)).bind fun v23 =>
 condK v23 (
(R prog f_slices_insertionSortOrdered_int [v0, v1, v2] H).bind fun r1 =>
 some (.tuple [], r1.2)) (
(binAV H .eql (.one .int) v3 (.int .i64 0)).bind fun v29 =>
 condK v29 (
(R prog f_slices_heapSortOrdered_int [v0, v1, v2] H).bind fun r2 =>
 some (.tuple [], r2.2)) (
(unAV .not v8).bind fun v35 =>
 condK v35 (
(R prog f_slices_breakPatternsOrdered_int [v0, v1, v2] H).bind fun r10 =>
(binAV r10.2 .sub (.one .int) v3 (.int .i64 1)).bind fun v41 =>
 j_slices_pdqsortOrdered_int_1 v0 v1 v2 v41 v8 v9 v21 r10.2) (
 j_slices_pdqsortOrdered_int_1 v0 v1 v2 v3 v8 v9 v21 H)))) Q) : Yl (l_slices_pdqsortOrdered_int_0 v0 v1 v2 v3 v8 v9 H) Q := by
  unfold l_slices_pdqsortOrdered_int_0
  exact loop_yl (by kernel_rfl) h
theorem r_slices_pdqsortOrdered_int (v0 v1 v2 v3 : AV) (H : Heap) {Q : AV → Heap → Prop} (h : Yl (
 l_slices_pdqsortOrdered_int_0 v0 v1 v2 v3 (.bool true) (.bool true) H) Q) : Yl (R prog f_slices_pdqsortOrdered_int [v0, v1, v2, v3] H) Q :=
  R_yl (fn := x207) (by kernel_rfl) rfl (by kernel_rfl) h
theorem r_request_desk_fits (v0 v1 : AV) (H : Heap) {Q : AV → Heap → Prop} (h : Yl (
(nilCheckAV v1).bind fun v8 =>
(fieldAddrAV 0 v8).bind fun v9 =>
(fieldAddrAV 0 v9).bind fun v10 =>
(loadAV H (some 8) v10).bind fun v11 =>
(pureCall prog (R prog) f_request_desk_room [v0, v11] H).bind fun v12 =>
(binAV H .geq (.one .int) v12 (.int .i64 0)).bind fun v14 =>
 gB v14 (
(nilCheckAV v0).bind fun v17 =>
(fieldAddrAV 4 v17).bind fun v18 =>
(loadAV H none v18).bind fun v19 =>
(indexV H 1 v19 v12).bind fun v21 =>
(loadAV H none v21).bind fun v22 =>
(pureCall prog (R prog) f_request_entry_seats [v1] H).bind fun v24 =>
(binAV H .add (.one .int) v22 v24).bind fun v25 =>
(nilCheckAV v0).bind fun v27 =>
(fieldAddrAV 1 v27).bind fun v28 =>
(loadAV H none v28).bind fun v29 =>
(indexV H 3 v29 v12).bind fun v31 =>
(fieldAddrAV 2 v31).bind fun v32 =>
(loadAV H none v32).bind fun v33 =>
(binAV H .leq (.one .int) v25 v33).bind fun v34 =>
 some (v34, H)) (
 some ((.bool false), H))) Q) : Yl (R prog f_request_desk_fits [v0, v1] H) Q :=
  R_yl (fn := x208) (by kernel_rfl) rfl (by kernel_rfl) h
noncomputable def l_slices_insertionSortCmpFunc_request_entry_1 (v0 v1 v2 v3 v8 : AV) (H : Heap) (k0 : Heap → Option (AV × Heap)) : Option (AV × Heap) :=
  loopK prog (R prog) b214_1 (fun t => bif Nat.beq t 0 then v0 else bif Nat.beq t 1 then v1 else bif Nat.beq t 2 then v2 else bif Nat.beq t 3 then v3 else bif Nat.beq t 8 then v8 else .undef) H (fun i e H => bif Nat.beq i 0 then k0 H else none) (fun e H => some (.tuple [], H))
noncomputable def l_slices_insertionSortCmpFunc_request_entry_0 (v0 v1 v2 v3 v8 v9 : AV) (H : Heap) (k2 : AV → AV → AV → AV → AV → Heap → Option (AV × Heap)) : Option (AV × Heap) :=
  loopK prog (R prog) b214_0 (fun t => bif Nat.beq t 0 then v0 else bif Nat.beq t 1 then v1 else bif Nat.beq t 2 then v2 else bif Nat.beq t 3 then v3 else bif Nat.beq t 8 then v8 else bif Nat.beq t 9 then v9 else .undef) H (fun i e H => bif Nat.beq i 2 then k2 (e 0) (e 1) (e 2) (e 3) (e 8) H else none) (fun e H => some (.tuple [], H))
theorem l_slices_insertionSortCmpFunc_request_entry_0_s (v0 v1 v2 v3 v8 v9 : AV) (H : Heap) (k2 : AV → AV → AV → AV → AV → Heap → Option (AV × Heap)) {Q : AV → Heap → Prop} (h : Yl (
(binAV H .gtr (.one .int) v9 v1).bind fun v20 =>
 gB v20 (
(indexV H 1 v0 v9).bind fun v25 =>
(loadAV H none v25).bind fun v26 =>
(binAV H .sub (.one .int) v9 (.int .i64 1)).bind fun v29 =>
(indexV H 1 v0 v29).bind fun v30 =>
(loadAV H none v30).bind fun v31 =>
 callK prog (R prog) v3 [v26, v31] H fun v32 H1 =>
(binAV H1 .lss (.one .int) v32 (.int .i64 0)).bind fun v33 =>
 condK v33 (
(binAV H1 .sub (.one .int) v9 (.int .i64 1)).bind fun v41 =>
(binAV H1 .sub (.one .int) v9 (.int .i64 1)).bind fun v44 =>
(indexV H1 1 v0 v44).bind fun v45 =>
(loadAV H1 none v45).bind fun v46 =>
(indexV H1 1 v0 v9).bind fun v49 =>
(loadAV H1 none v49).bind fun v50 =>
(indexV H1 1 v0 v9).bind fun v51 =>
(storeAV H1 1 v51 v46).bind fun H2 =>
(indexV H2 1 v0 v41).bind fun v52 =>
(storeAV H2 1 v52 v50).bind fun H3 =>
(binAV H3 .sub (.one .int) v9 (.int .i64 1)).bind fun v36 =>
 l_slices_insertionSortCmpFunc_request_entry_0 v0 v1 v2 v3 v8 v36 H3 k2) (
 k2 v0 v1 v2 v3 v8 H1)) (
 k2 v0 v1 v2 v3 v8 H)) Q) : Yl (l_slices_insertionSortCmpFunc_request_entry_0 v0 v1 v2 v3 v8 v9 H k2) Q := by
  unfold l_slices_insertionSortCmpFunc_request_entry_0
  exact loop_yl (by kernel_rfl) h
theorem l_slices_insertionSortCmpFunc_request_entry_1_s (v0 v1 v2 v3 v8 : AV) (H : Heap) (k0 : Heap → Option (AV × Heap)) {Q : AV → Heap → Prop} (h : Yl (
(binAV H .lss (.one .int) v8 v2).bind fun v14 =>
 condK v14 (
 l_slices_insertionSortCmpFunc_request_entry_0 v0 v1 v2 v3 v8 v8 H (fun v0_1 v1_1 v2_1 v3_1 v8_1 H4 =>
(binAV H4 .add (.one .int) v8_1 (.int .i64 1)).bind fun v16 =>
 l_slices_insertionSortCmpFunc_request_entry_1 v0_1 v1_1 v2_1 v3_1 v16 H4 k0)) (
 k0 H)) Q) : Yl (l_slices_insertionSortCmpFunc_request_entry_1 v0 v1 v2 v3 v8 H k0) Q := by
  unfold l_slices_insertionSortCmpFunc_request_entry_1
  exact loop_yl (by kernel_rfl) h
theorem r_slices_insertionSortCmpFunc_request_entry (v0 v1 v2 v3 : AV) (H : Heap) {Q : AV → Heap → Prop} (h : Yl (
(binAV H .add (.one .int) v1 (.int .i64 1)).bind fun v11 =>
 l_slices_insertionSortCmpFunc_request_entry_1 v0 v1 v2 v3 v11 H (fun  H5 =>
 some (.tuple [], H5))) Q) : Yl (R prog f_slices_insertionSortCmpFunc_request_entry [v0, v1, v2, v3] H) Q :=
  R_yl (fn := x214) (by kernel_rfl) rfl (by kernel_rfl) h
noncomputable def l_slices_IndexFunc_string_string_0 (v0 v1 v7 v8 : AV) (H : Heap) (k0 : Heap → Option (AV × Heap)) : Option (AV × Heap) :=
  loopK prog (R prog) b243_0 (fun t => bif Nat.beq t 0 then v0 else bif Nat.beq t 1 then v1 else bif Nat.beq t 7 then v7 else bif Nat.beq t 8 then v8 else .undef) H (fun i e H => bif Nat.beq i 0 then k0 H else none) (fun e H => some ((e 4), H))
theorem l_slices_IndexFunc_string_string_0_s (v0 v1 v7 v8 : AV) (H : Heap) (k0 : Heap → Option (AV × Heap)) {Q : AV → Heap → Prop} (h : Yl (
(binAV H .lss (.one .int) v8 v7).bind fun v9 =>
 condK v9 (
(indexV H 1 v0 v8).bind fun v14 =>
(loadAV H none v14).bind fun v15 =>
 callK prog (R prog) v1 [v15] H fun v16 H1 =>
 condK v16 (
 some (v8, H1)) (
(binAV H1 .add (.one .int) v8 (.int .i64 1)).bind fun v18 =>
 l_slices_IndexFunc_string_string_0 v0 v1 v7 v18 H1 k0)) (
 k0 H)) Q) : Yl (l_slices_IndexFunc_string_string_0 v0 v1 v7 v8 H k0) Q := by
  unfold l_slices_IndexFunc_string_string_0
  exact loop_yl (by kernel_rfl) h
theorem r_slices_IndexFunc_string_string (v0 v1 : AV) (H : Heap) {Q : AV → Heap → Prop} (h : Yl (
(lenX H .slice v0).bind fun v7 =>
 l_slices_IndexFunc_string_string_0 v0 v1 v7 (.int .i64 0) H (fun  H2 =>
 some ((.int .i64 (-1)), H2))) Q) : Yl (R prog f_slices_IndexFunc_string_string [v0, v1] H) Q :=
  R_yl (fn := x243) (by kernel_rfl) rfl (by kernel_rfl) h
noncomputable def l_slices_insertionSortOrdered_int_1 (v0 v1 v2 v6 : AV) (H : Heap) (k0 : Heap → Option (AV × Heap)) : Option (AV × Heap) :=
  loopK prog (R prog) b252_1 (fun t => bif Nat.beq t 0 then v0 else bif Nat.beq t 1 then v1 else bif Nat.beq t 2 then v2 else bif Nat.beq t 6 then v6 else .undef) H (fun i e H => bif Nat.beq i 0 then k0 H else none) (fun e H => some (.tuple [], H))
noncomputable def l_slices_insertionSortOrdered_int_0 (v0 v1 v2 v6 v7 : AV) (H : Heap) (k2 : AV → AV → AV → AV → Heap → Option (AV × Heap)) : Option (AV × Heap) :=
  loopK prog (R prog) b252_0 (fun t => bif Nat.beq t 0 then v0 else bif Nat.beq t 1 then v1 else bif Nat.beq t 2 then v2 else bif Nat.beq t 6 then v6 else bif Nat.beq t 7 then v7 else .undef) H (fun i e H => bif Nat.beq i 2 then k2 (e 0) (e 1) (e 2) (e 6) H else none) (fun e H => some (.tuple [], H))
theorem l_slices_insertionSortOrdered_int_0_s (v0 v1 v2 v6 v7 : AV) (H : Heap) (k2 : AV → AV → AV → AV → Heap → Option (AV × Heap)) {Q : AV → Heap → Prop} (h : Yl (
(binAV H .gtr (.one .int) v7 v1).bind fun v18 =>
 gB v18 (
(indexV H 1 v0 v7).bind fun v22 =>
(loadAV H none v22).bind fun v23 =>
(binAV H .sub (.one .int) v7 (.int .i64 1)).bind fun v26 =>
(indexV H 1 v0 v26).bind fun v27 =>
(loadAV H none v27).bind fun v28 =>
(pureCall prog (R prog) f_cmp_Less_int [v23, v28] H).bind fun v29 =>
 condK v29 (
(binAV H .sub (.one .int) v7 (.int .i64 1)).bind fun v37 =>
(binAV H .sub (.one .int) v7 (.int .i64 1)).bind fun v40 =>
(indexV H 1 v0 v40).bind fun v41 =>
(loadAV H none v41).bind fun v42 =>
(indexV H 1 v0 v7).bind fun v45 =>
(loadAV H none v45).bind fun v46 =>
(indexV H 1 v0 v7).bind fun v47 =>
(storeAV H 1 v47 v42).bind fun H1 =>
(indexV H1 1 v0 v37).bind fun v48 =>
(storeAV H1 1 v48 v46).bind fun H2 =>
(binAV H2 .sub (.one .int) v7 (.int .i64 1)).bind fun v32 =>
 l_slices_insertionSortOrdered_int_0 v0 v1 v2 v6 v32 H2 k2) (
 k2 v0 v1 v2 v6 H)) (
 k2 v0 v1 v2 v6 H)) Q) : Yl (l_slices_insertionSortOrdered_int_0 v0 v1 v2 v6 v7 H k2) Q := by
  unfold l_slices_insertionSortOrdered_int_0
  exact loop_yl (by kernel_rfl) h
theorem l_slices_insertionSortOrdered_int_1_s (v0 v1 v2 v6 : AV) (H : Heap) (k0 : Heap → Option (AV × Heap)) {Q : AV → Heap → Prop} (h : Yl (
(binAV H .lss (.one .int) v6 v2).bind fun v12 =>
 condK v12 (
 l_slices_insertionSortOrdered_int_0 v0 v1 v2 v6 v6 H (fun v0_1 v1_1 v2_1 v6_1 H3 =>
(binAV H3 .add (.one .int) v6_1 (.int .i64 1)).bind fun v14 =>
 l_slices_insertionSortOrdered_int_1 v0_1 v1_1 v2_1 v14 H3 k0)) (
 k0 H)) Q) : Yl (l_slices_insertionSortOrdered_int_1 v0 v1 v2 v6 H k0) Q := by
  unfold l_slices_insertionSortOrdered_int_1
  exact loop_yl (by kernel_rfl) h
theorem r_slices_insertionSortOrdered_int (v0 v1 v2 : AV) (H : Heap) {Q : AV → Heap → Prop} (h : Yl (
(binAV H .add (.one .int) v1 (.int .i64 1)).bind fun v9 =>
 l_slices_insertionSortOrdered_int_1 v0 v1 v2 v9 H (fun  H4 =>
 some (.tuple [], H4))) Q) : Yl (R prog f_slices_insertionSortOrdered_int [v0, v1, v2] H) Q :=
  R_yl (fn := x252) (by kernel_rfl) rfl (by kernel_rfl) h
theorem r_cmp_Less_int (v0 v1 : AV) (H : Heap) {Q : AV → Heap → Prop} (h : Yl (
(pureCall prog (R prog) f_cmp_isNaN_int [v0] H).bind fun v6 =>
 gB v6 (
(pureCall prog (R prog) f_cmp_isNaN_int [v1] H).bind fun v9 =>
(unAV .not v9).bind fun v10 =>
 gB v10 (
 some ((.bool true), H)) (
(binAV H .lss (.one .int) v0 v1).bind fun v15 =>
 some (v15, H))) (
(binAV H .lss (.one .int) v0 v1).bind fun v15_1 =>
 some (v15_1, H))) Q) : Yl (R prog f_cmp_Less_int [v0, v1] H) Q :=
  R_yl (fn := x258) (by kernel_rfl) rfl (by kernel_rfl) h
end X
end Go.Proofs.YtplginnkececaaaGreatDoor
