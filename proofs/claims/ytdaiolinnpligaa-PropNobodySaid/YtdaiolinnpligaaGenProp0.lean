/- The functions that the statements reach, printed as what the frame asks of them, each checked by the kernel against the loaded text. -/
import Derived.Test.YtdaiolinnpligaaProg
import Derived.Test.YtdaiolinnpligaaFwSound
namespace Go.Proofs.Ytdaiolinnpligaa.W
open Go Go.Fw Go.Proofs
set_option linter.unusedVariables false
set_option maxRecDepth 100000

theorem mixed : Try.prog.follows .mixedOrders = true := by kernel_rfl

abbrev fathomlaw06_PropOnce.id : FuncId := 3
abbrev fathomlaw06_PropSound.id : FuncId := 4
abbrev fathomlaw06_PropRuns.id : FuncId := 5
abbrev fathomlaw06_PropNobody.id : FuncId := 6
abbrev fathomlaw07_RupProves.id : FuncId := 7
abbrev fathomlaw07_RupImplied.id : FuncId := 8
abbrev fathomlaw07_RupTruth.id : FuncId := 9
abbrev fathomlaw07_RupUnits.id : FuncId := 10
abbrev fathomlaw07_RupKeeps.id : FuncId := 11
abbrev fathomlaw07_RupDoes.id : FuncId := 12
abbrev fathomlaw01_Light.id : FuncId := 13
abbrev fathomlaw06_light.id : FuncId := 14
abbrev fathomref01_Cnf.id : FuncId := 15
abbrev fathomlaw06_awake.id : FuncId := 16
abbrev fathomlaw06_Begin.id : FuncId := 17
abbrev fathomlaw06_act.id : FuncId := 18
abbrev prop_Prop_Run.id : FuncId := 19
abbrev prop_Prop_Trail.id : FuncId := 20
abbrev fathomref01_Ints.id : FuncId := 21
abbrev fathomlaw06_there.id : FuncId := 22
abbrev fathomref06_Alike.id : FuncId := 23
abbrev fathomref01_Holds.id : FuncId := 24
abbrev fathomlaw06_open.id : FuncId := 25
abbrev fathomref01_Value.id : FuncId := 26
abbrev prop_New.id : FuncId := 27
abbrev fathomlaw06_sound.id : FuncId := 28
abbrev prop_Prop_Back.id : FuncId := 29
abbrev prop_Prop_Add.id : FuncId := 30
abbrev prop_Prop_Clause.id : FuncId := 31
abbrev prop_Prop_Drop.id : FuncId := 32
abbrev prop_Prop_Decide.id : FuncId := 33
abbrev prop_Prop_Value.id : FuncId := 34
abbrev prop_Prop_Level.id : FuncId := 35
abbrev prop_Prop_Reason.id : FuncId := 36
abbrev prop_Prop_Levels.id : FuncId := 37
abbrev fathomlaw07_Small.id : FuncId := 38
abbrev fathomlaw04_Light.id : FuncId := 39
abbrev fathomlaw07_awake.id : FuncId := 40
abbrev rup_Proves.id : FuncId := 41
abbrev fathomref04_May.id : FuncId := 42
abbrev fathomref07_Proves.id : FuncId := 43
abbrev fathomlaw07_short.id : FuncId := 44
abbrev rup_Unit.id : FuncId := 45
abbrev fathomref01_Clause.id : FuncId := 46
abbrev fathomref01_Sat.id : FuncId := 47
abbrev fathomref01_May.id : FuncId := 48
abbrev rup_First.id : FuncId := 49
abbrev fathomref07_Unit.id : FuncId := 50
abbrev fathomref07_First.id : FuncId := 51
abbrev rup_Broken.id : FuncId := 52
abbrev rup_Do.id : FuncId := 53
abbrev fathomref01_Same.id : FuncId := 54
abbrev fathomref07_Do.id : FuncId := 55
abbrev fathomref01_Var.id : FuncId := 56
abbrev fathomlaw06_ran.id : FuncId := 57
abbrev fathomlaw06_reason.id : FuncId := 58
abbrev prop_Prop_loosely.id : FuncId := 59
abbrev prop_side.id : FuncId := 60
abbrev prop_Prop_visit.id : FuncId := 61
abbrev slices_Clone_int_int.id : FuncId := 62
abbrev fathomref01_Has.id : FuncId := 63
abbrev fathomref01_Lit.id : FuncId := 64
abbrev lit_CheckCnf.id : FuncId := 65
abbrev fathomref06_Broken.id : FuncId := 66
abbrev fathomref01_Without.id : FuncId := 67
abbrev prop_amount.id : FuncId := 68
abbrev lit_Check.id : FuncId := 69
abbrev slices_ContainsFunc_int_int.id : FuncId := 70
abbrev prop_Prop_Add_1.id : FuncId := 71
abbrev prop_Prop_is.id : FuncId := 72
abbrev lit_Norm.id : FuncId := 73
abbrev prop_Prop_settle.id : FuncId := 74
abbrev prop_Prop_there.id : FuncId := 75
abbrev prop_Prop_val.id : FuncId := 76
abbrev prop_Prop_unwatch.id : FuncId := 77
abbrev slices_DeleteFunc_int_int.id : FuncId := 78
abbrev prop_Prop_Drop_1.id : FuncId := 79
abbrev prop_Prop_put.id : FuncId := 80
abbrev trace_Check.id : FuncId := 81
abbrev rup_begin.id : FuncId := 82
abbrev rup_base_do.id : FuncId := 83
abbrev rup_may.id : FuncId := 84
abbrev rup_base_unit.id : FuncId := 85
abbrev fathomref01_Model.id : FuncId := 86
abbrev rup_base_first.id : FuncId := 87
abbrev fathomref01_Taut.id : FuncId := 88
abbrev fathomref06_Follows.id : FuncId := 89
abbrev rup_base_clauses.id : FuncId := 90
abbrev fathomref01_Lists.id : FuncId := 91
abbrev fathomref01_Order.id : FuncId := 92
abbrev prop_Prop_loosely_1.id : FuncId := 93
abbrev prop_Prop_again.id : FuncId := 94
abbrev lit_CheckCnf_1.id : FuncId := 95
abbrev lit_amount.id : FuncId := 96
abbrev lit_Check_1.id : FuncId := 97
abbrev lit_is.id : FuncId := 98
abbrev slices_IndexFunc_int_int.id : FuncId := 99
abbrev slices_SortFunc_int_int.id : FuncId := 100
abbrev lit_before.id : FuncId := 101
abbrev slices_Compact_int_int.id : FuncId := 102
abbrev prop_Prop_rank.id : FuncId := 103
abbrev prop_Prop_unwatch_1.id : FuncId := 104
abbrev slices_ContainsFunc_fathom_api_Step_fathom_api_Step.id : FuncId := 105
abbrev trace_Check_1.id : FuncId := 106
abbrev rup_base_note.id : FuncId := 107
abbrev rup_base_anew.id : FuncId := 108
abbrev rup_base_drop.id : FuncId := 109
abbrev rup_base_add.id : FuncId := 110
abbrev rup_base_code.id : FuncId := 111
abbrev slices_Contains_int_int.id : FuncId := 112
abbrev fathomref06_Unit.id : FuncId := 113
abbrev fathomref01_Ahead.id : FuncId := 114
abbrev slices_pdqsortCmpFunc_int.id : FuncId := 115
abbrev bits_Len.id : FuncId := 116
abbrev slices_IndexFunc_fathom_api_Step_fathom_api_Step.id : FuncId := 117
abbrev slices_Equal_int_int.id : FuncId := 118
abbrev slices_Delete_int_int.id : FuncId := 119
abbrev slices_Index_int_int.id : FuncId := 120
abbrev slices_insertionSortCmpFunc_int.id : FuncId := 121
abbrev slices_heapSortCmpFunc_int.id : FuncId := 122
abbrev slices_breakPatternsCmpFunc_int.id : FuncId := 123
abbrev slices_choosePivotCmpFunc_int.id : FuncId := 124
abbrev slices_reverseRangeCmpFunc_int.id : FuncId := 125
abbrev slices_partialInsertionSortCmpFunc_int.id : FuncId := 126
abbrev slices_partitionEqualCmpFunc_int.id : FuncId := 127
abbrev slices_partitionCmpFunc_int.id : FuncId := 128
abbrev bits_Len32.id : FuncId := 129
abbrev bits_Len64.id : FuncId := 130
abbrev slices_siftDownCmpFunc_int.id : FuncId := 131
abbrev slices_nextPowerOfTwo.id : FuncId := 132
abbrev slices_xorshift_Next.id : FuncId := 133
abbrev slices_medianAdjacentCmpFunc_int.id : FuncId := 134
abbrev slices_medianCmpFunc_int.id : FuncId := 135
abbrev slices_order2CmpFunc_int.id : FuncId := 136
abbrev ty_int64 : TypeId := 2
theorem ty_int64.und : Try.prog.underlying 2 = some (.int .i64) := by kernel_rfl
theorem ty_int64.info : (Try.prog.info? 2).map (fun i => (i.zero, i.size, i.bytes)) = some (some (.int .i64 0), 1, 8) := by kernel_rfl
abbrev ty_int : TypeId := 3
theorem ty_int.und : Try.prog.underlying 3 = some (.int .i64) := by kernel_rfl
theorem ty_int.info : (Try.prog.info? 3).map (fun i => (i.zero, i.size, i.bytes)) = some (some (.int .i64 0), 1, 8) := by kernel_rfl
abbrev ty_bool : TypeId := 4
theorem ty_bool.und : Try.prog.underlying 4 = some .bool := by kernel_rfl
theorem ty_bool.info : (Try.prog.info? 4).map (fun i => (i.zero, i.size, i.bytes)) = some (some (.bool false), 1, 1) := by kernel_rfl
abbrev ty_uint8 : TypeId := 5
theorem ty_uint8.und : Try.prog.underlying 5 = some (.int .u8) := by kernel_rfl
theorem ty_uint8.info : (Try.prog.info? 5).map (fun i => (i.zero, i.size, i.bytes)) = some (some (.int .u8 0), 1, 1) := by kernel_rfl
abbrev ty_abi_BoundsErrorCode : TypeId := 6
theorem ty_abi_BoundsErrorCode.und : Try.prog.underlying 6 = some (.int .u8) := by kernel_rfl
theorem ty_abi_BoundsErrorCode.info : (Try.prog.info? 6).map (fun i => (i.zero, i.size, i.bytes)) = some (some (.int .u8 0), 1, 1) := by kernel_rfl
abbrev ty_runtime_boundsError : TypeId := 8
theorem ty_runtime_boundsError.info : (Try.prog.info? 8).map (fun i => (i.zero, i.size, i.bytes)) = some (some (.agg #[.int .i64 0, .int .i64 0, .bool false, .int .u8 0]), 4, 24) := by kernel_rfl
abbrev ty_uintptr : TypeId := 12
theorem ty_uintptr.und : Try.prog.underlying 12 = some (.int .u64) := by kernel_rfl
theorem ty_uintptr.info : (Try.prog.info? 12).map (fun i => (i.zero, i.size, i.bytes)) = some (some (.int .u64 0), 1, 8) := by kernel_rfl
abbrev ty_runtime_errorAddressString : TypeId := 14
theorem ty_runtime_errorAddressString.info : (Try.prog.info? 14).map (fun i => (i.zero, i.size, i.bytes)) = some (some (.agg #[.string (ByteArray.mk #[]), .int .u64 0]), 2, 24) := by kernel_rfl
abbrev ty_p_runtime_TypeAssertionError : TypeId := 15
theorem ty_p_runtime_TypeAssertionError.info : (Try.prog.info? 15).map (fun i => (i.zero, i.size, i.bytes)) = some (some (.pointer none), 1, 8) := by kernel_rfl
abbrev ty_p_runtime_PanicNilError : TypeId := 16
theorem ty_p_runtime_PanicNilError.info : (Try.prog.info? 16).map (fun i => (i.zero, i.size, i.bytes)) = some (some (.pointer none), 1, 8) := by kernel_rfl
abbrev ty_p_abi_Type : TypeId := 17
theorem ty_p_abi_Type.info : (Try.prog.info? 17).map (fun i => (i.zero, i.size, i.bytes)) = some (some (.pointer none), 1, 8) := by kernel_rfl
abbrev ty_maps_unhashableTypeError : TypeId := 19
theorem ty_maps_unhashableTypeError.info : (Try.prog.info? 19).map (fun i => (i.zero, i.size, i.bytes)) = some (some (.agg #[.pointer none]), 1, 8) := by kernel_rfl
abbrev ty_int32 : TypeId := 21
theorem ty_int32.und : Try.prog.underlying 21 = some (.int .i32) := by kernel_rfl
theorem ty_int32.info : (Try.prog.info? 21).map (fun i => (i.zero, i.size, i.bytes)) = some (some (.int .i32 0), 1, 4) := by kernel_rfl
abbrev ty_sl_sl_int : TypeId := 22
theorem ty_sl_sl_int.und : Try.prog.underlying 22 = some (.slice 31) := by kernel_rfl
theorem ty_sl_sl_int.info : (Try.prog.info? 22).map (fun i => (i.zero, i.size, i.bytes)) = some (some (.slice none 0 0), 1, 24) := by kernel_rfl
abbrev ty_api_Cnf : TypeId := 24
theorem ty_api_Cnf.info : (Try.prog.info? 24).map (fun i => (i.zero, i.size, i.bytes)) = some (some (.agg #[.int .i64 0, .slice none 0 0]), 2, 32) := by kernel_rfl
abbrev ty_sl_fathomlaw06_Act : TypeId := 25
theorem ty_sl_fathomlaw06_Act.und : Try.prog.underlying 25 = some (.slice 38) := by kernel_rfl
theorem ty_sl_fathomlaw06_Act.info : (Try.prog.info? 25).map (fun i => (i.zero, i.size, i.bytes)) = some (some (.slice none 0 0), 1, 24) := by kernel_rfl
abbrev ty_p_prop_Prop : TypeId := 29
theorem ty_p_prop_Prop.info : (Try.prog.info? 29).map (fun i => (i.zero, i.size, i.bytes)) = some (some (.pointer none), 1, 8) := by kernel_rfl
abbrev ty_sl_bool : TypeId := 30
theorem ty_sl_bool.und : Try.prog.underlying 30 = some (.slice 4) := by kernel_rfl
theorem ty_sl_bool.info : (Try.prog.info? 30).map (fun i => (i.zero, i.size, i.bytes)) = some (some (.slice none 0 0), 1, 24) := by kernel_rfl
abbrev ty_sl_int : TypeId := 31
theorem ty_sl_int.und : Try.prog.underlying 31 = some (.slice 3) := by kernel_rfl
theorem ty_sl_int.info : (Try.prog.info? 31).map (fun i => (i.zero, i.size, i.bytes)) = some (some (.slice none 0 0), 1, 24) := by kernel_rfl
abbrev ty_fathomlaw06_World : TypeId := 33
theorem ty_fathomlaw06_World.info : (Try.prog.info? 33).map (fun i => (i.zero, i.size, i.bytes)) = some (some (.agg #[.pointer none, .int .i64 0, .slice none 0 0, .slice none 0 0, .slice none 0 0]), 5, 88) := by kernel_rfl
abbrev ty_fathomlaw06_Act : TypeId := 38
theorem ty_fathomlaw06_Act.info : (Try.prog.info? 38).map (fun i => (i.zero, i.size, i.bytes)) = some (some (.agg #[.int .i64 0, .int .i64 0, .slice none 0 0]), 3, 40) := by kernel_rfl
abbrev ty_api_Errno : TypeId := 48
theorem ty_api_Errno.und : Try.prog.underlying 48 = some (.int .i64) := by kernel_rfl
theorem ty_api_Errno.info : (Try.prog.info? 48).map (fun i => (i.zero, i.size, i.bytes)) = some (some (.int .i64 0), 1, 8) := by kernel_rfl
abbrev ty_sl_prop_clause : TypeId := 52
theorem ty_sl_prop_clause.und : Try.prog.underlying 52 = some (.slice 79) := by kernel_rfl
theorem ty_sl_prop_clause.info : (Try.prog.info? 52).map (fun i => (i.zero, i.size, i.bytes)) = some (some (.slice none 0 0), 1, 24) := by kernel_rfl
abbrev ty_sl_int8 : TypeId := 53
theorem ty_sl_int8.und : Try.prog.underlying 53 = some (.slice 87) := by kernel_rfl
theorem ty_sl_int8.info : (Try.prog.info? 53).map (fun i => (i.zero, i.size, i.bytes)) = some (some (.slice none 0 0), 1, 24) := by kernel_rfl
abbrev ty_prop_Prop : TypeId := 55
theorem ty_prop_Prop.info : (Try.prog.info? 55).map (fun i => (i.zero, i.size, i.bytes)) = some (some (.agg #[.int .i64 0, .slice none 0 0, .slice none 0 0, .slice none 0 0, .slice none 0 0, .slice none 0 0, .slice none 0 0, .slice none 0 0, .slice none 0 0, .int .i64 0, .slice none 0 0]), 11, 232) := by kernel_rfl
abbrev ty_sl_api_Step : TypeId := 64
theorem ty_sl_api_Step.und : Try.prog.underlying 64 = some (.slice 73) := by kernel_rfl
theorem ty_sl_api_Step.info : (Try.prog.info? 64).map (fun i => (i.zero, i.size, i.bytes)) = some (some (.slice none 0 0), 1, 24) := by kernel_rfl
abbrev ty_api_Step : TypeId := 73
theorem ty_api_Step.info : (Try.prog.info? 73).map (fun i => (i.zero, i.size, i.bytes)) = some (some (.agg #[.bool false, .slice none 0 0]), 2, 32) := by kernel_rfl
abbrev ty_prop_clause : TypeId := 79
theorem ty_prop_clause.info : (Try.prog.info? 79).map (fun i => (i.zero, i.size, i.bytes)) = some (some (.agg #[.slice none 0 0, .slice none 0 0, .bool false]), 3, 56) := by kernel_rfl
abbrev ty_int8 : TypeId := 87
theorem ty_int8.und : Try.prog.underlying 87 = some (.int .i8) := by kernel_rfl
theorem ty_int8.info : (Try.prog.info? 87).map (fun i => (i.zero, i.size, i.bytes)) = some (some (.int .i8 0), 1, 1) := by kernel_rfl
abbrev ty_p_rup_base : TypeId := 95
theorem ty_p_rup_base.info : (Try.prog.info? 95).map (fun i => (i.zero, i.size, i.bytes)) = some (some (.pointer none), 1, 8) := by kernel_rfl
abbrev ty_map_int_int : TypeId := 100
theorem ty_map_int_int.und : Try.prog.underlying 100 = some (.map 3 3) := by kernel_rfl
theorem ty_map_int_int.info : (Try.prog.info? 100).map (fun i => (i.zero, i.size, i.bytes)) = some (some (.map none), 1, 8) := by kernel_rfl
abbrev ty_map_int_sl_int : TypeId := 101
theorem ty_map_int_sl_int.und : Try.prog.underlying 101 = some (.map 3 31) := by kernel_rfl
theorem ty_map_int_sl_int.info : (Try.prog.info? 101).map (fun i => (i.zero, i.size, i.bytes)) = some (some (.map none), 1, 8) := by kernel_rfl
abbrev ty_rup_base : TypeId := 103
theorem ty_rup_base.info : (Try.prog.info? 103).map (fun i => (i.zero, i.size, i.bytes)) = some (some (.agg #[.int .i64 0, .map none, .pointer none, .slice none 0 0, .map none]), 5, 56) := by kernel_rfl
abbrev ty_uint : TypeId := 116
theorem ty_uint.und : Try.prog.underlying 116 = some (.int .u64) := by kernel_rfl
theorem ty_uint.info : (Try.prog.info? 116).map (fun i => (i.zero, i.size, i.bytes)) = some (some (.int .u64 0), 1, 8) := by kernel_rfl
abbrev ty_slices_sortedHint : TypeId := 120
theorem ty_slices_sortedHint.und : Try.prog.underlying 120 = some (.int .i64) := by kernel_rfl
theorem ty_slices_sortedHint.info : (Try.prog.info? 120).map (fun i => (i.zero, i.size, i.bytes)) = some (some (.int .i64 0), 1, 8) := by kernel_rfl
abbrev ty_uint32 : TypeId := 128
theorem ty_uint32.und : Try.prog.underlying 128 = some (.int .u32) := by kernel_rfl
theorem ty_uint32.info : (Try.prog.info? 128).map (fun i => (i.zero, i.size, i.bytes)) = some (some (.int .u32 0), 1, 4) := by kernel_rfl
abbrev ty_uint64 : TypeId := 130
theorem ty_uint64.und : Try.prog.underlying 130 = some (.int .u64) := by kernel_rfl
theorem ty_uint64.info : (Try.prog.info? 130).map (fun i => (i.zero, i.size, i.bytes)) = some (some (.int .u64 0), 1, 8) := by kernel_rfl
abbrev ty_slices_xorshift : TypeId := 131
theorem ty_slices_xorshift.und : Try.prog.underlying 131 = some (.int .u64) := by kernel_rfl
theorem ty_slices_xorshift.info : (Try.prog.info? 131).map (fun i => (i.zero, i.size, i.bytes)) = some (some (.int .u64 0), 1, 8) := by kernel_rfl
abbrev ty_p_int : TypeId := 135
theorem ty_p_int.info : (Try.prog.info? 135).map (fun i => (i.zero, i.size, i.bytes)) = some (some (.pointer none), 1, 8) := by kernel_rfl
abbrev ty_p_slices_xorshift : TypeId := 137
theorem ty_p_slices_xorshift.info : (Try.prog.info? 137).map (fun i => (i.zero, i.size, i.bytes)) = some (some (.pointer none), 1, 8) := by kernel_rfl
abbrev ty_runtime_TypeAssertionError : TypeId := 142
theorem ty_runtime_TypeAssertionError.info : (Try.prog.info? 142).map (fun i => (i.zero, i.size, i.bytes)) = some (some (.agg #[.pointer none, .pointer none, .pointer none, .string (ByteArray.mk #[])]), 4, 40) := by kernel_rfl
abbrev ty_runtime_PanicNilError : TypeId := 145
theorem ty_runtime_PanicNilError.info : (Try.prog.info? 145).map (fun i => (i.zero, i.size, i.bytes)) = some (some (.agg #[]), 0, 0) := by kernel_rfl
abbrev ty_abi_TFlag : TypeId := 146
theorem ty_abi_TFlag.und : Try.prog.underlying 146 = some (.int .u8) := by kernel_rfl
theorem ty_abi_TFlag.info : (Try.prog.info? 146).map (fun i => (i.zero, i.size, i.bytes)) = some (some (.int .u8 0), 1, 1) := by kernel_rfl
abbrev ty_abi_Kind : TypeId := 147
theorem ty_abi_Kind.und : Try.prog.underlying 147 = some (.int .u8) := by kernel_rfl
theorem ty_abi_Kind.info : (Try.prog.info? 147).map (fun i => (i.zero, i.size, i.bytes)) = some (some (.int .u8 0), 1, 1) := by kernel_rfl
abbrev ty_p_uint8 : TypeId := 149
theorem ty_p_uint8.info : (Try.prog.info? 149).map (fun i => (i.zero, i.size, i.bytes)) = some (some (.pointer none), 1, 8) := by kernel_rfl
abbrev ty_abi_NameOff : TypeId := 150
theorem ty_abi_NameOff.und : Try.prog.underlying 150 = some (.int .i32) := by kernel_rfl
theorem ty_abi_NameOff.info : (Try.prog.info? 150).map (fun i => (i.zero, i.size, i.bytes)) = some (some (.int .i32 0), 1, 4) := by kernel_rfl
abbrev ty_abi_TypeOff : TypeId := 151
theorem ty_abi_TypeOff.und : Try.prog.underlying 151 = some (.int .i32) := by kernel_rfl
theorem ty_abi_TypeOff.info : (Try.prog.info? 151).map (fun i => (i.zero, i.size, i.bytes)) = some (some (.int .i32 0), 1, 4) := by kernel_rfl
abbrev ty_abi_Type : TypeId := 153
theorem ty_abi_Type.info : (Try.prog.info? 153).map (fun i => (i.zero, i.size, i.bytes)) = some (some (.agg #[.int .u64 0, .int .u64 0, .int .u32 0, .int .u8 0, .int .u8 0, .int .u8 0, .int .u8 0, .nilFunc, .pointer none, .int .i32 0, .int .i32 0]), 11, 48) := by kernel_rfl
def strtab0 : ByteArray := (ByteArray.mk #[0, 1, 2, 2, 3, 3, 3, 3, 4, 4, 4, 4, 4, 4, 4, 4, 5, 5, 5, 5, 5, 5, 5, 5, 5, 5, 5, 5, 5, 5, 5, 5, 6, 6, 6, 6, 6, 6, 6, 6, 6, 6, 6, 6, 6, 6, 6, 6, 6, 6, 6, 6, 6, 6, 6, 6, 6, 6, 6, 6, 6, 6, 6, 6, 7, 7, 7, 7, 7, 7, 7, 7, 7, 7, 7, 7, 7, 7, 7, 7, 7, 7, 7, 7, 7, 7, 7, 7, 7, 7, 7, 7, 7, 7, 7, 7, 7, 7, 7, 7, 7, 7, 7, 7, 7, 7, 7, 7, 7, 7, 7, 7, 7, 7, 7, 7, 7, 7, 7, 7, 7, 7, 7, 7, 7, 7, 7, 7, 8, 8, 8, 8, 8, 8, 8, 8, 8, 8, 8, 8, 8, 8, 8, 8, 8, 8, 8, 8, 8, 8, 8, 8, 8, 8, 8, 8, 8, 8, 8, 8, 8, 8, 8, 8, 8, 8, 8, 8, 8, 8, 8, 8, 8, 8, 8, 8, 8, 8, 8, 8, 8, 8, 8, 8, 8, 8, 8, 8, 8, 8, 8, 8, 8, 8, 8, 8, 8, 8, 8, 8, 8, 8, 8, 8, 8, 8, 8, 8, 8, 8, 8, 8, 8, 8, 8, 8, 8, 8, 8, 8, 8, 8, 8, 8, 8, 8, 8, 8, 8, 8, 8, 8, 8, 8, 8, 8, 8, 8, 8, 8, 8, 8, 8, 8, 8, 8, 8, 8, 8, 8, 8, 8, 8, 8, 8, 8])

/-! ### fathom/fathomlaw06.PropOnce: function 3 (named slots 14) cuts [(3, 97), (2, 64)] -/
def fathomlaw06_PropOnce.w (f_0 : Int) (f_1_p : Option Addr) (f_1_n : Nat) (f_1_c : Nat) (l__p : Option Addr) (l__n : Nat) (l__c : Nat) (w : World) (K : Value → World → Prop) : Prop :=
  ∀ (n1 : Nat) (w2 : World), New (.cells #[.int .i64 f_0, .slice f_1_p f_1_n f_1_c] 24) w n1 w2 → 
  ∃ x3 : Int, ∃ x4_p : Option Addr, ∃ x4_n : Nat, ∃ x4_c : Nat, CellsAt w2 (Addr.mk n1 0 none) 0 [.int .i64 x3, .slice x4_p x4_n x4_c] ∧ 
  Calls Try.prog 13 #[.agg #[.int .i64 x3, .slice x4_p x4_n x4_c]] w2 fun e w5 => ∃ r6 : Bool, e = .returned (.bool r6) ∧ 
  cnd (!r6)
  (Calls Try.prog 16 #[] w5 fun e w7 => ∃ r8 : Bool, e = .returned (.bool r8) ∧ 
  K (.bool r8) w7)
  (∃ x9_p : Option Addr, ∃ x9_n : Nat, ∃ x9_c : Nat, w5.cell? ((Addr.mk n1 0 none).add 1) = some (.slice x9_p x9_n x9_c) ∧ 
  cnd (decide ((x9_n : Int) > (60 : Int)))
  (Calls Try.prog 16 #[] w5 fun e w10 => ∃ r11 : Bool, e = .returned (.bool r11) ∧ 
  K (.bool r11) w10)
  (∃ x12 : Int, w5.cell? ((Addr.mk n1 0 none).add 0) = some (.int .i64 x12) ∧ 
  cnd (decide (x12 > (60 : Int)))
  (Calls Try.prog 16 #[] w5 fun e w13 => ∃ r14 : Bool, e = .returned (.bool r14) ∧ 
  K (.bool r14) w13)
  (Calls Try.prog 14 #[.slice l__p l__n l__c] w5 fun e w15 => ∃ r16 : Bool, e = .returned (.bool r16) ∧ 
  cnd (!r16)
  (Calls Try.prog 16 #[] w15 fun e w17 => ∃ r18 : Bool, e = .returned (.bool r18) ∧ 
  K (.bool r18) w17)
  (∃ x19 : Int, ∃ x20_p : Option Addr, ∃ x20_n : Nat, ∃ x20_c : Nat, CellsAt w15 (Addr.mk n1 0 none) 0 [.int .i64 x19, .slice x20_p x20_n x20_c] ∧ 
  Calls Try.prog 15 #[.agg #[.int .i64 x19, .slice x20_p x20_n x20_c]] w15 fun e w21 => ∃ r22 : Bool, e = .returned (.bool r22) ∧ 
  cnd (!r22)
  (Calls Try.prog 16 #[] w21 fun e w23 => ∃ r24 : Bool, e = .returned (.bool r24) ∧ 
    K (.bool r24) w23)
  (∃ x25 : Int, ∃ x26_p : Option Addr, ∃ x26_n : Nat, ∃ x26_c : Nat, CellsAt w21 (Addr.mk n1 0 none) 0 [.int .i64 x25, .slice x26_p x26_n x26_c] ∧ 
    Calls Try.prog 17 #[.agg #[.int .i64 x25, .slice x26_p x26_n x26_c]] w21 fun e w27 => ∃ r28 : Option Addr, ∃ r29 : Int, ∃ r30_p : Option Addr, ∃ r30_n : Nat, ∃ r30_c : Nat, ∃ r31_p : Option Addr, ∃ r31_n : Nat, ∃ r31_c : Nat, ∃ r32_p : Option Addr, ∃ r32_n : Nat, ∃ r32_c : Nat, ∃ r33 : Bool, e = .returned (.tuple #[.agg #[.pointer r28, .int .i64 r29, .slice r30_p r30_n r30_c, .slice r31_p r31_n r31_c, .slice r32_p r32_n r32_c], .bool r33]) ∧ 
    ∀ (n34 : Nat) (w35 : World), New (.cells #[.pointer none, .int .i64 0, .slice none 0 0, .slice none 0 0, .slice none 0 0] 33) w27 n34 w35 → 
    ∃ w36 : World, StoreAt (Addr.mk n34 0 none) 0 [.pointer r28, .int .i64 r29, .slice r30_p r30_n r30_c, .slice r31_p r31_n r31_c, .slice r32_p r32_n r32_c] w35 w36 ∧ 
    ∃ J37 : Bool → World → Prop, (∃ I38 : Bool → Int → World → Nat → Prop, (∃ k39, I38 r33 0 w36 k39) ∧
    ∀ (ok_41 : Bool) (i_42 : Int) (w43 : World) (k39 : Nat) (_ : Fr), I38 ok_41 i_42 w43 k39 →
    cnd (decide (i_42 < (l__n : Int)))
      (cnd (decide (i_42 < (30 : Int)))
      (cnd ok_41
      (∃ x44 : Option Addr, ∃ x45 : Int, ∃ x46_p : Option Addr, ∃ x46_n : Nat, ∃ x46_c : Nat, ∃ x47_p : Option Addr, ∃ x47_n : Nat, ∃ x47_c : Nat, ∃ x48_p : Option Addr, ∃ x48_n : Nat, ∃ x48_c : Nat, CellsAt w43.drew (Addr.mk n34 0 none) 0 [.pointer x44, .int .i64 x45, .slice x46_p x46_n x46_c, .slice x47_p x47_n x47_c, .slice x48_p x48_n x48_c] ∧ 
        ixK l__p l__n i_42 3 fun a49 =>
        ∃ x50 : Int, ∃ x51 : Int, ∃ x52_p : Option Addr, ∃ x52_n : Nat, ∃ x52_c : Nat, CellsAt w43.drew a49 0 [.int .i64 x50, .int .i64 x51, .slice x52_p x52_n x52_c] ∧ 
        Calls Try.prog 18 #[.agg #[.pointer x44, .int .i64 x45, .slice x46_p x46_n x46_c, .slice x47_p x47_n x47_c, .slice x48_p x48_n x48_c], .agg #[.int .i64 x50, .int .i64 x51, .slice x52_p x52_n x52_c]] w43.drew fun e w53 => ∃ r54 : Option Addr, ∃ r55 : Int, ∃ r56_p : Option Addr, ∃ r56_n : Nat, ∃ r56_c : Nat, ∃ r57_p : Option Addr, ∃ r57_n : Nat, ∃ r57_c : Nat, ∃ r58_p : Option Addr, ∃ r58_n : Nat, ∃ r58_c : Nat, ∃ r59 : Bool, e = .returned (.tuple #[.agg #[.pointer r54, .int .i64 r55, .slice r56_p r56_n r56_c, .slice r57_p r57_n r57_c, .slice r58_p r58_n r58_c], .bool r59]) ∧ 
        ∃ w60 : World, StoreAt (Addr.mk n34 0 none) 0 [.pointer r54, .int .i64 r55, .slice r56_p r56_n r56_c, .slice r57_p r57_n r57_c, .slice r58_p r58_n r58_c] w53 w60 ∧ 
        ∃ k40, k40 < k39 ∧ I38 r59 (IntKind.i64.wrap (i_42 + (1 : Int))) w60 k40)
      (J37 ok_41 w43))
      (J37 ok_41 w43))
      (J37 ok_41 w43)) ∧
    ∀ (ok_61 : Bool) (w62 : World) (_ : Fr), J37 ok_61 w62 → 
    cnd (!ok_61)
    (K (.bool false) w62)
    (∃ x63 : Option Addr, w62.cell? ((Addr.mk n34 0 none).add 0) = some (.pointer x63) ∧ 
      Calls Try.prog 19 #[.pointer x63] w62 fun e w64 => ∃ r65 : Int, e = .returned (.int .i64 r65) ∧ 
      ∃ x66 : Option Addr, w64.cell? ((Addr.mk n34 0 none).add 0) = some (.pointer x66) ∧ 
      Calls Try.prog 20 #[.pointer x66] w64 fun e w67 => ∃ r68_p : Option Addr, ∃ r68_n : Nat, ∃ r68_c : Nat, e = .returned (.slice r68_p r68_n r68_c) ∧ 
      ∃ x69 : Option Addr, w67.cell? ((Addr.mk n34 0 none).add 0) = some (.pointer x69) ∧ 
      Calls Try.prog 19 #[.pointer x69] w67 fun e w70 => ∃ r71 : Int, e = .returned (.int .i64 r71) ∧ 
      ∃ J72 : World → Prop, (cnd (!((decide (r65 ≥ (0 : Int))) == (decide (r71 ≥ (0 : Int)))))
      (K (.bool false) w70)
      (cnd (r65 == (-1))
      (∃ x73 : Option Addr, w70.cell? ((Addr.mk n34 0 none).add 0) = some (.pointer x73) ∧ 
      Calls Try.prog 20 #[.pointer x73] w70 fun e w74 => ∃ r75_p : Option Addr, ∃ r75_n : Nat, ∃ r75_c : Nat, e = .returned (.slice r75_p r75_n r75_c) ∧ 
      Calls Try.prog 21 #[.slice r68_p r68_n r68_c, .slice r75_p r75_n r75_c] w74 fun e w76 => ∃ r77 : Bool, e = .returned (.bool r77) ∧ 
      cnd (!r77)
      (K (.bool false) w76)
      (J72 w76))
      (J72 w70))) ∧
      ∀ (w78 : World) (_ : Fr), J72 w78 → 
      ∃ W79 : World → Prop, W79 w78.drew ∧ 
      ∃ x80 : Int, AtW W79 ((Addr.mk n1 0 none).add 0) (.int .i64 x80) ∧ 
      ∃ x81 : Option Addr, ∃ x82 : Int, ∃ x83_p : Option Addr, ∃ x83_n : Nat, ∃ x83_c : Nat, ∃ x84_p : Option Addr, ∃ x84_n : Nat, ∃ x84_c : Nat, ∃ x85_p : Option Addr, ∃ x85_n : Nat, ∃ x85_c : Nat, CellsW W79 (Addr.mk n34 0 none) [.pointer x81, .int .i64 x82, .slice x83_p x83_n x83_c, .slice x84_p x84_n x84_c, .slice x85_p x85_n x85_c] ∧ 
      (Calls Try.prog 22 #[.agg #[.pointer x81, .int .i64 x82, .slice x83_p x83_n x83_c, .slice x84_p x84_n x84_c, .slice x85_p x85_n x85_c]] w78.drew fun e w86 => ∃ r87_p : Option Addr, ∃ r87_n : Nat, ∃ r87_c : Nat, e = .returned (.slice r87_p r87_n r87_c) ∧ 
      W79 w86 ∧ (Calls Try.prog 17 #[.agg #[.int .i64 x80, .slice r87_p r87_n r87_c]] w86 fun e w88 => ∃ r89 : Option Addr, ∃ r90 : Int, ∃ r91_p : Option Addr, ∃ r91_n : Nat, ∃ r91_c : Nat, ∃ r92_p : Option Addr, ∃ r92_n : Nat, ∃ r92_c : Nat, ∃ r93_p : Option Addr, ∃ r93_n : Nat, ∃ r93_c : Nat, ∃ r94 : Bool, e = .returned (.tuple #[.agg #[.pointer r89, .int .i64 r90, .slice r91_p r91_n r91_c, .slice r92_p r92_n r92_c, .slice r93_p r93_n r93_c], .bool r94]) ∧ 
      ∀ (n95 : Nat) (w96 : World), New (.cells #[.pointer none, .int .i64 0, .slice none 0 0, .slice none 0 0, .slice none 0 0] 33) w88 n95 w96 → 
      W79 w96 ∧ ∃ w97 : World, StoreAt (Addr.mk n95 0 none) 0 [.pointer r89, .int .i64 r90, .slice r91_p r91_n r91_c, .slice r92_p r92_n r92_c, .slice r93_p r93_n r93_c] w96 w97 ∧ 
      ∃ I98 : Bool → Int → World → Nat → Prop, (∃ k99, I98 r94 0 w97 k99) ∧
      ∀ (ok_101 : Bool) (i_102 : Int) (w103 : World) (k99 : Nat) (_ : Fr), I98 ok_101 i_102 w103 k99 →
      ∃ x104_p : Option Addr, ∃ x104_n : Nat, ∃ x104_c : Nat, w103.cell? ((Addr.mk n34 0 none).add 4) = some (.slice x104_p x104_n x104_c) ∧ 
        cnd (decide (i_102 < (x104_n : Int)))
        (cnd ok_101
        (∃ x105 : Option Addr, ∃ x106 : Int, ∃ x107_p : Option Addr, ∃ x107_n : Nat, ∃ x107_c : Nat, ∃ x108_p : Option Addr, ∃ x108_n : Nat, ∃ x108_c : Nat, ∃ x109_p : Option Addr, ∃ x109_n : Nat, ∃ x109_c : Nat, CellsAt w103.drew (Addr.mk n95 0 none) 0 [.pointer x105, .int .i64 x106, .slice x107_p x107_n x107_c, .slice x108_p x108_n x108_c, .slice x109_p x109_n x109_c] ∧ 
          ∃ x110_p : Option Addr, ∃ x110_n : Nat, ∃ x110_c : Nat, w103.drew.cell? ((Addr.mk n34 0 none).add 4) = some (.slice x110_p x110_n x110_c) ∧ 
          ixK x110_p x110_n i_102 1 fun a111 =>
          ∃ x112 : Int, w103.drew.cell? a111 = some (.int .i64 x112) ∧ 
          Calls Try.prog 18 #[.agg #[.pointer x105, .int .i64 x106, .slice x107_p x107_n x107_c, .slice x108_p x108_n x108_c, .slice x109_p x109_n x109_c], .agg #[.int .i64 0, .int .i64 x112, .slice none 0 0]] w103.drew fun e w113 => ∃ r114 : Option Addr, ∃ r115 : Int, ∃ r116_p : Option Addr, ∃ r116_n : Nat, ∃ r116_c : Nat, ∃ r117_p : Option Addr, ∃ r117_n : Nat, ∃ r117_c : Nat, ∃ r118_p : Option Addr, ∃ r118_n : Nat, ∃ r118_c : Nat, ∃ r119 : Bool, e = .returned (.tuple #[.agg #[.pointer r114, .int .i64 r115, .slice r116_p r116_n r116_c, .slice r117_p r117_n r117_c, .slice r118_p r118_n r118_c], .bool r119]) ∧ 
          ∃ w120 : World, StoreAt (Addr.mk n95 0 none) 0 [.pointer r114, .int .i64 r115, .slice r116_p r116_n r116_c, .slice r117_p r117_n r117_c, .slice r118_p r118_n r118_c] w113 w120 ∧ 
          ∃ k100, k100 < k99 ∧ I98 r119 (IntKind.i64.wrap (i_102 + (1 : Int))) w120 k100)
        (∃ x121 : Option Addr, w103.cell? ((Addr.mk n95 0 none).add 0) = some (.pointer x121) ∧ 
          Calls Try.prog 19 #[.pointer x121] w103 fun e w122 => ∃ r123 : Int, e = .returned (.int .i64 r123) ∧ 
          cnd ok_101
          (cnd ((decide (r65 ≥ (0 : Int))) == (decide (r123 ≥ (0 : Int))))
          (cnd (decide (r65 ≥ (0 : Int)))
          (Calls Try.prog 16 #[] w122 fun e w124 => ∃ r125 : Bool, e = .returned (.bool r125) ∧ 
          K (.bool r125) w124)
          (∃ x126 : Option Addr, w122.cell? ((Addr.mk n95 0 none).add 0) = some (.pointer x126) ∧ 
          Calls Try.prog 20 #[.pointer x126] w122 fun e w127 => ∃ r128_p : Option Addr, ∃ r128_n : Nat, ∃ r128_c : Nat, e = .returned (.slice r128_p r128_n r128_c) ∧ 
          Calls Try.prog 23 #[.slice r68_p r68_n r68_c, .slice r128_p r128_n r128_c] w127 fun e w129 => ∃ r130 : Bool, e = .returned (.bool r130) ∧ 
          cnd r130
          (Calls Try.prog 16 #[] w129 fun e w131 => ∃ r132 : Bool, e = .returned (.bool r132) ∧ 
          K (.bool r132) w131)
          (K (.bool false) w129)))
          (K (.bool false) w122))
          (K (.bool false) w122)))
        (∃ x133 : Option Addr, w103.cell? ((Addr.mk n95 0 none).add 0) = some (.pointer x133) ∧ 
        Calls Try.prog 19 #[.pointer x133] w103 fun e w134 => ∃ r135 : Int, e = .returned (.int .i64 r135) ∧ 
        cnd ok_101
        (cnd ((decide (r65 ≥ (0 : Int))) == (decide (r135 ≥ (0 : Int))))
        (cnd (decide (r65 ≥ (0 : Int)))
        (Calls Try.prog 16 #[] w134 fun e w136 => ∃ r137 : Bool, e = .returned (.bool r137) ∧ 
        K (.bool r137) w136)
        (∃ x138 : Option Addr, w134.cell? ((Addr.mk n95 0 none).add 0) = some (.pointer x138) ∧ 
        Calls Try.prog 20 #[.pointer x138] w134 fun e w139 => ∃ r140_p : Option Addr, ∃ r140_n : Nat, ∃ r140_c : Nat, e = .returned (.slice r140_p r140_n r140_c) ∧ 
        Calls Try.prog 23 #[.slice r68_p r68_n r68_c, .slice r140_p r140_n r140_c] w139 fun e w141 => ∃ r142 : Bool, e = .returned (.bool r142) ∧ 
        cnd r142
        (Calls Try.prog 16 #[] w141 fun e w143 => ∃ r144 : Bool, e = .returned (.bool r144) ∧ 
        K (.bool r144) w143)
        (K (.bool false) w141)))
        (K (.bool false) w134))
        (K (.bool false) w134))) ∧
    (∀ (n145 : Nat) (w146 : World), New (.cells #[.pointer none, .int .i64 0, .slice none 0 0, .slice none 0 0, .slice none 0 0] 33) w86 n145 w146 → 
      W79 w146 ∧ Calls Try.prog 17 #[.agg #[.int .i64 x80, .slice r87_p r87_n r87_c]] w146 fun e w147 => ∃ r148 : Option Addr, ∃ r149 : Int, ∃ r150_p : Option Addr, ∃ r150_n : Nat, ∃ r150_c : Nat, ∃ r151_p : Option Addr, ∃ r151_n : Nat, ∃ r151_c : Nat, ∃ r152_p : Option Addr, ∃ r152_n : Nat, ∃ r152_c : Nat, ∃ r153 : Bool, e = .returned (.tuple #[.agg #[.pointer r148, .int .i64 r149, .slice r150_p r150_n r150_c, .slice r151_p r151_n r151_c, .slice r152_p r152_n r152_c], .bool r153]) ∧ 
      ∃ w154 : World, StoreAt (Addr.mk n145 0 none) 0 [.pointer r148, .int .i64 r149, .slice r150_p r150_n r150_c, .slice r151_p r151_n r151_c, .slice r152_p r152_n r152_c] w147 w154 ∧ 
      ∃ I155 : Bool → Int → World → Nat → Prop, (∃ k156, I155 r153 0 w154 k156) ∧
      ∀ (ok_158 : Bool) (i_159 : Int) (w160 : World) (k156 : Nat) (_ : Fr), I155 ok_158 i_159 w160 k156 →
      ∃ x161_p : Option Addr, ∃ x161_n : Nat, ∃ x161_c : Nat, w160.cell? ((Addr.mk n34 0 none).add 4) = some (.slice x161_p x161_n x161_c) ∧ 
        cnd (decide (i_159 < (x161_n : Int)))
        (cnd ok_158
        (∃ x162 : Option Addr, ∃ x163 : Int, ∃ x164_p : Option Addr, ∃ x164_n : Nat, ∃ x164_c : Nat, ∃ x165_p : Option Addr, ∃ x165_n : Nat, ∃ x165_c : Nat, ∃ x166_p : Option Addr, ∃ x166_n : Nat, ∃ x166_c : Nat, CellsAt w160.drew (Addr.mk n145 0 none) 0 [.pointer x162, .int .i64 x163, .slice x164_p x164_n x164_c, .slice x165_p x165_n x165_c, .slice x166_p x166_n x166_c] ∧ 
          ∃ x167_p : Option Addr, ∃ x167_n : Nat, ∃ x167_c : Nat, w160.drew.cell? ((Addr.mk n34 0 none).add 4) = some (.slice x167_p x167_n x167_c) ∧ 
          ixK x167_p x167_n i_159 1 fun a168 =>
          ∃ x169 : Int, w160.drew.cell? a168 = some (.int .i64 x169) ∧ 
          Calls Try.prog 18 #[.agg #[.pointer x162, .int .i64 x163, .slice x164_p x164_n x164_c, .slice x165_p x165_n x165_c, .slice x166_p x166_n x166_c], .agg #[.int .i64 0, .int .i64 x169, .slice none 0 0]] w160.drew fun e w170 => ∃ r171 : Option Addr, ∃ r172 : Int, ∃ r173_p : Option Addr, ∃ r173_n : Nat, ∃ r173_c : Nat, ∃ r174_p : Option Addr, ∃ r174_n : Nat, ∃ r174_c : Nat, ∃ r175_p : Option Addr, ∃ r175_n : Nat, ∃ r175_c : Nat, ∃ r176 : Bool, e = .returned (.tuple #[.agg #[.pointer r171, .int .i64 r172, .slice r173_p r173_n r173_c, .slice r174_p r174_n r174_c, .slice r175_p r175_n r175_c], .bool r176]) ∧ 
          ∃ w177 : World, StoreAt (Addr.mk n145 0 none) 0 [.pointer r171, .int .i64 r172, .slice r173_p r173_n r173_c, .slice r174_p r174_n r174_c, .slice r175_p r175_n r175_c] w170 w177 ∧ 
          ∃ k157, k157 < k156 ∧ I155 r176 (IntKind.i64.wrap (i_159 + (1 : Int))) w177 k157)
        (∃ x178 : Option Addr, w160.cell? ((Addr.mk n145 0 none).add 0) = some (.pointer x178) ∧ 
          Calls Try.prog 19 #[.pointer x178] w160 fun e w179 => ∃ r180 : Int, e = .returned (.int .i64 r180) ∧ 
          cnd ok_158
          (cnd ((decide (r65 ≥ (0 : Int))) == (decide (r180 ≥ (0 : Int))))
          (cnd (decide (r65 ≥ (0 : Int)))
          (Calls Try.prog 16 #[] w179 fun e w181 => ∃ r182 : Bool, e = .returned (.bool r182) ∧ 
          K (.bool r182) w181)
          (∃ x183 : Option Addr, w179.cell? ((Addr.mk n145 0 none).add 0) = some (.pointer x183) ∧ 
          Calls Try.prog 20 #[.pointer x183] w179 fun e w184 => ∃ r185_p : Option Addr, ∃ r185_n : Nat, ∃ r185_c : Nat, e = .returned (.slice r185_p r185_n r185_c) ∧ 
          Calls Try.prog 23 #[.slice r68_p r68_n r68_c, .slice r185_p r185_n r185_c] w184 fun e w186 => ∃ r187 : Bool, e = .returned (.bool r187) ∧ 
          cnd r187
          (Calls Try.prog 16 #[] w186 fun e w188 => ∃ r189 : Bool, e = .returned (.bool r189) ∧ 
          K (.bool r189) w188)
          (K (.bool false) w186)))
          (K (.bool false) w179))
          (K (.bool false) w179)))
        (∃ x190 : Option Addr, w160.cell? ((Addr.mk n145 0 none).add 0) = some (.pointer x190) ∧ 
        Calls Try.prog 19 #[.pointer x190] w160 fun e w191 => ∃ r192 : Int, e = .returned (.int .i64 r192) ∧ 
        cnd ok_158
        (cnd ((decide (r65 ≥ (0 : Int))) == (decide (r192 ≥ (0 : Int))))
        (cnd (decide (r65 ≥ (0 : Int)))
        (Calls Try.prog 16 #[] w191 fun e w193 => ∃ r194 : Bool, e = .returned (.bool r194) ∧ 
        K (.bool r194) w193)
        (∃ x195 : Option Addr, w191.cell? ((Addr.mk n145 0 none).add 0) = some (.pointer x195) ∧ 
        Calls Try.prog 20 #[.pointer x195] w191 fun e w196 => ∃ r197_p : Option Addr, ∃ r197_n : Nat, ∃ r197_c : Nat, e = .returned (.slice r197_p r197_n r197_c) ∧ 
        Calls Try.prog 23 #[.slice r68_p r68_n r68_c, .slice r197_p r197_n r197_c] w196 fun e w198 => ∃ r199 : Bool, e = .returned (.bool r199) ∧ 
        cnd r199
        (Calls Try.prog 16 #[] w198 fun e w200 => ∃ r201 : Bool, e = .returned (.bool r201) ∧ 
        K (.bool r201) w200)
        (K (.bool false) w198)))
        (K (.bool false) w191))
        (K (.bool false) w191)))) ∧
    (∀ (n202 : Nat) (w203 : World), New (.cells #[.pointer none, .int .i64 0, .slice none 0 0, .slice none 0 0, .slice none 0 0] 33) w78.drew n202 w203 → 
      W79 w203 ∧ Calls Try.prog 22 #[.agg #[.pointer x81, .int .i64 x82, .slice x83_p x83_n x83_c, .slice x84_p x84_n x84_c, .slice x85_p x85_n x85_c]] w203 fun e w204 => ∃ r205_p : Option Addr, ∃ r205_n : Nat, ∃ r205_c : Nat, e = .returned (.slice r205_p r205_n r205_c) ∧ 
      W79 w204 ∧ Calls Try.prog 17 #[.agg #[.int .i64 x80, .slice r205_p r205_n r205_c]] w204 fun e w206 => ∃ r207 : Option Addr, ∃ r208 : Int, ∃ r209_p : Option Addr, ∃ r209_n : Nat, ∃ r209_c : Nat, ∃ r210_p : Option Addr, ∃ r210_n : Nat, ∃ r210_c : Nat, ∃ r211_p : Option Addr, ∃ r211_n : Nat, ∃ r211_c : Nat, ∃ r212 : Bool, e = .returned (.tuple #[.agg #[.pointer r207, .int .i64 r208, .slice r209_p r209_n r209_c, .slice r210_p r210_n r210_c, .slice r211_p r211_n r211_c], .bool r212]) ∧ 
      ∃ w213 : World, StoreAt (Addr.mk n202 0 none) 0 [.pointer r207, .int .i64 r208, .slice r209_p r209_n r209_c, .slice r210_p r210_n r210_c, .slice r211_p r211_n r211_c] w206 w213 ∧ 
      ∃ I214 : Bool → Int → World → Nat → Prop, (∃ k215, I214 r212 0 w213 k215) ∧
      ∀ (ok_217 : Bool) (i_218 : Int) (w219 : World) (k215 : Nat) (_ : Fr), I214 ok_217 i_218 w219 k215 →
      ∃ x220_p : Option Addr, ∃ x220_n : Nat, ∃ x220_c : Nat, w219.cell? ((Addr.mk n34 0 none).add 4) = some (.slice x220_p x220_n x220_c) ∧ 
        cnd (decide (i_218 < (x220_n : Int)))
        (cnd ok_217
        (∃ x221 : Option Addr, ∃ x222 : Int, ∃ x223_p : Option Addr, ∃ x223_n : Nat, ∃ x223_c : Nat, ∃ x224_p : Option Addr, ∃ x224_n : Nat, ∃ x224_c : Nat, ∃ x225_p : Option Addr, ∃ x225_n : Nat, ∃ x225_c : Nat, CellsAt w219.drew (Addr.mk n202 0 none) 0 [.pointer x221, .int .i64 x222, .slice x223_p x223_n x223_c, .slice x224_p x224_n x224_c, .slice x225_p x225_n x225_c] ∧ 
          ∃ x226_p : Option Addr, ∃ x226_n : Nat, ∃ x226_c : Nat, w219.drew.cell? ((Addr.mk n34 0 none).add 4) = some (.slice x226_p x226_n x226_c) ∧ 
          ixK x226_p x226_n i_218 1 fun a227 =>
          ∃ x228 : Int, w219.drew.cell? a227 = some (.int .i64 x228) ∧ 
          Calls Try.prog 18 #[.agg #[.pointer x221, .int .i64 x222, .slice x223_p x223_n x223_c, .slice x224_p x224_n x224_c, .slice x225_p x225_n x225_c], .agg #[.int .i64 0, .int .i64 x228, .slice none 0 0]] w219.drew fun e w229 => ∃ r230 : Option Addr, ∃ r231 : Int, ∃ r232_p : Option Addr, ∃ r232_n : Nat, ∃ r232_c : Nat, ∃ r233_p : Option Addr, ∃ r233_n : Nat, ∃ r233_c : Nat, ∃ r234_p : Option Addr, ∃ r234_n : Nat, ∃ r234_c : Nat, ∃ r235 : Bool, e = .returned (.tuple #[.agg #[.pointer r230, .int .i64 r231, .slice r232_p r232_n r232_c, .slice r233_p r233_n r233_c, .slice r234_p r234_n r234_c], .bool r235]) ∧ 
          ∃ w236 : World, StoreAt (Addr.mk n202 0 none) 0 [.pointer r230, .int .i64 r231, .slice r232_p r232_n r232_c, .slice r233_p r233_n r233_c, .slice r234_p r234_n r234_c] w229 w236 ∧ 
          ∃ k216, k216 < k215 ∧ I214 r235 (IntKind.i64.wrap (i_218 + (1 : Int))) w236 k216)
        (∃ x237 : Option Addr, w219.cell? ((Addr.mk n202 0 none).add 0) = some (.pointer x237) ∧ 
          Calls Try.prog 19 #[.pointer x237] w219 fun e w238 => ∃ r239 : Int, e = .returned (.int .i64 r239) ∧ 
          cnd ok_217
          (cnd ((decide (r65 ≥ (0 : Int))) == (decide (r239 ≥ (0 : Int))))
          (cnd (decide (r65 ≥ (0 : Int)))
          (Calls Try.prog 16 #[] w238 fun e w240 => ∃ r241 : Bool, e = .returned (.bool r241) ∧ 
          K (.bool r241) w240)
          (∃ x242 : Option Addr, w238.cell? ((Addr.mk n202 0 none).add 0) = some (.pointer x242) ∧ 
          Calls Try.prog 20 #[.pointer x242] w238 fun e w243 => ∃ r244_p : Option Addr, ∃ r244_n : Nat, ∃ r244_c : Nat, e = .returned (.slice r244_p r244_n r244_c) ∧ 
          Calls Try.prog 23 #[.slice r68_p r68_n r68_c, .slice r244_p r244_n r244_c] w243 fun e w245 => ∃ r246 : Bool, e = .returned (.bool r246) ∧ 
          cnd r246
          (Calls Try.prog 16 #[] w245 fun e w247 => ∃ r248 : Bool, e = .returned (.bool r248) ∧ 
          K (.bool r248) w247)
          (K (.bool false) w245)))
          (K (.bool false) w238))
          (K (.bool false) w238)))
        (∃ x249 : Option Addr, w219.cell? ((Addr.mk n202 0 none).add 0) = some (.pointer x249) ∧ 
        Calls Try.prog 19 #[.pointer x249] w219 fun e w250 => ∃ r251 : Int, e = .returned (.int .i64 r251) ∧ 
        cnd ok_217
        (cnd ((decide (r65 ≥ (0 : Int))) == (decide (r251 ≥ (0 : Int))))
        (cnd (decide (r65 ≥ (0 : Int)))
        (Calls Try.prog 16 #[] w250 fun e w252 => ∃ r253 : Bool, e = .returned (.bool r253) ∧ 
        K (.bool r253) w252)
        (∃ x254 : Option Addr, w250.cell? ((Addr.mk n202 0 none).add 0) = some (.pointer x254) ∧ 
        Calls Try.prog 20 #[.pointer x254] w250 fun e w255 => ∃ r256_p : Option Addr, ∃ r256_n : Nat, ∃ r256_c : Nat, e = .returned (.slice r256_p r256_n r256_c) ∧ 
        Calls Try.prog 23 #[.slice r68_p r68_n r68_c, .slice r256_p r256_n r256_c] w255 fun e w257 => ∃ r258 : Bool, e = .returned (.bool r258) ∧ 
        cnd r258
        (Calls Try.prog 16 #[] w257 fun e w259 => ∃ r260 : Bool, e = .returned (.bool r260) ∧ 
        K (.bool r260) w259)
        (K (.bool false) w257)))
        (K (.bool false) w250))
        (K (.bool false) w250)))))))))
theorem fathomlaw06_PropOnce.eq (f_0 : Int) (f_1_p : Option Addr) (f_1_n : Nat) (f_1_c : Nat) (l__p : Option Addr) (l__n : Nat) (l__c : Nat) (w : World) (K : Value → World → Prop) : wpF Try.prog Try.f3 (.two .leaf (.two .leaf (.two .leaf (.cut [(6, 4)] (.two .leaf (.one (.loop [(6, 4), (7, 3)] .leaf))) (.two .leaf (.two .leaf (.two .leaf (.two .leaf (.cut [] .leaf (.two .draw (.two (.two .leaf (.one (.loop [(6, 4), (12, 3)] .leaf))) .leaf))))))))))) [.agg #[.int .i64 f_0, .slice f_1_p f_1_n f_1_c], .slice l__p l__n l__c] w K = fathomlaw06_PropOnce.w f_0 f_1_p f_1_n f_1_c l__p l__n l__c w K := by kernel_rfl
theorem fathomlaw06_PropOnce.ok : fnOk Try.prog Try.f3 2 = true := by kernel_rfl
theorem fathomlaw06_PropOnce.calls {f_0 : Int} {f_1_p : Option Addr} {f_1_n : Nat} {f_1_c : Nat} {l__p : Option Addr} {l__n : Nat} {l__c : Nat} {w : World} {R : Ending → World → Prop} (h : fathomlaw06_PropOnce.w f_0 f_1_p f_1_n f_1_c l__p l__n l__c w fun v w' => R (.returned v) w') : Calls Try.prog 3 #[.agg #[.int .i64 f_0, .slice f_1_p f_1_n f_1_c], .slice l__p l__n l__c] w R :=
  calls_of mixed Try.func3 fathomlaw06_PropOnce.ok rfl (fun K => fathomlaw06_PropOnce.eq f_0 f_1_p f_1_n f_1_c l__p l__n l__c w K) h

/-! ### fathom/fathomlaw06.PropSound: function 4 (named slots 14) cuts [(3, 37)] -/
def fathomlaw06_PropSound.w (f_0 : Int) (f_1_p : Option Addr) (f_1_n : Nat) (f_1_c : Nat) (decisions__p : Option Addr) (decisions__n : Nat) (decisions__c : Nat) (m__p : Option Addr) (m__n : Nat) (m__c : Nat) (w : World) (K : Value → World → Prop) : Prop :=
  ∀ (n1 : Nat) (w2 : World), New (.cells #[.int .i64 f_0, .slice f_1_p f_1_n f_1_c] 24) w n1 w2 → 
  ∃ x3 : Int, ∃ x4_p : Option Addr, ∃ x4_n : Nat, ∃ x4_c : Nat, CellsAt w2 (Addr.mk n1 0 none) 0 [.int .i64 x3, .slice x4_p x4_n x4_c] ∧ 
  Calls Try.prog 13 #[.agg #[.int .i64 x3, .slice x4_p x4_n x4_c]] w2 fun e w5 => ∃ r6 : Bool, e = .returned (.bool r6) ∧ 
  cnd (!r6)
  (Calls Try.prog 16 #[] w5 fun e w7 => ∃ r8 : Bool, e = .returned (.bool r8) ∧ 
  K (.bool r8) w7)
  (∃ x9_p : Option Addr, ∃ x9_n : Nat, ∃ x9_c : Nat, w5.cell? ((Addr.mk n1 0 none).add 1) = some (.slice x9_p x9_n x9_c) ∧ 
  cnd (decide ((x9_n : Int) > (60 : Int)))
  (Calls Try.prog 16 #[] w5 fun e w10 => ∃ r11 : Bool, e = .returned (.bool r11) ∧ 
  K (.bool r11) w10)
  (∃ x12 : Int, w5.cell? ((Addr.mk n1 0 none).add 0) = some (.int .i64 x12) ∧ 
  cnd (decide (x12 > (60 : Int)))
  (Calls Try.prog 16 #[] w5 fun e w13 => ∃ r14 : Bool, e = .returned (.bool r14) ∧ 
  K (.bool r14) w13)
  (∃ x15 : Int, ∃ x16_p : Option Addr, ∃ x16_n : Nat, ∃ x16_c : Nat, CellsAt w5 (Addr.mk n1 0 none) 0 [.int .i64 x15, .slice x16_p x16_n x16_c] ∧ 
  Calls Try.prog 15 #[.agg #[.int .i64 x15, .slice x16_p x16_n x16_c]] w5 fun e w17 => ∃ r18 : Bool, e = .returned (.bool r18) ∧ 
  cnd (!r18)
  (Calls Try.prog 16 #[] w17 fun e w19 => ∃ r20 : Bool, e = .returned (.bool r20) ∧ 
    K (.bool r20) w19)
  (∃ x21 : Int, ∃ x22_p : Option Addr, ∃ x22_n : Nat, ∃ x22_c : Nat, CellsAt w17 (Addr.mk n1 0 none) 0 [.int .i64 x21, .slice x22_p x22_n x22_c] ∧ 
    Calls Try.prog 17 #[.agg #[.int .i64 x21, .slice x22_p x22_n x22_c]] w17 fun e w23 => ∃ r24 : Option Addr, ∃ r25 : Int, ∃ r26_p : Option Addr, ∃ r26_n : Nat, ∃ r26_c : Nat, ∃ r27_p : Option Addr, ∃ r27_n : Nat, ∃ r27_c : Nat, ∃ r28_p : Option Addr, ∃ r28_n : Nat, ∃ r28_c : Nat, ∃ r29 : Bool, e = .returned (.tuple #[.agg #[.pointer r24, .int .i64 r25, .slice r26_p r26_n r26_c, .slice r27_p r27_n r27_c, .slice r28_p r28_n r28_c], .bool r29]) ∧ 
    ∀ (n30 : Nat) (w31 : World), New (.cells #[.pointer none, .int .i64 0, .slice none 0 0, .slice none 0 0, .slice none 0 0] 33) w23 n30 w31 → 
    ∃ w32 : World, StoreAt (Addr.mk n30 0 none) 0 [.pointer r24, .int .i64 r25, .slice r26_p r26_n r26_c, .slice r27_p r27_n r27_c, .slice r28_p r28_n r28_c] w31 w32 ∧ 
    ∃ x33 : Int, ∃ x34_p : Option Addr, ∃ x34_n : Nat, ∃ x34_c : Nat, CellsAt w32 (Addr.mk n1 0 none) 0 [.int .i64 x33, .slice x34_p x34_n x34_c] ∧ 
    Calls Try.prog 24 #[.agg #[.int .i64 x33, .slice x34_p x34_n x34_c], .slice m__p m__n m__c] w32 fun e w35 => ∃ r36 : Bool, e = .returned (.bool r36) ∧ 
    ∃ J37 : Bool → Bool → World → Prop, (∃ I38 : Bool → Bool → Int → World → Nat → Prop, (∃ k39, I38 r29 r36 0 w35 k39) ∧
    ∀ (ok_41 : Bool) (holds_42 : Bool) (i_43 : Int) (w44 : World) (k39 : Nat) (_ : Fr), I38 ok_41 holds_42 i_43 w44 k39 →
    cnd (decide (i_43 < (decisions__n : Int)))
      (cnd (decide (i_43 < (20 : Int)))
      (cnd ok_41
      (∃ x45 : Option Addr, ∃ x46 : Int, ∃ x47_p : Option Addr, ∃ x47_n : Nat, ∃ x47_c : Nat, ∃ x48_p : Option Addr, ∃ x48_n : Nat, ∃ x48_c : Nat, ∃ x49_p : Option Addr, ∃ x49_n : Nat, ∃ x49_c : Nat, CellsAt w44.drew (Addr.mk n30 0 none) 0 [.pointer x45, .int .i64 x46, .slice x47_p x47_n x47_c, .slice x48_p x48_n x48_c, .slice x49_p x49_n x49_c] ∧ 
        ixK decisions__p decisions__n i_43 1 fun a50 =>
        ∃ x51 : Int, w44.drew.cell? a50 = some (.int .i64 x51) ∧ 
        Calls Try.prog 25 #[.agg #[.pointer x45, .int .i64 x46, .slice x47_p x47_n x47_c, .slice x48_p x48_n x48_c, .slice x49_p x49_n x49_c], .int .i64 x51] w44.drew fun e w52 => ∃ r53 : Bool, e = .returned (.bool r53) ∧ 
        cnd r53
        (∃ x54 : Option Addr, ∃ x55 : Int, ∃ x56_p : Option Addr, ∃ x56_n : Nat, ∃ x56_c : Nat, ∃ x57_p : Option Addr, ∃ x57_n : Nat, ∃ x57_c : Nat, ∃ x58_p : Option Addr, ∃ x58_n : Nat, ∃ x58_c : Nat, CellsAt w52.drew (Addr.mk n30 0 none) 0 [.pointer x54, .int .i64 x55, .slice x56_p x56_n x56_c, .slice x57_p x57_n x57_c, .slice x58_p x58_n x58_c] ∧ 
          ixK decisions__p decisions__n i_43 1 fun a59 =>
          ∃ x60 : Int, w52.drew.cell? a59 = some (.int .i64 x60) ∧ 
          Calls Try.prog 18 #[.agg #[.pointer x54, .int .i64 x55, .slice x56_p x56_n x56_c, .slice x57_p x57_n x57_c, .slice x58_p x58_n x58_c], .agg #[.int .i64 0, .int .i64 x60, .slice none 0 0]] w52.drew fun e w61 => ∃ r62 : Option Addr, ∃ r63 : Int, ∃ r64_p : Option Addr, ∃ r64_n : Nat, ∃ r64_c : Nat, ∃ r65_p : Option Addr, ∃ r65_n : Nat, ∃ r65_c : Nat, ∃ r66_p : Option Addr, ∃ r66_n : Nat, ∃ r66_c : Nat, ∃ r67 : Bool, e = .returned (.tuple #[.agg #[.pointer r62, .int .i64 r63, .slice r64_p r64_n r64_c, .slice r65_p r65_n r65_c, .slice r66_p r66_n r66_c], .bool r67]) ∧ 
          ∃ w68 : World, StoreAt (Addr.mk n30 0 none) 0 [.pointer r62, .int .i64 r63, .slice r64_p r64_n r64_c, .slice r65_p r65_n r65_c, .slice r66_p r66_n r66_c] w61 w68 ∧ 
          cnd holds_42
          (ixK decisions__p decisions__n i_43 1 fun a69 =>
          ∃ x70 : Int, w68.cell? a69 = some (.int .i64 x70) ∧ 
          Calls Try.prog 26 #[.slice m__p m__n m__c, .int .i64 x70] w68 fun e w71 => ∃ r72 : Int, e = .returned (.int .i64 r72) ∧ 
          ∃ k40, k40 < k39 ∧ I38 r67 (r72 == (1 : Int)) (IntKind.i64.wrap (i_43 + (1 : Int))) w71 k40)
          (∃ k40, k40 < k39 ∧ I38 r67 false (IntKind.i64.wrap (i_43 + (1 : Int))) w68 k40))
        (∃ k40, k40 < k39 ∧ I38 ok_41 holds_42 (IntKind.i64.wrap (i_43 + (1 : Int))) w52 k40))
      (J37 ok_41 holds_42 w44))
      (J37 ok_41 holds_42 w44))
      (J37 ok_41 holds_42 w44)) ∧
    ∀ (ok_73 : Bool) (holds_74 : Bool) (w75 : World) (_ : Fr), J37 ok_73 holds_74 w75 → 
    cnd (!ok_73)
    (K (.bool false) w75)
    (∃ x76 : Option Addr, w75.cell? ((Addr.mk n30 0 none).add 0) = some (.pointer x76) ∧ 
      Calls Try.prog 19 #[.pointer x76] w75 fun e w77 => ∃ r78 : Int, e = .returned (.int .i64 r78) ∧ 
      cnd (!holds_74)
      (Calls Try.prog 16 #[] w77 fun e w79 => ∃ r80 : Bool, e = .returned (.bool r80) ∧ 
        K (.bool r80) w79)
      (∃ x81 : Option Addr, w77.cell? ((Addr.mk n30 0 none).add 0) = some (.pointer x81) ∧ 
        Calls Try.prog 20 #[.pointer x81] w77 fun e w82 => ∃ r83_p : Option Addr, ∃ r83_n : Nat, ∃ r83_c : Nat, e = .returned (.slice r83_p r83_n r83_c) ∧ 
        ∃ I84 : Int → World → Nat → Prop, (∃ k85, I84 0 w82 k85) ∧
        ∀ (i_87 : Int) (w88 : World) (k85 : Nat) (_ : Fr), I84 i_87 w88 k85 →
        cnd (decide (i_87 < (r83_n : Int)))
          (ixK r83_p r83_n i_87 1 fun a89 =>
            ∃ x90 : Int, w88.cell? a89 = some (.int .i64 x90) ∧ 
            Calls Try.prog 26 #[.slice m__p m__n m__c, .int .i64 x90] w88 fun e w91 => ∃ r92 : Int, e = .returned (.int .i64 r92) ∧ 
            cnd (r92 != (1 : Int))
            (K (.bool false) w91)
            (∃ k86, k86 < k85 ∧ I84 (IntKind.i64.wrap (i_87 + (1 : Int))) w91 k86))
          (cnd (r78 == (-1))
            (Calls Try.prog 16 #[] w88 fun e w93 => ∃ r94 : Bool, e = .returned (.bool r94) ∧ 
            K (.bool r94) w93)
            (K (.bool false) w88))))))))
theorem fathomlaw06_PropSound.eq (f_0 : Int) (f_1_p : Option Addr) (f_1_n : Nat) (f_1_c : Nat) (decisions__p : Option Addr) (decisions__n : Nat) (decisions__c : Nat) (m__p : Option Addr) (m__n : Nat) (m__c : Nat) (w : World) (K : Value → World → Prop) : wpF Try.prog Try.f4 (.two .leaf (.two .leaf (.two .leaf (.two .leaf (.cut [(8, 4), (9, 4)] (.two .leaf (.one (.loop [(8, 4), (9, 4), (10, 3)] .leaf))) (.two .leaf (.two .leaf (.two .leaf (.two .leaf (.two (.two .leaf (.one (.loop [(13, 3)] .leaf))) .leaf)))))))))) [.agg #[.int .i64 f_0, .slice f_1_p f_1_n f_1_c], .slice decisions__p decisions__n decisions__c, .slice m__p m__n m__c] w K = fathomlaw06_PropSound.w f_0 f_1_p f_1_n f_1_c decisions__p decisions__n decisions__c m__p m__n m__c w K := by kernel_rfl
theorem fathomlaw06_PropSound.ok : fnOk Try.prog Try.f4 3 = true := by kernel_rfl
theorem fathomlaw06_PropSound.calls {f_0 : Int} {f_1_p : Option Addr} {f_1_n : Nat} {f_1_c : Nat} {decisions__p : Option Addr} {decisions__n : Nat} {decisions__c : Nat} {m__p : Option Addr} {m__n : Nat} {m__c : Nat} {w : World} {R : Ending → World → Prop} (h : fathomlaw06_PropSound.w f_0 f_1_p f_1_n f_1_c decisions__p decisions__n decisions__c m__p m__n m__c w fun v w' => R (.returned v) w') : Calls Try.prog 4 #[.agg #[.int .i64 f_0, .slice f_1_p f_1_n f_1_c], .slice decisions__p decisions__n decisions__c, .slice m__p m__n m__c] w R :=
  calls_of mixed Try.func4 fathomlaw06_PropSound.ok rfl (fun K => fathomlaw06_PropSound.eq f_0 f_1_p f_1_n f_1_c decisions__p decisions__n decisions__c m__p m__n m__c w K) h

/-! ### fathom/fathomlaw06.PropRuns: function 5 (named slots 10) -/
def fathomlaw06_PropRuns.w (f_0 : Int) (f_1_p : Option Addr) (f_1_n : Nat) (f_1_c : Nat) (l__p : Option Addr) (l__n : Nat) (l__c : Nat) (w : World) (K : Value → World → Prop) : Prop :=
  ∀ (n1 : Nat) (w2 : World), New (.cells #[.int .i64 f_0, .slice f_1_p f_1_n f_1_c] 24) w n1 w2 → 
  ∃ x3 : Int, ∃ x4_p : Option Addr, ∃ x4_n : Nat, ∃ x4_c : Nat, CellsAt w2 (Addr.mk n1 0 none) 0 [.int .i64 x3, .slice x4_p x4_n x4_c] ∧ 
  Calls Try.prog 13 #[.agg #[.int .i64 x3, .slice x4_p x4_n x4_c]] w2 fun e w5 => ∃ r6 : Bool, e = .returned (.bool r6) ∧ 
  cnd (!r6)
  (Calls Try.prog 16 #[] w5 fun e w7 => ∃ r8 : Bool, e = .returned (.bool r8) ∧ 
  K (.bool r8) w7)
  (∃ x9_p : Option Addr, ∃ x9_n : Nat, ∃ x9_c : Nat, w5.cell? ((Addr.mk n1 0 none).add 1) = some (.slice x9_p x9_n x9_c) ∧ 
  cnd (decide ((x9_n : Int) > (60 : Int)))
  (Calls Try.prog 16 #[] w5 fun e w10 => ∃ r11 : Bool, e = .returned (.bool r11) ∧ 
  K (.bool r11) w10)
  (∃ x12 : Int, w5.cell? ((Addr.mk n1 0 none).add 0) = some (.int .i64 x12) ∧ 
  cnd (decide (x12 > (60 : Int)))
  (Calls Try.prog 16 #[] w5 fun e w13 => ∃ r14 : Bool, e = .returned (.bool r14) ∧ 
  K (.bool r14) w13)
  (Calls Try.prog 14 #[.slice l__p l__n l__c] w5 fun e w15 => ∃ r16 : Bool, e = .returned (.bool r16) ∧ 
  cnd (!r16)
  (Calls Try.prog 16 #[] w15 fun e w17 => ∃ r18 : Bool, e = .returned (.bool r18) ∧ 
    K (.bool r18) w17)
  (∃ x19 : Int, ∃ x20_p : Option Addr, ∃ x20_n : Nat, ∃ x20_c : Nat, CellsAt w15 (Addr.mk n1 0 none) 0 [.int .i64 x19, .slice x20_p x20_n x20_c] ∧ 
    Calls Try.prog 15 #[.agg #[.int .i64 x19, .slice x20_p x20_n x20_c]] w15 fun e w21 => ∃ r22 : Bool, e = .returned (.bool r22) ∧ 
    cnd (!r22)
    (∃ x23 : Int, ∃ x24_p : Option Addr, ∃ x24_n : Nat, ∃ x24_c : Nat, CellsAt w21 (Addr.mk n1 0 none) 0 [.int .i64 x23, .slice x24_p x24_n x24_c] ∧ 
      Calls Try.prog 27 #[.agg #[.int .i64 x23, .slice x24_p x24_n x24_c]] w21 fun e w25 => ∃ r26 : Option Addr, ∃ r27 : Int, e = .returned (.tuple #[.pointer r26, .int .i64 r27]) ∧ 
      cnd (r27 == (1 : Int))
      (cnd r26.isNone
      (Calls Try.prog 16 #[] w25 fun e w28 => ∃ r29 : Bool, e = .returned (.bool r29) ∧ 
      K (.bool r29) w28)
      (K (.bool false) w25))
      (K (.bool false) w25))
    (∃ x30 : Int, ∃ x31_p : Option Addr, ∃ x31_n : Nat, ∃ x31_c : Nat, CellsAt w21 (Addr.mk n1 0 none) 0 [.int .i64 x30, .slice x31_p x31_n x31_c] ∧ 
      Calls Try.prog 17 #[.agg #[.int .i64 x30, .slice x31_p x31_n x31_c]] w21 fun e w32 => ∃ r33 : Option Addr, ∃ r34 : Int, ∃ r35_p : Option Addr, ∃ r35_n : Nat, ∃ r35_c : Nat, ∃ r36_p : Option Addr, ∃ r36_n : Nat, ∃ r36_c : Nat, ∃ r37_p : Option Addr, ∃ r37_n : Nat, ∃ r37_c : Nat, ∃ r38 : Bool, e = .returned (.tuple #[.agg #[.pointer r33, .int .i64 r34, .slice r35_p r35_n r35_c, .slice r36_p r36_n r36_c, .slice r37_p r37_n r37_c], .bool r38]) ∧ 
      ∀ (n39 : Nat) (w40 : World), New (.cells #[.pointer none, .int .i64 0, .slice none 0 0, .slice none 0 0, .slice none 0 0] 33) w32 n39 w40 → 
      ∃ w41 : World, StoreAt (Addr.mk n39 0 none) 0 [.pointer r33, .int .i64 r34, .slice r35_p r35_n r35_c, .slice r36_p r36_n r36_c, .slice r37_p r37_n r37_c] w40 w41 ∧ 
      ∃ I42 : Bool → Int → World → Nat → Prop, (∃ k43, I42 r38 0 w41 k43) ∧
      ∀ (ok_45 : Bool) (i_46 : Int) (w47 : World) (k43 : Nat) (_ : Fr), I42 ok_45 i_46 w47 k43 →
      cnd (decide (i_46 < (l__n : Int)))
        (cnd (decide (i_46 < (40 : Int)))
        (cnd ok_45
        (∃ x48 : Option Addr, ∃ x49 : Int, ∃ x50_p : Option Addr, ∃ x50_n : Nat, ∃ x50_c : Nat, ∃ x51_p : Option Addr, ∃ x51_n : Nat, ∃ x51_c : Nat, ∃ x52_p : Option Addr, ∃ x52_n : Nat, ∃ x52_c : Nat, CellsAt w47.drew (Addr.mk n39 0 none) 0 [.pointer x48, .int .i64 x49, .slice x50_p x50_n x50_c, .slice x51_p x51_n x51_c, .slice x52_p x52_n x52_c] ∧ 
          ixK l__p l__n i_46 3 fun a53 =>
          ∃ x54 : Int, ∃ x55 : Int, ∃ x56_p : Option Addr, ∃ x56_n : Nat, ∃ x56_c : Nat, CellsAt w47.drew a53 0 [.int .i64 x54, .int .i64 x55, .slice x56_p x56_n x56_c] ∧ 
          Calls Try.prog 18 #[.agg #[.pointer x48, .int .i64 x49, .slice x50_p x50_n x50_c, .slice x51_p x51_n x51_c, .slice x52_p x52_n x52_c], .agg #[.int .i64 x54, .int .i64 x55, .slice x56_p x56_n x56_c]] w47.drew fun e w57 => ∃ r58 : Option Addr, ∃ r59 : Int, ∃ r60_p : Option Addr, ∃ r60_n : Nat, ∃ r60_c : Nat, ∃ r61_p : Option Addr, ∃ r61_n : Nat, ∃ r61_c : Nat, ∃ r62_p : Option Addr, ∃ r62_n : Nat, ∃ r62_c : Nat, ∃ r63 : Bool, e = .returned (.tuple #[.agg #[.pointer r58, .int .i64 r59, .slice r60_p r60_n r60_c, .slice r61_p r61_n r61_c, .slice r62_p r62_n r62_c], .bool r63]) ∧ 
          ∃ w64 : World, StoreAt (Addr.mk n39 0 none) 0 [.pointer r58, .int .i64 r59, .slice r60_p r60_n r60_c, .slice r61_p r61_n r61_c, .slice r62_p r62_n r62_c] w57 w64 ∧ 
          cnd r63
          (∃ x65 : Option Addr, ∃ x66 : Int, ∃ x67_p : Option Addr, ∃ x67_n : Nat, ∃ x67_c : Nat, ∃ x68_p : Option Addr, ∃ x68_n : Nat, ∃ x68_c : Nat, ∃ x69_p : Option Addr, ∃ x69_n : Nat, ∃ x69_c : Nat, CellsAt w64 (Addr.mk n39 0 none) 0 [.pointer x65, .int .i64 x66, .slice x67_p x67_n x67_c, .slice x68_p x68_n x68_c, .slice x69_p x69_n x69_c] ∧ 
          Calls Try.prog 28 #[.agg #[.pointer x65, .int .i64 x66, .slice x67_p x67_n x67_c, .slice x68_p x68_n x68_c, .slice x69_p x69_n x69_c]] w64 fun e w70 => ∃ r71 : Bool, e = .returned (.bool r71) ∧ 
          ∃ k44, k44 < k43 ∧ I42 r71 (IntKind.i64.wrap (i_46 + (1 : Int))) w70 k44)
          (∃ k44, k44 < k43 ∧ I42 false (IntKind.i64.wrap (i_46 + (1 : Int))) w64 k44))
        (cnd ok_45
          (Calls Try.prog 16 #[] w47 fun e w72 => ∃ r73 : Bool, e = .returned (.bool r73) ∧ 
          K (.bool r73) w72)
          (K (.bool false) w47)))
        (cnd ok_45
        (Calls Try.prog 16 #[] w47 fun e w74 => ∃ r75 : Bool, e = .returned (.bool r75) ∧ 
        K (.bool r75) w74)
        (K (.bool false) w47)))
        (cnd ok_45
        (Calls Try.prog 16 #[] w47 fun e w76 => ∃ r77 : Bool, e = .returned (.bool r77) ∧ 
        K (.bool r77) w76)
        (K (.bool false) w47)))))))
theorem fathomlaw06_PropRuns.eq (f_0 : Int) (f_1_p : Option Addr) (f_1_n : Nat) (f_1_c : Nat) (l__p : Option Addr) (l__n : Nat) (l__c : Nat) (w : World) (K : Value → World → Prop) : wpF Try.prog Try.f5 (.two .leaf (.two .leaf (.two .leaf (.two .leaf (.two (.two .leaf (.one (.loop [(8, 4), (9, 3)] .leaf))) .leaf))))) [.agg #[.int .i64 f_0, .slice f_1_p f_1_n f_1_c], .slice l__p l__n l__c] w K = fathomlaw06_PropRuns.w f_0 f_1_p f_1_n f_1_c l__p l__n l__c w K := by kernel_rfl
theorem fathomlaw06_PropRuns.ok : fnOk Try.prog Try.f5 2 = true := by kernel_rfl
theorem fathomlaw06_PropRuns.calls {f_0 : Int} {f_1_p : Option Addr} {f_1_n : Nat} {f_1_c : Nat} {l__p : Option Addr} {l__n : Nat} {l__c : Nat} {w : World} {R : Ending → World → Prop} (h : fathomlaw06_PropRuns.w f_0 f_1_p f_1_n f_1_c l__p l__n l__c w fun v w' => R (.returned v) w') : Calls Try.prog 5 #[.agg #[.int .i64 f_0, .slice f_1_p f_1_n f_1_c], .slice l__p l__n l__c] w R :=
  calls_of mixed Try.func5 fathomlaw06_PropRuns.ok rfl (fun K => fathomlaw06_PropRuns.eq f_0 f_1_p f_1_n f_1_c l__p l__n l__c w K) h

/-! ### fathom/fathomlaw06.PropNobody: function 6 (named slots 9) cuts [(2, 88)] -/
def fathomlaw06_PropNobody.w (a_0 : Int) (a_1 : Int) (a_2_p : Option Addr) (a_2_n : Nat) (a_2_c : Nat) (w : World) (K : Value → World → Prop) : Prop :=
  ∀ (n1 : Nat) (w2 : World), New (.cells #[.int .i64 a_0, .int .i64 a_1, .slice a_2_p a_2_n a_2_c] 38) w n1 w2 → 
  ∃ I3 : Int → World → Nat → Prop, (∃ k4, I3 0 w2 k4) ∧
  ∀ (k_6 : Int) (w7 : World) (k4 : Nat) (_ : Fr), I3 k_6 w7 k4 →
  cnd (decide (k_6 < (2 : Int)))
    (∃ J8 : Option Addr → World → Prop, (cnd (k_6 == (1 : Int))
      (∀ (n9 : Nat) (w10 : World), New (.cells #[.int .i64 0, .slice none 0 0, .slice none 0 0, .slice none 0 0, .slice none 0 0, .slice none 0 0, .slice none 0 0, .slice none 0 0, .slice none 0 0, .int .i64 0, .slice none 0 0] 55) w7 n9 w10 → 
        J8 (some (Addr.mk n9 0 none)) w10)
      (J8 none w7)) ∧
      ∀ (z_11 : Option Addr) (w12 : World) (_ : Fr), J8 z_11 w12 → 
      ∃ x13 : Int, w12.cell? ((Addr.mk n1 0 none).add 1) = some (.int .i64 x13) ∧ 
      Calls Try.prog 29 #[.pointer z_11, .int .i64 x13] w12 fun e w14 => e = .returned (.tuple #[]) ∧ 
      ∃ x15_p : Option Addr, ∃ x15_n : Nat, ∃ x15_c : Nat, w14.cell? ((Addr.mk n1 0 none).add 2) = some (.slice x15_p x15_n x15_c) ∧ 
      Calls Try.prog 30 #[.pointer z_11, .slice x15_p x15_n x15_c] w14 fun e w16 => ∃ r17 : Int, ∃ r18 : Int, e = .returned (.tuple #[.int .i64 r17, .int .i64 r18]) ∧ 
      ∃ x19 : Int, w16.cell? ((Addr.mk n1 0 none).add 1) = some (.int .i64 x19) ∧ 
      Calls Try.prog 31 #[.pointer z_11, .int .i64 x19] w16 fun e w20 => ∃ r21_p : Option Addr, ∃ r21_n : Nat, ∃ r21_c : Nat, ∃ r22 : Bool, e = .returned (.tuple #[.slice r21_p r21_n r21_c, .bool r22]) ∧ 
      cnd (r18 != (1 : Int))
      (K (.bool false) w20)
      (cnd (r17 != (0 : Int))
      (K (.bool false) w20)
      (cnd r22
      (K (.bool false) w20)
      (cnd ((r21_n : Int) != (0 : Int))
      (K (.bool false) w20)
      (∃ x23 : Int, w20.cell? ((Addr.mk n1 0 none).add 1) = some (.int .i64 x23) ∧ 
      Calls Try.prog 32 #[.pointer z_11, .int .i64 x23] w20 fun e w24 => ∃ r25 : Int, e = .returned (.int .i64 r25) ∧ 
      cnd (r25 != (4 : Int))
      (K (.bool false) w24)
      (∃ x26 : Int, w24.cell? ((Addr.mk n1 0 none).add 1) = some (.int .i64 x26) ∧ 
      Calls Try.prog 33 #[.pointer z_11, .int .i64 x26] w24 fun e w27 => ∃ r28 : Int, e = .returned (.int .i64 r28) ∧ 
      cnd (r28 != (1 : Int))
      (K (.bool false) w27)
      (Calls Try.prog 19 #[.pointer z_11] w27 fun e w29 => ∃ r30 : Int, e = .returned (.int .i64 r30) ∧ 
      cnd (r30 != (-1))
      (K (.bool false) w29)
      (∃ x31 : Int, w29.cell? ((Addr.mk n1 0 none).add 1) = some (.int .i64 x31) ∧ 
      Calls Try.prog 34 #[.pointer z_11, .int .i64 x31] w29 fun e w32 => ∃ r33 : Int, e = .returned (.int .i64 r33) ∧ 
      cnd (r33 != (0 : Int))
      (K (.bool false) w32)
      (∃ x34 : Int, w32.cell? ((Addr.mk n1 0 none).add 1) = some (.int .i64 x34) ∧ 
      Calls Try.prog 35 #[.pointer z_11, .int .i64 x34] w32 fun e w35 => ∃ r36 : Int, e = .returned (.int .i64 r36) ∧ 
      cnd (r36 != (-1))
      (K (.bool false) w35)
      (∃ x37 : Int, w35.cell? ((Addr.mk n1 0 none).add 1) = some (.int .i64 x37) ∧ 
      Calls Try.prog 36 #[.pointer z_11, .int .i64 x37] w35 fun e w38 => ∃ r39 : Int, e = .returned (.int .i64 r39) ∧ 
      cnd (r39 != (-1))
      (K (.bool false) w38)
      (Calls Try.prog 37 #[.pointer z_11] w38 fun e w40 => ∃ r41 : Int, e = .returned (.int .i64 r41) ∧ 
      cnd (r41 != (0 : Int))
      (K (.bool false) w40)
      (Calls Try.prog 20 #[.pointer z_11] w40 fun e w42 => ∃ r43_p : Option Addr, ∃ r43_n : Nat, ∃ r43_c : Nat, e = .returned (.slice r43_p r43_n r43_c) ∧ 
      cnd ((r43_n : Int) != (0 : Int))
      (K (.bool false) w42)
      (∃ k5, k5 < k4 ∧ I3 (IntKind.i64.wrap (k_6 + (1 : Int))) w42 k5)))))))))))))
    (Calls Try.prog 16 #[] w7 fun e w44 => ∃ r45 : Bool, e = .returned (.bool r45) ∧ 
      K (.bool r45) w44)
theorem fathomlaw06_PropNobody.eq (a_0 : Int) (a_1 : Int) (a_2_p : Option Addr) (a_2_n : Nat) (a_2_c : Nat) (w : World) (K : Value → World → Prop) : wpF Try.prog Try.f6 (.two .leaf (.two (.two .leaf (.one (.loop [(3, 3)] (.two .leaf (.two (.one (.two .leaf (.cut [(4, 29)] .leaf .leaf))) .leaf))))) .leaf)) [.agg #[.int .i64 a_0, .int .i64 a_1, .slice a_2_p a_2_n a_2_c]] w K = fathomlaw06_PropNobody.w a_0 a_1 a_2_p a_2_n a_2_c w K := by kernel_rfl
theorem fathomlaw06_PropNobody.ok : fnOk Try.prog Try.f6 1 = true := by kernel_rfl
theorem fathomlaw06_PropNobody.calls {a_0 : Int} {a_1 : Int} {a_2_p : Option Addr} {a_2_n : Nat} {a_2_c : Nat} {w : World} {R : Ending → World → Prop} (h : fathomlaw06_PropNobody.w a_0 a_1 a_2_p a_2_n a_2_c w fun v w' => R (.returned v) w') : Calls Try.prog 6 #[.agg #[.int .i64 a_0, .int .i64 a_1, .slice a_2_p a_2_n a_2_c]] w R :=
  calls_of mixed Try.func6 fathomlaw06_PropNobody.ok rfl (fun K => fathomlaw06_PropNobody.eq a_0 a_1 a_2_p a_2_n a_2_c w K) h

/-! ### fathom/fathomlaw01.Light: function 13 (named slots 5) -/
def fathomlaw01_Light.w (f_0 : Int) (f_1_p : Option Addr) (f_1_n : Nat) (f_1_c : Nat) (w : World) (K : Value → World → Prop) : Prop :=
  ∀ (n1 : Nat) (w2 : World), New (.cells #[.int .i64 f_0, .slice f_1_p f_1_n f_1_c] 24) w n1 w2 → 
  ∃ I3 : Int → Int → World → Nat → Prop, (∃ k4, I3 0 0 w2 k4) ∧
  ∀ (n_6 : Int) (i_7 : Int) (w8 : World) (k4 : Nat) (_ : Fr), I3 n_6 i_7 w8 k4 →
  ∃ x9_p : Option Addr, ∃ x9_n : Nat, ∃ x9_c : Nat, w8.cell? ((Addr.mk n1 0 none).add 1) = some (.slice x9_p x9_n x9_c) ∧ 
    cnd (decide (i_7 < (x9_n : Int)))
    (cnd (decide (i_7 ≤ (300 : Int)))
    (∃ x10_p : Option Addr, ∃ x10_n : Nat, ∃ x10_c : Nat, w8.cell? ((Addr.mk n1 0 none).add 1) = some (.slice x10_p x10_n x10_c) ∧ 
      ixK x10_p x10_n i_7 1 fun a11 =>
      ∃ x12_p : Option Addr, ∃ x12_n : Nat, ∃ x12_c : Nat, w8.cell? a11 = some (.slice x12_p x12_n x12_c) ∧ 
      cnd (decide ((x12_n : Int) > (5000 : Int)))
      (K (.bool false) w8)
      (∃ x13_p : Option Addr, ∃ x13_n : Nat, ∃ x13_c : Nat, w8.cell? ((Addr.mk n1 0 none).add 1) = some (.slice x13_p x13_n x13_c) ∧ 
        ixK x13_p x13_n i_7 1 fun a14 =>
        ∃ x15_p : Option Addr, ∃ x15_n : Nat, ∃ x15_c : Nat, w8.cell? a14 = some (.slice x15_p x15_n x15_c) ∧ 
        ∃ k5, k5 < k4 ∧ I3 (IntKind.i64.wrap (n_6 + (x15_n : Int))) (IntKind.i64.wrap (i_7 + (1 : Int))) w8 k5))
    (∃ x16_p : Option Addr, ∃ x16_n : Nat, ∃ x16_c : Nat, w8.cell? ((Addr.mk n1 0 none).add 1) = some (.slice x16_p x16_n x16_c) ∧ 
      cnd (decide ((x16_n : Int) ≤ (300 : Int)))
      (K (.bool (decide (n_6 ≤ (6000 : Int)))) w8)
      (K (.bool false) w8)))
    (∃ x17_p : Option Addr, ∃ x17_n : Nat, ∃ x17_c : Nat, w8.cell? ((Addr.mk n1 0 none).add 1) = some (.slice x17_p x17_n x17_c) ∧ 
    cnd (decide ((x17_n : Int) ≤ (300 : Int)))
    (K (.bool (decide (n_6 ≤ (6000 : Int)))) w8)
    (K (.bool false) w8))
theorem fathomlaw01_Light.eq (f_0 : Int) (f_1_p : Option Addr) (f_1_n : Nat) (f_1_c : Nat) (w : World) (K : Value → World → Prop) : wpF Try.prog Try.f13 (.two .leaf (.two .leaf (.two (.two .leaf (.one (.loop [(3, 3), (4, 3)] .leaf))) .leaf))) [.agg #[.int .i64 f_0, .slice f_1_p f_1_n f_1_c]] w K = fathomlaw01_Light.w f_0 f_1_p f_1_n f_1_c w K := by kernel_rfl
theorem fathomlaw01_Light.ok : fnOk Try.prog Try.f13 1 = true := by kernel_rfl
theorem fathomlaw01_Light.calls {f_0 : Int} {f_1_p : Option Addr} {f_1_n : Nat} {f_1_c : Nat} {w : World} {R : Ending → World → Prop} (h : fathomlaw01_Light.w f_0 f_1_p f_1_n f_1_c w fun v w' => R (.returned v) w') : Calls Try.prog 13 #[.agg #[.int .i64 f_0, .slice f_1_p f_1_n f_1_c]] w R :=
  calls_of mixed Try.func13 fathomlaw01_Light.ok rfl (fun K => fathomlaw01_Light.eq f_0 f_1_p f_1_n f_1_c w K) h

/-! ### fathom/fathomlaw06.light: function 14 (named slots 4) -/
def fathomlaw06_light.w (l__p : Option Addr) (l__n : Nat) (l__c : Nat) (w : World) (K : Value → World → Prop) : Prop :=
  ∃ I1 : Int → World → Nat → Prop, (∃ k2, I1 0 w k2) ∧
  ∀ (i_4 : Int) (w5 : World) (k2 : Nat) (_ : Fr), I1 i_4 w5 k2 →
  cnd (decide (i_4 < (l__n : Int)))
    (cnd (decide (i_4 < (40 : Int)))
    (ixK l__p l__n i_4 3 fun a6 =>
      ∃ x7_p : Option Addr, ∃ x7_n : Nat, ∃ x7_c : Nat, w5.cell? (a6.add 2) = some (.slice x7_p x7_n x7_c) ∧ 
      cnd (decide ((x7_n : Int) > (100 : Int)))
      (K (.bool false) w5)
      (∃ k3, k3 < k2 ∧ I1 (IntKind.i64.wrap (i_4 + (1 : Int))) w5 k3))
    (K (.bool true) w5))
    (K (.bool true) w5)
theorem fathomlaw06_light.eq (l__p : Option Addr) (l__n : Nat) (l__c : Nat) (w : World) (K : Value → World → Prop) : wpF Try.prog Try.f14 (.two .leaf (.two (.two .leaf (.one (.loop [(3, 3)] .leaf))) .leaf)) [.slice l__p l__n l__c] w K = fathomlaw06_light.w l__p l__n l__c w K := by kernel_rfl
theorem fathomlaw06_light.ok : fnOk Try.prog Try.f14 1 = true := by kernel_rfl
theorem fathomlaw06_light.calls {l__p : Option Addr} {l__n : Nat} {l__c : Nat} {w : World} {R : Ending → World → Prop} (h : fathomlaw06_light.w l__p l__n l__c w fun v w' => R (.returned v) w') : Calls Try.prog 14 #[.slice l__p l__n l__c] w R :=
  calls_of mixed Try.func14 fathomlaw06_light.ok rfl (fun K => fathomlaw06_light.eq l__p l__n l__c w K) h

/-! ### fathom/fathomref01.Cnf: function 15 (named slots 5) -/
def fathomref01_Cnf.w (f_0 : Int) (f_1_p : Option Addr) (f_1_n : Nat) (f_1_c : Nat) (w : World) (K : Value → World → Prop) : Prop :=
  ∀ (n1 : Nat) (w2 : World), New (.cells #[.int .i64 f_0, .slice f_1_p f_1_n f_1_c] 24) w n1 w2 → 
  ∃ x3 : Int, w2.cell? ((Addr.mk n1 0 none).add 0) = some (.int .i64 x3) ∧ 
  cnd (decide (x3 < (0 : Int)))
  (K (.bool false) w2)
  (∃ x4 : Int, w2.cell? ((Addr.mk n1 0 none).add 0) = some (.int .i64 x4) ∧ 
  cnd (decide (x4 > (1048576 : Int)))
  (K (.bool false) w2)
  (∃ x5_p : Option Addr, ∃ x5_n : Nat, ∃ x5_c : Nat, w2.cell? ((Addr.mk n1 0 none).add 1) = some (.slice x5_p x5_n x5_c) ∧ 
  cnd (decide ((x5_n : Int) > (262144 : Int)))
  (K (.bool false) w2)
  (∃ I6 : Int → World → Nat → Prop, (∃ k7, I6 0 w2 k7) ∧
    ∀ (i_9 : Int) (w10 : World) (k7 : Nat) (_ : Fr), I6 i_9 w10 k7 →
    ∃ x11_p : Option Addr, ∃ x11_n : Nat, ∃ x11_c : Nat, w10.cell? ((Addr.mk n1 0 none).add 1) = some (.slice x11_p x11_n x11_c) ∧ 
      cnd (decide (i_9 < (x11_n : Int)))
      (∃ x12_p : Option Addr, ∃ x12_n : Nat, ∃ x12_c : Nat, w10.cell? ((Addr.mk n1 0 none).add 1) = some (.slice x12_p x12_n x12_c) ∧ 
        ixK x12_p x12_n i_9 1 fun a13 =>
        ∃ x14_p : Option Addr, ∃ x14_n : Nat, ∃ x14_c : Nat, w10.cell? a13 = some (.slice x14_p x14_n x14_c) ∧ 
        Calls Try.prog 48 #[.slice x14_p x14_n x14_c] w10 fun e w15 => ∃ r16 : Bool, e = .returned (.bool r16) ∧ 
        cnd (!r16)
        (K (.bool false) w15)
        (∃ I17 : Int → World → Nat → Prop, (∃ k18, I17 0 w15 k18) ∧
          ∀ (k_20 : Int) (w21 : World) (k18 : Nat) (_ : Fr), I17 k_20 w21 k18 →
          ∃ x22_p : Option Addr, ∃ x22_n : Nat, ∃ x22_c : Nat, w21.cell? ((Addr.mk n1 0 none).add 1) = some (.slice x22_p x22_n x22_c) ∧ 
            ixK x22_p x22_n i_9 1 fun a23 =>
            ∃ x24_p : Option Addr, ∃ x24_n : Nat, ∃ x24_c : Nat, w21.cell? a23 = some (.slice x24_p x24_n x24_c) ∧ 
            cnd (decide (k_20 < (x24_n : Int)))
            (∃ x25_p : Option Addr, ∃ x25_n : Nat, ∃ x25_c : Nat, w21.drew.cell? ((Addr.mk n1 0 none).add 1) = some (.slice x25_p x25_n x25_c) ∧ 
              ixK x25_p x25_n i_9 1 fun a26 =>
              ∃ x27_p : Option Addr, ∃ x27_n : Nat, ∃ x27_c : Nat, w21.drew.cell? a26 = some (.slice x27_p x27_n x27_c) ∧ 
              ixK x27_p x27_n k_20 1 fun a28 =>
              ∃ x29 : Int, w21.drew.cell? a28 = some (.int .i64 x29) ∧ 
              (Calls Try.prog 56 #[.int .i64 x29] w21.drew fun e w30 => ∃ r31 : Int, e = .returned (.int .i64 r31) ∧ 
              ∃ x32 : Int, w30.cell? ((Addr.mk n1 0 none).add 0) = some (.int .i64 x32) ∧ 
              cnd (decide (r31 > x32))
              (K (.bool false) w30)
              (∃ k19, k19 < k18 ∧ I17 (IntKind.i64.wrap (k_20 + (1 : Int))) w30 k19)) ∧
            (∃ x33 : Int, w21.drew.cell? ((Addr.mk n1 0 none).add 0) = some (.int .i64 x33) ∧ 
              Calls Try.prog 56 #[.int .i64 x29] w21.drew fun e w34 => ∃ r35 : Int, e = .returned (.int .i64 r35) ∧ 
              cnd (decide (r35 > x33))
              (K (.bool false) w34)
              (∃ k19, k19 < k18 ∧ I17 (IntKind.i64.wrap (k_20 + (1 : Int))) w34 k19)))
            (∃ k8, k8 < k7 ∧ I6 (IntKind.i64.wrap (i_9 + (1 : Int))) w21 k8)))
      (K (.bool true) w10))))
theorem fathomref01_Cnf.eq (f_0 : Int) (f_1_p : Option Addr) (f_1_n : Nat) (f_1_c : Nat) (w : World) (K : Value → World → Prop) : wpF Try.prog Try.f15 (.two .leaf (.two .leaf (.two (.two .leaf (.one (.loop [(3, 3)] (.two .leaf (.two (.one (.two .leaf (.two .leaf (.one (.loop [(4, 3)] .leaf))))) .leaf))))) .leaf))) [.agg #[.int .i64 f_0, .slice f_1_p f_1_n f_1_c]] w K = fathomref01_Cnf.w f_0 f_1_p f_1_n f_1_c w K := by kernel_rfl
theorem fathomref01_Cnf.ok : fnOk Try.prog Try.f15 1 = true := by kernel_rfl
theorem fathomref01_Cnf.calls {f_0 : Int} {f_1_p : Option Addr} {f_1_n : Nat} {f_1_c : Nat} {w : World} {R : Ending → World → Prop} (h : fathomref01_Cnf.w f_0 f_1_p f_1_n f_1_c w fun v w' => R (.returned v) w') : Calls Try.prog 15 #[.agg #[.int .i64 f_0, .slice f_1_p f_1_n f_1_c]] w R :=
  calls_of mixed Try.func15 fathomref01_Cnf.ok rfl (fun K => fathomref01_Cnf.eq f_0 f_1_p f_1_n f_1_c w K) h

/-! ### fathom/fathomlaw06.awake: function 16 (named slots 4) -/
def fathomlaw06_awake.w (w : World) (K : Value → World → Prop) : Prop :=
  ∀ (n1 : Nat) (w2 : World), New (.cells #[.int .i64 (-1), .int .i64 2] 3) w n1 w2 → 
  ∀ (n3 : Nat) (w4 : World), New (.cells #[.int .i64 (-2), .int .i64 3] 3) w2 n3 w4 → 
  ∀ (n5 : Nat) (w6 : World), New (.cells #[.slice (some (Addr.mk n1 0 none)) 2 2, .slice (some (Addr.mk n3 0 none)) 2 2] 31) w4 n5 w6 → 
  Calls Try.prog 27 #[.agg #[.int .i64 3, .slice (some (Addr.mk n5 0 none)) 2 2]] w6 fun e w7 => ∃ r8 : Option Addr, ∃ r9 : Int, e = .returned (.tuple #[.pointer r8, .int .i64 r9]) ∧ 
  cnd (r9 != (0 : Int))
  (K (.bool false) w7)
  (cnd r8.isNone
  (K (.bool false) w7)
  (Calls Try.prog 33 #[.pointer r8, .int .i64 1] w7 fun e w10 => ∃ r11 : Int, e = .returned (.int .i64 r11) ∧ 
  cnd (r11 != (0 : Int))
  (K (.bool false) w10)
  (Calls Try.prog 19 #[.pointer r8] w10 fun e w12 => ∃ r13 : Int, e = .returned (.int .i64 r13) ∧ 
    cnd (r13 == (-1))
    (Calls Try.prog 20 #[.pointer r8] w12 fun e w14 => ∃ r15_p : Option Addr, ∃ r15_n : Nat, ∃ r15_c : Nat, e = .returned (.slice r15_p r15_n r15_c) ∧ 
    cnd ((r15_n : Int) == (3 : Int))
    (Calls Try.prog 34 #[.pointer r8, .int .i64 3] w14 fun e w16 => ∃ r17 : Int, e = .returned (.int .i64 r17) ∧ 
    cnd (r17 == (1 : Int))
    (Calls Try.prog 36 #[.pointer r8, .int .i64 2] w16 fun e w18 => ∃ r19 : Int, e = .returned (.int .i64 r19) ∧ 
    K (.bool (r19 == (0 : Int))) w18)
    (K (.bool false) w16))
    (K (.bool false) w14))
    (K (.bool false) w12))))
theorem fathomlaw06_awake.eq (w : World) (K : Value → World → Prop) : wpF Try.prog Try.f16 .leaf [] w K = fathomlaw06_awake.w  w K := by kernel_rfl
theorem fathomlaw06_awake.ok : fnOk Try.prog Try.f16 0 = true := by kernel_rfl
theorem fathomlaw06_awake.calls {w : World} {R : Ending → World → Prop} (h : fathomlaw06_awake.w  w fun v w' => R (.returned v) w') : Calls Try.prog 16 #[] w R :=
  calls_of mixed Try.func16 fathomlaw06_awake.ok rfl (fun K => fathomlaw06_awake.eq  w K) h

/-! ### fathom/fathomlaw06.Begin: function 17 (named slots 6) -/
def fathomlaw06_Begin.w (f_0 : Int) (f_1_p : Option Addr) (f_1_n : Nat) (f_1_c : Nat) (w : World) (K : Value → World → Prop) : Prop :=
  ∀ (n1 : Nat) (w2 : World), New (.cells #[.int .i64 f_0, .slice f_1_p f_1_n f_1_c] 24) w n1 w2 → 
  ∀ (n3 : Nat) (w4 : World), New (.cells #[.pointer none, .int .i64 0, .slice none 0 0, .slice none 0 0, .slice none 0 0] 33) w2 n3 w4 → 
  ∃ x5 : Int, ∃ x6_p : Option Addr, ∃ x6_n : Nat, ∃ x6_c : Nat, CellsAt w4 (Addr.mk n1 0 none) 0 [.int .i64 x5, .slice x6_p x6_n x6_c] ∧ 
  Calls Try.prog 27 #[.agg #[.int .i64 x5, .slice x6_p x6_n x6_c]] w4 fun e w7 => ∃ r8 : Option Addr, ∃ r9 : Int, e = .returned (.tuple #[.pointer r8, .int .i64 r9]) ∧ 
  ∃ W10 : World → Prop, W10 w7.drew ∧ 
  ∃ x11 : Int, AtW W10 ((Addr.mk n1 0 none).add 0) (.int .i64 x11) ∧ 
  ∃ x12_p : Option Addr, ∃ x12_n : Nat, ∃ x12_c : Nat, AtW W10 ((Addr.mk n1 0 none).add 1) (.slice x12_p x12_n x12_c) ∧ 
  ∃ x13_p : Option Addr, ∃ x13_n : Nat, ∃ x13_c : Nat, AtW W10 ((Addr.mk n1 0 none).add 1) (.slice x13_p x13_n x13_c) ∧ 
  ∃ w14 : World, ∃ r15_p : Option Addr, ∃ r15_n : Nat, ∃ r15_c : Nat, (Instr.makeSlice 30 (.int .i64 (x13_n : Int)) (.int .i64 (x13_n : Int))).run Try.prog w7.drew = .ok (.slice r15_p r15_n r15_c) w14 ∧ 
  W10 w14 ∧ cnd (r9 == (0 : Int))
  (∃ w16 : World, StoreAt (Addr.mk n3 0 none) 0 [.pointer r8, .int .i64 x11, .slice x12_p x12_n x12_c, .slice r15_p r15_n r15_c, .slice none 0 0] w14 w16 ∧ 
  ∃ x17 : Option Addr, ∃ x18 : Int, ∃ x19_p : Option Addr, ∃ x19_n : Nat, ∃ x19_c : Nat, ∃ x20_p : Option Addr, ∃ x20_n : Nat, ∃ x20_c : Nat, ∃ x21_p : Option Addr, ∃ x21_n : Nat, ∃ x21_c : Nat, CellsAt w16 (Addr.mk n3 0 none) 0 [.pointer x17, .int .i64 x18, .slice x19_p x19_n x19_c, .slice x20_p x20_n x20_c, .slice x21_p x21_n x21_c] ∧ 
  K (.tuple #[.agg #[.pointer x17, .int .i64 x18, .slice x19_p x19_n x19_c, .slice x20_p x20_n x20_c, .slice x21_p x21_n x21_c], .bool (!r8.isNone)]) w16)
  (∃ w22 : World, StoreAt (Addr.mk n3 0 none) 0 [.pointer r8, .int .i64 x11, .slice x12_p x12_n x12_c, .slice r15_p r15_n r15_c, .slice none 0 0] w14 w22 ∧ 
  ∃ x23 : Option Addr, ∃ x24 : Int, ∃ x25_p : Option Addr, ∃ x25_n : Nat, ∃ x25_c : Nat, ∃ x26_p : Option Addr, ∃ x26_n : Nat, ∃ x26_c : Nat, ∃ x27_p : Option Addr, ∃ x27_n : Nat, ∃ x27_c : Nat, CellsAt w22 (Addr.mk n3 0 none) 0 [.pointer x23, .int .i64 x24, .slice x25_p x25_n x25_c, .slice x26_p x26_n x26_c, .slice x27_p x27_n x27_c] ∧ 
  K (.tuple #[.agg #[.pointer x23, .int .i64 x24, .slice x25_p x25_n x25_c, .slice x26_p x26_n x26_c, .slice x27_p x27_n x27_c], .bool false]) w22)
theorem fathomlaw06_Begin.eq (f_0 : Int) (f_1_p : Option Addr) (f_1_n : Nat) (f_1_c : Nat) (w : World) (K : Value → World → Prop) : wpF Try.prog Try.f17 (.two .leaf (.two .leaf (.two .draw .leaf))) [.agg #[.int .i64 f_0, .slice f_1_p f_1_n f_1_c]] w K = fathomlaw06_Begin.w f_0 f_1_p f_1_n f_1_c w K := by kernel_rfl
theorem fathomlaw06_Begin.ok : fnOk Try.prog Try.f17 1 = true := by kernel_rfl
theorem fathomlaw06_Begin.calls {f_0 : Int} {f_1_p : Option Addr} {f_1_n : Nat} {f_1_c : Nat} {w : World} {R : Ending → World → Prop} (h : fathomlaw06_Begin.w f_0 f_1_p f_1_n f_1_c w fun v w' => R (.returned v) w') : Calls Try.prog 17 #[.agg #[.int .i64 f_0, .slice f_1_p f_1_n f_1_c]] w R :=
  calls_of mixed Try.func17 fathomlaw06_Begin.ok rfl (fun K => fathomlaw06_Begin.eq f_0 f_1_p f_1_n f_1_c w K) h

/-! ### fathom/fathomlaw06.act: function 18 (named slots 12) cuts [(3, 39)] -/
def fathomlaw06_act.w (w0_0 : Option Addr) (w0_1 : Int) (w0_2_p : Option Addr) (w0_2_n : Nat) (w0_2_c : Nat) (w0_3_p : Option Addr) (w0_3_n : Nat) (w0_3_c : Nat) (w0_4_p : Option Addr) (w0_4_n : Nat) (w0_4_c : Nat) (a_0 : Int) (a_1 : Int) (a_2_p : Option Addr) (a_2_n : Nat) (a_2_c : Nat) (w : World) (K : Value → World → Prop) : Prop :=
  ∀ (n1 : Nat) (w2 : World), New (.cells #[.pointer w0_0, .int .i64 w0_1, .slice w0_2_p w0_2_n w0_2_c, .slice w0_3_p w0_3_n w0_3_c, .slice w0_4_p w0_4_n w0_4_c] 33) w n1 w2 → 
  ∀ (n3 : Nat) (w4 : World), New (.cells #[.int .i64 a_0, .int .i64 a_1, .slice a_2_p a_2_n a_2_c] 38) w2 n3 w4 → 
  ∀ (n5 : Nat) (w6 : World), New (.cells #[.pointer none, .int .i64 0, .slice none 0 0, .slice none 0 0, .slice none 0 0] 33) w4 n5 w6 → 
  ∃ x7 : Int, w6.cell? ((Addr.mk n3 0 none).add 0) = some (.int .i64 x7) ∧ 
  cnd (x7 == (0 : Int))
  (∃ x8 : Option Addr, ∃ x9 : Int, ∃ x10_p : Option Addr, ∃ x10_n : Nat, ∃ x10_c : Nat, ∃ x11_p : Option Addr, ∃ x11_n : Nat, ∃ x11_c : Nat, ∃ x12_p : Option Addr, ∃ x12_n : Nat, ∃ x12_c : Nat, CellsAt w6 (Addr.mk n1 0 none) 0 [.pointer x8, .int .i64 x9, .slice x10_p x10_n x10_c, .slice x11_p x11_n x11_c, .slice x12_p x12_n x12_c] ∧ 
    ∃ x13 : Int, w6.cell? ((Addr.mk n3 0 none).add 1) = some (.int .i64 x13) ∧ 
    Calls Try.prog 25 #[.agg #[.pointer x8, .int .i64 x9, .slice x10_p x10_n x10_c, .slice x11_p x11_n x11_c, .slice x12_p x12_n x12_c], .int .i64 x13] w6 fun e w14 => ∃ r15 : Bool, e = .returned (.bool r15) ∧ 
    ∃ x16 : Option Addr, w14.cell? ((Addr.mk n1 0 none).add 0) = some (.pointer x16) ∧ 
    ∃ x17 : Int, w14.cell? ((Addr.mk n3 0 none).add 1) = some (.int .i64 x17) ∧ 
    Calls Try.prog 33 #[.pointer x16, .int .i64 x17] w14 fun e w18 => ∃ r19 : Int, e = .returned (.int .i64 r19) ∧ 
    cnd (!((r19 == (0 : Int)) == r15))
    (∃ x20 : Option Addr, ∃ x21 : Int, ∃ x22_p : Option Addr, ∃ x22_n : Nat, ∃ x22_c : Nat, ∃ x23_p : Option Addr, ∃ x23_n : Nat, ∃ x23_c : Nat, ∃ x24_p : Option Addr, ∃ x24_n : Nat, ∃ x24_c : Nat, CellsAt w18 (Addr.mk n1 0 none) 0 [.pointer x20, .int .i64 x21, .slice x22_p x22_n x22_c, .slice x23_p x23_n x23_c, .slice x24_p x24_n x24_c] ∧ 
      ∃ w25 : World, StoreAt (Addr.mk n5 0 none) 0 [.pointer x20, .int .i64 x21, .slice x22_p x22_n x22_c, .slice x23_p x23_n x23_c, .slice x24_p x24_n x24_c] w18 w25 ∧ 
      ∃ x26 : Option Addr, ∃ x27 : Int, ∃ x28_p : Option Addr, ∃ x28_n : Nat, ∃ x28_c : Nat, ∃ x29_p : Option Addr, ∃ x29_n : Nat, ∃ x29_c : Nat, ∃ x30_p : Option Addr, ∃ x30_n : Nat, ∃ x30_c : Nat, CellsAt w25 (Addr.mk n5 0 none) 0 [.pointer x26, .int .i64 x27, .slice x28_p x28_n x28_c, .slice x29_p x29_n x29_c, .slice x30_p x30_n x30_c] ∧ 
      K (.tuple #[.agg #[.pointer x26, .int .i64 x27, .slice x28_p x28_n x28_c, .slice x29_p x29_n x29_c, .slice x30_p x30_n x30_c], .bool false]) w25)
    (cnd r15
      (∃ W31 : World → Prop, W31 w18.drew ∧ 
        ∃ x32_p : Option Addr, ∃ x32_n : Nat, ∃ x32_c : Nat, AtW W31 ((Addr.mk n1 0 none).add 4) (.slice x32_p x32_n x32_c) ∧ 
        ∃ x33 : Int, AtW W31 ((Addr.mk n3 0 none).add 1) (.int .i64 x33) ∧ 
        (∀ (n34 : Nat) (w35 : World), New (.cells #[] 3) w18.drew n34 w35 → 
        W31 w35 ∧ (∃ w36 : World, ∃ r37_p : Option Addr, ∃ r37_n : Nat, ∃ r37_c : Nat, (Builtin.append_ #[31, 31] 31 #[.slice (some (Addr.mk n34 0 none)) 0 0, .slice x32_p x32_n x32_c]).run Try.prog w35 = .ok (.slice r37_p r37_n r37_c) w36 ∧ 
        W31 w36 ∧ ∀ (n38 : Nat) (w39 : World), New (.cells #[.int .i64 x33] 3) w36 n38 w39 → 
        W31 w39 ∧ ∃ w40 : World, ∃ r41_p : Option Addr, ∃ r41_n : Nat, ∃ r41_c : Nat, (Builtin.append_ #[31, 31] 31 #[.slice r37_p r37_n r37_c, .slice (some (Addr.mk n38 0 none)) 1 1]).run Try.prog w39 = .ok (.slice r41_p r41_n r41_c) w40 ∧ 
        ∃ w42 : World, StoreAt ((Addr.mk n1 0 none).add 4) 0 [.slice r41_p r41_n r41_c] w40 w42 ∧ 
        ∃ x43 : Option Addr, ∃ x44 : Int, ∃ x45_p : Option Addr, ∃ x45_n : Nat, ∃ x45_c : Nat, ∃ x46_p : Option Addr, ∃ x46_n : Nat, ∃ x46_c : Nat, ∃ x47_p : Option Addr, ∃ x47_n : Nat, ∃ x47_c : Nat, CellsAt w42 (Addr.mk n1 0 none) 0 [.pointer x43, .int .i64 x44, .slice x45_p x45_n x45_c, .slice x46_p x46_n x46_c, .slice x47_p x47_n x47_c] ∧ 
        ∃ w48 : World, StoreAt (Addr.mk n5 0 none) 0 [.pointer x43, .int .i64 x44, .slice x45_p x45_n x45_c, .slice x46_p x46_n x46_c, .slice x47_p x47_n x47_c] w42 w48 ∧ 
        ∃ x49 : Option Addr, ∃ x50 : Int, ∃ x51_p : Option Addr, ∃ x51_n : Nat, ∃ x51_c : Nat, ∃ x52_p : Option Addr, ∃ x52_n : Nat, ∃ x52_c : Nat, ∃ x53_p : Option Addr, ∃ x53_n : Nat, ∃ x53_c : Nat, CellsAt w48 (Addr.mk n5 0 none) 0 [.pointer x49, .int .i64 x50, .slice x51_p x51_n x51_c, .slice x52_p x52_n x52_c, .slice x53_p x53_n x53_c] ∧ 
        K (.tuple #[.agg #[.pointer x49, .int .i64 x50, .slice x51_p x51_n x51_c, .slice x52_p x52_n x52_c, .slice x53_p x53_n x53_c], .bool true]) w48) ∧
      (∀ (n54 : Nat) (w55 : World), New (.cells #[.int .i64 x33] 3) w35 n54 w55 → 
        W31 w55 ∧ ∃ w56 : World, ∃ r57_p : Option Addr, ∃ r57_n : Nat, ∃ r57_c : Nat, (Builtin.append_ #[31, 31] 31 #[.slice (some (Addr.mk n34 0 none)) 0 0, .slice x32_p x32_n x32_c]).run Try.prog w55 = .ok (.slice r57_p r57_n r57_c) w56 ∧ 
        W31 w56 ∧ ∃ w58 : World, ∃ r59_p : Option Addr, ∃ r59_n : Nat, ∃ r59_c : Nat, (Builtin.append_ #[31, 31] 31 #[.slice r57_p r57_n r57_c, .slice (some (Addr.mk n54 0 none)) 1 1]).run Try.prog w56 = .ok (.slice r59_p r59_n r59_c) w58 ∧ 
        ∃ w60 : World, StoreAt ((Addr.mk n1 0 none).add 4) 0 [.slice r59_p r59_n r59_c] w58 w60 ∧ 
        ∃ x61 : Option Addr, ∃ x62 : Int, ∃ x63_p : Option Addr, ∃ x63_n : Nat, ∃ x63_c : Nat, ∃ x64_p : Option Addr, ∃ x64_n : Nat, ∃ x64_c : Nat, ∃ x65_p : Option Addr, ∃ x65_n : Nat, ∃ x65_c : Nat, CellsAt w60 (Addr.mk n1 0 none) 0 [.pointer x61, .int .i64 x62, .slice x63_p x63_n x63_c, .slice x64_p x64_n x64_c, .slice x65_p x65_n x65_c] ∧ 
        ∃ w66 : World, StoreAt (Addr.mk n5 0 none) 0 [.pointer x61, .int .i64 x62, .slice x63_p x63_n x63_c, .slice x64_p x64_n x64_c, .slice x65_p x65_n x65_c] w60 w66 ∧ 
        ∃ x67 : Option Addr, ∃ x68 : Int, ∃ x69_p : Option Addr, ∃ x69_n : Nat, ∃ x69_c : Nat, ∃ x70_p : Option Addr, ∃ x70_n : Nat, ∃ x70_c : Nat, ∃ x71_p : Option Addr, ∃ x71_n : Nat, ∃ x71_c : Nat, CellsAt w66 (Addr.mk n5 0 none) 0 [.pointer x67, .int .i64 x68, .slice x69_p x69_n x69_c, .slice x70_p x70_n x70_c, .slice x71_p x71_n x71_c] ∧ 
        K (.tuple #[.agg #[.pointer x67, .int .i64 x68, .slice x69_p x69_n x69_c, .slice x70_p x70_n x70_c, .slice x71_p x71_n x71_c], .bool true]) w66)) ∧
      (∀ (n72 : Nat) (w73 : World), New (.cells #[.int .i64 x33] 3) w18.drew n72 w73 → 
        W31 w73 ∧ ∀ (n74 : Nat) (w75 : World), New (.cells #[] 3) w73 n74 w75 → 
        W31 w75 ∧ ∃ w76 : World, ∃ r77_p : Option Addr, ∃ r77_n : Nat, ∃ r77_c : Nat, (Builtin.append_ #[31, 31] 31 #[.slice (some (Addr.mk n74 0 none)) 0 0, .slice x32_p x32_n x32_c]).run Try.prog w75 = .ok (.slice r77_p r77_n r77_c) w76 ∧ 
        W31 w76 ∧ ∃ w78 : World, ∃ r79_p : Option Addr, ∃ r79_n : Nat, ∃ r79_c : Nat, (Builtin.append_ #[31, 31] 31 #[.slice r77_p r77_n r77_c, .slice (some (Addr.mk n72 0 none)) 1 1]).run Try.prog w76 = .ok (.slice r79_p r79_n r79_c) w78 ∧ 
        ∃ w80 : World, StoreAt ((Addr.mk n1 0 none).add 4) 0 [.slice r79_p r79_n r79_c] w78 w80 ∧ 
        ∃ x81 : Option Addr, ∃ x82 : Int, ∃ x83_p : Option Addr, ∃ x83_n : Nat, ∃ x83_c : Nat, ∃ x84_p : Option Addr, ∃ x84_n : Nat, ∃ x84_c : Nat, ∃ x85_p : Option Addr, ∃ x85_n : Nat, ∃ x85_c : Nat, CellsAt w80 (Addr.mk n1 0 none) 0 [.pointer x81, .int .i64 x82, .slice x83_p x83_n x83_c, .slice x84_p x84_n x84_c, .slice x85_p x85_n x85_c] ∧ 
        ∃ w86 : World, StoreAt (Addr.mk n5 0 none) 0 [.pointer x81, .int .i64 x82, .slice x83_p x83_n x83_c, .slice x84_p x84_n x84_c, .slice x85_p x85_n x85_c] w80 w86 ∧ 
        ∃ x87 : Option Addr, ∃ x88 : Int, ∃ x89_p : Option Addr, ∃ x89_n : Nat, ∃ x89_c : Nat, ∃ x90_p : Option Addr, ∃ x90_n : Nat, ∃ x90_c : Nat, ∃ x91_p : Option Addr, ∃ x91_n : Nat, ∃ x91_c : Nat, CellsAt w86 (Addr.mk n5 0 none) 0 [.pointer x87, .int .i64 x88, .slice x89_p x89_n x89_c, .slice x90_p x90_n x90_c, .slice x91_p x91_n x91_c] ∧ 
        K (.tuple #[.agg #[.pointer x87, .int .i64 x88, .slice x89_p x89_n x89_c, .slice x90_p x90_n x90_c, .slice x91_p x91_n x91_c], .bool true]) w86))
      (∃ x92 : Option Addr, ∃ x93 : Int, ∃ x94_p : Option Addr, ∃ x94_n : Nat, ∃ x94_c : Nat, ∃ x95_p : Option Addr, ∃ x95_n : Nat, ∃ x95_c : Nat, ∃ x96_p : Option Addr, ∃ x96_n : Nat, ∃ x96_c : Nat, CellsAt w18 (Addr.mk n1 0 none) 0 [.pointer x92, .int .i64 x93, .slice x94_p x94_n x94_c, .slice x95_p x95_n x95_c, .slice x96_p x96_n x96_c] ∧ 
        ∃ w97 : World, StoreAt (Addr.mk n5 0 none) 0 [.pointer x92, .int .i64 x93, .slice x94_p x94_n x94_c, .slice x95_p x95_n x95_c, .slice x96_p x96_n x96_c] w18 w97 ∧ 
        ∃ x98 : Option Addr, ∃ x99 : Int, ∃ x100_p : Option Addr, ∃ x100_n : Nat, ∃ x100_c : Nat, ∃ x101_p : Option Addr, ∃ x101_n : Nat, ∃ x101_c : Nat, ∃ x102_p : Option Addr, ∃ x102_n : Nat, ∃ x102_c : Nat, CellsAt w97 (Addr.mk n5 0 none) 0 [.pointer x98, .int .i64 x99, .slice x100_p x100_n x100_c, .slice x101_p x101_n x101_c, .slice x102_p x102_n x102_c] ∧ 
        K (.tuple #[.agg #[.pointer x98, .int .i64 x99, .slice x100_p x100_n x100_c, .slice x101_p x101_n x101_c, .slice x102_p x102_n x102_c], .bool true]) w97)))
  (cnd (x7 == (1 : Int))
    (∃ W103 : World → Prop, W103 w6.drew ∧ 
      ∃ x104 : Option Addr, ∃ x105 : Int, ∃ x106_p : Option Addr, ∃ x106_n : Nat, ∃ x106_c : Nat, ∃ x107_p : Option Addr, ∃ x107_n : Nat, ∃ x107_c : Nat, ∃ x108_p : Option Addr, ∃ x108_n : Nat, ∃ x108_c : Nat, CellsW W103 (Addr.mk n1 0 none) [.pointer x104, .int .i64 x105, .slice x106_p x106_n x106_c, .slice x107_p x107_n x107_c, .slice x108_p x108_n x108_c] ∧ 
      ∃ x109 : Option Addr, ∃ x110 : Int, ∃ x111_p : Option Addr, ∃ x111_n : Nat, ∃ x111_c : Nat, ∃ x112_p : Option Addr, ∃ x112_n : Nat, ∃ x112_c : Nat, ∃ x113_p : Option Addr, ∃ x113_n : Nat, ∃ x113_c : Nat, CellsW W103 (Addr.mk n1 0 none) [.pointer x109, .int .i64 x110, .slice x111_p x111_n x111_c, .slice x112_p x112_n x112_c, .slice x113_p x113_n x113_c] ∧ 
      ∃ x114 : Option Addr, AtW W103 ((Addr.mk n1 0 none).add 0) (.pointer x114) ∧ 
      Calls Try.prog 19 #[.pointer x114] w6.drew fun e w115 => ∃ r116 : Int, e = .returned (.int .i64 r116) ∧ 
      W103 w115 ∧ Calls Try.prog 57 #[.agg #[.pointer x109, .int .i64 x110, .slice x111_p x111_n x111_c, .slice x112_p x112_n x112_c, .slice x113_p x113_n x113_c], .int .i64 r116] w115 fun e w117 => ∃ r118 : Bool, e = .returned (.bool r118) ∧ 
      W103 w117 ∧ ∃ w119 : World, StoreAt (Addr.mk n5 0 none) 0 [.pointer x104, .int .i64 x105, .slice x106_p x106_n x106_c, .slice x107_p x107_n x107_c, .slice x108_p x108_n x108_c] w117 w119 ∧ 
      ∃ x120 : Option Addr, ∃ x121 : Int, ∃ x122_p : Option Addr, ∃ x122_n : Nat, ∃ x122_c : Nat, ∃ x123_p : Option Addr, ∃ x123_n : Nat, ∃ x123_c : Nat, ∃ x124_p : Option Addr, ∃ x124_n : Nat, ∃ x124_c : Nat, CellsAt w119 (Addr.mk n5 0 none) 0 [.pointer x120, .int .i64 x121, .slice x122_p x122_n x122_c, .slice x123_p x123_n x123_c, .slice x124_p x124_n x124_c] ∧ 
      K (.tuple #[.agg #[.pointer x120, .int .i64 x121, .slice x122_p x122_n x122_c, .slice x123_p x123_n x123_c, .slice x124_p x124_n x124_c], .bool r118]) w119)
    (cnd (x7 == (2 : Int))
      (∃ x125 : Option Addr, w6.cell? ((Addr.mk n1 0 none).add 0) = some (.pointer x125) ∧ 
        ∃ x126 : Int, w6.cell? ((Addr.mk n3 0 none).add 1) = some (.int .i64 x126) ∧ 
        Calls Try.prog 29 #[.pointer x125, .int .i64 x126] w6 fun e w127 => e = .returned (.tuple #[]) ∧ 
        ∃ x128 : Int, w127.cell? ((Addr.mk n3 0 none).add 1) = some (.int .i64 x128) ∧ 
        cnd (decide (x128 < (0 : Int)))
        (∃ w129 : World, StoreAt ((Addr.mk n3 0 none).add 1) 0 [.int .i64 0] w127 w129 ∧ 
          ∃ x130 : Int, w129.cell? ((Addr.mk n3 0 none).add 1) = some (.int .i64 x130) ∧ 
          ∃ x131_p : Option Addr, ∃ x131_n : Nat, ∃ x131_c : Nat, w129.cell? ((Addr.mk n1 0 none).add 4) = some (.slice x131_p x131_n x131_c) ∧ 
          cnd (decide (x130 < (x131_n : Int)))
          (∃ x132_p : Option Addr, ∃ x132_n : Nat, ∃ x132_c : Nat, w129.cell? ((Addr.mk n1 0 none).add 4) = some (.slice x132_p x132_n x132_c) ∧ 
            ∃ x133 : Int, w129.cell? ((Addr.mk n3 0 none).add 1) = some (.int .i64 x133) ∧ 
            slK x132_p x132_n x132_c 1 none (some x133) none fun s134_p s134_n s134_c =>
            ∃ w135 : World, StoreAt ((Addr.mk n1 0 none).add 4) 0 [.slice s134_p s134_n s134_c] w129 w135 ∧ 
            ∃ x136 : Option Addr, ∃ x137 : Int, ∃ x138_p : Option Addr, ∃ x138_n : Nat, ∃ x138_c : Nat, ∃ x139_p : Option Addr, ∃ x139_n : Nat, ∃ x139_c : Nat, ∃ x140_p : Option Addr, ∃ x140_n : Nat, ∃ x140_c : Nat, CellsAt w135 (Addr.mk n1 0 none) 0 [.pointer x136, .int .i64 x137, .slice x138_p x138_n x138_c, .slice x139_p x139_n x139_c, .slice x140_p x140_n x140_c] ∧ 
            ∃ w141 : World, StoreAt (Addr.mk n5 0 none) 0 [.pointer x136, .int .i64 x137, .slice x138_p x138_n x138_c, .slice x139_p x139_n x139_c, .slice x140_p x140_n x140_c] w135 w141 ∧ 
            ∃ x142 : Option Addr, ∃ x143 : Int, ∃ x144_p : Option Addr, ∃ x144_n : Nat, ∃ x144_c : Nat, ∃ x145_p : Option Addr, ∃ x145_n : Nat, ∃ x145_c : Nat, ∃ x146_p : Option Addr, ∃ x146_n : Nat, ∃ x146_c : Nat, CellsAt w141 (Addr.mk n5 0 none) 0 [.pointer x142, .int .i64 x143, .slice x144_p x144_n x144_c, .slice x145_p x145_n x145_c, .slice x146_p x146_n x146_c] ∧ 
            K (.tuple #[.agg #[.pointer x142, .int .i64 x143, .slice x144_p x144_n x144_c, .slice x145_p x145_n x145_c, .slice x146_p x146_n x146_c], .bool true]) w141)
          (∃ x147 : Option Addr, ∃ x148 : Int, ∃ x149_p : Option Addr, ∃ x149_n : Nat, ∃ x149_c : Nat, ∃ x150_p : Option Addr, ∃ x150_n : Nat, ∃ x150_c : Nat, ∃ x151_p : Option Addr, ∃ x151_n : Nat, ∃ x151_c : Nat, CellsAt w129 (Addr.mk n1 0 none) 0 [.pointer x147, .int .i64 x148, .slice x149_p x149_n x149_c, .slice x150_p x150_n x150_c, .slice x151_p x151_n x151_c] ∧ 
            ∃ w152 : World, StoreAt (Addr.mk n5 0 none) 0 [.pointer x147, .int .i64 x148, .slice x149_p x149_n x149_c, .slice x150_p x150_n x150_c, .slice x151_p x151_n x151_c] w129 w152 ∧ 
            ∃ x153 : Option Addr, ∃ x154 : Int, ∃ x155_p : Option Addr, ∃ x155_n : Nat, ∃ x155_c : Nat, ∃ x156_p : Option Addr, ∃ x156_n : Nat, ∃ x156_c : Nat, ∃ x157_p : Option Addr, ∃ x157_n : Nat, ∃ x157_c : Nat, CellsAt w152 (Addr.mk n5 0 none) 0 [.pointer x153, .int .i64 x154, .slice x155_p x155_n x155_c, .slice x156_p x156_n x156_c, .slice x157_p x157_n x157_c] ∧ 
            K (.tuple #[.agg #[.pointer x153, .int .i64 x154, .slice x155_p x155_n x155_c, .slice x156_p x156_n x156_c, .slice x157_p x157_n x157_c], .bool true]) w152))
        (∃ x158 : Int, w127.cell? ((Addr.mk n3 0 none).add 1) = some (.int .i64 x158) ∧ 
          ∃ x159_p : Option Addr, ∃ x159_n : Nat, ∃ x159_c : Nat, w127.cell? ((Addr.mk n1 0 none).add 4) = some (.slice x159_p x159_n x159_c) ∧ 
          cnd (decide (x158 < (x159_n : Int)))
          (∃ x160_p : Option Addr, ∃ x160_n : Nat, ∃ x160_c : Nat, w127.cell? ((Addr.mk n1 0 none).add 4) = some (.slice x160_p x160_n x160_c) ∧ 
            ∃ x161 : Int, w127.cell? ((Addr.mk n3 0 none).add 1) = some (.int .i64 x161) ∧ 
            slK x160_p x160_n x160_c 1 none (some x161) none fun s162_p s162_n s162_c =>
            ∃ w163 : World, StoreAt ((Addr.mk n1 0 none).add 4) 0 [.slice s162_p s162_n s162_c] w127 w163 ∧ 
            ∃ x164 : Option Addr, ∃ x165 : Int, ∃ x166_p : Option Addr, ∃ x166_n : Nat, ∃ x166_c : Nat, ∃ x167_p : Option Addr, ∃ x167_n : Nat, ∃ x167_c : Nat, ∃ x168_p : Option Addr, ∃ x168_n : Nat, ∃ x168_c : Nat, CellsAt w163 (Addr.mk n1 0 none) 0 [.pointer x164, .int .i64 x165, .slice x166_p x166_n x166_c, .slice x167_p x167_n x167_c, .slice x168_p x168_n x168_c] ∧ 
            ∃ w169 : World, StoreAt (Addr.mk n5 0 none) 0 [.pointer x164, .int .i64 x165, .slice x166_p x166_n x166_c, .slice x167_p x167_n x167_c, .slice x168_p x168_n x168_c] w163 w169 ∧ 
            ∃ x170 : Option Addr, ∃ x171 : Int, ∃ x172_p : Option Addr, ∃ x172_n : Nat, ∃ x172_c : Nat, ∃ x173_p : Option Addr, ∃ x173_n : Nat, ∃ x173_c : Nat, ∃ x174_p : Option Addr, ∃ x174_n : Nat, ∃ x174_c : Nat, CellsAt w169 (Addr.mk n5 0 none) 0 [.pointer x170, .int .i64 x171, .slice x172_p x172_n x172_c, .slice x173_p x173_n x173_c, .slice x174_p x174_n x174_c] ∧ 
            K (.tuple #[.agg #[.pointer x170, .int .i64 x171, .slice x172_p x172_n x172_c, .slice x173_p x173_n x173_c, .slice x174_p x174_n x174_c], .bool true]) w169)
          (∃ x175 : Option Addr, ∃ x176 : Int, ∃ x177_p : Option Addr, ∃ x177_n : Nat, ∃ x177_c : Nat, ∃ x178_p : Option Addr, ∃ x178_n : Nat, ∃ x178_c : Nat, ∃ x179_p : Option Addr, ∃ x179_n : Nat, ∃ x179_c : Nat, CellsAt w127 (Addr.mk n1 0 none) 0 [.pointer x175, .int .i64 x176, .slice x177_p x177_n x177_c, .slice x178_p x178_n x178_c, .slice x179_p x179_n x179_c] ∧ 
            ∃ w180 : World, StoreAt (Addr.mk n5 0 none) 0 [.pointer x175, .int .i64 x176, .slice x177_p x177_n x177_c, .slice x178_p x178_n x178_c, .slice x179_p x179_n x179_c] w127 w180 ∧ 
            ∃ x181 : Option Addr, ∃ x182 : Int, ∃ x183_p : Option Addr, ∃ x183_n : Nat, ∃ x183_c : Nat, ∃ x184_p : Option Addr, ∃ x184_n : Nat, ∃ x184_c : Nat, ∃ x185_p : Option Addr, ∃ x185_n : Nat, ∃ x185_c : Nat, CellsAt w180 (Addr.mk n5 0 none) 0 [.pointer x181, .int .i64 x182, .slice x183_p x183_n x183_c, .slice x184_p x184_n x184_c, .slice x185_p x185_n x185_c] ∧ 
            K (.tuple #[.agg #[.pointer x181, .int .i64 x182, .slice x183_p x183_n x183_c, .slice x184_p x184_n x184_c, .slice x185_p x185_n x185_c], .bool true]) w180)))
      (cnd (x7 == (3 : Int))
        (∃ x186 : Int, w6.cell? ((Addr.mk n1 0 none).add 1) = some (.int .i64 x186) ∧ 
          ∃ x187_p : Option Addr, ∃ x187_n : Nat, ∃ x187_c : Nat, w6.cell? ((Addr.mk n3 0 none).add 2) = some (.slice x187_p x187_n x187_c) ∧ 
          ∀ (n188 : Nat) (w189 : World), New (.cells #[.slice x187_p x187_n x187_c] 31) w6 n188 w189 → 
          Calls Try.prog 15 #[.agg #[.int .i64 x186, .slice (some (Addr.mk n188 0 none)) 1 1]] w189 fun e w190 => ∃ r191 : Bool, e = .returned (.bool r191) ∧ 
          ∃ x192 : Option Addr, w190.cell? ((Addr.mk n1 0 none).add 0) = some (.pointer x192) ∧ 
          ∃ x193_p : Option Addr, ∃ x193_n : Nat, ∃ x193_c : Nat, w190.cell? ((Addr.mk n3 0 none).add 2) = some (.slice x193_p x193_n x193_c) ∧ 
          Calls Try.prog 30 #[.pointer x192, .slice x193_p x193_n x193_c] w190 fun e w194 => ∃ r195 : Int, ∃ r196 : Int, e = .returned (.tuple #[.int .i64 r195, .int .i64 r196]) ∧ 
          cnd (!((r196 == (0 : Int)) == r191))
          (∃ x197 : Option Addr, ∃ x198 : Int, ∃ x199_p : Option Addr, ∃ x199_n : Nat, ∃ x199_c : Nat, ∃ x200_p : Option Addr, ∃ x200_n : Nat, ∃ x200_c : Nat, ∃ x201_p : Option Addr, ∃ x201_n : Nat, ∃ x201_c : Nat, CellsAt w194 (Addr.mk n1 0 none) 0 [.pointer x197, .int .i64 x198, .slice x199_p x199_n x199_c, .slice x200_p x200_n x200_c, .slice x201_p x201_n x201_c] ∧ 
          ∃ w202 : World, StoreAt (Addr.mk n5 0 none) 0 [.pointer x197, .int .i64 x198, .slice x199_p x199_n x199_c, .slice x200_p x200_n x200_c, .slice x201_p x201_n x201_c] w194 w202 ∧ 
          ∃ x203 : Option Addr, ∃ x204 : Int, ∃ x205_p : Option Addr, ∃ x205_n : Nat, ∃ x205_c : Nat, ∃ x206_p : Option Addr, ∃ x206_n : Nat, ∃ x206_c : Nat, ∃ x207_p : Option Addr, ∃ x207_n : Nat, ∃ x207_c : Nat, CellsAt w202 (Addr.mk n5 0 none) 0 [.pointer x203, .int .i64 x204, .slice x205_p x205_n x205_c, .slice x206_p x206_n x206_c, .slice x207_p x207_n x207_c] ∧ 
          K (.tuple #[.agg #[.pointer x203, .int .i64 x204, .slice x205_p x205_n x205_c, .slice x206_p x206_n x206_c, .slice x207_p x207_n x207_c], .bool false]) w202)
          (cnd r191
          (∃ x208_p : Option Addr, ∃ x208_n : Nat, ∃ x208_c : Nat, w194.cell? ((Addr.mk n1 0 none).add 2) = some (.slice x208_p x208_n x208_c) ∧ 
          cnd (r195 != (x208_n : Int))
          (∃ x209 : Option Addr, ∃ x210 : Int, ∃ x211_p : Option Addr, ∃ x211_n : Nat, ∃ x211_c : Nat, ∃ x212_p : Option Addr, ∃ x212_n : Nat, ∃ x212_c : Nat, ∃ x213_p : Option Addr, ∃ x213_n : Nat, ∃ x213_c : Nat, CellsAt w194 (Addr.mk n1 0 none) 0 [.pointer x209, .int .i64 x210, .slice x211_p x211_n x211_c, .slice x212_p x212_n x212_c, .slice x213_p x213_n x213_c] ∧ 
            ∃ w214 : World, StoreAt (Addr.mk n5 0 none) 0 [.pointer x209, .int .i64 x210, .slice x211_p x211_n x211_c, .slice x212_p x212_n x212_c, .slice x213_p x213_n x213_c] w194 w214 ∧ 
            ∃ x215 : Option Addr, ∃ x216 : Int, ∃ x217_p : Option Addr, ∃ x217_n : Nat, ∃ x217_c : Nat, ∃ x218_p : Option Addr, ∃ x218_n : Nat, ∃ x218_c : Nat, ∃ x219_p : Option Addr, ∃ x219_n : Nat, ∃ x219_c : Nat, CellsAt w214 (Addr.mk n5 0 none) 0 [.pointer x215, .int .i64 x216, .slice x217_p x217_n x217_c, .slice x218_p x218_n x218_c, .slice x219_p x219_n x219_c] ∧ 
            K (.tuple #[.agg #[.pointer x215, .int .i64 x216, .slice x217_p x217_n x217_c, .slice x218_p x218_n x218_c, .slice x219_p x219_n x219_c], .bool false]) w214)
          (cnd r191
            (∃ W220 : World → Prop, W220 w194.drew ∧ 
              ∃ x221_p : Option Addr, ∃ x221_n : Nat, ∃ x221_c : Nat, AtW W220 ((Addr.mk n1 0 none).add 2) (.slice x221_p x221_n x221_c) ∧ 
              ∃ x222_p : Option Addr, ∃ x222_n : Nat, ∃ x222_c : Nat, AtW W220 ((Addr.mk n3 0 none).add 2) (.slice x222_p x222_n x222_c) ∧ 
              (∀ (n223 : Nat) (w224 : World), New (.cells #[] 31) w194.drew n223 w224 → 
              W220 w224 ∧ (∃ w225 : World, ∃ r226_p : Option Addr, ∃ r226_n : Nat, ∃ r226_c : Nat, (Builtin.append_ #[22, 22] 22 #[.slice (some (Addr.mk n223 0 none)) 0 0, .slice x221_p x221_n x221_c]).run Try.prog w224 = .ok (.slice r226_p r226_n r226_c) w225 ∧ 
              W220 w225 ∧ ∀ (n227 : Nat) (w228 : World), New (.cells #[.slice x222_p x222_n x222_c] 31) w225 n227 w228 → 
              W220 w228 ∧ ∃ w229 : World, ∃ r230_p : Option Addr, ∃ r230_n : Nat, ∃ r230_c : Nat, (Builtin.append_ #[22, 22] 22 #[.slice r226_p r226_n r226_c, .slice (some (Addr.mk n227 0 none)) 1 1]).run Try.prog w228 = .ok (.slice r230_p r230_n r230_c) w229 ∧ 
              ∃ w231 : World, StoreAt ((Addr.mk n1 0 none).add 2) 0 [.slice r230_p r230_n r230_c] w229 w231 ∧ 
              ∀ (n232 : Nat) (w233 : World), New (.cells #[] 4) w231 n232 w233 → 
              ∃ x234_p : Option Addr, ∃ x234_n : Nat, ∃ x234_c : Nat, w233.cell? ((Addr.mk n1 0 none).add 3) = some (.slice x234_p x234_n x234_c) ∧ 
              ∃ w235 : World, ∃ r236_p : Option Addr, ∃ r236_n : Nat, ∃ r236_c : Nat, (Builtin.append_ #[30, 30] 30 #[.slice (some (Addr.mk n232 0 none)) 0 0, .slice x234_p x234_n x234_c]).run Try.prog w233 = .ok (.slice r236_p r236_n r236_c) w235 ∧ 
              ∀ (n237 : Nat) (w238 : World), New (.cells #[.bool false] 4) w235 n237 w238 → 
              ∃ w239 : World, ∃ r240_p : Option Addr, ∃ r240_n : Nat, ∃ r240_c : Nat, (Builtin.append_ #[30, 30] 30 #[.slice r236_p r236_n r236_c, .slice (some (Addr.mk n237 0 none)) 1 1]).run Try.prog w238 = .ok (.slice r240_p r240_n r240_c) w239 ∧ 
              ∃ w241 : World, StoreAt ((Addr.mk n1 0 none).add 3) 0 [.slice r240_p r240_n r240_c] w239 w241 ∧ 
              ∃ x242 : Option Addr, ∃ x243 : Int, ∃ x244_p : Option Addr, ∃ x244_n : Nat, ∃ x244_c : Nat, ∃ x245_p : Option Addr, ∃ x245_n : Nat, ∃ x245_c : Nat, ∃ x246_p : Option Addr, ∃ x246_n : Nat, ∃ x246_c : Nat, CellsAt w241 (Addr.mk n1 0 none) 0 [.pointer x242, .int .i64 x243, .slice x244_p x244_n x244_c, .slice x245_p x245_n x245_c, .slice x246_p x246_n x246_c] ∧ 
              ∃ w247 : World, StoreAt (Addr.mk n5 0 none) 0 [.pointer x242, .int .i64 x243, .slice x244_p x244_n x244_c, .slice x245_p x245_n x245_c, .slice x246_p x246_n x246_c] w241 w247 ∧ 
              ∃ x248 : Option Addr, ∃ x249 : Int, ∃ x250_p : Option Addr, ∃ x250_n : Nat, ∃ x250_c : Nat, ∃ x251_p : Option Addr, ∃ x251_n : Nat, ∃ x251_c : Nat, ∃ x252_p : Option Addr, ∃ x252_n : Nat, ∃ x252_c : Nat, CellsAt w247 (Addr.mk n5 0 none) 0 [.pointer x248, .int .i64 x249, .slice x250_p x250_n x250_c, .slice x251_p x251_n x251_c, .slice x252_p x252_n x252_c] ∧ 
              K (.tuple #[.agg #[.pointer x248, .int .i64 x249, .slice x250_p x250_n x250_c, .slice x251_p x251_n x251_c, .slice x252_p x252_n x252_c], .bool true]) w247) ∧
            (∀ (n253 : Nat) (w254 : World), New (.cells #[.slice x222_p x222_n x222_c] 31) w224 n253 w254 → 
              W220 w254 ∧ ∃ w255 : World, ∃ r256_p : Option Addr, ∃ r256_n : Nat, ∃ r256_c : Nat, (Builtin.append_ #[22, 22] 22 #[.slice (some (Addr.mk n223 0 none)) 0 0, .slice x221_p x221_n x221_c]).run Try.prog w254 = .ok (.slice r256_p r256_n r256_c) w255 ∧ 
              W220 w255 ∧ ∃ w257 : World, ∃ r258_p : Option Addr, ∃ r258_n : Nat, ∃ r258_c : Nat, (Builtin.append_ #[22, 22] 22 #[.slice r256_p r256_n r256_c, .slice (some (Addr.mk n253 0 none)) 1 1]).run Try.prog w255 = .ok (.slice r258_p r258_n r258_c) w257 ∧ 
              ∃ w259 : World, StoreAt ((Addr.mk n1 0 none).add 2) 0 [.slice r258_p r258_n r258_c] w257 w259 ∧ 
              ∀ (n260 : Nat) (w261 : World), New (.cells #[] 4) w259 n260 w261 → 
              ∃ x262_p : Option Addr, ∃ x262_n : Nat, ∃ x262_c : Nat, w261.cell? ((Addr.mk n1 0 none).add 3) = some (.slice x262_p x262_n x262_c) ∧ 
              ∃ w263 : World, ∃ r264_p : Option Addr, ∃ r264_n : Nat, ∃ r264_c : Nat, (Builtin.append_ #[30, 30] 30 #[.slice (some (Addr.mk n260 0 none)) 0 0, .slice x262_p x262_n x262_c]).run Try.prog w261 = .ok (.slice r264_p r264_n r264_c) w263 ∧ 
              ∀ (n265 : Nat) (w266 : World), New (.cells #[.bool false] 4) w263 n265 w266 → 
              ∃ w267 : World, ∃ r268_p : Option Addr, ∃ r268_n : Nat, ∃ r268_c : Nat, (Builtin.append_ #[30, 30] 30 #[.slice r264_p r264_n r264_c, .slice (some (Addr.mk n265 0 none)) 1 1]).run Try.prog w266 = .ok (.slice r268_p r268_n r268_c) w267 ∧ 
              ∃ w269 : World, StoreAt ((Addr.mk n1 0 none).add 3) 0 [.slice r268_p r268_n r268_c] w267 w269 ∧ 
              ∃ x270 : Option Addr, ∃ x271 : Int, ∃ x272_p : Option Addr, ∃ x272_n : Nat, ∃ x272_c : Nat, ∃ x273_p : Option Addr, ∃ x273_n : Nat, ∃ x273_c : Nat, ∃ x274_p : Option Addr, ∃ x274_n : Nat, ∃ x274_c : Nat, CellsAt w269 (Addr.mk n1 0 none) 0 [.pointer x270, .int .i64 x271, .slice x272_p x272_n x272_c, .slice x273_p x273_n x273_c, .slice x274_p x274_n x274_c] ∧ 
              ∃ w275 : World, StoreAt (Addr.mk n5 0 none) 0 [.pointer x270, .int .i64 x271, .slice x272_p x272_n x272_c, .slice x273_p x273_n x273_c, .slice x274_p x274_n x274_c] w269 w275 ∧ 
              ∃ x276 : Option Addr, ∃ x277 : Int, ∃ x278_p : Option Addr, ∃ x278_n : Nat, ∃ x278_c : Nat, ∃ x279_p : Option Addr, ∃ x279_n : Nat, ∃ x279_c : Nat, ∃ x280_p : Option Addr, ∃ x280_n : Nat, ∃ x280_c : Nat, CellsAt w275 (Addr.mk n5 0 none) 0 [.pointer x276, .int .i64 x277, .slice x278_p x278_n x278_c, .slice x279_p x279_n x279_c, .slice x280_p x280_n x280_c] ∧ 
              K (.tuple #[.agg #[.pointer x276, .int .i64 x277, .slice x278_p x278_n x278_c, .slice x279_p x279_n x279_c, .slice x280_p x280_n x280_c], .bool true]) w275)) ∧
            (∀ (n281 : Nat) (w282 : World), New (.cells #[.slice x222_p x222_n x222_c] 31) w194.drew n281 w282 → 
              W220 w282 ∧ ∀ (n283 : Nat) (w284 : World), New (.cells #[] 31) w282 n283 w284 → 
              W220 w284 ∧ ∃ w285 : World, ∃ r286_p : Option Addr, ∃ r286_n : Nat, ∃ r286_c : Nat, (Builtin.append_ #[22, 22] 22 #[.slice (some (Addr.mk n283 0 none)) 0 0, .slice x221_p x221_n x221_c]).run Try.prog w284 = .ok (.slice r286_p r286_n r286_c) w285 ∧ 
              W220 w285 ∧ ∃ w287 : World, ∃ r288_p : Option Addr, ∃ r288_n : Nat, ∃ r288_c : Nat, (Builtin.append_ #[22, 22] 22 #[.slice r286_p r286_n r286_c, .slice (some (Addr.mk n281 0 none)) 1 1]).run Try.prog w285 = .ok (.slice r288_p r288_n r288_c) w287 ∧ 
              ∃ w289 : World, StoreAt ((Addr.mk n1 0 none).add 2) 0 [.slice r288_p r288_n r288_c] w287 w289 ∧ 
              ∀ (n290 : Nat) (w291 : World), New (.cells #[] 4) w289 n290 w291 → 
              ∃ x292_p : Option Addr, ∃ x292_n : Nat, ∃ x292_c : Nat, w291.cell? ((Addr.mk n1 0 none).add 3) = some (.slice x292_p x292_n x292_c) ∧ 
              ∃ w293 : World, ∃ r294_p : Option Addr, ∃ r294_n : Nat, ∃ r294_c : Nat, (Builtin.append_ #[30, 30] 30 #[.slice (some (Addr.mk n290 0 none)) 0 0, .slice x292_p x292_n x292_c]).run Try.prog w291 = .ok (.slice r294_p r294_n r294_c) w293 ∧ 
              ∀ (n295 : Nat) (w296 : World), New (.cells #[.bool false] 4) w293 n295 w296 → 
              ∃ w297 : World, ∃ r298_p : Option Addr, ∃ r298_n : Nat, ∃ r298_c : Nat, (Builtin.append_ #[30, 30] 30 #[.slice r294_p r294_n r294_c, .slice (some (Addr.mk n295 0 none)) 1 1]).run Try.prog w296 = .ok (.slice r298_p r298_n r298_c) w297 ∧ 
              ∃ w299 : World, StoreAt ((Addr.mk n1 0 none).add 3) 0 [.slice r298_p r298_n r298_c] w297 w299 ∧ 
              ∃ x300 : Option Addr, ∃ x301 : Int, ∃ x302_p : Option Addr, ∃ x302_n : Nat, ∃ x302_c : Nat, ∃ x303_p : Option Addr, ∃ x303_n : Nat, ∃ x303_c : Nat, ∃ x304_p : Option Addr, ∃ x304_n : Nat, ∃ x304_c : Nat, CellsAt w299 (Addr.mk n1 0 none) 0 [.pointer x300, .int .i64 x301, .slice x302_p x302_n x302_c, .slice x303_p x303_n x303_c, .slice x304_p x304_n x304_c] ∧ 
              ∃ w305 : World, StoreAt (Addr.mk n5 0 none) 0 [.pointer x300, .int .i64 x301, .slice x302_p x302_n x302_c, .slice x303_p x303_n x303_c, .slice x304_p x304_n x304_c] w299 w305 ∧ 
              ∃ x306 : Option Addr, ∃ x307 : Int, ∃ x308_p : Option Addr, ∃ x308_n : Nat, ∃ x308_c : Nat, ∃ x309_p : Option Addr, ∃ x309_n : Nat, ∃ x309_c : Nat, ∃ x310_p : Option Addr, ∃ x310_n : Nat, ∃ x310_c : Nat, CellsAt w305 (Addr.mk n5 0 none) 0 [.pointer x306, .int .i64 x307, .slice x308_p x308_n x308_c, .slice x309_p x309_n x309_c, .slice x310_p x310_n x310_c] ∧ 
              K (.tuple #[.agg #[.pointer x306, .int .i64 x307, .slice x308_p x308_n x308_c, .slice x309_p x309_n x309_c, .slice x310_p x310_n x310_c], .bool true]) w305))
            (∃ x311 : Option Addr, ∃ x312 : Int, ∃ x313_p : Option Addr, ∃ x313_n : Nat, ∃ x313_c : Nat, ∃ x314_p : Option Addr, ∃ x314_n : Nat, ∃ x314_c : Nat, ∃ x315_p : Option Addr, ∃ x315_n : Nat, ∃ x315_c : Nat, CellsAt w194 (Addr.mk n1 0 none) 0 [.pointer x311, .int .i64 x312, .slice x313_p x313_n x313_c, .slice x314_p x314_n x314_c, .slice x315_p x315_n x315_c] ∧ 
              ∃ w316 : World, StoreAt (Addr.mk n5 0 none) 0 [.pointer x311, .int .i64 x312, .slice x313_p x313_n x313_c, .slice x314_p x314_n x314_c, .slice x315_p x315_n x315_c] w194 w316 ∧ 
              ∃ x317 : Option Addr, ∃ x318 : Int, ∃ x319_p : Option Addr, ∃ x319_n : Nat, ∃ x319_c : Nat, ∃ x320_p : Option Addr, ∃ x320_n : Nat, ∃ x320_c : Nat, ∃ x321_p : Option Addr, ∃ x321_n : Nat, ∃ x321_c : Nat, CellsAt w316 (Addr.mk n5 0 none) 0 [.pointer x317, .int .i64 x318, .slice x319_p x319_n x319_c, .slice x320_p x320_n x320_c, .slice x321_p x321_n x321_c] ∧ 
              K (.tuple #[.agg #[.pointer x317, .int .i64 x318, .slice x319_p x319_n x319_c, .slice x320_p x320_n x320_c, .slice x321_p x321_n x321_c], .bool true]) w316)))
          (cnd r191
          (∃ W322 : World → Prop, W322 w194.drew ∧ 
            ∃ x323_p : Option Addr, ∃ x323_n : Nat, ∃ x323_c : Nat, AtW W322 ((Addr.mk n1 0 none).add 2) (.slice x323_p x323_n x323_c) ∧ 
            ∃ x324_p : Option Addr, ∃ x324_n : Nat, ∃ x324_c : Nat, AtW W322 ((Addr.mk n3 0 none).add 2) (.slice x324_p x324_n x324_c) ∧ 
            (∀ (n325 : Nat) (w326 : World), New (.cells #[] 31) w194.drew n325 w326 → 
            W322 w326 ∧ (∃ w327 : World, ∃ r328_p : Option Addr, ∃ r328_n : Nat, ∃ r328_c : Nat, (Builtin.append_ #[22, 22] 22 #[.slice (some (Addr.mk n325 0 none)) 0 0, .slice x323_p x323_n x323_c]).run Try.prog w326 = .ok (.slice r328_p r328_n r328_c) w327 ∧ 
            W322 w327 ∧ ∀ (n329 : Nat) (w330 : World), New (.cells #[.slice x324_p x324_n x324_c] 31) w327 n329 w330 → 
            W322 w330 ∧ ∃ w331 : World, ∃ r332_p : Option Addr, ∃ r332_n : Nat, ∃ r332_c : Nat, (Builtin.append_ #[22, 22] 22 #[.slice r328_p r328_n r328_c, .slice (some (Addr.mk n329 0 none)) 1 1]).run Try.prog w330 = .ok (.slice r332_p r332_n r332_c) w331 ∧ 
            ∃ w333 : World, StoreAt ((Addr.mk n1 0 none).add 2) 0 [.slice r332_p r332_n r332_c] w331 w333 ∧ 
            ∀ (n334 : Nat) (w335 : World), New (.cells #[] 4) w333 n334 w335 → 
            ∃ x336_p : Option Addr, ∃ x336_n : Nat, ∃ x336_c : Nat, w335.cell? ((Addr.mk n1 0 none).add 3) = some (.slice x336_p x336_n x336_c) ∧ 
            ∃ w337 : World, ∃ r338_p : Option Addr, ∃ r338_n : Nat, ∃ r338_c : Nat, (Builtin.append_ #[30, 30] 30 #[.slice (some (Addr.mk n334 0 none)) 0 0, .slice x336_p x336_n x336_c]).run Try.prog w335 = .ok (.slice r338_p r338_n r338_c) w337 ∧ 
            ∀ (n339 : Nat) (w340 : World), New (.cells #[.bool false] 4) w337 n339 w340 → 
            ∃ w341 : World, ∃ r342_p : Option Addr, ∃ r342_n : Nat, ∃ r342_c : Nat, (Builtin.append_ #[30, 30] 30 #[.slice r338_p r338_n r338_c, .slice (some (Addr.mk n339 0 none)) 1 1]).run Try.prog w340 = .ok (.slice r342_p r342_n r342_c) w341 ∧ 
            ∃ w343 : World, StoreAt ((Addr.mk n1 0 none).add 3) 0 [.slice r342_p r342_n r342_c] w341 w343 ∧ 
            ∃ x344 : Option Addr, ∃ x345 : Int, ∃ x346_p : Option Addr, ∃ x346_n : Nat, ∃ x346_c : Nat, ∃ x347_p : Option Addr, ∃ x347_n : Nat, ∃ x347_c : Nat, ∃ x348_p : Option Addr, ∃ x348_n : Nat, ∃ x348_c : Nat, CellsAt w343 (Addr.mk n1 0 none) 0 [.pointer x344, .int .i64 x345, .slice x346_p x346_n x346_c, .slice x347_p x347_n x347_c, .slice x348_p x348_n x348_c] ∧ 
            ∃ w349 : World, StoreAt (Addr.mk n5 0 none) 0 [.pointer x344, .int .i64 x345, .slice x346_p x346_n x346_c, .slice x347_p x347_n x347_c, .slice x348_p x348_n x348_c] w343 w349 ∧ 
            ∃ x350 : Option Addr, ∃ x351 : Int, ∃ x352_p : Option Addr, ∃ x352_n : Nat, ∃ x352_c : Nat, ∃ x353_p : Option Addr, ∃ x353_n : Nat, ∃ x353_c : Nat, ∃ x354_p : Option Addr, ∃ x354_n : Nat, ∃ x354_c : Nat, CellsAt w349 (Addr.mk n5 0 none) 0 [.pointer x350, .int .i64 x351, .slice x352_p x352_n x352_c, .slice x353_p x353_n x353_c, .slice x354_p x354_n x354_c] ∧ 
            K (.tuple #[.agg #[.pointer x350, .int .i64 x351, .slice x352_p x352_n x352_c, .slice x353_p x353_n x353_c, .slice x354_p x354_n x354_c], .bool true]) w349) ∧
          (∀ (n355 : Nat) (w356 : World), New (.cells #[.slice x324_p x324_n x324_c] 31) w326 n355 w356 → 
            W322 w356 ∧ ∃ w357 : World, ∃ r358_p : Option Addr, ∃ r358_n : Nat, ∃ r358_c : Nat, (Builtin.append_ #[22, 22] 22 #[.slice (some (Addr.mk n325 0 none)) 0 0, .slice x323_p x323_n x323_c]).run Try.prog w356 = .ok (.slice r358_p r358_n r358_c) w357 ∧ 
            W322 w357 ∧ ∃ w359 : World, ∃ r360_p : Option Addr, ∃ r360_n : Nat, ∃ r360_c : Nat, (Builtin.append_ #[22, 22] 22 #[.slice r358_p r358_n r358_c, .slice (some (Addr.mk n355 0 none)) 1 1]).run Try.prog w357 = .ok (.slice r360_p r360_n r360_c) w359 ∧ 
            ∃ w361 : World, StoreAt ((Addr.mk n1 0 none).add 2) 0 [.slice r360_p r360_n r360_c] w359 w361 ∧ 
            ∀ (n362 : Nat) (w363 : World), New (.cells #[] 4) w361 n362 w363 → 
            ∃ x364_p : Option Addr, ∃ x364_n : Nat, ∃ x364_c : Nat, w363.cell? ((Addr.mk n1 0 none).add 3) = some (.slice x364_p x364_n x364_c) ∧ 
            ∃ w365 : World, ∃ r366_p : Option Addr, ∃ r366_n : Nat, ∃ r366_c : Nat, (Builtin.append_ #[30, 30] 30 #[.slice (some (Addr.mk n362 0 none)) 0 0, .slice x364_p x364_n x364_c]).run Try.prog w363 = .ok (.slice r366_p r366_n r366_c) w365 ∧ 
            ∀ (n367 : Nat) (w368 : World), New (.cells #[.bool false] 4) w365 n367 w368 → 
            ∃ w369 : World, ∃ r370_p : Option Addr, ∃ r370_n : Nat, ∃ r370_c : Nat, (Builtin.append_ #[30, 30] 30 #[.slice r366_p r366_n r366_c, .slice (some (Addr.mk n367 0 none)) 1 1]).run Try.prog w368 = .ok (.slice r370_p r370_n r370_c) w369 ∧ 
            ∃ w371 : World, StoreAt ((Addr.mk n1 0 none).add 3) 0 [.slice r370_p r370_n r370_c] w369 w371 ∧ 
            ∃ x372 : Option Addr, ∃ x373 : Int, ∃ x374_p : Option Addr, ∃ x374_n : Nat, ∃ x374_c : Nat, ∃ x375_p : Option Addr, ∃ x375_n : Nat, ∃ x375_c : Nat, ∃ x376_p : Option Addr, ∃ x376_n : Nat, ∃ x376_c : Nat, CellsAt w371 (Addr.mk n1 0 none) 0 [.pointer x372, .int .i64 x373, .slice x374_p x374_n x374_c, .slice x375_p x375_n x375_c, .slice x376_p x376_n x376_c] ∧ 
            ∃ w377 : World, StoreAt (Addr.mk n5 0 none) 0 [.pointer x372, .int .i64 x373, .slice x374_p x374_n x374_c, .slice x375_p x375_n x375_c, .slice x376_p x376_n x376_c] w371 w377 ∧ 
            ∃ x378 : Option Addr, ∃ x379 : Int, ∃ x380_p : Option Addr, ∃ x380_n : Nat, ∃ x380_c : Nat, ∃ x381_p : Option Addr, ∃ x381_n : Nat, ∃ x381_c : Nat, ∃ x382_p : Option Addr, ∃ x382_n : Nat, ∃ x382_c : Nat, CellsAt w377 (Addr.mk n5 0 none) 0 [.pointer x378, .int .i64 x379, .slice x380_p x380_n x380_c, .slice x381_p x381_n x381_c, .slice x382_p x382_n x382_c] ∧ 
            K (.tuple #[.agg #[.pointer x378, .int .i64 x379, .slice x380_p x380_n x380_c, .slice x381_p x381_n x381_c, .slice x382_p x382_n x382_c], .bool true]) w377)) ∧
          (∀ (n383 : Nat) (w384 : World), New (.cells #[.slice x324_p x324_n x324_c] 31) w194.drew n383 w384 → 
            W322 w384 ∧ ∀ (n385 : Nat) (w386 : World), New (.cells #[] 31) w384 n385 w386 → 
            W322 w386 ∧ ∃ w387 : World, ∃ r388_p : Option Addr, ∃ r388_n : Nat, ∃ r388_c : Nat, (Builtin.append_ #[22, 22] 22 #[.slice (some (Addr.mk n385 0 none)) 0 0, .slice x323_p x323_n x323_c]).run Try.prog w386 = .ok (.slice r388_p r388_n r388_c) w387 ∧ 
            W322 w387 ∧ ∃ w389 : World, ∃ r390_p : Option Addr, ∃ r390_n : Nat, ∃ r390_c : Nat, (Builtin.append_ #[22, 22] 22 #[.slice r388_p r388_n r388_c, .slice (some (Addr.mk n383 0 none)) 1 1]).run Try.prog w387 = .ok (.slice r390_p r390_n r390_c) w389 ∧ 
            ∃ w391 : World, StoreAt ((Addr.mk n1 0 none).add 2) 0 [.slice r390_p r390_n r390_c] w389 w391 ∧ 
            ∀ (n392 : Nat) (w393 : World), New (.cells #[] 4) w391 n392 w393 → 
            ∃ x394_p : Option Addr, ∃ x394_n : Nat, ∃ x394_c : Nat, w393.cell? ((Addr.mk n1 0 none).add 3) = some (.slice x394_p x394_n x394_c) ∧ 
            ∃ w395 : World, ∃ r396_p : Option Addr, ∃ r396_n : Nat, ∃ r396_c : Nat, (Builtin.append_ #[30, 30] 30 #[.slice (some (Addr.mk n392 0 none)) 0 0, .slice x394_p x394_n x394_c]).run Try.prog w393 = .ok (.slice r396_p r396_n r396_c) w395 ∧ 
            ∀ (n397 : Nat) (w398 : World), New (.cells #[.bool false] 4) w395 n397 w398 → 
            ∃ w399 : World, ∃ r400_p : Option Addr, ∃ r400_n : Nat, ∃ r400_c : Nat, (Builtin.append_ #[30, 30] 30 #[.slice r396_p r396_n r396_c, .slice (some (Addr.mk n397 0 none)) 1 1]).run Try.prog w398 = .ok (.slice r400_p r400_n r400_c) w399 ∧ 
            ∃ w401 : World, StoreAt ((Addr.mk n1 0 none).add 3) 0 [.slice r400_p r400_n r400_c] w399 w401 ∧ 
            ∃ x402 : Option Addr, ∃ x403 : Int, ∃ x404_p : Option Addr, ∃ x404_n : Nat, ∃ x404_c : Nat, ∃ x405_p : Option Addr, ∃ x405_n : Nat, ∃ x405_c : Nat, ∃ x406_p : Option Addr, ∃ x406_n : Nat, ∃ x406_c : Nat, CellsAt w401 (Addr.mk n1 0 none) 0 [.pointer x402, .int .i64 x403, .slice x404_p x404_n x404_c, .slice x405_p x405_n x405_c, .slice x406_p x406_n x406_c] ∧ 
            ∃ w407 : World, StoreAt (Addr.mk n5 0 none) 0 [.pointer x402, .int .i64 x403, .slice x404_p x404_n x404_c, .slice x405_p x405_n x405_c, .slice x406_p x406_n x406_c] w401 w407 ∧ 
            ∃ x408 : Option Addr, ∃ x409 : Int, ∃ x410_p : Option Addr, ∃ x410_n : Nat, ∃ x410_c : Nat, ∃ x411_p : Option Addr, ∃ x411_n : Nat, ∃ x411_c : Nat, ∃ x412_p : Option Addr, ∃ x412_n : Nat, ∃ x412_c : Nat, CellsAt w407 (Addr.mk n5 0 none) 0 [.pointer x408, .int .i64 x409, .slice x410_p x410_n x410_c, .slice x411_p x411_n x411_c, .slice x412_p x412_n x412_c] ∧ 
            K (.tuple #[.agg #[.pointer x408, .int .i64 x409, .slice x410_p x410_n x410_c, .slice x411_p x411_n x411_c, .slice x412_p x412_n x412_c], .bool true]) w407))
          (∃ x413 : Option Addr, ∃ x414 : Int, ∃ x415_p : Option Addr, ∃ x415_n : Nat, ∃ x415_c : Nat, ∃ x416_p : Option Addr, ∃ x416_n : Nat, ∃ x416_c : Nat, ∃ x417_p : Option Addr, ∃ x417_n : Nat, ∃ x417_c : Nat, CellsAt w194 (Addr.mk n1 0 none) 0 [.pointer x413, .int .i64 x414, .slice x415_p x415_n x415_c, .slice x416_p x416_n x416_c, .slice x417_p x417_n x417_c] ∧ 
            ∃ w418 : World, StoreAt (Addr.mk n5 0 none) 0 [.pointer x413, .int .i64 x414, .slice x415_p x415_n x415_c, .slice x416_p x416_n x416_c, .slice x417_p x417_n x417_c] w194 w418 ∧ 
            ∃ x419 : Option Addr, ∃ x420 : Int, ∃ x421_p : Option Addr, ∃ x421_n : Nat, ∃ x421_c : Nat, ∃ x422_p : Option Addr, ∃ x422_n : Nat, ∃ x422_c : Nat, ∃ x423_p : Option Addr, ∃ x423_n : Nat, ∃ x423_c : Nat, CellsAt w418 (Addr.mk n5 0 none) 0 [.pointer x419, .int .i64 x420, .slice x421_p x421_n x421_c, .slice x422_p x422_n x422_c, .slice x423_p x423_n x423_c] ∧ 
            K (.tuple #[.agg #[.pointer x419, .int .i64 x420, .slice x421_p x421_n x421_c, .slice x422_p x422_n x422_c, .slice x423_p x423_n x423_c], .bool true]) w418))))
        (cnd (x7 == (4 : Int))
          (∃ J424 : Bool → World → Prop, (∃ x425 : Int, w6.cell? ((Addr.mk n3 0 none).add 1) = some (.int .i64 x425) ∧ 
            cnd (decide (x425 ≥ (0 : Int)))
            (∃ x426 : Int, w6.cell? ((Addr.mk n3 0 none).add 1) = some (.int .i64 x426) ∧ 
            ∃ x427_p : Option Addr, ∃ x427_n : Nat, ∃ x427_c : Nat, w6.cell? ((Addr.mk n1 0 none).add 2) = some (.slice x427_p x427_n x427_c) ∧ 
            cnd (decide (x426 < (x427_n : Int)))
            (∃ x428_p : Option Addr, ∃ x428_n : Nat, ∃ x428_c : Nat, w6.cell? ((Addr.mk n1 0 none).add 3) = some (.slice x428_p x428_n x428_c) ∧ 
            ∃ x429 : Int, w6.cell? ((Addr.mk n3 0 none).add 1) = some (.int .i64 x429) ∧ 
            ixK x428_p x428_n x429 1 fun a430 =>
            ∃ x431 : Bool, w6.cell? a430 = some (.bool x431) ∧ 
            J424 (!x431) w6)
            (J424 false w6))
            (J424 false w6)) ∧
            ∀ (is_432 : Bool) (w433 : World) (_ : Fr), J424 is_432 w433 → 
            ∃ x434 : Option Addr, w433.cell? ((Addr.mk n1 0 none).add 0) = some (.pointer x434) ∧ 
            ∃ x435 : Int, w433.cell? ((Addr.mk n3 0 none).add 1) = some (.int .i64 x435) ∧ 
            Calls Try.prog 32 #[.pointer x434, .int .i64 x435] w433 fun e w436 => ∃ r437 : Int, e = .returned (.int .i64 r437) ∧ 
            cnd (!is_432)
            (∃ x438 : Option Addr, ∃ x439 : Int, ∃ x440_p : Option Addr, ∃ x440_n : Nat, ∃ x440_c : Nat, ∃ x441_p : Option Addr, ∃ x441_n : Nat, ∃ x441_c : Nat, ∃ x442_p : Option Addr, ∃ x442_n : Nat, ∃ x442_c : Nat, CellsAt w436 (Addr.mk n1 0 none) 0 [.pointer x438, .int .i64 x439, .slice x440_p x440_n x440_c, .slice x441_p x441_n x441_c, .slice x442_p x442_n x442_c] ∧ 
              ∃ w443 : World, StoreAt (Addr.mk n5 0 none) 0 [.pointer x438, .int .i64 x439, .slice x440_p x440_n x440_c, .slice x441_p x441_n x441_c, .slice x442_p x442_n x442_c] w436 w443 ∧ 
              ∃ x444 : Option Addr, ∃ x445 : Int, ∃ x446_p : Option Addr, ∃ x446_n : Nat, ∃ x446_c : Nat, ∃ x447_p : Option Addr, ∃ x447_n : Nat, ∃ x447_c : Nat, ∃ x448_p : Option Addr, ∃ x448_n : Nat, ∃ x448_c : Nat, CellsAt w443 (Addr.mk n5 0 none) 0 [.pointer x444, .int .i64 x445, .slice x446_p x446_n x446_c, .slice x447_p x447_n x447_c, .slice x448_p x448_n x448_c] ∧ 
              K (.tuple #[.agg #[.pointer x444, .int .i64 x445, .slice x446_p x446_n x446_c, .slice x447_p x447_n x447_c, .slice x448_p x448_n x448_c], .bool (r437 == (4 : Int))]) w443)
            (cnd (r437 == (7 : Int))
              (∃ W449 : World → Prop, W449 w436.drew ∧ 
                ∃ x450 : Option Addr, ∃ x451 : Int, ∃ x452_p : Option Addr, ∃ x452_n : Nat, ∃ x452_c : Nat, ∃ x453_p : Option Addr, ∃ x453_n : Nat, ∃ x453_c : Nat, ∃ x454_p : Option Addr, ∃ x454_n : Nat, ∃ x454_c : Nat, CellsW W449 (Addr.mk n1 0 none) [.pointer x450, .int .i64 x451, .slice x452_p x452_n x452_c, .slice x453_p x453_n x453_c, .slice x454_p x454_n x454_c] ∧ 
                ∃ x455 : Option Addr, ∃ x456 : Int, ∃ x457_p : Option Addr, ∃ x457_n : Nat, ∃ x457_c : Nat, ∃ x458_p : Option Addr, ∃ x458_n : Nat, ∃ x458_c : Nat, ∃ x459_p : Option Addr, ∃ x459_n : Nat, ∃ x459_c : Nat, CellsW W449 (Addr.mk n1 0 none) [.pointer x455, .int .i64 x456, .slice x457_p x457_n x457_c, .slice x458_p x458_n x458_c, .slice x459_p x459_n x459_c] ∧ 
                ∃ x460 : Int, AtW W449 ((Addr.mk n3 0 none).add 1) (.int .i64 x460) ∧ 
                Calls Try.prog 58 #[.agg #[.pointer x455, .int .i64 x456, .slice x457_p x457_n x457_c, .slice x458_p x458_n x458_c, .slice x459_p x459_n x459_c], .int .i64 x460] w436.drew fun e w461 => ∃ r462 : Bool, e = .returned (.bool r462) ∧ 
                W449 w461 ∧ ∃ w463 : World, StoreAt (Addr.mk n5 0 none) 0 [.pointer x450, .int .i64 x451, .slice x452_p x452_n x452_c, .slice x453_p x453_n x453_c, .slice x454_p x454_n x454_c] w461 w463 ∧ 
                ∃ x464 : Option Addr, ∃ x465 : Int, ∃ x466_p : Option Addr, ∃ x466_n : Nat, ∃ x466_c : Nat, ∃ x467_p : Option Addr, ∃ x467_n : Nat, ∃ x467_c : Nat, ∃ x468_p : Option Addr, ∃ x468_n : Nat, ∃ x468_c : Nat, CellsAt w463 (Addr.mk n5 0 none) 0 [.pointer x464, .int .i64 x465, .slice x466_p x466_n x466_c, .slice x467_p x467_n x467_c, .slice x468_p x468_n x468_c] ∧ 
                K (.tuple #[.agg #[.pointer x464, .int .i64 x465, .slice x466_p x466_n x466_c, .slice x467_p x467_n x467_c, .slice x468_p x468_n x468_c], .bool r462]) w463)
              (cnd (r437 != (0 : Int))
                (∃ x469 : Option Addr, ∃ x470 : Int, ∃ x471_p : Option Addr, ∃ x471_n : Nat, ∃ x471_c : Nat, ∃ x472_p : Option Addr, ∃ x472_n : Nat, ∃ x472_c : Nat, ∃ x473_p : Option Addr, ∃ x473_n : Nat, ∃ x473_c : Nat, CellsAt w436 (Addr.mk n1 0 none) 0 [.pointer x469, .int .i64 x470, .slice x471_p x471_n x471_c, .slice x472_p x472_n x472_c, .slice x473_p x473_n x473_c] ∧ 
                  ∃ w474 : World, StoreAt (Addr.mk n5 0 none) 0 [.pointer x469, .int .i64 x470, .slice x471_p x471_n x471_c, .slice x472_p x472_n x472_c, .slice x473_p x473_n x473_c] w436 w474 ∧ 
                  ∃ x475 : Option Addr, ∃ x476 : Int, ∃ x477_p : Option Addr, ∃ x477_n : Nat, ∃ x477_c : Nat, ∃ x478_p : Option Addr, ∃ x478_n : Nat, ∃ x478_c : Nat, ∃ x479_p : Option Addr, ∃ x479_n : Nat, ∃ x479_c : Nat, CellsAt w474 (Addr.mk n5 0 none) 0 [.pointer x475, .int .i64 x476, .slice x477_p x477_n x477_c, .slice x478_p x478_n x478_c, .slice x479_p x479_n x479_c] ∧ 
                  K (.tuple #[.agg #[.pointer x475, .int .i64 x476, .slice x477_p x477_n x477_c, .slice x478_p x478_n x478_c, .slice x479_p x479_n x479_c], .bool false]) w474)
                (∀ (n480 : Nat) (w481 : World), New (.cells #[] 4) w436 n480 w481 → 
                  ∃ x482_p : Option Addr, ∃ x482_n : Nat, ∃ x482_c : Nat, w481.cell? ((Addr.mk n1 0 none).add 3) = some (.slice x482_p x482_n x482_c) ∧ 
                  ∃ w483 : World, ∃ r484_p : Option Addr, ∃ r484_n : Nat, ∃ r484_c : Nat, (Builtin.append_ #[30, 30] 30 #[.slice (some (Addr.mk n480 0 none)) 0 0, .slice x482_p x482_n x482_c]).run Try.prog w481 = .ok (.slice r484_p r484_n r484_c) w483 ∧ 
                  ∃ w485 : World, StoreAt ((Addr.mk n1 0 none).add 3) 0 [.slice r484_p r484_n r484_c] w483 w485 ∧ 
                  ∃ x486_p : Option Addr, ∃ x486_n : Nat, ∃ x486_c : Nat, w485.cell? ((Addr.mk n1 0 none).add 3) = some (.slice x486_p x486_n x486_c) ∧ 
                  ∃ x487 : Int, w485.cell? ((Addr.mk n3 0 none).add 1) = some (.int .i64 x487) ∧ 
                  ixK x486_p x486_n x487 1 fun a488 =>
                  ∃ w489 : World, StoreAt a488 0 [.bool true] w485 w489 ∧ 
                  ∃ x490 : Option Addr, ∃ x491 : Int, ∃ x492_p : Option Addr, ∃ x492_n : Nat, ∃ x492_c : Nat, ∃ x493_p : Option Addr, ∃ x493_n : Nat, ∃ x493_c : Nat, ∃ x494_p : Option Addr, ∃ x494_n : Nat, ∃ x494_c : Nat, CellsAt w489 (Addr.mk n1 0 none) 0 [.pointer x490, .int .i64 x491, .slice x492_p x492_n x492_c, .slice x493_p x493_n x493_c, .slice x494_p x494_n x494_c] ∧ 
                  ∃ w495 : World, StoreAt (Addr.mk n5 0 none) 0 [.pointer x490, .int .i64 x491, .slice x492_p x492_n x492_c, .slice x493_p x493_n x493_c, .slice x494_p x494_n x494_c] w489 w495 ∧ 
                  ∃ x496 : Option Addr, ∃ x497 : Int, ∃ x498_p : Option Addr, ∃ x498_n : Nat, ∃ x498_c : Nat, ∃ x499_p : Option Addr, ∃ x499_n : Nat, ∃ x499_c : Nat, ∃ x500_p : Option Addr, ∃ x500_n : Nat, ∃ x500_c : Nat, CellsAt w495 (Addr.mk n5 0 none) 0 [.pointer x496, .int .i64 x497, .slice x498_p x498_n x498_c, .slice x499_p x499_n x499_c, .slice x500_p x500_n x500_c] ∧ 
                  K (.tuple #[.agg #[.pointer x496, .int .i64 x497, .slice x498_p x498_n x498_c, .slice x499_p x499_n x499_c, .slice x500_p x500_n x500_c], .bool true]) w495))))
          (∃ x501 : Option Addr, ∃ x502 : Int, ∃ x503_p : Option Addr, ∃ x503_n : Nat, ∃ x503_c : Nat, ∃ x504_p : Option Addr, ∃ x504_n : Nat, ∃ x504_c : Nat, ∃ x505_p : Option Addr, ∃ x505_n : Nat, ∃ x505_c : Nat, CellsAt w6 (Addr.mk n1 0 none) 0 [.pointer x501, .int .i64 x502, .slice x503_p x503_n x503_c, .slice x504_p x504_n x504_c, .slice x505_p x505_n x505_c] ∧ 
            ∃ w506 : World, StoreAt (Addr.mk n5 0 none) 0 [.pointer x501, .int .i64 x502, .slice x503_p x503_n x503_c, .slice x504_p x504_n x504_c, .slice x505_p x505_n x505_c] w6 w506 ∧ 
            ∃ x507 : Option Addr, ∃ x508 : Int, ∃ x509_p : Option Addr, ∃ x509_n : Nat, ∃ x509_c : Nat, ∃ x510_p : Option Addr, ∃ x510_n : Nat, ∃ x510_c : Nat, ∃ x511_p : Option Addr, ∃ x511_n : Nat, ∃ x511_c : Nat, CellsAt w506 (Addr.mk n5 0 none) 0 [.pointer x507, .int .i64 x508, .slice x509_p x509_n x509_c, .slice x510_p x510_n x510_c, .slice x511_p x511_n x511_c] ∧ 
            K (.tuple #[.agg #[.pointer x507, .int .i64 x508, .slice x509_p x509_n x509_c, .slice x510_p x510_n x510_c, .slice x511_p x511_n x511_c], .bool true]) w506)))))
theorem fathomlaw06_act.eq (w0_0 : Option Addr) (w0_1 : Int) (w0_2_p : Option Addr) (w0_2_n : Nat) (w0_2_c : Nat) (w0_3_p : Option Addr) (w0_3_n : Nat) (w0_3_c : Nat) (w0_4_p : Option Addr) (w0_4_n : Nat) (w0_4_c : Nat) (a_0 : Int) (a_1 : Int) (a_2_p : Option Addr) (a_2_n : Nat) (a_2_c : Nat) (w : World) (K : Value → World → Prop) : wpF Try.prog Try.f18 (.two .leaf (.two (.two .leaf (.one (.two .leaf (.two (.two .leaf (.two .leaf (.two .leaf (.two .draw .leaf)))) (.two .leaf (.two (.two .draw .leaf) (.two .leaf (.two .leaf (.two .leaf (.two (.two .leaf (.two .leaf (.two .leaf (.two .leaf (.two (.two .draw .leaf) .leaf))))) (.two .leaf (.two (.cut [(10, 4)] .leaf (.two .leaf (.two .leaf (.two (.two .leaf (.two (.two .draw .leaf) .leaf)) .leaf)))) .leaf)))))))))))) .leaf)) [.agg #[.pointer w0_0, .int .i64 w0_1, .slice w0_2_p w0_2_n w0_2_c, .slice w0_3_p w0_3_n w0_3_c, .slice w0_4_p w0_4_n w0_4_c], .agg #[.int .i64 a_0, .int .i64 a_1, .slice a_2_p a_2_n a_2_c]] w K = fathomlaw06_act.w w0_0 w0_1 w0_2_p w0_2_n w0_2_c w0_3_p w0_3_n w0_3_c w0_4_p w0_4_n w0_4_c a_0 a_1 a_2_p a_2_n a_2_c w K := by kernel_rfl
theorem fathomlaw06_act.ok : fnOk Try.prog Try.f18 2 = true := by kernel_rfl
theorem fathomlaw06_act.calls {w0_0 : Option Addr} {w0_1 : Int} {w0_2_p : Option Addr} {w0_2_n : Nat} {w0_2_c : Nat} {w0_3_p : Option Addr} {w0_3_n : Nat} {w0_3_c : Nat} {w0_4_p : Option Addr} {w0_4_n : Nat} {w0_4_c : Nat} {a_0 : Int} {a_1 : Int} {a_2_p : Option Addr} {a_2_n : Nat} {a_2_c : Nat} {w : World} {R : Ending → World → Prop} (h : fathomlaw06_act.w w0_0 w0_1 w0_2_p w0_2_n w0_2_c w0_3_p w0_3_n w0_3_c w0_4_p w0_4_n w0_4_c a_0 a_1 a_2_p a_2_n a_2_c w fun v w' => R (.returned v) w') : Calls Try.prog 18 #[.agg #[.pointer w0_0, .int .i64 w0_1, .slice w0_2_p w0_2_n w0_2_c, .slice w0_3_p w0_3_n w0_3_c, .slice w0_4_p w0_4_n w0_4_c], .agg #[.int .i64 a_0, .int .i64 a_1, .slice a_2_p a_2_n a_2_c]] w R :=
  calls_of mixed Try.func18 fathomlaw06_act.ok rfl (fun K => fathomlaw06_act.eq w0_0 w0_1 w0_2_p w0_2_n w0_2_c w0_3_p w0_3_n w0_3_c w0_4_p w0_4_n w0_4_c a_0 a_1 a_2_p a_2_n a_2_c w K) h


end Go.Proofs.Ytdaiolinnpligaa.W
