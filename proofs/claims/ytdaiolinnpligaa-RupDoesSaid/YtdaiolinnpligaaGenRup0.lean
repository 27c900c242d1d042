/- The functions that the statements reach, printed as what the frame asks of them, each checked by the kernel against the loaded text. -/
import Derived.Test.YtdaiolinnpligaaProg
import Derived.Test.YtdaiolinnpligaaFwDefer
namespace Go.Proofs.Ytdaiolinnpligaa.W
open Go Go.Fw Go.Proofs
set_option linter.unusedVariables false
set_option maxRecDepth 100000

theorem mixed : Try.prog.follows .mixedOrders = true := by kernel_rfl

abbrev fathomlaw06_PropOnce.id : FuncId := 3
abbrev fathomlaw06_PropSound.id : FuncId := 4
abbrev fathomlaw06_PropRuns.id : FuncId := 5
abbrev fathomlaw06_PropNobody.id : FuncId := 6
abbrev fathomlaw07_RupProves.id : FuncId := 7
abbrev fathomlaw07_RupImplied.id : FuncId := 8
abbrev fathomlaw07_RupTruth.id : FuncId := 9
abbrev fathomlaw07_RupUnits.id : FuncId := 10
abbrev fathomlaw07_RupKeeps.id : FuncId := 11
abbrev fathomlaw07_RupDoes.id : FuncId := 12
abbrev fathomlaw01_Light.id : FuncId := 13
abbrev fathomlaw06_light.id : FuncId := 14
abbrev fathomref01_Cnf.id : FuncId := 15
abbrev fathomlaw06_awake.id : FuncId := 16
abbrev fathomlaw06_Begin.id : FuncId := 17
abbrev fathomlaw06_act.id : FuncId := 18
abbrev prop_Prop_Run.id : FuncId := 19
abbrev prop_Prop_Trail.id : FuncId := 20
abbrev fathomref01_Ints.id : FuncId := 21
abbrev fathomlaw06_there.id : FuncId := 22
abbrev fathomref06_Alike.id : FuncId := 23
abbrev fathomref01_Holds.id : FuncId := 24
abbrev fathomlaw06_open.id : FuncId := 25
abbrev fathomref01_Value.id : FuncId := 26
abbrev prop_New.id : FuncId := 27
abbrev fathomlaw06_sound.id : FuncId := 28
abbrev prop_Prop_Back.id : FuncId := 29
abbrev prop_Prop_Add.id : FuncId := 30
abbrev prop_Prop_Clause.id : FuncId := 31
abbrev prop_Prop_Drop.id : FuncId := 32
abbrev prop_Prop_Decide.id : FuncId := 33
abbrev prop_Prop_Value.id : FuncId := 34
abbrev prop_Prop_Level.id : FuncId := 35
abbrev prop_Prop_Reason.id : FuncId := 36
abbrev prop_Prop_Levels.id : FuncId := 37
abbrev fathomlaw07_Small.id : FuncId := 38
abbrev fathomlaw04_Light.id : FuncId := 39
abbrev fathomlaw07_awake.id : FuncId := 40
abbrev rup_Proves.id : FuncId := 41
abbrev fathomref04_May.id : FuncId := 42
abbrev fathomref07_Proves.id : FuncId := 43
abbrev fathomlaw07_short.id : FuncId := 44
abbrev rup_Unit.id : FuncId := 45
abbrev fathomref01_Clause.id : FuncId := 46
abbrev fathomref01_Sat.id : FuncId := 47
abbrev fathomref01_May.id : FuncId := 48
abbrev rup_First.id : FuncId := 49
abbrev fathomref07_Unit.id : FuncId := 50
abbrev fathomref07_First.id : FuncId := 51
abbrev rup_Broken.id : FuncId := 52
abbrev rup_Do.id : FuncId := 53
abbrev fathomref01_Same.id : FuncId := 54
abbrev fathomref07_Do.id : FuncId := 55
abbrev fathomref01_Var.id : FuncId := 56
abbrev fathomlaw06_ran.id : FuncId := 57
abbrev fathomlaw06_reason.id : FuncId := 58
abbrev prop_Prop_loosely.id : FuncId := 59
abbrev prop_side.id : FuncId := 60
abbrev prop_Prop_visit.id : FuncId := 61
abbrev slices_Clone_int_int.id : FuncId := 62
abbrev fathomref01_Has.id : FuncId := 63
abbrev fathomref01_Lit.id : FuncId := 64
abbrev lit_CheckCnf.id : FuncId := 65
abbrev fathomref06_Broken.id : FuncId := 66
abbrev fathomref01_Without.id : FuncId := 67
abbrev prop_amount.id : FuncId := 68
abbrev lit_Check.id : FuncId := 69
abbrev slices_ContainsFunc_int_int.id : FuncId := 70
abbrev prop_Prop_Add_1.id : FuncId := 71
abbrev prop_Prop_is.id : FuncId := 72
abbrev lit_Norm.id : FuncId := 73
abbrev prop_Prop_settle.id : FuncId := 74
abbrev prop_Prop_there.id : FuncId := 75
abbrev prop_Prop_val.id : FuncId := 76
abbrev prop_Prop_unwatch.id : FuncId := 77
abbrev slices_DeleteFunc_int_int.id : FuncId := 78
abbrev prop_Prop_Drop_1.id : FuncId := 79
abbrev prop_Prop_put.id : FuncId := 80
abbrev trace_Check.id : FuncId := 81
abbrev rup_begin.id : FuncId := 82
abbrev rup_base_do.id : FuncId := 83
abbrev rup_may.id : FuncId := 84
abbrev rup_base_unit.id : FuncId := 85
abbrev fathomref01_Model.id : FuncId := 86
abbrev rup_base_first.id : FuncId := 87
abbrev fathomref01_Taut.id : FuncId := 88
abbrev fathomref06_Follows.id : FuncId := 89
abbrev rup_base_clauses.id : FuncId := 90
abbrev fathomref01_Lists.id : FuncId := 91
abbrev fathomref01_Order.id : FuncId := 92
abbrev prop_Prop_loosely_1.id : FuncId := 93
abbrev prop_Prop_again.id : FuncId := 94
abbrev lit_CheckCnf_1.id : FuncId := 95
abbrev lit_amount.id : FuncId := 96
abbrev lit_Check_1.id : FuncId := 97
abbrev lit_is.id : FuncId := 98
abbrev slices_IndexFunc_int_int.id : FuncId := 99
abbrev slices_SortFunc_int_int.id : FuncId := 100
abbrev lit_before.id : FuncId := 101
abbrev slices_Compact_int_int.id : FuncId := 102
abbrev prop_Prop_rank.id : FuncId := 103
abbrev prop_Prop_unwatch_1.id : FuncId := 104
abbrev slices_ContainsFunc_fathom_api_Step_fathom_api_Step.id : FuncId := 105
abbrev trace_Check_1.id : FuncId := 106
abbrev rup_base_note.id : FuncId := 107
abbrev rup_base_anew.id : FuncId := 108
abbrev rup_base_drop.id : FuncId := 109
abbrev rup_base_add.id : FuncId := 110
abbrev rup_base_code.id : FuncId := 111
abbrev slices_Contains_int_int.id : FuncId := 112
abbrev fathomref06_Unit.id : FuncId := 113
abbrev fathomref01_Ahead.id : FuncId := 114
abbrev slices_pdqsortCmpFunc_int.id : FuncId := 115
abbrev bits_Len.id : FuncId := 116
abbrev slices_IndexFunc_fathom_api_Step_fathom_api_Step.id : FuncId := 117
abbrev slices_Equal_int_int.id : FuncId := 118
abbrev slices_Delete_int_int.id : FuncId := 119
abbrev slices_Index_int_int.id : FuncId := 120
abbrev slices_insertionSortCmpFunc_int.id : FuncId := 121
abbrev slices_heapSortCmpFunc_int.id : FuncId := 122
abbrev slices_breakPatternsCmpFunc_int.id : FuncId := 123
abbrev slices_choosePivotCmpFunc_int.id : FuncId := 124
abbrev slices_reverseRangeCmpFunc_int.id : FuncId := 125
abbrev slices_partialInsertionSortCmpFunc_int.id : FuncId := 126
abbrev slices_partitionEqualCmpFunc_int.id : FuncId := 127
abbrev slices_partitionCmpFunc_int.id : FuncId := 128
abbrev bits_Len32.id : FuncId := 129
abbrev bits_Len64.id : FuncId := 130
abbrev slices_siftDownCmpFunc_int.id : FuncId := 131
abbrev slices_nextPowerOfTwo.id : FuncId := 132
abbrev slices_xorshift_Next.id : FuncId := 133
abbrev slices_medianAdjacentCmpFunc_int.id : FuncId := 134
abbrev slices_medianCmpFunc_int.id : FuncId := 135
abbrev slices_order2CmpFunc_int.id : FuncId := 136
abbrev ty_int64 : TypeId := 2
theorem ty_int64.und : Try.prog.underlying 2 = some (.int .i64) := by kernel_rfl
theorem ty_int64.info : (Try.prog.info? 2).map (fun i => (i.zero, i.size, i.bytes)) = some (some (.int .i64 0), 1, 8) := by kernel_rfl
abbrev ty_int : TypeId := 3
theorem ty_int.und : Try.prog.underlying 3 = some (.int .i64) := by kernel_rfl
theorem ty_int.info : (Try.prog.info? 3).map (fun i => (i.zero, i.size, i.bytes)) = some (some (.int .i64 0), 1, 8) := by kernel_rfl
abbrev ty_bool : TypeId := 4
theorem ty_bool.und : Try.prog.underlying 4 = some .bool := by kernel_rfl
theorem ty_bool.info : (Try.prog.info? 4).map (fun i => (i.zero, i.size, i.bytes)) = some (some (.bool false), 1, 1) := by kernel_rfl
abbrev ty_uint8 : TypeId := 5
theorem ty_uint8.und : Try.prog.underlying 5 = some (.int .u8) := by kernel_rfl
theorem ty_uint8.info : (Try.prog.info? 5).map (fun i => (i.zero, i.size, i.bytes)) = some (some (.int .u8 0), 1, 1) := by kernel_rfl
abbrev ty_abi_BoundsErrorCode : TypeId := 6
theorem ty_abi_BoundsErrorCode.und : Try.prog.underlying 6 = some (.int .u8) := by kernel_rfl
theorem ty_abi_BoundsErrorCode.info : (Try.prog.info? 6).map (fun i => (i.zero, i.size, i.bytes)) = some (some (.int .u8 0), 1, 1) := by kernel_rfl
abbrev ty_runtime_boundsError : TypeId := 8
theorem ty_runtime_boundsError.info : (Try.prog.info? 8).map (fun i => (i.zero, i.size, i.bytes)) = some (some (.agg #[.int .i64 0, .int .i64 0, .bool false, .int .u8 0]), 4, 24) := by kernel_rfl
abbrev ty_uintptr : TypeId := 12
theorem ty_uintptr.und : Try.prog.underlying 12 = some (.int .u64) := by kernel_rfl
theorem ty_uintptr.info : (Try.prog.info? 12).map (fun i => (i.zero, i.size, i.bytes)) = some (some (.int .u64 0), 1, 8) := by kernel_rfl
abbrev ty_runtime_errorAddressString : TypeId := 14
theorem ty_runtime_errorAddressString.info : (Try.prog.info? 14).map (fun i => (i.zero, i.size, i.bytes)) = some (some (.agg #[.string (ByteArray.mk #[]), .int .u64 0]), 2, 24) := by kernel_rfl
abbrev ty_p_runtime_TypeAssertionError : TypeId := 15
theorem ty_p_runtime_TypeAssertionError.info : (Try.prog.info? 15).map (fun i => (i.zero, i.size, i.bytes)) = some (some (.pointer none), 1, 8) := by kernel_rfl
abbrev ty_p_runtime_PanicNilError : TypeId := 16
theorem ty_p_runtime_PanicNilError.info : (Try.prog.info? 16).map (fun i => (i.zero, i.size, i.bytes)) = some (some (.pointer none), 1, 8) := by kernel_rfl
abbrev ty_p_abi_Type : TypeId := 17
theorem ty_p_abi_Type.info : (Try.prog.info? 17).map (fun i => (i.zero, i.size, i.bytes)) = some (some (.pointer none), 1, 8) := by kernel_rfl
abbrev ty_maps_unhashableTypeError : TypeId := 19
theorem ty_maps_unhashableTypeError.info : (Try.prog.info? 19).map (fun i => (i.zero, i.size, i.bytes)) = some (some (.agg #[.pointer none]), 1, 8) := by kernel_rfl
abbrev ty_int32 : TypeId := 21
theorem ty_int32.und : Try.prog.underlying 21 = some (.int .i32) := by kernel_rfl
theorem ty_int32.info : (Try.prog.info? 21).map (fun i => (i.zero, i.size, i.bytes)) = some (some (.int .i32 0), 1, 4) := by kernel_rfl
abbrev ty_sl_sl_int : TypeId := 22
theorem ty_sl_sl_int.und : Try.prog.underlying 22 = some (.slice 31) := by kernel_rfl
theorem ty_sl_sl_int.info : (Try.prog.info? 22).map (fun i => (i.zero, i.size, i.bytes)) = some (some (.slice none 0 0), 1, 24) := by kernel_rfl
abbrev ty_api_Cnf : TypeId := 24
theorem ty_api_Cnf.info : (Try.prog.info? 24).map (fun i => (i.zero, i.size, i.bytes)) = some (some (.agg #[.int .i64 0, .slice none 0 0]), 2, 32) := by kernel_rfl
abbrev ty_sl_fathomlaw06_Act : TypeId := 25
theorem ty_sl_fathomlaw06_Act.und : Try.prog.underlying 25 = some (.slice 38) := by kernel_rfl
theorem ty_sl_fathomlaw06_Act.info : (Try.prog.info? 25).map (fun i => (i.zero, i.size, i.bytes)) = some (some (.slice none 0 0), 1, 24) := by kernel_rfl
abbrev ty_p_prop_Prop : TypeId := 29
theorem ty_p_prop_Prop.info : (Try.prog.info? 29).map (fun i => (i.zero, i.size, i.bytes)) = some (some (.pointer none), 1, 8) := by kernel_rfl
abbrev ty_sl_bool : TypeId := 30
theorem ty_sl_bool.und : Try.prog.underlying 30 = some (.slice 4) := by kernel_rfl
theorem ty_sl_bool.info : (Try.prog.info? 30).map (fun i => (i.zero, i.size, i.bytes)) = some (some (.slice none 0 0), 1, 24) := by kernel_rfl
abbrev ty_sl_int : TypeId := 31
theorem ty_sl_int.und : Try.prog.underlying 31 = some (.slice 3) := by kernel_rfl
theorem ty_sl_int.info : (Try.prog.info? 31).map (fun i => (i.zero, i.size, i.bytes)) = some (some (.slice none 0 0), 1, 24) := by kernel_rfl
abbrev ty_fathomlaw06_World : TypeId := 33
theorem ty_fathomlaw06_World.info : (Try.prog.info? 33).map (fun i => (i.zero, i.size, i.bytes)) = some (some (.agg #[.pointer none, .int .i64 0, .slice none 0 0, .slice none 0 0, .slice none 0 0]), 5, 88) := by kernel_rfl
abbrev ty_fathomlaw06_Act : TypeId := 38
theorem ty_fathomlaw06_Act.info : (Try.prog.info? 38).map (fun i => (i.zero, i.size, i.bytes)) = some (some (.agg #[.int .i64 0, .int .i64 0, .slice none 0 0]), 3, 40) := by kernel_rfl
abbrev ty_api_Errno : TypeId := 48
theorem ty_api_Errno.und : Try.prog.underlying 48 = some (.int .i64) := by kernel_rfl
theorem ty_api_Errno.info : (Try.prog.info? 48).map (fun i => (i.zero, i.size, i.bytes)) = some (some (.int .i64 0), 1, 8) := by kernel_rfl
abbrev ty_sl_prop_clause : TypeId := 52
theorem ty_sl_prop_clause.und : Try.prog.underlying 52 = some (.slice 79) := by kernel_rfl
theorem ty_sl_prop_clause.info : (Try.prog.info? 52).map (fun i => (i.zero, i.size, i.bytes)) = some (some (.slice none 0 0), 1, 24) := by kernel_rfl
abbrev ty_sl_int8 : TypeId := 53
theorem ty_sl_int8.und : Try.prog.underlying 53 = some (.slice 87) := by kernel_rfl
theorem ty_sl_int8.info : (Try.prog.info? 53).map (fun i => (i.zero, i.size, i.bytes)) = some (some (.slice none 0 0), 1, 24) := by kernel_rfl
abbrev ty_prop_Prop : TypeId := 55
theorem ty_prop_Prop.info : (Try.prog.info? 55).map (fun i => (i.zero, i.size, i.bytes)) = some (some (.agg #[.int .i64 0, .slice none 0 0, .slice none 0 0, .slice none 0 0, .slice none 0 0, .slice none 0 0, .slice none 0 0, .slice none 0 0, .slice none 0 0, .int .i64 0, .slice none 0 0]), 11, 232) := by kernel_rfl
abbrev ty_sl_api_Step : TypeId := 64
theorem ty_sl_api_Step.und : Try.prog.underlying 64 = some (.slice 73) := by kernel_rfl
theorem ty_sl_api_Step.info : (Try.prog.info? 64).map (fun i => (i.zero, i.size, i.bytes)) = some (some (.slice none 0 0), 1, 24) := by kernel_rfl
abbrev ty_api_Step : TypeId := 73
theorem ty_api_Step.info : (Try.prog.info? 73).map (fun i => (i.zero, i.size, i.bytes)) = some (some (.agg #[.bool false, .slice none 0 0]), 2, 32) := by kernel_rfl
abbrev ty_prop_clause : TypeId := 79
theorem ty_prop_clause.info : (Try.prog.info? 79).map (fun i => (i.zero, i.size, i.bytes)) = some (some (.agg #[.slice none 0 0, .slice none 0 0, .bool false]), 3, 56) := by kernel_rfl
abbrev ty_int8 : TypeId := 87
theorem ty_int8.und : Try.prog.underlying 87 = some (.int .i8) := by kernel_rfl
theorem ty_int8.info : (Try.prog.info? 87).map (fun i => (i.zero, i.size, i.bytes)) = some (some (.int .i8 0), 1, 1) := by kernel_rfl
abbrev ty_p_rup_base : TypeId := 95
theorem ty_p_rup_base.info : (Try.prog.info? 95).map (fun i => (i.zero, i.size, i.bytes)) = some (some (.pointer none), 1, 8) := by kernel_rfl
abbrev ty_map_int_int : TypeId := 100
theorem ty_map_int_int.und : Try.prog.underlying 100 = some (.map 3 3) := by kernel_rfl
theorem ty_map_int_int.info : (Try.prog.info? 100).map (fun i => (i.zero, i.size, i.bytes)) = some (some (.map none), 1, 8) := by kernel_rfl
abbrev ty_map_int_sl_int : TypeId := 101
theorem ty_map_int_sl_int.und : Try.prog.underlying 101 = some (.map 3 31) := by kernel_rfl
theorem ty_map_int_sl_int.info : (Try.prog.info? 101).map (fun i => (i.zero, i.size, i.bytes)) = some (some (.map none), 1, 8) := by kernel_rfl
abbrev ty_rup_base : TypeId := 103
theorem ty_rup_base.info : (Try.prog.info? 103).map (fun i => (i.zero, i.size, i.bytes)) = some (some (.agg #[.int .i64 0, .map none, .pointer none, .slice none 0 0, .map none]), 5, 56) := by kernel_rfl
abbrev ty_uint : TypeId := 116
theorem ty_uint.und : Try.prog.underlying 116 = some (.int .u64) := by kernel_rfl
theorem ty_uint.info : (Try.prog.info? 116).map (fun i => (i.zero, i.size, i.bytes)) = some (some (.int .u64 0), 1, 8) := by kernel_rfl
abbrev ty_slices_sortedHint : TypeId := 120
theorem ty_slices_sortedHint.und : Try.prog.underlying 120 = some (.int .i64) := by kernel_rfl
theorem ty_slices_sortedHint.info : (Try.prog.info? 120).map (fun i => (i.zero, i.size, i.bytes)) = some (some (.int .i64 0), 1, 8) := by kernel_rfl
abbrev ty_uint32 : TypeId := 128
theorem ty_uint32.und : Try.prog.underlying 128 = some (.int .u32) := by kernel_rfl
theorem ty_uint32.info : (Try.prog.info? 128).map (fun i => (i.zero, i.size, i.bytes)) = some (some (.int .u32 0), 1, 4) := by kernel_rfl
abbrev ty_uint64 : TypeId := 130
theorem ty_uint64.und : Try.prog.underlying 130 = some (.int .u64) := by kernel_rfl
theorem ty_uint64.info : (Try.prog.info? 130).map (fun i => (i.zero, i.size, i.bytes)) = some (some (.int .u64 0), 1, 8) := by kernel_rfl
abbrev ty_slices_xorshift : TypeId := 131
theorem ty_slices_xorshift.und : Try.prog.underlying 131 = some (.int .u64) := by kernel_rfl
theorem ty_slices_xorshift.info : (Try.prog.info? 131).map (fun i => (i.zero, i.size, i.bytes)) = some (some (.int .u64 0), 1, 8) := by kernel_rfl
abbrev ty_p_int : TypeId := 135
theorem ty_p_int.info : (Try.prog.info? 135).map (fun i => (i.zero, i.size, i.bytes)) = some (some (.pointer none), 1, 8) := by kernel_rfl
abbrev ty_p_slices_xorshift : TypeId := 137
theorem ty_p_slices_xorshift.info : (Try.prog.info? 137).map (fun i => (i.zero, i.size, i.bytes)) = some (some (.pointer none), 1, 8) := by kernel_rfl
abbrev ty_runtime_TypeAssertionError : TypeId := 142
theorem ty_runtime_TypeAssertionError.info : (Try.prog.info? 142).map (fun i => (i.zero, i.size, i.bytes)) = some (some (.agg #[.pointer none, .pointer none, .pointer none, .string (ByteArray.mk #[])]), 4, 40) := by kernel_rfl
abbrev ty_runtime_PanicNilError : TypeId := 145
theorem ty_runtime_PanicNilError.info : (Try.prog.info? 145).map (fun i => (i.zero, i.size, i.bytes)) = some (some (.agg #[]), 0, 0) := by kernel_rfl
abbrev ty_abi_TFlag : TypeId := 146
theorem ty_abi_TFlag.und : Try.prog.underlying 146 = some (.int .u8) := by kernel_rfl
theorem ty_abi_TFlag.info : (Try.prog.info? 146).map (fun i => (i.zero, i.size, i.bytes)) = some (some (.int .u8 0), 1, 1) := by kernel_rfl
abbrev ty_abi_Kind : TypeId := 147
theorem ty_abi_Kind.und : Try.prog.underlying 147 = some (.int .u8) := by kernel_rfl
theorem ty_abi_Kind.info : (Try.prog.info? 147).map (fun i => (i.zero, i.size, i.bytes)) = some (some (.int .u8 0), 1, 1) := by kernel_rfl
abbrev ty_p_uint8 : TypeId := 149
theorem ty_p_uint8.info : (Try.prog.info? 149).map (fun i => (i.zero, i.size, i.bytes)) = some (some (.pointer none), 1, 8) := by kernel_rfl
abbrev ty_abi_NameOff : TypeId := 150
theorem ty_abi_NameOff.und : Try.prog.underlying 150 = some (.int .i32) := by kernel_rfl
theorem ty_abi_NameOff.info : (Try.prog.info? 150).map (fun i => (i.zero, i.size, i.bytes)) = some (some (.int .i32 0), 1, 4) := by kernel_rfl
abbrev ty_abi_TypeOff : TypeId := 151
theorem ty_abi_TypeOff.und : Try.prog.underlying 151 = some (.int .i32) := by kernel_rfl
theorem ty_abi_TypeOff.info : (Try.prog.info? 151).map (fun i => (i.zero, i.size, i.bytes)) = some (some (.int .i32 0), 1, 4) := by kernel_rfl
abbrev ty_abi_Type : TypeId := 153
theorem ty_abi_Type.info : (Try.prog.info? 153).map (fun i => (i.zero, i.size, i.bytes)) = some (some (.agg #[.int .u64 0, .int .u64 0, .int .u32 0, .int .u8 0, .int .u8 0, .int .u8 0, .int .u8 0, .nilFunc, .pointer none, .int .i32 0, .int .i32 0]), 11, 48) := by kernel_rfl
def strtab0 : ByteArray := (ByteArray.mk #[0, 1, 2, 2, 3, 3, 3, 3, 4, 4, 4, 4, 4, 4, 4, 4, 5, 5, 5, 5, 5, 5, 5, 5, 5, 5, 5, 5, 5, 5, 5, 5, 6, 6, 6, 6, 6, 6, 6, 6, 6, 6, 6, 6, 6, 6, 6, 6, 6, 6, 6, 6, 6, 6, 6, 6, 6, 6, 6, 6, 6, 6, 6, 6, 7, 7, 7, 7, 7, 7, 7, 7, 7, 7, 7, 7, 7, 7, 7, 7, 7, 7, 7, 7, 7, 7, 7, 7, 7, 7, 7, 7, 7, 7, 7, 7, 7, 7, 7, 7, 7, 7, 7, 7, 7, 7, 7, 7, 7, 7, 7, 7, 7, 7, 7, 7, 7, 7, 7, 7, 7, 7, 7, 7, 7, 7, 7, 7, 8, 8, 8, 8, 8, 8, 8, 8, 8, 8, 8, 8, 8, 8, 8, 8, 8, 8, 8, 8, 8, 8, 8, 8, 8, 8, 8, 8, 8, 8, 8, 8, 8, 8, 8, 8, 8, 8, 8, 8, 8, 8, 8, 8, 8, 8, 8, 8, 8, 8, 8, 8, 8, 8, 8, 8, 8, 8, 8, 8, 8, 8, 8, 8, 8, 8, 8, 8, 8, 8, 8, 8, 8, 8, 8, 8, 8, 8, 8, 8, 8, 8, 8, 8, 8, 8, 8, 8, 8, 8, 8, 8, 8, 8, 8, 8, 8, 8, 8, 8, 8, 8, 8, 8, 8, 8, 8, 8, 8, 8, 8, 8, 8, 8, 8, 8, 8, 8, 8, 8, 8, 8, 8, 8, 8, 8, 8, 8])

/-! ### fathom/fathomlaw07.RupProves: function 7 (named slots 9) -/
def fathomlaw07_RupProves.w (f_0 : Int) (f_1_p : Option Addr) (f_1_n : Nat) (f_1_c : Nat) (l__p : Option Addr) (l__n : Nat) (l__c : Nat) (w : World) (K : Value → World → Prop) : Prop :=
  ∀ (n1 : Nat) (w2 : World), New (.cells #[.int .i64 f_0, .slice f_1_p f_1_n f_1_c] 24) w n1 w2 → 
  ∃ x3 : Int, ∃ x4_p : Option Addr, ∃ x4_n : Nat, ∃ x4_c : Nat, CellsAt w2 (Addr.mk n1 0 none) 0 [.int .i64 x3, .slice x4_p x4_n x4_c] ∧ 
  Calls Try.prog 38 #[.agg #[.int .i64 x3, .slice x4_p x4_n x4_c]] w2 fun e w5 => ∃ r6 : Bool, e = .returned (.bool r6) ∧ 
  cnd (!r6)
  (Calls Try.prog 40 #[] w5 fun e w7 => ∃ r8 : Bool, e = .returned (.bool r8) ∧ 
  K (.bool r8) w7)
  (Calls Try.prog 39 #[.slice l__p l__n l__c] w5 fun e w9 => ∃ r10 : Bool, e = .returned (.bool r10) ∧ 
  cnd (!r10)
  (Calls Try.prog 40 #[] w9 fun e w11 => ∃ r12 : Bool, e = .returned (.bool r12) ∧ 
  K (.bool r12) w11)
  (cnd (decide ((l__n : Int) > (30 : Int)))
  (Calls Try.prog 40 #[] w9 fun e w13 => ∃ r14 : Bool, e = .returned (.bool r14) ∧ 
    K (.bool r14) w13)
  (∃ x15 : Int, ∃ x16_p : Option Addr, ∃ x16_n : Nat, ∃ x16_c : Nat, CellsAt w9 (Addr.mk n1 0 none) 0 [.int .i64 x15, .slice x16_p x16_n x16_c] ∧ 
    Calls Try.prog 41 #[.agg #[.int .i64 x15, .slice x16_p x16_n x16_c], .slice l__p l__n l__c] w9 fun e w17 => ∃ r18 : Int, ∃ r19 : Int, e = .returned (.tuple #[.int .i64 r18, .int .i64 r19]) ∧ 
    ∃ x20 : Int, ∃ x21_p : Option Addr, ∃ x21_n : Nat, ∃ x21_c : Nat, CellsAt w17 (Addr.mk n1 0 none) 0 [.int .i64 x20, .slice x21_p x21_n x21_c] ∧ 
    Calls Try.prog 15 #[.agg #[.int .i64 x20, .slice x21_p x21_n x21_c]] w17 fun e w22 => ∃ r23 : Bool, e = .returned (.bool r23) ∧ 
    cnd (!r23)
    (cnd (r19 == (1 : Int))
    (cnd (r18 == (0 : Int))
    (Calls Try.prog 40 #[] w22 fun e w24 => ∃ r25 : Bool, e = .returned (.bool r25) ∧ 
    K (.bool r25) w24)
    (K (.bool false) w22))
    (K (.bool false) w22))
    (Calls Try.prog 42 #[.slice l__p l__n l__c] w22 fun e w26 => ∃ r27 : Bool, e = .returned (.bool r27) ∧ 
    cnd (!r27)
    (cnd (r19 == (1 : Int))
      (cnd (r18 == (0 : Int))
      (Calls Try.prog 40 #[] w26 fun e w28 => ∃ r29 : Bool, e = .returned (.bool r29) ∧ 
      K (.bool r29) w28)
      (K (.bool false) w26))
      (K (.bool false) w26))
    (∃ x30 : Int, ∃ x31_p : Option Addr, ∃ x31_n : Nat, ∃ x31_c : Nat, CellsAt w26 (Addr.mk n1 0 none) 0 [.int .i64 x30, .slice x31_p x31_n x31_c] ∧ 
      Calls Try.prog 43 #[.agg #[.int .i64 x30, .slice x31_p x31_n x31_c], .slice l__p l__n l__c] w26 fun e w32 => ∃ r33 : Int, ∃ r34 : Int, e = .returned (.tuple #[.int .i64 r33, .int .i64 r34]) ∧ 
      cnd (r18 == r33)
      (cnd (r19 == r34)
      (Calls Try.prog 40 #[] w32 fun e w35 => ∃ r36 : Bool, e = .returned (.bool r36) ∧ 
      K (.bool r36) w35)
      (K (.bool false) w32))
      (K (.bool false) w32))))))
theorem fathomlaw07_RupProves.eq (f_0 : Int) (f_1_p : Option Addr) (f_1_n : Nat) (f_1_c : Nat) (l__p : Option Addr) (l__n : Nat) (l__c : Nat) (w : World) (K : Value → World → Prop) : wpF Try.prog Try.f7 .leaf [.agg #[.int .i64 f_0, .slice f_1_p f_1_n f_1_c], .slice l__p l__n l__c] w K = fathomlaw07_RupProves.w f_0 f_1_p f_1_n f_1_c l__p l__n l__c w K := by kernel_rfl
theorem fathomlaw07_RupProves.ok : fnOk Try.prog Try.f7 2 = true := by kernel_rfl
theorem fathomlaw07_RupProves.calls {f_0 : Int} {f_1_p : Option Addr} {f_1_n : Nat} {f_1_c : Nat} {l__p : Option Addr} {l__n : Nat} {l__c : Nat} {w : World} {R : Ending → World → Prop} (h : fathomlaw07_RupProves.w f_0 f_1_p f_1_n f_1_c l__p l__n l__c w fun v w' => R (.returned v) w') : Calls Try.prog 7 #[.agg #[.int .i64 f_0, .slice f_1_p f_1_n f_1_c], .slice l__p l__n l__c] w R :=
  calls_of mixed Try.func7 fathomlaw07_RupProves.ok rfl (fun K => fathomlaw07_RupProves.eq f_0 f_1_p f_1_n f_1_c l__p l__n l__c w K) h

/-! ### fathom/fathomlaw07.RupImplied: function 8 (named slots 8) -/
def fathomlaw07_RupImplied.w (f_0 : Int) (f_1_p : Option Addr) (f_1_n : Nat) (f_1_c : Nat) (c__p : Option Addr) (c__n : Nat) (c__c : Nat) (m__p : Option Addr) (m__n : Nat) (m__c : Nat) (w : World) (K : Value → World → Prop) : Prop :=
  ∀ (n1 : Nat) (w2 : World), New (.cells #[.int .i64 f_0, .slice f_1_p f_1_n f_1_c] 24) w n1 w2 → 
  ∃ x3 : Int, ∃ x4_p : Option Addr, ∃ x4_n : Nat, ∃ x4_c : Nat, CellsAt w2 (Addr.mk n1 0 none) 0 [.int .i64 x3, .slice x4_p x4_n x4_c] ∧ 
  Calls Try.prog 38 #[.agg #[.int .i64 x3, .slice x4_p x4_n x4_c]] w2 fun e w5 => ∃ r6 : Bool, e = .returned (.bool r6) ∧ 
  cnd (!r6)
  (Calls Try.prog 40 #[] w5 fun e w7 => ∃ r8 : Bool, e = .returned (.bool r8) ∧ 
  K (.bool r8) w7)
  (Calls Try.prog 44 #[.slice c__p c__n c__c] w5 fun e w9 => ∃ r10 : Bool, e = .returned (.bool r10) ∧ 
  cnd (!r10)
  (Calls Try.prog 40 #[] w9 fun e w11 => ∃ r12 : Bool, e = .returned (.bool r12) ∧ 
  K (.bool r12) w11)
  (∃ x13 : Int, ∃ x14_p : Option Addr, ∃ x14_n : Nat, ∃ x14_c : Nat, CellsAt w9 (Addr.mk n1 0 none) 0 [.int .i64 x13, .slice x14_p x14_n x14_c] ∧ 
  Calls Try.prog 45 #[.agg #[.int .i64 x13, .slice x14_p x14_n x14_c], .slice c__p c__n c__c] w9 fun e w15 => ∃ r16 : Bool, e = .returned (.bool r16) ∧ 
  cnd (!r16)
  (Calls Try.prog 40 #[] w15 fun e w17 => ∃ r18 : Bool, e = .returned (.bool r18) ∧ 
    K (.bool r18) w17)
  (∃ I19 : Int → World → Nat → Prop, (∃ k20, I19 0 w15 k20) ∧
    ∀ (i_22 : Int) (w23 : World) (k20 : Nat) (_ : Fr), I19 i_22 w23 k20 →
    cnd (decide (i_22 < (c__n : Int)))
      (ixK c__p c__n i_22 1 fun a24 =>
        ∃ x25 : Int, w23.cell? a24 = some (.int .i64 x25) ∧ 
        Calls Try.prog 26 #[.slice m__p m__n m__c, .int .i64 x25] w23 fun e w26 => ∃ r27 : Int, e = .returned (.int .i64 r27) ∧ 
        cnd (r27 == (0 : Int))
        (Calls Try.prog 40 #[] w26 fun e w28 => ∃ r29 : Bool, e = .returned (.bool r29) ∧ 
          K (.bool r29) w28)
        (∃ k21, k21 < k20 ∧ I19 (IntKind.i64.wrap (i_22 + (1 : Int))) w26 k21))
      (∃ x30 : Int, ∃ x31_p : Option Addr, ∃ x31_n : Nat, ∃ x31_c : Nat, CellsAt w23 (Addr.mk n1 0 none) 0 [.int .i64 x30, .slice x31_p x31_n x31_c] ∧ 
        Calls Try.prog 24 #[.agg #[.int .i64 x30, .slice x31_p x31_n x31_c], .slice m__p m__n m__c] w23 fun e w32 => ∃ r33 : Bool, e = .returned (.bool r33) ∧ 
        cnd (!r33)
        (Calls Try.prog 40 #[] w32 fun e w34 => ∃ r35 : Bool, e = .returned (.bool r35) ∧ 
        K (.bool r35) w34)
        (Calls Try.prog 46 #[.slice m__p m__n m__c, .slice c__p c__n c__c] w32 fun e w36 => ∃ r37 : Int, e = .returned (.int .i64 r37) ∧ 
        cnd (r37 == (1 : Int))
        (Calls Try.prog 40 #[] w36 fun e w38 => ∃ r39 : Bool, e = .returned (.bool r39) ∧ 
        K (.bool r39) w38)
        (K (.bool false) w36))))))
theorem fathomlaw07_RupImplied.eq (f_0 : Int) (f_1_p : Option Addr) (f_1_n : Nat) (f_1_c : Nat) (c__p : Option Addr) (c__n : Nat) (c__c : Nat) (m__p : Option Addr) (m__n : Nat) (m__c : Nat) (w : World) (K : Value → World → Prop) : wpF Try.prog Try.f8 (.two .leaf (.two .leaf (.two (.two .leaf (.one (.loop [(7, 3)] .leaf))) .leaf))) [.agg #[.int .i64 f_0, .slice f_1_p f_1_n f_1_c], .slice c__p c__n c__c, .slice m__p m__n m__c] w K = fathomlaw07_RupImplied.w f_0 f_1_p f_1_n f_1_c c__p c__n c__c m__p m__n m__c w K := by kernel_rfl
theorem fathomlaw07_RupImplied.ok : fnOk Try.prog Try.f8 3 = true := by kernel_rfl
theorem fathomlaw07_RupImplied.calls {f_0 : Int} {f_1_p : Option Addr} {f_1_n : Nat} {f_1_c : Nat} {c__p : Option Addr} {c__n : Nat} {c__c : Nat} {m__p : Option Addr} {m__n : Nat} {m__c : Nat} {w : World} {R : Ending → World → Prop} (h : fathomlaw07_RupImplied.w f_0 f_1_p f_1_n f_1_c c__p c__n c__c m__p m__n m__c w fun v w' => R (.returned v) w') : Calls Try.prog 8 #[.agg #[.int .i64 f_0, .slice f_1_p f_1_n f_1_c], .slice c__p c__n c__c, .slice m__p m__n m__c] w R :=
  calls_of mixed Try.func8 fathomlaw07_RupImplied.ok rfl (fun K => fathomlaw07_RupImplied.eq f_0 f_1_p f_1_n f_1_c c__p c__n c__c m__p m__n m__c w K) h

/-! ### fathom/fathomlaw07.RupTruth: function 9 (named slots 9) -/
def fathomlaw07_RupTruth.w (f_0 : Int) (f_1_p : Option Addr) (f_1_n : Nat) (f_1_c : Nat) (l__p : Option Addr) (l__n : Nat) (l__c : Nat) (w : World) (K : Value → World → Prop) : Prop :=
  ∀ (n1 : Nat) (w2 : World), New (.cells #[.int .i64 f_0, .slice f_1_p f_1_n f_1_c] 24) w n1 w2 → 
  ∃ x3 : Int, ∃ x4_p : Option Addr, ∃ x4_n : Nat, ∃ x4_c : Nat, CellsAt w2 (Addr.mk n1 0 none) 0 [.int .i64 x3, .slice x4_p x4_n x4_c] ∧ 
  Calls Try.prog 38 #[.agg #[.int .i64 x3, .slice x4_p x4_n x4_c]] w2 fun e w5 => ∃ r6 : Bool, e = .returned (.bool r6) ∧ 
  cnd (!r6)
  (Calls Try.prog 40 #[] w5 fun e w7 => ∃ r8 : Bool, e = .returned (.bool r8) ∧ 
  K (.bool r8) w7)
  (Calls Try.prog 39 #[.slice l__p l__n l__c] w5 fun e w9 => ∃ r10 : Bool, e = .returned (.bool r10) ∧ 
  cnd (!r10)
  (Calls Try.prog 40 #[] w9 fun e w11 => ∃ r12 : Bool, e = .returned (.bool r12) ∧ 
  K (.bool r12) w11)
  (cnd (decide ((l__n : Int) > (30 : Int)))
  (Calls Try.prog 40 #[] w9 fun e w13 => ∃ r14 : Bool, e = .returned (.bool r14) ∧ 
  K (.bool r14) w13)
  (∃ x15 : Int, ∃ x16_p : Option Addr, ∃ x16_n : Nat, ∃ x16_c : Nat, CellsAt w9 (Addr.mk n1 0 none) 0 [.int .i64 x15, .slice x16_p x16_n x16_c] ∧ 
  Calls Try.prog 15 #[.agg #[.int .i64 x15, .slice x16_p x16_n x16_c]] w9 fun e w17 => ∃ r18 : Bool, e = .returned (.bool r18) ∧ 
  cnd (!r18)
  (Calls Try.prog 40 #[] w17 fun e w19 => ∃ r20 : Bool, e = .returned (.bool r20) ∧ 
  K (.bool r20) w19)
  (∃ x21 : Int, w17.cell? ((Addr.mk n1 0 none).add 0) = some (.int .i64 x21) ∧ 
  cnd (decide (x21 > (8 : Int)))
  (Calls Try.prog 40 #[] w17 fun e w22 => ∃ r23 : Bool, e = .returned (.bool r23) ∧ 
    K (.bool r23) w22)
  (∃ x24 : Int, ∃ x25_p : Option Addr, ∃ x25_n : Nat, ∃ x25_c : Nat, CellsAt w17 (Addr.mk n1 0 none) 0 [.int .i64 x24, .slice x25_p x25_n x25_c] ∧ 
    Calls Try.prog 41 #[.agg #[.int .i64 x24, .slice x25_p x25_n x25_c], .slice l__p l__n l__c] w17 fun e w26 => ∃ r27 : Int, ∃ r28 : Int, e = .returned (.tuple #[.int .i64 r27, .int .i64 r28]) ∧ 
    ∃ x29 : Int, ∃ x30_p : Option Addr, ∃ x30_n : Nat, ∃ x30_c : Nat, CellsAt w26 (Addr.mk n1 0 none) 0 [.int .i64 x29, .slice x30_p x30_n x30_c] ∧ 
    Calls Try.prog 47 #[.agg #[.int .i64 x29, .slice x30_p x30_n x30_c]] w26 fun e w31 => ∃ r32_p : Option Addr, ∃ r32_n : Nat, ∃ r32_c : Nat, ∃ r33 : Bool, e = .returned (.tuple #[.slice r32_p r32_n r32_c, .bool r33]) ∧ 
    cnd (r28 != (0 : Int))
    (Calls Try.prog 40 #[] w31 fun e w34 => ∃ r35 : Bool, e = .returned (.bool r35) ∧ 
    K (.bool r35) w34)
    (cnd (!r33)
    (Calls Try.prog 40 #[] w31 fun e w36 => ∃ r37 : Bool, e = .returned (.bool r37) ∧ 
    K (.bool r37) w36)
    (K (.bool false) w31)))))))
theorem fathomlaw07_RupTruth.eq (f_0 : Int) (f_1_p : Option Addr) (f_1_n : Nat) (f_1_c : Nat) (l__p : Option Addr) (l__n : Nat) (l__c : Nat) (w : World) (K : Value → World → Prop) : wpF Try.prog Try.f9 .leaf [.agg #[.int .i64 f_0, .slice f_1_p f_1_n f_1_c], .slice l__p l__n l__c] w K = fathomlaw07_RupTruth.w f_0 f_1_p f_1_n f_1_c l__p l__n l__c w K := by kernel_rfl
theorem fathomlaw07_RupTruth.ok : fnOk Try.prog Try.f9 2 = true := by kernel_rfl
theorem fathomlaw07_RupTruth.calls {f_0 : Int} {f_1_p : Option Addr} {f_1_n : Nat} {f_1_c : Nat} {l__p : Option Addr} {l__n : Nat} {l__c : Nat} {w : World} {R : Ending → World → Prop} (h : fathomlaw07_RupTruth.w f_0 f_1_p f_1_n f_1_c l__p l__n l__c w fun v w' => R (.returned v) w') : Calls Try.prog 9 #[.agg #[.int .i64 f_0, .slice f_1_p f_1_n f_1_c], .slice l__p l__n l__c] w R :=
  calls_of mixed Try.func9 fathomlaw07_RupTruth.ok rfl (fun K => fathomlaw07_RupTruth.eq f_0 f_1_p f_1_n f_1_c l__p l__n l__c w K) h

/-! ### fathom/fathomlaw07.RupUnits: function 10 (named slots 5) -/
def fathomlaw07_RupUnits.w (f_0 : Int) (f_1_p : Option Addr) (f_1_n : Nat) (f_1_c : Nat) (c__p : Option Addr) (c__n : Nat) (c__c : Nat) (w : World) (K : Value → World → Prop) : Prop :=
  ∀ (n1 : Nat) (w2 : World), New (.cells #[.int .i64 f_0, .slice f_1_p f_1_n f_1_c] 24) w n1 w2 → 
  ∃ x3 : Int, ∃ x4_p : Option Addr, ∃ x4_n : Nat, ∃ x4_c : Nat, CellsAt w2 (Addr.mk n1 0 none) 0 [.int .i64 x3, .slice x4_p x4_n x4_c] ∧ 
  Calls Try.prog 38 #[.agg #[.int .i64 x3, .slice x4_p x4_n x4_c]] w2 fun e w5 => ∃ r6 : Bool, e = .returned (.bool r6) ∧ 
  cnd (!r6)
  (Calls Try.prog 40 #[] w5 fun e w7 => ∃ r8 : Bool, e = .returned (.bool r8) ∧ 
  K (.bool r8) w7)
  (Calls Try.prog 44 #[.slice c__p c__n c__c] w5 fun e w9 => ∃ r10 : Bool, e = .returned (.bool r10) ∧ 
  cnd (!r10)
  (Calls Try.prog 40 #[] w9 fun e w11 => ∃ r12 : Bool, e = .returned (.bool r12) ∧ 
    K (.bool r12) w11)
  (∃ x13 : Int, ∃ x14_p : Option Addr, ∃ x14_n : Nat, ∃ x14_c : Nat, CellsAt w9 (Addr.mk n1 0 none) 0 [.int .i64 x13, .slice x14_p x14_n x14_c] ∧ 
    Calls Try.prog 15 #[.agg #[.int .i64 x13, .slice x14_p x14_n x14_c]] w9 fun e w15 => ∃ r16 : Bool, e = .returned (.bool r16) ∧ 
    cnd (!r16)
    (∃ x17 : Int, ∃ x18_p : Option Addr, ∃ x18_n : Nat, ∃ x18_c : Nat, CellsAt w15 (Addr.mk n1 0 none) 0 [.int .i64 x17, .slice x18_p x18_n x18_c] ∧ 
    Calls Try.prog 45 #[.agg #[.int .i64 x17, .slice x18_p x18_n x18_c], .slice c__p c__n c__c] w15 fun e w19 => ∃ r20 : Bool, e = .returned (.bool r20) ∧ 
    cnd (!r20)
    (∃ x21 : Int, ∃ x22_p : Option Addr, ∃ x22_n : Nat, ∃ x22_c : Nat, CellsAt w19 (Addr.mk n1 0 none) 0 [.int .i64 x21, .slice x22_p x22_n x22_c] ∧ 
    Calls Try.prog 49 #[.agg #[.int .i64 x21, .slice x22_p x22_n x22_c], .slice c__p c__n c__c] w19 fun e w23 => ∃ r24 : Bool, e = .returned (.bool r24) ∧ 
    cnd (!r24)
    (Calls Try.prog 40 #[] w23 fun e w25 => ∃ r26 : Bool, e = .returned (.bool r26) ∧ 
    K (.bool r26) w25)
    (K (.bool false) w23))
    (K (.bool false) w19))
    (Calls Try.prog 48 #[.slice c__p c__n c__c] w15 fun e w27 => ∃ r28 : Bool, e = .returned (.bool r28) ∧ 
    cnd (!r28)
    (∃ x29 : Int, ∃ x30_p : Option Addr, ∃ x30_n : Nat, ∃ x30_c : Nat, CellsAt w27 (Addr.mk n1 0 none) 0 [.int .i64 x29, .slice x30_p x30_n x30_c] ∧ 
      Calls Try.prog 45 #[.agg #[.int .i64 x29, .slice x30_p x30_n x30_c], .slice c__p c__n c__c] w27 fun e w31 => ∃ r32 : Bool, e = .returned (.bool r32) ∧ 
      cnd (!r32)
      (∃ x33 : Int, ∃ x34_p : Option Addr, ∃ x34_n : Nat, ∃ x34_c : Nat, CellsAt w31 (Addr.mk n1 0 none) 0 [.int .i64 x33, .slice x34_p x34_n x34_c] ∧ 
      Calls Try.prog 49 #[.agg #[.int .i64 x33, .slice x34_p x34_n x34_c], .slice c__p c__n c__c] w31 fun e w35 => ∃ r36 : Bool, e = .returned (.bool r36) ∧ 
      cnd (!r36)
      (Calls Try.prog 40 #[] w35 fun e w37 => ∃ r38 : Bool, e = .returned (.bool r38) ∧ 
      K (.bool r38) w37)
      (K (.bool false) w35))
      (K (.bool false) w31))
    (∃ W39 : World → Prop, W39 w27.drew ∧ 
      ∃ x40 : Int, ∃ x41_p : Option Addr, ∃ x41_n : Nat, ∃ x41_c : Nat, CellsW W39 (Addr.mk n1 0 none) [.int .i64 x40, .slice x41_p x41_n x41_c] ∧ 
      Calls Try.prog 45 #[.agg #[.int .i64 x40, .slice x41_p x41_n x41_c], .slice c__p c__n c__c] w27.drew fun e w42 => ∃ r43 : Bool, e = .returned (.bool r43) ∧ 
      W39 w42 ∧ ∃ x44_p : Option Addr, ∃ x44_n : Nat, ∃ x44_c : Nat, AtW W39 ((Addr.mk n1 0 none).add 1) (.slice x44_p x44_n x44_c) ∧ 
      Calls Try.prog 50 #[.slice x44_p x44_n x44_c, .slice c__p c__n c__c] w42 fun e w45 => ∃ r46 : Bool, e = .returned (.bool r46) ∧ 
      W39 w45 ∧ cnd (r43 == r46)
      (∃ x47 : Int, ∃ x48_p : Option Addr, ∃ x48_n : Nat, ∃ x48_c : Nat, CellsW W39 (Addr.mk n1 0 none) [.int .i64 x47, .slice x48_p x48_n x48_c] ∧ 
      Calls Try.prog 49 #[.agg #[.int .i64 x47, .slice x48_p x48_n x48_c], .slice c__p c__n c__c] w45 fun e w49 => ∃ r50 : Bool, e = .returned (.bool r50) ∧ 
      W39 w49 ∧ ∃ x51_p : Option Addr, ∃ x51_n : Nat, ∃ x51_c : Nat, AtW W39 ((Addr.mk n1 0 none).add 1) (.slice x51_p x51_n x51_c) ∧ 
      Calls Try.prog 51 #[.slice x51_p x51_n x51_c, .slice c__p c__n c__c] w49 fun e w52 => ∃ r53 : Bool, e = .returned (.bool r53) ∧ 
      W39 w52 ∧ cnd (r50 == r53)
      (∃ x54 : Int, ∃ x55_p : Option Addr, ∃ x55_n : Nat, ∃ x55_c : Nat, CellsW W39 (Addr.mk n1 0 none) [.int .i64 x54, .slice x55_p x55_n x55_c] ∧ 
      Calls Try.prog 52 #[.agg #[.int .i64 x54, .slice x55_p x55_n x55_c]] w52 fun e w56 => ∃ r57 : Bool, e = .returned (.bool r57) ∧ 
      W39 w56 ∧ ∃ x58_p : Option Addr, ∃ x58_n : Nat, ∃ x58_c : Nat, AtW W39 ((Addr.mk n1 0 none).add 1) (.slice x58_p x58_n x58_c) ∧ 
      Calls Try.prog 50 #[.slice x58_p x58_n x58_c, .slice none 0 0] w56 fun e w59 => ∃ r60 : Bool, e = .returned (.bool r60) ∧ 
      cnd (r57 == r60)
      (Calls Try.prog 40 #[] w59 fun e w61 => ∃ r62 : Bool, e = .returned (.bool r62) ∧ 
      K (.bool r62) w61)
      (K (.bool false) w59))
      (K (.bool false) w52))
      (K (.bool false) w45)))))
theorem fathomlaw07_RupUnits.eq (f_0 : Int) (f_1_p : Option Addr) (f_1_n : Nat) (f_1_c : Nat) (c__p : Option Addr) (c__n : Nat) (c__c : Nat) (w : World) (K : Value → World → Prop) : wpF Try.prog Try.f10 (.two .leaf (.two .leaf (.two .leaf (.two .draw .leaf)))) [.agg #[.int .i64 f_0, .slice f_1_p f_1_n f_1_c], .slice c__p c__n c__c] w K = fathomlaw07_RupUnits.w f_0 f_1_p f_1_n f_1_c c__p c__n c__c w K := by kernel_rfl
theorem fathomlaw07_RupUnits.ok : fnOk Try.prog Try.f10 2 = true := by kernel_rfl
theorem fathomlaw07_RupUnits.calls {f_0 : Int} {f_1_p : Option Addr} {f_1_n : Nat} {f_1_c : Nat} {c__p : Option Addr} {c__n : Nat} {c__c : Nat} {w : World} {R : Ending → World → Prop} (h : fathomlaw07_RupUnits.w f_0 f_1_p f_1_n f_1_c c__p c__n c__c w fun v w' => R (.returned v) w') : Calls Try.prog 10 #[.agg #[.int .i64 f_0, .slice f_1_p f_1_n f_1_c], .slice c__p c__n c__c] w R :=
  calls_of mixed Try.func10 fathomlaw07_RupUnits.ok rfl (fun K => fathomlaw07_RupUnits.eq f_0 f_1_p f_1_n f_1_c c__p c__n c__c w K) h

/-! ### fathom/fathomlaw07.RupKeeps: function 11 (named slots 9) -/
def fathomlaw07_RupKeeps.w (f_0 : Int) (f_1_p : Option Addr) (f_1_n : Nat) (f_1_c : Nat) (c__p : Option Addr) (c__n : Nat) (c__c : Nat) (w : World) (K : Value → World → Prop) : Prop :=
  ∀ (n1 : Nat) (w2 : World), New (.cells #[.int .i64 f_0, .slice f_1_p f_1_n f_1_c] 24) w n1 w2 → 
  ∃ x3 : Int, ∃ x4_p : Option Addr, ∃ x4_n : Nat, ∃ x4_c : Nat, CellsAt w2 (Addr.mk n1 0 none) 0 [.int .i64 x3, .slice x4_p x4_n x4_c] ∧ 
  Calls Try.prog 38 #[.agg #[.int .i64 x3, .slice x4_p x4_n x4_c]] w2 fun e w5 => ∃ r6 : Bool, e = .returned (.bool r6) ∧ 
  cnd (!r6)
  (Calls Try.prog 40 #[] w5 fun e w7 => ∃ r8 : Bool, e = .returned (.bool r8) ∧ 
  K (.bool r8) w7)
  (Calls Try.prog 44 #[.slice c__p c__n c__c] w5 fun e w9 => ∃ r10 : Bool, e = .returned (.bool r10) ∧ 
  cnd (!r10)
  (Calls Try.prog 40 #[] w9 fun e w11 => ∃ r12 : Bool, e = .returned (.bool r12) ∧ 
  K (.bool r12) w11)
  (∃ x13 : Int, ∃ x14_p : Option Addr, ∃ x14_n : Nat, ∃ x14_c : Nat, CellsAt w9 (Addr.mk n1 0 none) 0 [.int .i64 x13, .slice x14_p x14_n x14_c] ∧ 
  Calls Try.prog 15 #[.agg #[.int .i64 x13, .slice x14_p x14_n x14_c]] w9 fun e w15 => ∃ r16 : Bool, e = .returned (.bool r16) ∧ 
  cnd (!r16)
  (Calls Try.prog 40 #[] w15 fun e w17 => ∃ r18 : Bool, e = .returned (.bool r18) ∧ 
  K (.bool r18) w17)
  (∃ x19 : Int, w15.cell? ((Addr.mk n1 0 none).add 0) = some (.int .i64 x19) ∧ 
  cnd (decide (x19 > (7 : Int)))
  (Calls Try.prog 40 #[] w15 fun e w20 => ∃ r21 : Bool, e = .returned (.bool r21) ∧ 
  K (.bool r21) w20)
  (∀ (n22 : Nat) (w23 : World), New (.cells #[.slice c__p c__n c__c] 31) w15 n22 w23 → 
  Calls Try.prog 15 #[.agg #[.int .i64 7, .slice (some (Addr.mk n22 0 none)) 1 1]] w23 fun e w24 => ∃ r25 : Bool, e = .returned (.bool r25) ∧ 
  cnd (!r25)
  (Calls Try.prog 40 #[] w24 fun e w26 => ∃ r27 : Bool, e = .returned (.bool r27) ∧ 
  K (.bool r27) w26)
  (∃ x28 : Int, ∃ x29_p : Option Addr, ∃ x29_n : Nat, ∃ x29_c : Nat, CellsAt w24 (Addr.mk n1 0 none) 0 [.int .i64 x28, .slice x29_p x29_n x29_c] ∧ 
  Calls Try.prog 49 #[.agg #[.int .i64 x28, .slice x29_p x29_n x29_c], .slice c__p c__n c__c] w24 fun e w30 => ∃ r31 : Bool, e = .returned (.bool r31) ∧ 
  cnd (!r31)
  (Calls Try.prog 40 #[] w30 fun e w32 => ∃ r33 : Bool, e = .returned (.bool r33) ∧ 
    K (.bool r33) w32)
  (∃ w34 : World, StoreAt ((Addr.mk n1 0 none).add 0) 0 [.int .i64 7] w30 w34 ∧ 
    ∃ x35 : Int, ∃ x36_p : Option Addr, ∃ x36_n : Nat, ∃ x36_c : Nat, CellsAt w34 (Addr.mk n1 0 none) 0 [.int .i64 x35, .slice x36_p x36_n x36_c] ∧ 
    Calls Try.prog 47 #[.agg #[.int .i64 x35, .slice x36_p x36_n x36_c]] w34 fun e w37 => ∃ r38_p : Option Addr, ∃ r38_n : Nat, ∃ r38_c : Nat, ∃ r39 : Bool, e = .returned (.tuple #[.slice r38_p r38_n r38_c, .bool r39]) ∧ 
    ∀ (n40 : Nat) (w41 : World), New (.cells #[] 31) w37 n40 w41 → 
    ∃ x42_p : Option Addr, ∃ x42_n : Nat, ∃ x42_c : Nat, w41.cell? ((Addr.mk n1 0 none).add 1) = some (.slice x42_p x42_n x42_c) ∧ 
    ∃ w43 : World, ∃ r44_p : Option Addr, ∃ r44_n : Nat, ∃ r44_c : Nat, (Builtin.append_ #[22, 22] 22 #[.slice (some (Addr.mk n40 0 none)) 0 0, .slice x42_p x42_n x42_c]).run Try.prog w41 = .ok (.slice r44_p r44_n r44_c) w43 ∧ 
    ∀ (n45 : Nat) (w46 : World), New (.cells #[.slice c__p c__n c__c] 31) w43 n45 w46 → 
    ∃ w47 : World, ∃ r48_p : Option Addr, ∃ r48_n : Nat, ∃ r48_c : Nat, (Builtin.append_ #[22, 22] 22 #[.slice r44_p r44_n r44_c, .slice (some (Addr.mk n45 0 none)) 1 1]).run Try.prog w46 = .ok (.slice r48_p r48_n r48_c) w47 ∧ 
    Calls Try.prog 47 #[.agg #[.int .i64 7, .slice r48_p r48_n r48_c]] w47 fun e w49 => ∃ r50_p : Option Addr, ∃ r50_n : Nat, ∃ r50_c : Nat, ∃ r51 : Bool, e = .returned (.tuple #[.slice r50_p r50_n r50_c, .bool r51]) ∧ 
    cnd (r39 == r51)
    (Calls Try.prog 40 #[] w49 fun e w52 => ∃ r53 : Bool, e = .returned (.bool r53) ∧ 
    K (.bool r53) w52)
    (K (.bool false) w49)))))))
theorem fathomlaw07_RupKeeps.eq (f_0 : Int) (f_1_p : Option Addr) (f_1_n : Nat) (f_1_c : Nat) (c__p : Option Addr) (c__n : Nat) (c__c : Nat) (w : World) (K : Value → World → Prop) : wpF Try.prog Try.f11 .leaf [.agg #[.int .i64 f_0, .slice f_1_p f_1_n f_1_c], .slice c__p c__n c__c] w K = fathomlaw07_RupKeeps.w f_0 f_1_p f_1_n f_1_c c__p c__n c__c w K := by kernel_rfl
theorem fathomlaw07_RupKeeps.ok : fnOk Try.prog Try.f11 2 = true := by kernel_rfl
theorem fathomlaw07_RupKeeps.calls {f_0 : Int} {f_1_p : Option Addr} {f_1_n : Nat} {f_1_c : Nat} {c__p : Option Addr} {c__n : Nat} {c__c : Nat} {w : World} {R : Ending → World → Prop} (h : fathomlaw07_RupKeeps.w f_0 f_1_p f_1_n f_1_c c__p c__n c__c w fun v w' => R (.returned v) w') : Calls Try.prog 11 #[.agg #[.int .i64 f_0, .slice f_1_p f_1_n f_1_c], .slice c__p c__n c__c] w R :=
  calls_of mixed Try.func11 fathomlaw07_RupKeeps.ok rfl (fun K => fathomlaw07_RupKeeps.eq f_0 f_1_p f_1_n f_1_c c__p c__n c__c w K) h

/-! ### fathom/fathomlaw07.RupDoes: function 12 (named slots 9) -/
def fathomlaw07_RupDoes.w (f_0 : Int) (f_1_p : Option Addr) (f_1_n : Nat) (f_1_c : Nat) (s_0 : Bool) (s_1_p : Option Addr) (s_1_n : Nat) (s_1_c : Nat) (w : World) (K : Value → World → Prop) : Prop :=
  ∀ (n1 : Nat) (w2 : World), New (.cells #[.int .i64 f_0, .slice f_1_p f_1_n f_1_c] 24) w n1 w2 → 
  ∀ (n3 : Nat) (w4 : World), New (.cells #[.bool s_0, .slice s_1_p s_1_n s_1_c] 73) w2 n3 w4 → 
  ∃ x5 : Int, ∃ x6_p : Option Addr, ∃ x6_n : Nat, ∃ x6_c : Nat, CellsAt w4 (Addr.mk n1 0 none) 0 [.int .i64 x5, .slice x6_p x6_n x6_c] ∧ 
  Calls Try.prog 38 #[.agg #[.int .i64 x5, .slice x6_p x6_n x6_c]] w4 fun e w7 => ∃ r8 : Bool, e = .returned (.bool r8) ∧ 
  cnd (!r8)
  (Calls Try.prog 40 #[] w7 fun e w9 => ∃ r10 : Bool, e = .returned (.bool r10) ∧ 
  K (.bool r10) w9)
  (∃ x11_p : Option Addr, ∃ x11_n : Nat, ∃ x11_c : Nat, w7.cell? ((Addr.mk n3 0 none).add 1) = some (.slice x11_p x11_n x11_c) ∧ 
  Calls Try.prog 44 #[.slice x11_p x11_n x11_c] w7 fun e w12 => ∃ r13 : Bool, e = .returned (.bool r13) ∧ 
  cnd (!r13)
  (Calls Try.prog 40 #[] w12 fun e w14 => ∃ r15 : Bool, e = .returned (.bool r15) ∧ 
    K (.bool r15) w14)
  (∃ x16 : Int, ∃ x17_p : Option Addr, ∃ x17_n : Nat, ∃ x17_c : Nat, CellsAt w12 (Addr.mk n1 0 none) 0 [.int .i64 x16, .slice x17_p x17_n x17_c] ∧ 
    ∃ x18 : Bool, ∃ x19_p : Option Addr, ∃ x19_n : Nat, ∃ x19_c : Nat, CellsAt w12 (Addr.mk n3 0 none) 0 [.bool x18, .slice x19_p x19_n x19_c] ∧ 
    Calls Try.prog 53 #[.agg #[.int .i64 x16, .slice x17_p x17_n x17_c], .agg #[.bool x18, .slice x19_p x19_n x19_c]] w12 fun e w20 => ∃ r21 : Int, ∃ r22_p : Option Addr, ∃ r22_n : Nat, ∃ r22_c : Nat, ∃ r23 : Int, e = .returned (.tuple #[.agg #[.int .i64 r21, .slice r22_p r22_n r22_c], .int .i64 r23]) ∧ 
    ∀ (n24 : Nat) (w25 : World), New (.cells #[.int .i64 0, .slice none 0 0] 24) w20 n24 w25 → 
    ∃ w26 : World, StoreAt (Addr.mk n24 0 none) 0 [.int .i64 r21, .slice r22_p r22_n r22_c] w25 w26 ∧ 
    ∃ x27 : Int, ∃ x28_p : Option Addr, ∃ x28_n : Nat, ∃ x28_c : Nat, CellsAt w26 (Addr.mk n1 0 none) 0 [.int .i64 x27, .slice x28_p x28_n x28_c] ∧ 
    Calls Try.prog 15 #[.agg #[.int .i64 x27, .slice x28_p x28_n x28_c]] w26 fun e w29 => ∃ r30 : Bool, e = .returned (.bool r30) ∧ 
    cnd (!r30)
    (cnd (r23 == (1 : Int))
    (∃ x31 : Int, ∃ x32_p : Option Addr, ∃ x32_n : Nat, ∃ x32_c : Nat, CellsAt w29 (Addr.mk n24 0 none) 0 [.int .i64 x31, .slice x32_p x32_n x32_c] ∧ 
    Calls Try.prog 54 #[.agg #[.int .i64 x31, .slice x32_p x32_n x32_c], .agg #[.int .i64 0, .slice none 0 0]] w29 fun e w33 => ∃ r34 : Bool, e = .returned (.bool r34) ∧ 
    cnd r34
    (Calls Try.prog 40 #[] w33 fun e w35 => ∃ r36 : Bool, e = .returned (.bool r36) ∧ 
    K (.bool r36) w35)
    (K (.bool false) w33))
    (K (.bool false) w29))
    (∃ x37_p : Option Addr, ∃ x37_n : Nat, ∃ x37_c : Nat, w29.cell? ((Addr.mk n3 0 none).add 1) = some (.slice x37_p x37_n x37_c) ∧ 
    Calls Try.prog 48 #[.slice x37_p x37_n x37_c] w29 fun e w38 => ∃ r39 : Bool, e = .returned (.bool r39) ∧ 
    cnd (!r39)
    (cnd (r23 == (1 : Int))
      (∃ x40 : Int, ∃ x41_p : Option Addr, ∃ x41_n : Nat, ∃ x41_c : Nat, CellsAt w38 (Addr.mk n24 0 none) 0 [.int .i64 x40, .slice x41_p x41_n x41_c] ∧ 
      Calls Try.prog 54 #[.agg #[.int .i64 x40, .slice x41_p x41_n x41_c], .agg #[.int .i64 0, .slice none 0 0]] w38 fun e w42 => ∃ r43 : Bool, e = .returned (.bool r43) ∧ 
      cnd r43
      (Calls Try.prog 40 #[] w42 fun e w44 => ∃ r45 : Bool, e = .returned (.bool r45) ∧ 
      K (.bool r45) w44)
      (K (.bool false) w42))
      (K (.bool false) w38))
    (∃ x46 : Int, ∃ x47_p : Option Addr, ∃ x47_n : Nat, ∃ x47_c : Nat, CellsAt w38 (Addr.mk n1 0 none) 0 [.int .i64 x46, .slice x47_p x47_n x47_c] ∧ 
      ∃ x48 : Bool, ∃ x49_p : Option Addr, ∃ x49_n : Nat, ∃ x49_c : Nat, CellsAt w38 (Addr.mk n3 0 none) 0 [.bool x48, .slice x49_p x49_n x49_c] ∧ 
      Calls Try.prog 55 #[.agg #[.int .i64 x46, .slice x47_p x47_n x47_c], .agg #[.bool x48, .slice x49_p x49_n x49_c]] w38 fun e w50 => ∃ r51 : Int, ∃ r52_p : Option Addr, ∃ r52_n : Nat, ∃ r52_c : Nat, ∃ r53 : Int, e = .returned (.tuple #[.agg #[.int .i64 r51, .slice r52_p r52_n r52_c], .int .i64 r53]) ∧ 
      ∀ (n54 : Nat) (w55 : World), New (.cells #[.int .i64 0, .slice none 0 0] 24) w50 n54 w55 → 
      ∃ w56 : World, StoreAt (Addr.mk n54 0 none) 0 [.int .i64 r51, .slice r52_p r52_n r52_c] w55 w56 ∧ 
      cnd (r23 == r53)
      (∃ x57 : Int, ∃ x58_p : Option Addr, ∃ x58_n : Nat, ∃ x58_c : Nat, CellsAt w56 (Addr.mk n24 0 none) 0 [.int .i64 x57, .slice x58_p x58_n x58_c] ∧ 
      ∃ x59 : Int, ∃ x60_p : Option Addr, ∃ x60_n : Nat, ∃ x60_c : Nat, CellsAt w56 (Addr.mk n54 0 none) 0 [.int .i64 x59, .slice x60_p x60_n x60_c] ∧ 
      Calls Try.prog 54 #[.agg #[.int .i64 x57, .slice x58_p x58_n x58_c], .agg #[.int .i64 x59, .slice x60_p x60_n x60_c]] w56 fun e w61 => ∃ r62 : Bool, e = .returned (.bool r62) ∧ 
      cnd r62
      (Calls Try.prog 40 #[] w61 fun e w63 => ∃ r64 : Bool, e = .returned (.bool r64) ∧ 
      K (.bool r64) w63)
      (K (.bool false) w61))
      (K (.bool false) w56)))))
theorem fathomlaw07_RupDoes.eq (f_0 : Int) (f_1_p : Option Addr) (f_1_n : Nat) (f_1_c : Nat) (s_0 : Bool) (s_1_p : Option Addr) (s_1_n : Nat) (s_1_c : Nat) (w : World) (K : Value → World → Prop) : wpF Try.prog Try.f12 .leaf [.agg #[.int .i64 f_0, .slice f_1_p f_1_n f_1_c], .agg #[.bool s_0, .slice s_1_p s_1_n s_1_c]] w K = fathomlaw07_RupDoes.w f_0 f_1_p f_1_n f_1_c s_0 s_1_p s_1_n s_1_c w K := by kernel_rfl
theorem fathomlaw07_RupDoes.ok : fnOk Try.prog Try.f12 2 = true := by kernel_rfl
theorem fathomlaw07_RupDoes.calls {f_0 : Int} {f_1_p : Option Addr} {f_1_n : Nat} {f_1_c : Nat} {s_0 : Bool} {s_1_p : Option Addr} {s_1_n : Nat} {s_1_c : Nat} {w : World} {R : Ending → World → Prop} (h : fathomlaw07_RupDoes.w f_0 f_1_p f_1_n f_1_c s_0 s_1_p s_1_n s_1_c w fun v w' => R (.returned v) w') : Calls Try.prog 12 #[.agg #[.int .i64 f_0, .slice f_1_p f_1_n f_1_c], .agg #[.bool s_0, .slice s_1_p s_1_n s_1_c]] w R :=
  calls_of mixed Try.func12 fathomlaw07_RupDoes.ok rfl (fun K => fathomlaw07_RupDoes.eq f_0 f_1_p f_1_n f_1_c s_0 s_1_p s_1_n s_1_c w K) h

/-! ### fathom/fathomlaw01.Light: function 13 (named slots 5) -/
def fathomlaw01_Light.w (f_0 : Int) (f_1_p : Option Addr) (f_1_n : Nat) (f_1_c : Nat) (w : World) (K : Value → World → Prop) : Prop :=
  ∀ (n1 : Nat) (w2 : World), New (.cells #[.int .i64 f_0, .slice f_1_p f_1_n f_1_c] 24) w n1 w2 → 
  ∃ I3 : Int → Int → World → Nat → Prop, (∃ k4, I3 0 0 w2 k4) ∧
  ∀ (n_6 : Int) (i_7 : Int) (w8 : World) (k4 : Nat) (_ : Fr), I3 n_6 i_7 w8 k4 →
  ∃ x9_p : Option Addr, ∃ x9_n : Nat, ∃ x9_c : Nat, w8.cell? ((Addr.mk n1 0 none).add 1) = some (.slice x9_p x9_n x9_c) ∧ 
    cnd (decide (i_7 < (x9_n : Int)))
    (cnd (decide (i_7 ≤ (300 : Int)))
    (∃ x10_p : Option Addr, ∃ x10_n : Nat, ∃ x10_c : Nat, w8.cell? ((Addr.mk n1 0 none).add 1) = some (.slice x10_p x10_n x10_c) ∧ 
      ixK x10_p x10_n i_7 1 fun a11 =>
      ∃ x12_p : Option Addr, ∃ x12_n : Nat, ∃ x12_c : Nat, w8.cell? a11 = some (.slice x12_p x12_n x12_c) ∧ 
      cnd (decide ((x12_n : Int) > (5000 : Int)))
      (K (.bool false) w8)
      (∃ x13_p : Option Addr, ∃ x13_n : Nat, ∃ x13_c : Nat, w8.cell? ((Addr.mk n1 0 none).add 1) = some (.slice x13_p x13_n x13_c) ∧ 
        ixK x13_p x13_n i_7 1 fun a14 =>
        ∃ x15_p : Option Addr, ∃ x15_n : Nat, ∃ x15_c : Nat, w8.cell? a14 = some (.slice x15_p x15_n x15_c) ∧ 
        ∃ k5, k5 < k4 ∧ I3 (IntKind.i64.wrap (n_6 + (x15_n : Int))) (IntKind.i64.wrap (i_7 + (1 : Int))) w8 k5))
    (∃ x16_p : Option Addr, ∃ x16_n : Nat, ∃ x16_c : Nat, w8.cell? ((Addr.mk n1 0 none).add 1) = some (.slice x16_p x16_n x16_c) ∧ 
      cnd (decide ((x16_n : Int) ≤ (300 : Int)))
      (K (.bool (decide (n_6 ≤ (6000 : Int)))) w8)
      (K (.bool false) w8)))
    (∃ x17_p : Option Addr, ∃ x17_n : Nat, ∃ x17_c : Nat, w8.cell? ((Addr.mk n1 0 none).add 1) = some (.slice x17_p x17_n x17_c) ∧ 
    cnd (decide ((x17_n : Int) ≤ (300 : Int)))
    (K (.bool (decide (n_6 ≤ (6000 : Int)))) w8)
    (K (.bool false) w8))
theorem fathomlaw01_Light.eq (f_0 : Int) (f_1_p : Option Addr) (f_1_n : Nat) (f_1_c : Nat) (w : World) (K : Value → World → Prop) : wpF Try.prog Try.f13 (.two .leaf (.two .leaf (.two (.two .leaf (.one (.loop [(3, 3), (4, 3)] .leaf))) .leaf))) [.agg #[.int .i64 f_0, .slice f_1_p f_1_n f_1_c]] w K = fathomlaw01_Light.w f_0 f_1_p f_1_n f_1_c w K := by kernel_rfl
theorem fathomlaw01_Light.ok : fnOk Try.prog Try.f13 1 = true := by kernel_rfl
theorem fathomlaw01_Light.calls {f_0 : Int} {f_1_p : Option Addr} {f_1_n : Nat} {f_1_c : Nat} {w : World} {R : Ending → World → Prop} (h : fathomlaw01_Light.w f_0 f_1_p f_1_n f_1_c w fun v w' => R (.returned v) w') : Calls Try.prog 13 #[.agg #[.int .i64 f_0, .slice f_1_p f_1_n f_1_c]] w R :=
  calls_of mixed Try.func13 fathomlaw01_Light.ok rfl (fun K => fathomlaw01_Light.eq f_0 f_1_p f_1_n f_1_c w K) h

/-! ### fathom/fathomref01.Cnf: function 15 (named slots 5) -/
def fathomref01_Cnf.w (f_0 : Int) (f_1_p : Option Addr) (f_1_n : Nat) (f_1_c : Nat) (w : World) (K : Value → World → Prop) : Prop :=
  ∀ (n1 : Nat) (w2 : World), New (.cells #[.int .i64 f_0, .slice f_1_p f_1_n f_1_c] 24) w n1 w2 → 
  ∃ x3 : Int, w2.cell? ((Addr.mk n1 0 none).add 0) = some (.int .i64 x3) ∧ 
  cnd (decide (x3 < (0 : Int)))
  (K (.bool false) w2)
  (∃ x4 : Int, w2.cell? ((Addr.mk n1 0 none).add 0) = some (.int .i64 x4) ∧ 
  cnd (decide (x4 > (1048576 : Int)))
  (K (.bool false) w2)
  (∃ x5_p : Option Addr, ∃ x5_n : Nat, ∃ x5_c : Nat, w2.cell? ((Addr.mk n1 0 none).add 1) = some (.slice x5_p x5_n x5_c) ∧ 
  cnd (decide ((x5_n : Int) > (262144 : Int)))
  (K (.bool false) w2)
  (∃ I6 : Int → World → Nat → Prop, (∃ k7, I6 0 w2 k7) ∧
    ∀ (i_9 : Int) (w10 : World) (k7 : Nat) (_ : Fr), I6 i_9 w10 k7 →
    ∃ x11_p : Option Addr, ∃ x11_n : Nat, ∃ x11_c : Nat, w10.cell? ((Addr.mk n1 0 none).add 1) = some (.slice x11_p x11_n x11_c) ∧ 
      cnd (decide (i_9 < (x11_n : Int)))
      (∃ x12_p : Option Addr, ∃ x12_n : Nat, ∃ x12_c : Nat, w10.cell? ((Addr.mk n1 0 none).add 1) = some (.slice x12_p x12_n x12_c) ∧ 
        ixK x12_p x12_n i_9 1 fun a13 =>
        ∃ x14_p : Option Addr, ∃ x14_n : Nat, ∃ x14_c : Nat, w10.cell? a13 = some (.slice x14_p x14_n x14_c) ∧ 
        Calls Try.prog 48 #[.slice x14_p x14_n x14_c] w10 fun e w15 => ∃ r16 : Bool, e = .returned (.bool r16) ∧ 
        cnd (!r16)
        (K (.bool false) w15)
        (∃ I17 : Int → World → Nat → Prop, (∃ k18, I17 0 w15 k18) ∧
          ∀ (k_20 : Int) (w21 : World) (k18 : Nat) (_ : Fr), I17 k_20 w21 k18 →
          ∃ x22_p : Option Addr, ∃ x22_n : Nat, ∃ x22_c : Nat, w21.cell? ((Addr.mk n1 0 none).add 1) = some (.slice x22_p x22_n x22_c) ∧ 
            ixK x22_p x22_n i_9 1 fun a23 =>
            ∃ x24_p : Option Addr, ∃ x24_n : Nat, ∃ x24_c : Nat, w21.cell? a23 = some (.slice x24_p x24_n x24_c) ∧ 
            cnd (decide (k_20 < (x24_n : Int)))
            (∃ x25_p : Option Addr, ∃ x25_n : Nat, ∃ x25_c : Nat, w21.drew.cell? ((Addr.mk n1 0 none).add 1) = some (.slice x25_p x25_n x25_c) ∧ 
              ixK x25_p x25_n i_9 1 fun a26 =>
              ∃ x27_p : Option Addr, ∃ x27_n : Nat, ∃ x27_c : Nat, w21.drew.cell? a26 = some (.slice x27_p x27_n x27_c) ∧ 
              ixK x27_p x27_n k_20 1 fun a28 =>
              ∃ x29 : Int, w21.drew.cell? a28 = some (.int .i64 x29) ∧ 
              (Calls Try.prog 56 #[.int .i64 x29] w21.drew fun e w30 => ∃ r31 : Int, e = .returned (.int .i64 r31) ∧ 
              ∃ x32 : Int, w30.cell? ((Addr.mk n1 0 none).add 0) = some (.int .i64 x32) ∧ 
              cnd (decide (r31 > x32))
              (K (.bool false) w30)
              (∃ k19, k19 < k18 ∧ I17 (IntKind.i64.wrap (k_20 + (1 : Int))) w30 k19)) ∧
            (∃ x33 : Int, w21.drew.cell? ((Addr.mk n1 0 none).add 0) = some (.int .i64 x33) ∧ 
              Calls Try.prog 56 #[.int .i64 x29] w21.drew fun e w34 => ∃ r35 : Int, e = .returned (.int .i64 r35) ∧ 
              cnd (decide (r35 > x33))
              (K (.bool false) w34)
              (∃ k19, k19 < k18 ∧ I17 (IntKind.i64.wrap (k_20 + (1 : Int))) w34 k19)))
            (∃ k8, k8 < k7 ∧ I6 (IntKind.i64.wrap (i_9 + (1 : Int))) w21 k8)))
      (K (.bool true) w10))))
theorem fathomref01_Cnf.eq (f_0 : Int) (f_1_p : Option Addr) (f_1_n : Nat) (f_1_c : Nat) (w : World) (K : Value → World → Prop) : wpF Try.prog Try.f15 (.two .leaf (.two .leaf (.two (.two .leaf (.one (.loop [(3, 3)] (.two .leaf (.two (.one (.two .leaf (.two .leaf (.one (.loop [(4, 3)] .leaf))))) .leaf))))) .leaf))) [.agg #[.int .i64 f_0, .slice f_1_p f_1_n f_1_c]] w K = fathomref01_Cnf.w f_0 f_1_p f_1_n f_1_c w K := by kernel_rfl
theorem fathomref01_Cnf.ok : fnOk Try.prog Try.f15 1 = true := by kernel_rfl
theorem fathomref01_Cnf.calls {f_0 : Int} {f_1_p : Option Addr} {f_1_n : Nat} {f_1_c : Nat} {w : World} {R : Ending → World → Prop} (h : fathomref01_Cnf.w f_0 f_1_p f_1_n f_1_c w fun v w' => R (.returned v) w') : Calls Try.prog 15 #[.agg #[.int .i64 f_0, .slice f_1_p f_1_n f_1_c]] w R :=
  calls_of mixed Try.func15 fathomref01_Cnf.ok rfl (fun K => fathomref01_Cnf.eq f_0 f_1_p f_1_n f_1_c w K) h

/-! ### (*fathom/prop.Prop).Run: function 19 (named slots 11) -/
def prop_Prop_Run.w (p_ : Option Addr) (w : World) (K : Value → World → Prop) : Prop :=
  cnd p_.isNone
  (K (.int .i64 (-1)) w)
  (∃ a1 : Addr, p_ = some a1 ∧ ∃ x2_p : Option Addr, ∃ x2_n : Nat, ∃ x2_c : Nat, w.cell? (a1.add 3) = some (.slice x2_p x2_n x2_c) ∧ 
  cnd x2_p.isNone
  (K (.int .i64 (-1)) w)
  (Calls Try.prog 59 #[.pointer p_] w fun e w3 => ∃ r4 : Int, e = .returned (.int .i64 r4) ∧ 
    cnd (decide (r4 ≥ (0 : Int)))
    (K (.int .i64 r4) w3)
    (∃ I5 : World → Nat → Prop, (∃ k6, I5 w3 k6) ∧
      ∀ (w8 : World) (k6 : Nat) (_ : Fr), I5 w8 k6 →
      ∃ a9 : Addr, p_ = some a9 ∧ ∃ x10 : Int, w8.drew.cell? (a9.add 9) = some (.int .i64 x10) ∧ 
        ∃ a11 : Addr, p_ = some a11 ∧ ∃ x12_p : Option Addr, ∃ x12_n : Nat, ∃ x12_c : Nat, w8.drew.cell? (a11.add 6) = some (.slice x12_p x12_n x12_c) ∧ 
        cnd (decide (x10 < (x12_n : Int)))
        (∃ a13 : Addr, p_ = some a13 ∧ ∃ x14_p : Option Addr, ∃ x14_n : Nat, ∃ x14_c : Nat, w8.drew.drew.cell? (a13.add 6) = some (.slice x14_p x14_n x14_c) ∧ 
          ∃ a15 : Addr, p_ = some a15 ∧ ∃ x16 : Int, w8.drew.drew.cell? (a15.add 9) = some (.int .i64 x16) ∧ 
          ixK x14_p x14_n x16 1 fun a17 =>
          ∃ x18 : Int, w8.drew.drew.cell? a17 = some (.int .i64 x18) ∧ 
          ∃ W19 : World → Prop, W19 w8.drew.drew.drew ∧ 
          ∃ a20 : Addr, p_ = some a20 ∧ ∃ x21_p : Option Addr, ∃ x21_n : Nat, ∃ x21_c : Nat, AtW W19 (a20.add 2) (.slice x21_p x21_n x21_c) ∧ 
          Calls Try.prog 60 #[.int .i64 (IntKind.i64.wrap (0 - x18))] w8.drew.drew.drew fun e w22 => ∃ r23 : Int, e = .returned (.int .i64 r23) ∧ 
          W19 w22 ∧ ixK x21_p x21_n r23 1 fun a24 =>
          ∃ x25_p : Option Addr, ∃ x25_n : Nat, ∃ x25_c : Nat, AtW W19 a24 (.slice x25_p x25_n x25_c) ∧ 
          ∃ I26 : Int → Int → World → Nat → Prop, (∃ k27, I26 0 0 w22 k27) ∧
          ∀ (kept_29 : Int) (v30 : Int) (w31 : World) (k27 : Nat) (_ : Fr), I26 kept_29 v30 w31 k27 →
          cnd (decide (v30 < (x25_n : Int)))
            (ixK x25_p x25_n v30 1 fun a32 =>
              ∃ x33 : Int, w31.cell? a32 = some (.int .i64 x33) ∧ 
              ∃ a34 : Addr, p_ = some a34 ∧ ∃ x35_p : Option Addr, ∃ x35_n : Nat, ∃ x35_c : Nat, w31.cell? (a34.add 1) = some (.slice x35_p x35_n x35_c) ∧ 
              ixK x35_p x35_n x33 3 fun a36 =>
              ∃ x37_p : Option Addr, ∃ x37_n : Nat, ∃ x37_c : Nat, w31.cell? (a36.add 1) = some (.slice x37_p x37_n x37_c) ∧ 
              cnd (decide ((x37_n : Int) < (2 : Int)))
              (ixK x25_p x25_n kept_29 1 fun a38 =>
                ∃ w39 : World, StoreAt a38 0 [.int .i64 x33] w31 w39 ∧ 
                ∃ k28, k28 < k27 ∧ I26 (IntKind.i64.wrap (kept_29 + (1 : Int))) (IntKind.i64.wrap (v30 + (1 : Int))) w39 k28)
              (Calls Try.prog 61 #[.pointer p_, .int .i64 x33, .int .i64 (IntKind.i64.wrap (0 - x18))] w31 fun e w40 => ∃ r41 : Bool, ∃ r42 : Bool, e = .returned (.tuple #[.bool r41, .bool r42]) ∧ 
                cnd r41
                (ixK x25_p x25_n kept_29 1 fun a43 =>
                  ∃ w44 : World, StoreAt a43 0 [.int .i64 x33] w40 w44 ∧ 
                  cnd r42
                  (slK x25_p x25_n x25_c 1 (some (IntKind.i64.wrap (kept_29 + (1 : Int)))) none none fun s45_p s45_n s45_c =>
                    slK x25_p x25_n x25_c 1 (some (IntKind.i64.wrap (v30 + (1 : Int)))) none none fun s46_p s46_n s46_c =>
                    ∃ w47 : World, ∃ r48 : Int, (Builtin.copy_ #[31, 31] 3 #[.slice s45_p s45_n s45_c, .slice s46_p s46_n s46_c]).run Try.prog w44.drew = .ok (.int .i64 r48) w47 ∧ 
                    ∃ W49 : World → Prop, W49 w47.drew ∧ 
                    ∃ a50 : Addr, p_ = some a50 ∧ ∃ x51_p : Option Addr, ∃ x51_n : Nat, ∃ x51_c : Nat, AtW W49 (a50.add 2) (.slice x51_p x51_n x51_c) ∧ 
                    Calls Try.prog 60 #[.int .i64 (IntKind.i64.wrap (0 - x18))] w47.drew fun e w52 => ∃ r53 : Int, e = .returned (.int .i64 r53) ∧ 
                    W49 w52 ∧ slK x25_p x25_n x25_c 1 none (some (IntKind.i64.wrap ((IntKind.i64.wrap (kept_29 + (1 : Int))) + r48))) none fun s54_p s54_n s54_c =>
                    ixK x51_p x51_n r53 1 fun a55 =>
                    ∃ w56 : World, StoreAt a55 0 [.slice s54_p s54_n s54_c] w52 w56 ∧ 
                    K (.int .i64 x33) w56)
                  (∃ k28, k28 < k27 ∧ I26 (IntKind.i64.wrap (kept_29 + (1 : Int))) (IntKind.i64.wrap (v30 + (1 : Int))) w44 k28))
                (cnd r42
                  (slK x25_p x25_n x25_c 1 (some kept_29) none none fun s57_p s57_n s57_c =>
                    slK x25_p x25_n x25_c 1 (some (IntKind.i64.wrap (v30 + (1 : Int)))) none none fun s58_p s58_n s58_c =>
                    ∃ w59 : World, ∃ r60 : Int, (Builtin.copy_ #[31, 31] 3 #[.slice s57_p s57_n s57_c, .slice s58_p s58_n s58_c]).run Try.prog w40.drew = .ok (.int .i64 r60) w59 ∧ 
                    ∃ W61 : World → Prop, W61 w59.drew ∧ 
                    ∃ a62 : Addr, p_ = some a62 ∧ ∃ x63_p : Option Addr, ∃ x63_n : Nat, ∃ x63_c : Nat, AtW W61 (a62.add 2) (.slice x63_p x63_n x63_c) ∧ 
                    Calls Try.prog 60 #[.int .i64 (IntKind.i64.wrap (0 - x18))] w59.drew fun e w64 => ∃ r65 : Int, e = .returned (.int .i64 r65) ∧ 
                    W61 w64 ∧ slK x25_p x25_n x25_c 1 none (some (IntKind.i64.wrap (kept_29 + r60))) none fun s66_p s66_n s66_c =>
                    ixK x63_p x63_n r65 1 fun a67 =>
                    ∃ w68 : World, StoreAt a67 0 [.slice s66_p s66_n s66_c] w64 w68 ∧ 
                    K (.int .i64 x33) w68)
                  (∃ k28, k28 < k27 ∧ I26 kept_29 (IntKind.i64.wrap (v30 + (1 : Int))) w40 k28))))
            (∃ W69 : World → Prop, W69 w31.drew ∧ 
              ∃ a70 : Addr, p_ = some a70 ∧ ∃ x71_p : Option Addr, ∃ x71_n : Nat, ∃ x71_c : Nat, AtW W69 (a70.add 2) (.slice x71_p x71_n x71_c) ∧ 
              Calls Try.prog 60 #[.int .i64 (IntKind.i64.wrap (0 - x18))] w31.drew fun e w72 => ∃ r73 : Int, e = .returned (.int .i64 r73) ∧ 
              W69 w72 ∧ slK x25_p x25_n x25_c 1 none (some kept_29) none fun s74_p s74_n s74_c =>
              ixK x71_p x71_n r73 1 fun a75 =>
              ∃ w76 : World, StoreAt a75 0 [.slice s74_p s74_n s74_c] w72 w76 ∧ 
              ∃ a77 : Addr, p_ = some a77 ∧ ∃ x78 : Int, w76.cell? (a77.add 9) = some (.int .i64 x78) ∧ 
              ∃ a79 : Addr, p_ = some a79 ∧ ∃ w80 : World, StoreAt (a79.add 9) 0 [.int .i64 (IntKind.i64.wrap (x78 + (1 : Int)))] w76 w80 ∧ 
              ∃ k7, k7 < k6 ∧ I5 w80 k7))
        (K (.int .i64 (-1)) w8.drew))))
theorem prop_Prop_Run.eq (p_ : Option Addr) (w : World) (K : Value → World → Prop) : wpF Try.prog Try.f19 (.two .leaf (.one (.two .leaf (.two .leaf (.two .leaf (.two (.one (.loop [] (.two .leaf (.one (.two .leaf (.two .draw (.two .leaf (.two (.two .leaf (.one (.loop [(6, 3), (56, 3)] (.two .leaf (.two .leaf (.two (.one (.two .leaf (.two .leaf (.two .leaf (.two .leaf (.two .leaf (.two (.two .leaf (.two .draw .leaf)) .leaf))))))) .leaf)))))) (.two .draw .leaf))))))))) .leaf)))))) [.pointer p_] w K = prop_Prop_Run.w p_ w K := by kernel_rfl
theorem prop_Prop_Run.ok : fnOk Try.prog Try.f19 1 = true := by kernel_rfl
theorem prop_Prop_Run.calls {p_ : Option Addr} {w : World} {R : Ending → World → Prop} (h : prop_Prop_Run.w p_ w fun v w' => R (.returned v) w') : Calls Try.prog 19 #[.pointer p_] w R :=
  calls_of mixed Try.func19 prop_Prop_Run.ok rfl (fun K => prop_Prop_Run.eq p_ w K) h

/-! ### fathom/fathomref01.Ints: function 21 (named slots 6) -/
def fathomref01_Ints.w (a__p : Option Addr) (a__n : Nat) (a__c : Nat) (b__p : Option Addr) (b__n : Nat) (b__c : Nat) (w : World) (K : Value → World → Prop) : Prop :=
  cnd ((a__n : Int) != (b__n : Int))
  (K (.bool false) w)
  (∃ I1 : Int → World → Nat → Prop, (∃ k2, I1 0 w k2) ∧
    ∀ (i_4 : Int) (w5 : World) (k2 : Nat) (_ : Fr), I1 i_4 w5 k2 →
    cnd (decide (i_4 < (a__n : Int)))
      (ixK a__p a__n i_4 1 fun a6 =>
        ∃ x7 : Int, w5.drew.cell? a6 = some (.int .i64 x7) ∧ 
        ixK b__p b__n i_4 1 fun a8 =>
        ∃ x9 : Int, w5.drew.cell? a8 = some (.int .i64 x9) ∧ 
        cnd (x7 != x9)
        (K (.bool false) w5.drew)
        (∃ k3, k3 < k2 ∧ I1 (IntKind.i64.wrap (i_4 + (1 : Int))) w5.drew k3))
      (K (.bool true) w5))
theorem fathomref01_Ints.eq (a__p : Option Addr) (a__n : Nat) (a__c : Nat) (b__p : Option Addr) (b__n : Nat) (b__c : Nat) (w : World) (K : Value → World → Prop) : wpF Try.prog Try.f21 (.two .leaf (.two .leaf (.two (.two .leaf (.one (.loop [(5, 3)] .leaf))) .leaf))) [.slice a__p a__n a__c, .slice b__p b__n b__c] w K = fathomref01_Ints.w a__p a__n a__c b__p b__n b__c w K := by kernel_rfl
theorem fathomref01_Ints.ok : fnOk Try.prog Try.f21 2 = true := by kernel_rfl
theorem fathomref01_Ints.calls {a__p : Option Addr} {a__n : Nat} {a__c : Nat} {b__p : Option Addr} {b__n : Nat} {b__c : Nat} {w : World} {R : Ending → World → Prop} (h : fathomref01_Ints.w a__p a__n a__c b__p b__n b__c w fun v w' => R (.returned v) w') : Calls Try.prog 21 #[.slice a__p a__n a__c, .slice b__p b__n b__c] w R :=
  calls_of mixed Try.func21 fathomref01_Ints.ok rfl (fun K => fathomref01_Ints.eq a__p a__n a__c b__p b__n b__c w K) h

/-! ### fathom/fathomref01.Holds: function 24 (named slots 6) -/
def fathomref01_Holds.w (f_0 : Int) (f_1_p : Option Addr) (f_1_n : Nat) (f_1_c : Nat) (m__p : Option Addr) (m__n : Nat) (m__c : Nat) (w : World) (K : Value → World → Prop) : Prop :=
  ∀ (n1 : Nat) (w2 : World), New (.cells #[.int .i64 f_0, .slice f_1_p f_1_n f_1_c] 24) w n1 w2 → 
  ∃ I3 : Int → World → Nat → Prop, (∃ k4, I3 0 w2 k4) ∧
  ∀ (i_6 : Int) (w7 : World) (k4 : Nat) (_ : Fr), I3 i_6 w7 k4 →
  ∃ x8_p : Option Addr, ∃ x8_n : Nat, ∃ x8_c : Nat, w7.cell? ((Addr.mk n1 0 none).add 1) = some (.slice x8_p x8_n x8_c) ∧ 
    cnd (decide (i_6 < (x8_n : Int)))
    (∃ x9_p : Option Addr, ∃ x9_n : Nat, ∃ x9_c : Nat, w7.cell? ((Addr.mk n1 0 none).add 1) = some (.slice x9_p x9_n x9_c) ∧ 
      ixK x9_p x9_n i_6 1 fun a10 =>
      ∃ x11_p : Option Addr, ∃ x11_n : Nat, ∃ x11_c : Nat, w7.cell? a10 = some (.slice x11_p x11_n x11_c) ∧ 
      Calls Try.prog 46 #[.slice m__p m__n m__c, .slice x11_p x11_n x11_c] w7 fun e w12 => ∃ r13 : Int, e = .returned (.int .i64 r13) ∧ 
      cnd (r13 != (1 : Int))
      (K (.bool false) w12)
      (∃ k5, k5 < k4 ∧ I3 (IntKind.i64.wrap (i_6 + (1 : Int))) w12 k5))
    (K (.bool true) w7)
theorem fathomref01_Holds.eq (f_0 : Int) (f_1_p : Option Addr) (f_1_n : Nat) (f_1_c : Nat) (m__p : Option Addr) (m__n : Nat) (m__c : Nat) (w : World) (K : Value → World → Prop) : wpF Try.prog Try.f24 (.two .leaf (.two (.two .leaf (.one (.loop [(5, 3)] .leaf))) .leaf)) [.agg #[.int .i64 f_0, .slice f_1_p f_1_n f_1_c], .slice m__p m__n m__c] w K = fathomref01_Holds.w f_0 f_1_p f_1_n f_1_c m__p m__n m__c w K := by kernel_rfl
theorem fathomref01_Holds.ok : fnOk Try.prog Try.f24 2 = true := by kernel_rfl
theorem fathomref01_Holds.calls {f_0 : Int} {f_1_p : Option Addr} {f_1_n : Nat} {f_1_c : Nat} {m__p : Option Addr} {m__n : Nat} {m__c : Nat} {w : World} {R : Ending → World → Prop} (h : fathomref01_Holds.w f_0 f_1_p f_1_n f_1_c m__p m__n m__c w fun v w' => R (.returned v) w') : Calls Try.prog 24 #[.agg #[.int .i64 f_0, .slice f_1_p f_1_n f_1_c], .slice m__p m__n m__c] w R :=
  calls_of mixed Try.func24 fathomref01_Holds.ok rfl (fun K => fathomref01_Holds.eq f_0 f_1_p f_1_n f_1_c m__p m__n m__c w K) h

/-! ### fathom/fathomref01.Value: function 26 (named slots 5) -/
def fathomref01_Value.w (m__p : Option Addr) (m__n : Nat) (m__c : Nat) (l_ : Int) (w : World) (K : Value → World → Prop) : Prop :=
  Calls Try.prog 64 #[.int .i64 l_] w fun e w1 => ∃ r2 : Bool, e = .returned (.bool r2) ∧ 
  cnd (!r2)
  (K (.int .i64 0) w1)
  (Calls Try.prog 56 #[.int .i64 l_] w1 fun e w3 => ∃ r4 : Int, e = .returned (.int .i64 r4) ∧ 
  cnd (decide (r4 > (m__n : Int)))
  (K (.int .i64 0) w3)
  (Calls Try.prog 56 #[.int .i64 l_] w3 fun e w5 => ∃ r6 : Int, e = .returned (.int .i64 r6) ∧ 
  ixK m__p m__n (IntKind.i64.wrap (r6 - (1 : Int))) 1 fun a7 =>
  ∃ x8 : Int, w5.cell? a7 = some (.int .i64 x8) ∧ 
  cnd (x8 == (0 : Int))
  (K (.int .i64 0) w5)
  (Calls Try.prog 56 #[.int .i64 l_] w5 fun e w9 => ∃ r10 : Int, e = .returned (.int .i64 r10) ∧ 
    ixK m__p m__n (IntKind.i64.wrap (r10 - (1 : Int))) 1 fun a11 =>
    ∃ x12 : Int, w9.cell? a11 = some (.int .i64 x12) ∧ 
    cnd ((decide (x12 > (0 : Int))) == (decide (l_ > (0 : Int))))
    (K (.int .i64 1) w9)
    (K (.int .i64 (-1)) w9))))
theorem fathomref01_Value.eq (m__p : Option Addr) (m__n : Nat) (m__c : Nat) (l_ : Int) (w : World) (K : Value → World → Prop) : wpF Try.prog Try.f26 .leaf [.slice m__p m__n m__c, .int .i64 l_] w K = fathomref01_Value.w m__p m__n m__c l_ w K := by kernel_rfl
theorem fathomref01_Value.ok : fnOk Try.prog Try.f26 2 = true := by kernel_rfl
theorem fathomref01_Value.calls {m__p : Option Addr} {m__n : Nat} {m__c : Nat} {l_ : Int} {w : World} {R : Ending → World → Prop} (h : fathomref01_Value.w m__p m__n m__c l_ w fun v w' => R (.returned v) w') : Calls Try.prog 26 #[.slice m__p m__n m__c, .int .i64 l_] w R :=
  calls_of mixed Try.func26 fathomref01_Value.ok rfl (fun K => fathomref01_Value.eq m__p m__n m__c l_ w K) h


end Go.Proofs.Ytdaiolinnpligaa.W
