/- The functions that the statements reach, printed as what the frame asks of them, each checked by the kernel against the loaded text. -/
import Derived.Test.YtlpmapeojecenaaProg
import Derived.Test.YtlpmapeojecenaaFwSound
namespace Go.Proofs.Ytlpmapeojecenaa.W
open Go Go.Fw Go.Proofs
set_option linter.unusedVariables false

theorem mixed : Try.prog.follows .mixedOrders = true := by kernel_rfl

abbrev fathomlaw13_ReduceKeeps.id : FuncId := 3
abbrev fathomlaw13_ReduceHalves.id : FuncId := 4
abbrev fathomlaw13_ReduceQuotas.id : FuncId := 5
abbrev fathomlaw01_LitNorms.id : FuncId := 6
abbrev fathomlaw01_LitValues.id : FuncId := 7
abbrev fathomlaw01_LitResolves.id : FuncId := 8
abbrev fathomlaw12_LearnChecks.id : FuncId := 9
abbrev fathomlaw01_LitHolds.id : FuncId := 10
abbrev fathomlaw01_LitGiven.id : FuncId := 11
abbrev fathomlaw12_LearnLearns.id : FuncId := 12
abbrev fathomlaw12_LearnTeaches.id : FuncId := 13
abbrev fathomlaw12_LearnAsserts.id : FuncId := 14
abbrev fathomlaw13_awake.id : FuncId := 15
abbrev reduce_Keep.id : FuncId := 16
abbrev reduce_Order.id : FuncId := 17
abbrev fathomref13_May.id : FuncId := 18
abbrev reduce_Check.id : FuncId := 19
abbrev fathomref13_Keep.id : FuncId := 20
abbrev fathomref13_Rank.id : FuncId := 21
abbrev fathomref13_Must.id : FuncId := 22
abbrev fathomref13_Better.id : FuncId := 23
abbrev reduce_Quota.id : FuncId := 24
abbrev reduce_Due.id : FuncId := 25
abbrev fathomref13_Quota.id : FuncId := 26
abbrev fathomlaw01_awake.id : FuncId := 27
abbrev lit_Norm.id : FuncId := 28
abbrev fathomref01_May.id : FuncId := 29
abbrev lit_Check.id : FuncId := 30
abbrev fathomref01_Ints.id : FuncId := 31
abbrev fathomref01_Order.id : FuncId := 32
abbrev fathomref01_Taut.id : FuncId := 33
abbrev lit_Within.id : FuncId := 34
abbrev lit_Value.id : FuncId := 35
abbrev fathomref01_Value.id : FuncId := 36
abbrev lit_Clause.id : FuncId := 37
abbrev fathomref01_Clause.id : FuncId := 38
abbrev lit_Resolve.id : FuncId := 39
abbrev fathomref01_Has.id : FuncId := 40
abbrev fathomref01_Without.id : FuncId := 41
abbrev fathomlaw12_light.id : FuncId := 42
abbrev fathomlaw12_awake.id : FuncId := 43
abbrev learn_Check.id : FuncId := 44
abbrev fathomlaw12_may.id : FuncId := 45
abbrev learn_Learn.id : FuncId := 46
abbrev fathomlaw01_Light.id : FuncId := 47
abbrev lit_Same.id : FuncId := 48
abbrev fathomref01_Same.id : FuncId := 49
abbrev fathomref01_Cnf.id : FuncId := 50
abbrev lit_CheckCnf.id : FuncId := 51
abbrev lit_Holds.id : FuncId := 52
abbrev fathomref01_Holds.id : FuncId := 53
abbrev lit_Given.id : FuncId := 54
abbrev fathomref01_Lit.id : FuncId := 55
abbrev fathomref01_Given.id : FuncId := 56
abbrev fathomref12_Learn.id : FuncId := 57
abbrev learn_Shorten.id : FuncId := 58
abbrev fathomref12_Shorten.id : FuncId := 59
abbrev fathomref12_Breaks.id : FuncId := 60
abbrev fathomref12_Level.id : FuncId := 61
abbrev learn_Back.id : FuncId := 62
abbrev learn_Levels.id : FuncId := 63
abbrev reduce_must.id : FuncId := 64
abbrev slices_SortFunc_int_int.id : FuncId := 65
abbrev reduce_Order_1.id : FuncId := 66
abbrev slices_Clone_int_int.id : FuncId := 67
abbrev lit_before.id : FuncId := 68
abbrev slices_Compact_int_int.id : FuncId := 69
abbrev slices_ContainsFunc_int_int.id : FuncId := 70
abbrev lit_Check_1.id : FuncId := 71
abbrev lit_is.id : FuncId := 72
abbrev fathomref01_Ahead.id : FuncId := 73
abbrev lit_Within_1.id : FuncId := 74
abbrev slices_Contains_int_int.id : FuncId := 75
abbrev lit_amount.id : FuncId := 76
abbrev fathomref01_Var.id : FuncId := 77
abbrev learn_sound.id : FuncId := 78
abbrev learn_breaks.id : FuncId := 79
abbrev fathomref12_May.id : FuncId := 80
abbrev learn_places.id : FuncId := 81
abbrev learn_study_add.id : FuncId := 82
abbrev learn_study_top.id : FuncId := 83
abbrev learn_study_ordered.id : FuncId := 84
abbrev slices_EqualFunc_int_int_int_int.id : FuncId := 85
abbrev lit_Same_1.id : FuncId := 86
abbrev slices_Equal_int_int.id : FuncId := 87
abbrev fathomref01_Lists.id : FuncId := 88
abbrev lit_CheckCnf_1.id : FuncId := 89
abbrev slices_DeleteFunc_int_int.id : FuncId := 90
abbrev lit_Given_1.id : FuncId := 91
abbrev fathomref12_Ordered.id : FuncId := 92
abbrev learn_study_level.id : FuncId := 93
abbrev learn_study_idle.id : FuncId := 94
abbrev fathomref12_Idle.id : FuncId := 95
abbrev fathomref12_At.id : FuncId := 96
abbrev learn_amount.id : FuncId := 97
abbrev slices_pdqsortCmpFunc_int.id : FuncId := 98
abbrev bits_Len.id : FuncId := 99
abbrev slices_IndexFunc_int_int.id : FuncId := 100
abbrev slices_Index_int_int.id : FuncId := 101
abbrev learn_reasoned.id : FuncId := 102
abbrev learn_study_ordered_1.id : FuncId := 103
abbrev slices_insertionSortCmpFunc_int.id : FuncId := 104
abbrev slices_heapSortCmpFunc_int.id : FuncId := 105
abbrev slices_breakPatternsCmpFunc_int.id : FuncId := 106
abbrev slices_choosePivotCmpFunc_int.id : FuncId := 107
abbrev slices_reverseRangeCmpFunc_int.id : FuncId := 108
abbrev slices_partialInsertionSortCmpFunc_int.id : FuncId := 109
abbrev slices_partitionEqualCmpFunc_int.id : FuncId := 110
abbrev slices_partitionCmpFunc_int.id : FuncId := 111
abbrev bits_Len32.id : FuncId := 112
abbrev bits_Len64.id : FuncId := 113
abbrev slices_siftDownCmpFunc_int.id : FuncId := 114
abbrev slices_nextPowerOfTwo.id : FuncId := 115
abbrev slices_xorshift_Next.id : FuncId := 116
abbrev slices_medianAdjacentCmpFunc_int.id : FuncId := 117
abbrev slices_medianCmpFunc_int.id : FuncId := 118
abbrev slices_order2CmpFunc_int.id : FuncId := 119
abbrev ty_int64 : TypeId := 2
theorem ty_int64.und : Try.prog.underlying 2 = some (.int .i64) := by kernel_rfl
theorem ty_int64.info : (Try.prog.info? 2).map (fun i => (i.zero, i.size, i.bytes)) = some (some (.int .i64 0), 1, 8) := by kernel_rfl
abbrev ty_int : TypeId := 3
theorem ty_int.und : Try.prog.underlying 3 = some (.int .i64) := by kernel_rfl
theorem ty_int.info : (Try.prog.info? 3).map (fun i => (i.zero, i.size, i.bytes)) = some (some (.int .i64 0), 1, 8) := by kernel_rfl
abbrev ty_bool : TypeId := 4
theorem ty_bool.und : Try.prog.underlying 4 = some .bool := by kernel_rfl
theorem ty_bool.info : (Try.prog.info? 4).map (fun i => (i.zero, i.size, i.bytes)) = some (some (.bool false), 1, 1) := by kernel_rfl
abbrev ty_uint8 : TypeId := 5
theorem ty_uint8.und : Try.prog.underlying 5 = some (.int .u8) := by kernel_rfl
theorem ty_uint8.info : (Try.prog.info? 5).map (fun i => (i.zero, i.size, i.bytes)) = some (some (.int .u8 0), 1, 1) := by kernel_rfl
abbrev ty_abi_BoundsErrorCode : TypeId := 6
theorem ty_abi_BoundsErrorCode.und : Try.prog.underlying 6 = some (.int .u8) := by kernel_rfl
theorem ty_abi_BoundsErrorCode.info : (Try.prog.info? 6).map (fun i => (i.zero, i.size, i.bytes)) = some (some (.int .u8 0), 1, 1) := by kernel_rfl
abbrev ty_runtime_boundsError : TypeId := 8
theorem ty_runtime_boundsError.info : (Try.prog.info? 8).map (fun i => (i.zero, i.size, i.bytes)) = some (some (.agg #[.int .i64 0, .int .i64 0, .bool false, .int .u8 0]), 4, 24) := by kernel_rfl
abbrev ty_uintptr : TypeId := 12
theorem ty_uintptr.und : Try.prog.underlying 12 = some (.int .u64) := by kernel_rfl
theorem ty_uintptr.info : (Try.prog.info? 12).map (fun i => (i.zero, i.size, i.bytes)) = some (some (.int .u64 0), 1, 8) := by kernel_rfl
abbrev ty_runtime_errorAddressString : TypeId := 14
theorem ty_runtime_errorAddressString.info : (Try.prog.info? 14).map (fun i => (i.zero, i.size, i.bytes)) = some (some (.agg #[.string (ByteArray.mk #[]), .int .u64 0]), 2, 24) := by kernel_rfl
abbrev ty_p_runtime_TypeAssertionError : TypeId := 15
theorem ty_p_runtime_TypeAssertionError.info : (Try.prog.info? 15).map (fun i => (i.zero, i.size, i.bytes)) = some (some (.pointer none), 1, 8) := by kernel_rfl
abbrev ty_p_runtime_PanicNilError : TypeId := 16
theorem ty_p_runtime_PanicNilError.info : (Try.prog.info? 16).map (fun i => (i.zero, i.size, i.bytes)) = some (some (.pointer none), 1, 8) := by kernel_rfl
abbrev ty_p_abi_Type : TypeId := 17
theorem ty_p_abi_Type.info : (Try.prog.info? 17).map (fun i => (i.zero, i.size, i.bytes)) = some (some (.pointer none), 1, 8) := by kernel_rfl
abbrev ty_maps_unhashableTypeError : TypeId := 19
theorem ty_maps_unhashableTypeError.info : (Try.prog.info? 19).map (fun i => (i.zero, i.size, i.bytes)) = some (some (.agg #[.pointer none]), 1, 8) := by kernel_rfl
abbrev ty_int32 : TypeId := 21
theorem ty_int32.und : Try.prog.underlying 21 = some (.int .i32) := by kernel_rfl
theorem ty_int32.info : (Try.prog.info? 21).map (fun i => (i.zero, i.size, i.bytes)) = some (some (.int .i32 0), 1, 4) := by kernel_rfl
abbrev ty_sl_api_Learnt : TypeId := 22
theorem ty_sl_api_Learnt.und : Try.prog.underlying 22 = some (.slice 35) := by kernel_rfl
theorem ty_sl_api_Learnt.info : (Try.prog.info? 22).map (fun i => (i.zero, i.size, i.bytes)) = some (some (.slice none 0 0), 1, 24) := by kernel_rfl
abbrev ty_sl_bool : TypeId := 24
theorem ty_sl_bool.und : Try.prog.underlying 24 = some (.slice 4) := by kernel_rfl
theorem ty_sl_bool.info : (Try.prog.info? 24).map (fun i => (i.zero, i.size, i.bytes)) = some (some (.slice none 0 0), 1, 24) := by kernel_rfl
abbrev ty_sl_int : TypeId := 26
theorem ty_sl_int.und : Try.prog.underlying 26 = some (.slice 3) := by kernel_rfl
theorem ty_sl_int.info : (Try.prog.info? 26).map (fun i => (i.zero, i.size, i.bytes)) = some (some (.slice none 0 0), 1, 24) := by kernel_rfl
abbrev ty_api_Errno : TypeId := 29
theorem ty_api_Errno.und : Try.prog.underlying 29 = some (.int .i64) := by kernel_rfl
theorem ty_api_Errno.info : (Try.prog.info? 29).map (fun i => (i.zero, i.size, i.bytes)) = some (some (.int .i64 0), 1, 8) := by kernel_rfl
abbrev ty_api_Learnt : TypeId := 35
theorem ty_api_Learnt.info : (Try.prog.info? 35).map (fun i => (i.zero, i.size, i.bytes)) = some (some (.agg #[.int .i64 0, .int .i64 0, .bool false]), 3, 24) := by kernel_rfl
abbrev ty_fathomlaw01_Point : TypeId := 49
theorem ty_fathomlaw01_Point.info : (Try.prog.info? 49).map (fun i => (i.zero, i.size, i.bytes)) = some (some (.agg #[.slice none 0 0, .int .i64 0]), 2, 32) := by kernel_rfl
abbrev ty_sl_api_Assign : TypeId := 55
theorem ty_sl_api_Assign.und : Try.prog.underlying 55 = some (.slice 73) := by kernel_rfl
theorem ty_sl_api_Assign.info : (Try.prog.info? 55).map (fun i => (i.zero, i.size, i.bytes)) = some (some (.slice none 0 0), 1, 24) := by kernel_rfl
abbrev ty_sl_sl_int : TypeId := 59
theorem ty_sl_sl_int.und : Try.prog.underlying 59 = some (.slice 26) := by kernel_rfl
theorem ty_sl_sl_int.info : (Try.prog.info? 59).map (fun i => (i.zero, i.size, i.bytes)) = some (some (.slice none 0 0), 1, 24) := by kernel_rfl
abbrev ty_api_Cnf : TypeId := 61
theorem ty_api_Cnf.info : (Try.prog.info? 61).map (fun i => (i.zero, i.size, i.bytes)) = some (some (.agg #[.int .i64 0, .slice none 0 0]), 2, 32) := by kernel_rfl
abbrev ty_api_Assign : TypeId := 73
theorem ty_api_Assign.info : (Try.prog.info? 73).map (fun i => (i.zero, i.size, i.bytes)) = some (some (.agg #[.int .i64 0, .int .i64 0, .slice none 0 0]), 3, 40) := by kernel_rfl
abbrev ty_p_learn_study : TypeId := 81
theorem ty_p_learn_study.info : (Try.prog.info? 81).map (fun i => (i.zero, i.size, i.bytes)) = some (some (.pointer none), 1, 8) := by kernel_rfl
abbrev ty_map_int_int : TypeId := 82
theorem ty_map_int_int.und : Try.prog.underlying 82 = some (.map 3 3) := by kernel_rfl
theorem ty_map_int_int.info : (Try.prog.info? 82).map (fun i => (i.zero, i.size, i.bytes)) = some (some (.map none), 1, 8) := by kernel_rfl
abbrev ty_map_int_bool : TypeId := 84
theorem ty_map_int_bool.und : Try.prog.underlying 84 = some (.map 3 4) := by kernel_rfl
theorem ty_map_int_bool.info : (Try.prog.info? 84).map (fun i => (i.zero, i.size, i.bytes)) = some (some (.map none), 1, 8) := by kernel_rfl
abbrev ty_learn_study : TypeId := 86
theorem ty_learn_study.info : (Try.prog.info? 86).map (fun i => (i.zero, i.size, i.bytes)) = some (some (.agg #[.slice none 0 0, .map none, .map none]), 3, 40) := by kernel_rfl
abbrev ty_uint : TypeId := 98
theorem ty_uint.und : Try.prog.underlying 98 = some (.int .u64) := by kernel_rfl
theorem ty_uint.info : (Try.prog.info? 98).map (fun i => (i.zero, i.size, i.bytes)) = some (some (.int .u64 0), 1, 8) := by kernel_rfl
abbrev ty_slices_sortedHint : TypeId := 103
theorem ty_slices_sortedHint.und : Try.prog.underlying 103 = some (.int .i64) := by kernel_rfl
theorem ty_slices_sortedHint.info : (Try.prog.info? 103).map (fun i => (i.zero, i.size, i.bytes)) = some (some (.int .i64 0), 1, 8) := by kernel_rfl
abbrev ty_uint32 : TypeId := 111
theorem ty_uint32.und : Try.prog.underlying 111 = some (.int .u32) := by kernel_rfl
theorem ty_uint32.info : (Try.prog.info? 111).map (fun i => (i.zero, i.size, i.bytes)) = some (some (.int .u32 0), 1, 4) := by kernel_rfl
abbrev ty_uint64 : TypeId := 113
theorem ty_uint64.und : Try.prog.underlying 113 = some (.int .u64) := by kernel_rfl
theorem ty_uint64.info : (Try.prog.info? 113).map (fun i => (i.zero, i.size, i.bytes)) = some (some (.int .u64 0), 1, 8) := by kernel_rfl
abbrev ty_slices_xorshift : TypeId := 114
theorem ty_slices_xorshift.und : Try.prog.underlying 114 = some (.int .u64) := by kernel_rfl
theorem ty_slices_xorshift.info : (Try.prog.info? 114).map (fun i => (i.zero, i.size, i.bytes)) = some (some (.int .u64 0), 1, 8) := by kernel_rfl
abbrev ty_p_int : TypeId := 118
theorem ty_p_int.info : (Try.prog.info? 118).map (fun i => (i.zero, i.size, i.bytes)) = some (some (.pointer none), 1, 8) := by kernel_rfl
abbrev ty_p_slices_xorshift : TypeId := 120
theorem ty_p_slices_xorshift.info : (Try.prog.info? 120).map (fun i => (i.zero, i.size, i.bytes)) = some (some (.pointer none), 1, 8) := by kernel_rfl
abbrev ty_runtime_TypeAssertionError : TypeId := 125
theorem ty_runtime_TypeAssertionError.info : (Try.prog.info? 125).map (fun i => (i.zero, i.size, i.bytes)) = some (some (.agg #[.pointer none, .pointer none, .pointer none, .string (ByteArray.mk #[])]), 4, 40) := by kernel_rfl
abbrev ty_runtime_PanicNilError : TypeId := 128
theorem ty_runtime_PanicNilError.info : (Try.prog.info? 128).map (fun i => (i.zero, i.size, i.bytes)) = some (some (.agg #[]), 0, 0) := by kernel_rfl
abbrev ty_abi_TFlag : TypeId := 130
theorem ty_abi_TFlag.und : Try.prog.underlying 130 = some (.int .u8) := by kernel_rfl
theorem ty_abi_TFlag.info : (Try.prog.info? 130).map (fun i => (i.zero, i.size, i.bytes)) = some (some (.int .u8 0), 1, 1) := by kernel_rfl
abbrev ty_abi_Kind : TypeId := 131
theorem ty_abi_Kind.und : Try.prog.underlying 131 = some (.int .u8) := by kernel_rfl
theorem ty_abi_Kind.info : (Try.prog.info? 131).map (fun i => (i.zero, i.size, i.bytes)) = some (some (.int .u8 0), 1, 1) := by kernel_rfl
abbrev ty_p_uint8 : TypeId := 133
theorem ty_p_uint8.info : (Try.prog.info? 133).map (fun i => (i.zero, i.size, i.bytes)) = some (some (.pointer none), 1, 8) := by kernel_rfl
abbrev ty_abi_NameOff : TypeId := 134
theorem ty_abi_NameOff.und : Try.prog.underlying 134 = some (.int .i32) := by kernel_rfl
theorem ty_abi_NameOff.info : (Try.prog.info? 134).map (fun i => (i.zero, i.size, i.bytes)) = some (some (.int .i32 0), 1, 4) := by kernel_rfl
abbrev ty_abi_TypeOff : TypeId := 135
theorem ty_abi_TypeOff.und : Try.prog.underlying 135 = some (.int .i32) := by kernel_rfl
theorem ty_abi_TypeOff.info : (Try.prog.info? 135).map (fun i => (i.zero, i.size, i.bytes)) = some (some (.int .i32 0), 1, 4) := by kernel_rfl
abbrev ty_abi_Type : TypeId := 137
theorem ty_abi_Type.info : (Try.prog.info? 137).map (fun i => (i.zero, i.size, i.bytes)) = some (some (.agg #[.int .u64 0, .int .u64 0, .int .u32 0, .int .u8 0, .int .u8 0, .int .u8 0, .int .u8 0, .nilFunc, .pointer none, .int .i32 0, .int .i32 0]), 11, 48) := by kernel_rfl
def strtab0 : ByteArray := (ByteArray.mk #[0, 1, 2, 2, 3, 3, 3, 3, 4, 4, 4, 4, 4, 4, 4, 4, 5, 5, 5, 5, 5, 5, 5, 5, 5, 5, 5, 5, 5, 5, 5, 5, 6, 6, 6, 6, 6, 6, 6, 6, 6, 6, 6, 6, 6, 6, 6, 6, 6, 6, 6, 6, 6, 6, 6, 6, 6, 6, 6, 6, 6, 6, 6, 6, 7, 7, 7, 7, 7, 7, 7, 7, 7, 7, 7, 7, 7, 7, 7, 7, 7, 7, 7, 7, 7, 7, 7, 7, 7, 7, 7, 7, 7, 7, 7, 7, 7, 7, 7, 7, 7, 7, 7, 7, 7, 7, 7, 7, 7, 7, 7, 7, 7, 7, 7, 7, 7, 7, 7, 7, 7, 7, 7, 7, 7, 7, 7, 7, 8, 8, 8, 8, 8, 8, 8, 8, 8, 8, 8, 8, 8, 8, 8, 8, 8, 8, 8, 8, 8, 8, 8, 8, 8, 8, 8, 8, 8, 8, 8, 8, 8, 8, 8, 8, 8, 8, 8, 8, 8, 8, 8, 8, 8, 8, 8, 8, 8, 8, 8, 8, 8, 8, 8, 8, 8, 8, 8, 8, 8, 8, 8, 8, 8, 8, 8, 8, 8, 8, 8, 8, 8, 8, 8, 8, 8, 8, 8, 8, 8, 8, 8, 8, 8, 8, 8, 8, 8, 8, 8, 8, 8, 8, 8, 8, 8, 8, 8, 8, 8, 8, 8, 8, 8, 8, 8, 8, 8, 8, 8, 8, 8, 8, 8, 8, 8, 8, 8, 8, 8, 8, 8, 8, 8, 8, 8, 8])

/-! ### fathom/fathomlaw13.ReduceKeeps: function 3 (named slots 6) -/
def fathomlaw13_ReduceKeeps.w (l__p : Option Addr) (l__n : Nat) (l__c : Nat) (w : World) (K : Value → World → Prop) : Prop :=
  cnd (decide ((l__n : Int) > (100 : Int)))
  (Calls Try.prog 15 #[] w fun e w1 => ∃ r2 : Bool, e = .returned (.bool r2) ∧ 
    K (.bool r2) w1)
  (Calls Try.prog 16 #[.slice l__p l__n l__c] w fun e w3 => ∃ r4_p : Option Addr, ∃ r4_n : Nat, ∃ r4_c : Nat, e = .returned (.slice r4_p r4_n r4_c) ∧ 
    Calls Try.prog 17 #[.slice l__p l__n l__c] w3 fun e w5 => ∃ r6_p : Option Addr, ∃ r6_n : Nat, ∃ r6_c : Nat, e = .returned (.slice r6_p r6_n r6_c) ∧ 
    Calls Try.prog 18 #[.slice l__p l__n l__c] w5 fun e w7 => ∃ r8 : Bool, e = .returned (.bool r8) ∧ 
    cnd (!r8)
    (Calls Try.prog 19 #[.slice l__p l__n l__c] w7 fun e w9 => ∃ r10 : Int, e = .returned (.int .i64 r10) ∧ 
      cnd (r10 == (1 : Int))
      (cnd ((r4_n : Int) == (0 : Int))
      (cnd ((r6_n : Int) == (0 : Int))
      (Calls Try.prog 15 #[] w9 fun e w11 => ∃ r12 : Bool, e = .returned (.bool r12) ∧ 
      K (.bool r12) w11)
      (K (.bool false) w9))
      (K (.bool false) w9))
      (K (.bool false) w9))
    (Calls Try.prog 19 #[.slice l__p l__n l__c] w7 fun e w13 => ∃ r14 : Int, e = .returned (.int .i64 r14) ∧ 
      cnd (r14 != (0 : Int))
      (K (.bool false) w13)
      (cnd ((r4_n : Int) != (l__n : Int))
      (K (.bool false) w13)
      (cnd ((r6_n : Int) != (l__n : Int))
      (K (.bool false) w13)
      (∃ I15 : Int → World → Nat → Prop, (∃ k16, I15 0 w13 k16) ∧
        ∀ (i_18 : Int) (w19 : World) (k16 : Nat) (_ : Fr), I15 i_18 w19 k16 →
        cnd (decide (i_18 < (l__n : Int)))
          (ixK r4_p r4_n i_18 1 fun a20 =>
            (∃ x21 : Bool, w19.drew.cell? a20 = some (.bool x21) ∧ 
            Calls Try.prog 20 #[.slice l__p l__n l__c, .int .i64 i_18] w19.drew fun e w22 => ∃ r23 : Bool, e = .returned (.bool r23) ∧ 
            cnd (!(x21 == r23))
            (K (.bool false) w22)
            (ixK r6_p r6_n i_18 1 fun a24 =>
            ∃ x25 : Int, w22.cell? a24 = some (.int .i64 x25) ∧ 
            cnd (decide (x25 < (0 : Int)))
            (K (.bool false) w22)
            (ixK r6_p r6_n i_18 1 fun a26 =>
            ∃ x27 : Int, w22.cell? a26 = some (.int .i64 x27) ∧ 
            cnd (decide (x27 ≥ (l__n : Int)))
            (K (.bool false) w22)
            (ixK r6_p r6_n i_18 1 fun a28 =>
            ∃ x29 : Int, w22.cell? a28 = some (.int .i64 x29) ∧ 
            Calls Try.prog 21 #[.slice l__p l__n l__c, .int .i64 x29, .bool true] w22 fun e w30 => ∃ r31 : Int, e = .returned (.int .i64 r31) ∧ 
            cnd (r31 != i_18)
            (K (.bool false) w30)
            (∃ k17, k17 < k16 ∧ I15 (IntKind.i64.wrap (i_18 + (1 : Int))) w30 k17))))) ∧
          (Calls Try.prog 20 #[.slice l__p l__n l__c, .int .i64 i_18] w19.drew fun e w32 => ∃ r33 : Bool, e = .returned (.bool r33) ∧ 
            ∃ x34 : Bool, w32.cell? a20 = some (.bool x34) ∧ 
            cnd (!(x34 == r33))
            (K (.bool false) w32)
            (ixK r6_p r6_n i_18 1 fun a35 =>
            ∃ x36 : Int, w32.cell? a35 = some (.int .i64 x36) ∧ 
            cnd (decide (x36 < (0 : Int)))
            (K (.bool false) w32)
            (ixK r6_p r6_n i_18 1 fun a37 =>
            ∃ x38 : Int, w32.cell? a37 = some (.int .i64 x38) ∧ 
            cnd (decide (x38 ≥ (l__n : Int)))
            (K (.bool false) w32)
            (ixK r6_p r6_n i_18 1 fun a39 =>
            ∃ x40 : Int, w32.cell? a39 = some (.int .i64 x40) ∧ 
            Calls Try.prog 21 #[.slice l__p l__n l__c, .int .i64 x40, .bool true] w32 fun e w41 => ∃ r42 : Int, e = .returned (.int .i64 r42) ∧ 
            cnd (r42 != i_18)
            (K (.bool false) w41)
            (∃ k17, k17 < k16 ∧ I15 (IntKind.i64.wrap (i_18 + (1 : Int))) w41 k17))))))
          (Calls Try.prog 15 #[] w19 fun e w43 => ∃ r44 : Bool, e = .returned (.bool r44) ∧ 
            K (.bool r44) w43))))))
theorem fathomlaw13_ReduceKeeps.eq (l__p : Option Addr) (l__n : Nat) (l__c : Nat) (w : World) (K : Value → World → Prop) : wpF Try.prog Try.f3 (.two .leaf (.two .leaf (.two .leaf (.two .leaf (.two .leaf (.two (.two .leaf (.one (.loop [(5, 3)] .leaf))) .leaf)))))) [.slice l__p l__n l__c] w K = fathomlaw13_ReduceKeeps.w l__p l__n l__c w K := by kernel_rfl
theorem fathomlaw13_ReduceKeeps.ok : fnOk Try.prog Try.f3 1 = true := by kernel_rfl
theorem fathomlaw13_ReduceKeeps.calls {l__p : Option Addr} {l__n : Nat} {l__c : Nat} {w : World} {R : Ending → World → Prop} (h : fathomlaw13_ReduceKeeps.w l__p l__n l__c w fun v w' => R (.returned v) w') : Calls Try.prog 3 #[.slice l__p l__n l__c] w R :=
  calls_of mixed Try.func3 fathomlaw13_ReduceKeeps.ok rfl (fun K => fathomlaw13_ReduceKeeps.eq l__p l__n l__c w K) h

/-! ### fathom/fathomlaw13.ReduceHalves: function 4 (named slots 8) -/
def fathomlaw13_ReduceHalves.w (l__p : Option Addr) (l__n : Nat) (l__c : Nat) (w : World) (K : Value → World → Prop) : Prop :=
  cnd (decide ((l__n : Int) > (100 : Int)))
  (Calls Try.prog 15 #[] w fun e w1 => ∃ r2 : Bool, e = .returned (.bool r2) ∧ 
  K (.bool r2) w1)
  (Calls Try.prog 18 #[.slice l__p l__n l__c] w fun e w3 => ∃ r4 : Bool, e = .returned (.bool r4) ∧ 
  cnd (!r4)
  (Calls Try.prog 15 #[] w3 fun e w5 => ∃ r6 : Bool, e = .returned (.bool r6) ∧ 
    K (.bool r6) w5)
  (Calls Try.prog 16 #[.slice l__p l__n l__c] w3 fun e w7 => ∃ r8_p : Option Addr, ∃ r8_n : Nat, ∃ r8_c : Nat, e = .returned (.slice r8_p r8_n r8_c) ∧ 
    cnd ((r8_n : Int) != (l__n : Int))
    (K (.bool false) w7)
    (∃ I9 : Int → Int → Int → World → Nat → Prop, (∃ k10, I9 0 0 0 w7 k10) ∧
      ∀ (free_12 : Int) (stay_13 : Int) (i_14 : Int) (w15 : World) (k10 : Nat) (_ : Fr), I9 free_12 stay_13 i_14 w15 k10 →
      cnd (decide (i_14 < (l__n : Int)))
        (ixK l__p l__n i_14 3 fun a16 =>
          ∃ x17 : Int, ∃ x18 : Int, ∃ x19 : Bool, CellsAt w15 a16 0 [.int .i64 x17, .int .i64 x18, .bool x19] ∧ 
          Calls Try.prog 22 #[.agg #[.int .i64 x17, .int .i64 x18, .bool x19]] w15 fun e w20 => ∃ r21 : Bool, e = .returned (.bool r21) ∧ 
          cnd r21
          (ixK r8_p r8_n i_14 1 fun a22 =>
            ∃ x23 : Bool, w20.cell? a22 = some (.bool x23) ∧ 
            cnd (!x23)
            (K (.bool false) w20)
            (∃ k11, k11 < k10 ∧ I9 free_12 stay_13 (IntKind.i64.wrap (i_14 + (1 : Int))) w20 k11))
          (ixK r8_p r8_n i_14 1 fun a24 =>
            ∃ x25 : Bool, w20.cell? a24 = some (.bool x25) ∧ 
            cnd x25
            (∃ I26 : Int → World → Nat → Prop, (∃ k27, I26 0 w20 k27) ∧
              ∀ (j_29 : Int) (w30 : World) (k27 : Nat) (_ : Fr), I26 j_29 w30 k27 →
              cnd (decide (j_29 < (l__n : Int)))
                (ixK l__p l__n j_29 3 fun a31 =>
                  ∃ x32 : Int, ∃ x33 : Int, ∃ x34 : Bool, CellsAt w30 a31 0 [.int .i64 x32, .int .i64 x33, .bool x34] ∧ 
                  Calls Try.prog 22 #[.agg #[.int .i64 x32, .int .i64 x33, .bool x34]] w30 fun e w35 => ∃ r36 : Bool, e = .returned (.bool r36) ∧ 
                  cnd (!r36)
                  (ixK r8_p r8_n i_14 1 fun a37 =>
                  ∃ x38 : Bool, w35.cell? a37 = some (.bool x38) ∧ 
                  cnd x38
                  (ixK r8_p r8_n j_29 1 fun a39 =>
                  ∃ x40 : Bool, w35.cell? a39 = some (.bool x40) ∧ 
                  cnd (!x40)
                  (Calls Try.prog 23 #[.slice l__p l__n l__c, .int .i64 j_29, .int .i64 i_14] w35 fun e w41 => ∃ r42 : Bool, e = .returned (.bool r42) ∧ 
                  cnd r42
                  (K (.bool false) w41)
                  (∃ k28, k28 < k27 ∧ I26 (IntKind.i64.wrap (j_29 + (1 : Int))) w41 k28))
                  (∃ k28, k28 < k27 ∧ I26 (IntKind.i64.wrap (j_29 + (1 : Int))) w35 k28))
                  (∃ k28, k28 < k27 ∧ I26 (IntKind.i64.wrap (j_29 + (1 : Int))) w35 k28))
                  (∃ k28, k28 < k27 ∧ I26 (IntKind.i64.wrap (j_29 + (1 : Int))) w35 k28))
                (∃ k11, k11 < k10 ∧ I9 (IntKind.i64.wrap (free_12 + (1 : Int))) (IntKind.i64.wrap (stay_13 + (1 : Int))) (IntKind.i64.wrap (i_14 + (1 : Int))) w30 k11))
            (∃ I43 : Int → World → Nat → Prop, (∃ k44, I43 0 w20 k44) ∧
              ∀ (j_46 : Int) (w47 : World) (k44 : Nat) (_ : Fr), I43 j_46 w47 k44 →
              cnd (decide (j_46 < (l__n : Int)))
                (ixK l__p l__n j_46 3 fun a48 =>
                  ∃ x49 : Int, ∃ x50 : Int, ∃ x51 : Bool, CellsAt w47 a48 0 [.int .i64 x49, .int .i64 x50, .bool x51] ∧ 
                  Calls Try.prog 22 #[.agg #[.int .i64 x49, .int .i64 x50, .bool x51]] w47 fun e w52 => ∃ r53 : Bool, e = .returned (.bool r53) ∧ 
                  cnd (!r53)
                  (ixK r8_p r8_n i_14 1 fun a54 =>
                  ∃ x55 : Bool, w52.cell? a54 = some (.bool x55) ∧ 
                  cnd x55
                  (ixK r8_p r8_n j_46 1 fun a56 =>
                  ∃ x57 : Bool, w52.cell? a56 = some (.bool x57) ∧ 
                  cnd (!x57)
                  (Calls Try.prog 23 #[.slice l__p l__n l__c, .int .i64 j_46, .int .i64 i_14] w52 fun e w58 => ∃ r59 : Bool, e = .returned (.bool r59) ∧ 
                  cnd r59
                  (K (.bool false) w58)
                  (∃ k45, k45 < k44 ∧ I43 (IntKind.i64.wrap (j_46 + (1 : Int))) w58 k45))
                  (∃ k45, k45 < k44 ∧ I43 (IntKind.i64.wrap (j_46 + (1 : Int))) w52 k45))
                  (∃ k45, k45 < k44 ∧ I43 (IntKind.i64.wrap (j_46 + (1 : Int))) w52 k45))
                  (∃ k45, k45 < k44 ∧ I43 (IntKind.i64.wrap (j_46 + (1 : Int))) w52 k45))
                (∃ k11, k11 < k10 ∧ I9 (IntKind.i64.wrap (free_12 + (1 : Int))) stay_13 (IntKind.i64.wrap (i_14 + (1 : Int))) w47 k11))))
        ((2 : Int) ≠ 0 ∧ cnd (stay_13 == (IntKind.i64.wrap (free_12.tdiv (2 : Int))))
          (Calls Try.prog 15 #[] w15 fun e w60 => ∃ r61 : Bool, e = .returned (.bool r61) ∧ 
          K (.bool r61) w60)
          (K (.bool false) w15)))))
theorem fathomlaw13_ReduceHalves.eq (l__p : Option Addr) (l__n : Nat) (l__c : Nat) (w : World) (K : Value → World → Prop) : wpF Try.prog Try.f4 (.two .leaf (.two .leaf (.two .leaf (.two .leaf (.two .leaf (.two (.two .leaf (.one (.loop [(4, 3), (5, 3), (6, 3)] (.two .leaf (.two (.one (.two .leaf (.two .leaf (.two .leaf (.two .leaf (.one (.loop [(7, 3)] .leaf))))))) .leaf))))) .leaf)))))) [.slice l__p l__n l__c] w K = fathomlaw13_ReduceHalves.w l__p l__n l__c w K := by kernel_rfl
theorem fathomlaw13_ReduceHalves.ok : fnOk Try.prog Try.f4 1 = true := by kernel_rfl
theorem fathomlaw13_ReduceHalves.calls {l__p : Option Addr} {l__n : Nat} {l__c : Nat} {w : World} {R : Ending → World → Prop} (h : fathomlaw13_ReduceHalves.w l__p l__n l__c w fun v w' => R (.returned v) w') : Calls Try.prog 4 #[.slice l__p l__n l__c] w R :=
  calls_of mixed Try.func4 fathomlaw13_ReduceHalves.ok rfl (fun K => fathomlaw13_ReduceHalves.eq l__p l__n l__c w K) h

/-! ### fathom/fathomlaw13.ReduceQuotas: function 5 (named slots 8) -/
def fathomlaw13_ReduceQuotas.w (first_ : Int) (times_ : Int) (learnt_ : Int) (w : World) (K : Value → World → Prop) : Prop :=
  Calls Try.prog 24 #[.int .i64 first_, .int .i64 times_] w fun e w1 => ∃ r2 : Int, e = .returned (.int .i64 r2) ∧ 
  cnd (decide (first_ < (1 : Int)))
  (cnd (r2 == (0 : Int))
  (Calls Try.prog 25 #[.int .i64 learnt_, .int .i64 first_, .int .i64 times_] w1 fun e w3 => ∃ r4 : Bool, e = .returned (.bool r4) ∧ 
  cnd (!r4)
  (Calls Try.prog 15 #[] w3 fun e w5 => ∃ r6 : Bool, e = .returned (.bool r6) ∧ 
  K (.bool r6) w5)
  (K (.bool false) w3))
  (K (.bool false) w1))
  (cnd (decide (first_ > (1048576 : Int)))
  (cnd (r2 == (0 : Int))
  (Calls Try.prog 25 #[.int .i64 learnt_, .int .i64 first_, .int .i64 times_] w1 fun e w7 => ∃ r8 : Bool, e = .returned (.bool r8) ∧ 
  cnd (!r8)
  (Calls Try.prog 15 #[] w7 fun e w9 => ∃ r10 : Bool, e = .returned (.bool r10) ∧ 
  K (.bool r10) w9)
  (K (.bool false) w7))
  (K (.bool false) w1))
  (cnd (decide (times_ < (0 : Int)))
  (cnd (r2 == (0 : Int))
  (Calls Try.prog 25 #[.int .i64 learnt_, .int .i64 first_, .int .i64 times_] w1 fun e w11 => ∃ r12 : Bool, e = .returned (.bool r12) ∧ 
  cnd (!r12)
  (Calls Try.prog 15 #[] w11 fun e w13 => ∃ r14 : Bool, e = .returned (.bool r14) ∧ 
  K (.bool r14) w13)
  (K (.bool false) w11))
  (K (.bool false) w1))
  (cnd (decide (times_ > (100 : Int)))
  (cnd (r2 == (0 : Int))
    (Calls Try.prog 25 #[.int .i64 learnt_, .int .i64 first_, .int .i64 times_] w1 fun e w15 => ∃ r16 : Bool, e = .returned (.bool r16) ∧ 
    cnd (!r16)
    (Calls Try.prog 15 #[] w15 fun e w17 => ∃ r18 : Bool, e = .returned (.bool r18) ∧ 
    K (.bool r18) w17)
    (K (.bool false) w15))
    (K (.bool false) w1))
  (Calls Try.prog 26 #[.int .i64 first_, .int .i64 times_] w1 fun e w19 => ∃ r20 : Int, e = .returned (.int .i64 r20) ∧ 
    cnd (r2 != r20)
    (K (.bool false) w19)
    (Calls Try.prog 25 #[.int .i64 learnt_, .int .i64 first_, .int .i64 times_] w19 fun e w21 => ∃ r22 : Bool, e = .returned (.bool r22) ∧ 
    cnd (!(r22 == (decide (learnt_ ≥ r2))))
    (K (.bool false) w21)
    (cnd (times_ == (100 : Int))
      (Calls Try.prog 15 #[] w21 fun e w23 => ∃ r24 : Bool, e = .returned (.bool r24) ∧ 
      K (.bool r24) w23)
      (Calls Try.prog 24 #[.int .i64 first_, .int .i64 (IntKind.i64.wrap (times_ + (1 : Int)))] w21 fun e w25 => ∃ r26 : Int, e = .returned (.int .i64 r26) ∧ 
      cnd (decide (r26 > r2))
      (Calls Try.prog 15 #[] w25 fun e w27 => ∃ r28 : Bool, e = .returned (.bool r28) ∧ 
      K (.bool r28) w27)
      (K (.bool false) w25))))))))
theorem fathomlaw13_ReduceQuotas.eq (first_ : Int) (times_ : Int) (learnt_ : Int) (w : World) (K : Value → World → Prop) : wpF Try.prog Try.f5 .leaf [.int .i64 first_, .int .i64 times_, .int .i64 learnt_] w K = fathomlaw13_ReduceQuotas.w first_ times_ learnt_ w K := by kernel_rfl
theorem fathomlaw13_ReduceQuotas.ok : fnOk Try.prog Try.f5 3 = true := by kernel_rfl
theorem fathomlaw13_ReduceQuotas.calls {first_ : Int} {times_ : Int} {learnt_ : Int} {w : World} {R : Ending → World → Prop} (h : fathomlaw13_ReduceQuotas.w first_ times_ learnt_ w fun v w' => R (.returned v) w') : Calls Try.prog 5 #[.int .i64 first_, .int .i64 times_, .int .i64 learnt_] w R :=
  calls_of mixed Try.func5 fathomlaw13_ReduceQuotas.ok rfl (fun K => fathomlaw13_ReduceQuotas.eq first_ times_ learnt_ w K) h

/-! ### fathom/fathomlaw13.awake: function 15 (named slots 2) -/
def fathomlaw13_awake.w (w : World) (K : Value → World → Prop) : Prop :=
  ∀ (n1 : Nat) (w2 : World), New (.cells #[.int .i64 3, .int .i64 4, .bool false, .int .i64 4, .int .i64 4, .bool false, .int .i64 5, .int .i64 9, .bool false] 35) w n1 w2 → 
  Calls Try.prog 16 #[.slice (some (Addr.mk n1 0 none)) 3 3] w2 fun e w3 => ∃ r4_p : Option Addr, ∃ r4_n : Nat, ∃ r4_c : Nat, e = .returned (.slice r4_p r4_n r4_c) ∧ 
  cnd ((r4_n : Int) == (3 : Int))
  (ixK r4_p r4_n 0 1 fun a5 =>
  ∃ x6 : Bool, w3.cell? a5 = some (.bool x6) ∧ 
  cnd x6
  (ixK r4_p r4_n 1 1 fun a7 =>
  ∃ x8 : Bool, w3.cell? a7 = some (.bool x8) ∧ 
  cnd (!x8)
  (ixK r4_p r4_n 2 1 fun a9 =>
  ∃ x10 : Bool, w3.cell? a9 = some (.bool x10) ∧ 
  cnd (!x10)
  (Calls Try.prog 24 #[.int .i64 10, .int .i64 1] w3 fun e w11 => ∃ r12 : Int, e = .returned (.int .i64 r12) ∧ 
  K (.bool (r12 == (12 : Int))) w11)
  (K (.bool false) w3))
  (K (.bool false) w3))
  (K (.bool false) w3))
  (K (.bool false) w3)
theorem fathomlaw13_awake.eq (w : World) (K : Value → World → Prop) : wpF Try.prog Try.f15 .leaf [] w K = fathomlaw13_awake.w  w K := by kernel_rfl
theorem fathomlaw13_awake.ok : fnOk Try.prog Try.f15 0 = true := by kernel_rfl
theorem fathomlaw13_awake.calls {w : World} {R : Ending → World → Prop} (h : fathomlaw13_awake.w  w fun v w' => R (.returned v) w') : Calls Try.prog 15 #[] w R :=
  calls_of mixed Try.func15 fathomlaw13_awake.ok rfl (fun K => fathomlaw13_awake.eq  w K) h

/-! ### fathom/reduce.Keep: function 16 (named slots 10) -/
def reduce_Keep.w (l__p : Option Addr) (l__n : Nat) (l__c : Nat) (w : World) (K : Value → World → Prop) : Prop :=
  Calls Try.prog 19 #[.slice l__p l__n l__c] w fun e w1 => ∃ r2 : Int, e = .returned (.int .i64 r2) ∧ 
  cnd (r2 != (0 : Int))
  (K (.slice none 0 0) w1)
  (∃ w3 : World, ∃ r4_p : Option Addr, ∃ r4_n : Nat, ∃ r4_c : Nat, (Instr.makeSlice 24 (.int .i64 (l__n : Int)) (.int .i64 (l__n : Int))).run Try.prog w1 = .ok (.slice r4_p r4_n r4_c) w3 ∧ 
    ∃ I5 : Int → Int → World → Nat → Prop, (∃ k6, I5 0 0 w3 k6) ∧
    ∀ (free_8 : Int) (v9 : Int) (w10 : World) (k6 : Nat) (_ : Fr), I5 free_8 v9 w10 k6 →
    cnd (decide (v9 < (l__n : Int)))
      (ixK l__p l__n v9 3 fun a11 =>
        ∃ x12 : Int, ∃ x13 : Int, ∃ x14 : Bool, CellsAt w10 a11 0 [.int .i64 x12, .int .i64 x13, .bool x14] ∧ 
        ∀ (n15 : Nat) (w16 : World), New (.cells #[.int .i64 0, .int .i64 0, .bool false] 35) w10 n15 w16 → 
        ∃ w17 : World, StoreAt (Addr.mk n15 0 none) 0 [.int .i64 x12, .int .i64 x13, .bool x14] w16 w17 ∧ 
        ∃ x18 : Int, ∃ x19 : Int, ∃ x20 : Bool, CellsAt w17 (Addr.mk n15 0 none) 0 [.int .i64 x18, .int .i64 x19, .bool x20] ∧ 
        Calls Try.prog 64 #[.agg #[.int .i64 x18, .int .i64 x19, .bool x20]] w17 fun e w21 => ∃ r22 : Bool, e = .returned (.bool r22) ∧ 
        ixK r4_p r4_n v9 1 fun a23 =>
        ∃ w24 : World, StoreAt a23 0 [.bool r22] w21 w24 ∧ 
        ixK r4_p r4_n v9 1 fun a25 =>
        ∃ x26 : Bool, w24.cell? a25 = some (.bool x26) ∧ 
        cnd (!x26)
        (∃ k7, k7 < k6 ∧ I5 (IntKind.i64.wrap (free_8 + (1 : Int))) (IntKind.i64.wrap (v9 + (1 : Int))) w24 k7)
        (∃ k7, k7 < k6 ∧ I5 free_8 (IntKind.i64.wrap (v9 + (1 : Int))) w24 k7))
      ((2 : Int) ≠ 0 ∧ Calls Try.prog 17 #[.slice l__p l__n l__c] w10 fun e w27 => ∃ r28_p : Option Addr, ∃ r28_n : Nat, ∃ r28_c : Nat, e = .returned (.slice r28_p r28_n r28_c) ∧ 
        ∃ I29 : Int → Int → World → Nat → Prop, (∃ k30, I29 (IntKind.i64.wrap (free_8.tdiv (2 : Int))) 0 w27 k30) ∧
        ∀ (left_32 : Int) (v33 : Int) (w34 : World) (k30 : Nat) (_ : Fr), I29 left_32 v33 w34 k30 →
        cnd (decide (v33 < (r28_n : Int)))
          (ixK r28_p r28_n v33 1 fun a35 =>
            ∃ x36 : Int, w34.cell? a35 = some (.int .i64 x36) ∧ 
            ixK r4_p r4_n x36 1 fun a37 =>
            ∃ x38 : Bool, w34.cell? a37 = some (.bool x38) ∧ 
            cnd (!x38)
            (cnd (decide (left_32 > (0 : Int)))
            (ixK r4_p r4_n x36 1 fun a39 =>
              ∃ w40 : World, StoreAt a39 0 [.bool true] w34 w40 ∧ 
              ∃ k31, k31 < k30 ∧ I29 (IntKind.i64.wrap (left_32 - (1 : Int))) (IntKind.i64.wrap (v33 + (1 : Int))) w40 k31)
            (∃ k31, k31 < k30 ∧ I29 left_32 (IntKind.i64.wrap (v33 + (1 : Int))) w34 k31))
            (∃ k31, k31 < k30 ∧ I29 left_32 (IntKind.i64.wrap (v33 + (1 : Int))) w34 k31))
          (K (.slice r4_p r4_n r4_c) w34)))
theorem reduce_Keep.eq (l__p : Option Addr) (l__n : Nat) (l__c : Nat) (w : World) (K : Value → World → Prop) : wpF Try.prog Try.f16 (.two .leaf (.two .leaf (.two .leaf (.two .leaf (.two (.two .leaf (.one (.loop [(4, 3), (18, 3)] .leaf))) (.two .leaf (.two (.two .leaf (.one (.loop [(7, 3), (41, 3)] .leaf))) .leaf))))))) [.slice l__p l__n l__c] w K = reduce_Keep.w l__p l__n l__c w K := by kernel_rfl
theorem reduce_Keep.ok : fnOk Try.prog Try.f16 1 = true := by kernel_rfl
theorem reduce_Keep.calls {l__p : Option Addr} {l__n : Nat} {l__c : Nat} {w : World} {R : Ending → World → Prop} (h : reduce_Keep.w l__p l__n l__c w fun v w' => R (.returned v) w') : Calls Try.prog 16 #[.slice l__p l__n l__c] w R :=
  calls_of mixed Try.func16 reduce_Keep.ok rfl (fun K => reduce_Keep.eq l__p l__n l__c w K) h

/-! ### fathom/reduce.Order: function 17 (named slots 5) -/
def reduce_Order.w (l__p : Option Addr) (l__n : Nat) (l__c : Nat) (w : World) (K : Value → World → Prop) : Prop :=
  ∀ (n1 : Nat) (w2 : World), New (.cells #[.slice l__p l__n l__c] 22) w n1 w2 → 
  ∃ x3_p : Option Addr, ∃ x3_n : Nat, ∃ x3_c : Nat, w2.cell? (Addr.mk n1 0 none) = some (.slice x3_p x3_n x3_c) ∧ 
  Calls Try.prog 19 #[.slice x3_p x3_n x3_c] w2 fun e w4 => ∃ r5 : Int, e = .returned (.int .i64 r5) ∧ 
  cnd (r5 != (0 : Int))
  (K (.slice none 0 0) w4)
  (∃ x6_p : Option Addr, ∃ x6_n : Nat, ∃ x6_c : Nat, w4.cell? (Addr.mk n1 0 none) = some (.slice x6_p x6_n x6_c) ∧ 
    ∃ w7 : World, ∃ r8_p : Option Addr, ∃ r8_n : Nat, ∃ r8_c : Nat, (Instr.makeSlice 26 (.int .i64 (x6_n : Int)) (.int .i64 (x6_n : Int))).run Try.prog w4 = .ok (.slice r8_p r8_n r8_c) w7 ∧ 
    ∃ x9_p : Option Addr, ∃ x9_n : Nat, ∃ x9_c : Nat, w7.cell? (Addr.mk n1 0 none) = some (.slice x9_p x9_n x9_c) ∧ 
    ∃ I10 : Int → World → Nat → Prop, (∃ k11, I10 0 w7 k11) ∧
    ∀ (v13 : Int) (w14 : World) (k11 : Nat) (_ : Fr), I10 v13 w14 k11 →
    cnd (decide (v13 < (x9_n : Int)))
      (ixK r8_p r8_n v13 1 fun a15 =>
        ∃ w16 : World, StoreAt a15 0 [.int .i64 v13] w14 w16 ∧ 
        ∃ k12, k12 < k11 ∧ I10 (IntKind.i64.wrap (v13 + (1 : Int))) w16 k12)
      (Calls Try.prog 65 #[.slice r8_p r8_n r8_c, .func (.func 66) #[] #[.pointer (some (Addr.mk n1 0 none))]] w14 fun e w17 => e = .returned (.tuple #[]) ∧ 
        K (.slice r8_p r8_n r8_c) w17))
theorem reduce_Order.eq (l__p : Option Addr) (l__n : Nat) (l__c : Nat) (w : World) (K : Value → World → Prop) : wpF Try.prog Try.f17 (.two .leaf (.two .leaf (.two .leaf (.two (.two .leaf (.one (.loop [(13, 3)] .leaf))) .leaf)))) [.slice l__p l__n l__c] w K = reduce_Order.w l__p l__n l__c w K := by kernel_rfl
theorem reduce_Order.ok : fnOk Try.prog Try.f17 1 = true := by kernel_rfl
theorem reduce_Order.calls {l__p : Option Addr} {l__n : Nat} {l__c : Nat} {w : World} {R : Ending → World → Prop} (h : reduce_Order.w l__p l__n l__c w fun v w' => R (.returned v) w') : Calls Try.prog 17 #[.slice l__p l__n l__c] w R :=
  calls_of mixed Try.func17 reduce_Order.ok rfl (fun K => reduce_Order.eq l__p l__n l__c w K) h

/-! ### fathom/fathomref13.May: function 18 (named slots 4) -/
def fathomref13_May.w (l__p : Option Addr) (l__n : Nat) (l__c : Nat) (w : World) (K : Value → World → Prop) : Prop :=
  ∃ I1 : Int → World → Nat → Prop, (∃ k2, I1 0 w k2) ∧
  ∀ (i_4 : Int) (w5 : World) (k2 : Nat) (_ : Fr), I1 i_4 w5 k2 →
  cnd (decide (i_4 < (l__n : Int)))
    (ixK l__p l__n i_4 3 fun a6 =>
      ∃ x7 : Int, w5.drew.cell? (a6.add 1) = some (.int .i64 x7) ∧ 
      cnd (decide (x7 < (0 : Int)))
      (K (.bool false) w5.drew)
      (ixK l__p l__n i_4 3 fun a8 =>
      ∃ x9 : Int, w5.drew.cell? (a8.add 1) = some (.int .i64 x9) ∧ 
      cnd (decide (x9 > (4096 : Int)))
      (K (.bool false) w5.drew)
      (ixK l__p l__n i_4 3 fun a10 =>
      ∃ x11 : Int, w5.drew.cell? (a10.add 0) = some (.int .i64 x11) ∧ 
      cnd (decide (x11 < (0 : Int)))
      (K (.bool false) w5.drew)
      (ixK l__p l__n i_4 3 fun a12 =>
      ∃ x13 : Int, w5.drew.cell? (a12.add 0) = some (.int .i64 x13) ∧ 
      ixK l__p l__n i_4 3 fun a14 =>
      ∃ x15 : Int, w5.drew.cell? (a14.add 1) = some (.int .i64 x15) ∧ 
      cnd (decide (x13 > x15))
      (K (.bool false) w5.drew)
      (∃ k3, k3 < k2 ∧ I1 (IntKind.i64.wrap (i_4 + (1 : Int))) w5.drew k3)))))
    (K (.bool true) w5)
theorem fathomref13_May.eq (l__p : Option Addr) (l__n : Nat) (l__c : Nat) (w : World) (K : Value → World → Prop) : wpF Try.prog Try.f18 (.two .leaf (.two (.two .leaf (.one (.loop [(3, 3)] .leaf))) .leaf)) [.slice l__p l__n l__c] w K = fathomref13_May.w l__p l__n l__c w K := by kernel_rfl
theorem fathomref13_May.ok : fnOk Try.prog Try.f18 1 = true := by kernel_rfl
theorem fathomref13_May.calls {l__p : Option Addr} {l__n : Nat} {l__c : Nat} {w : World} {R : Ending → World → Prop} (h : fathomref13_May.w l__p l__n l__c w fun v w' => R (.returned v) w') : Calls Try.prog 18 #[.slice l__p l__n l__c] w R :=
  calls_of mixed Try.func18 fathomref13_May.ok rfl (fun K => fathomref13_May.eq l__p l__n l__c w K) h

/-! ### fathom/reduce.Check: function 19 (named slots 5) -/
def reduce_Check.w (l__p : Option Addr) (l__n : Nat) (l__c : Nat) (w : World) (K : Value → World → Prop) : Prop :=
  ∃ I1 : Int → World → Nat → Prop, (∃ k2, I1 0 w k2) ∧
  ∀ (v4 : Int) (w5 : World) (k2 : Nat) (_ : Fr), I1 v4 w5 k2 →
  cnd (decide (v4 < (l__n : Int)))
    (ixK l__p l__n v4 3 fun a6 =>
      ∃ x7 : Int, ∃ x8 : Int, ∃ x9 : Bool, CellsAt w5 a6 0 [.int .i64 x7, .int .i64 x8, .bool x9] ∧ 
      ∀ (n10 : Nat) (w11 : World), New (.cells #[.int .i64 0, .int .i64 0, .bool false] 35) w5 n10 w11 → 
      ∃ w12 : World, StoreAt (Addr.mk n10 0 none) 0 [.int .i64 x7, .int .i64 x8, .bool x9] w11 w12 ∧ 
      ∃ x13 : Int, w12.cell? ((Addr.mk n10 0 none).add 1) = some (.int .i64 x13) ∧ 
      cnd (decide (x13 < (0 : Int)))
      (K (.int .i64 1) w12)
      (∃ x14 : Int, w12.cell? ((Addr.mk n10 0 none).add 1) = some (.int .i64 x14) ∧ 
      cnd (decide (x14 > (4096 : Int)))
      (K (.int .i64 1) w12)
      (∃ x15 : Int, w12.cell? ((Addr.mk n10 0 none).add 0) = some (.int .i64 x15) ∧ 
      cnd (decide (x15 < (0 : Int)))
      (K (.int .i64 1) w12)
      (∃ x16 : Int, w12.cell? ((Addr.mk n10 0 none).add 0) = some (.int .i64 x16) ∧ 
      ∃ x17 : Int, w12.cell? ((Addr.mk n10 0 none).add 1) = some (.int .i64 x17) ∧ 
      cnd (decide (x16 > x17))
      (K (.int .i64 1) w12)
      (∃ k3, k3 < k2 ∧ I1 (IntKind.i64.wrap (v4 + (1 : Int))) w12 k3)))))
    (K (.int .i64 0) w5)
theorem reduce_Check.eq (l__p : Option Addr) (l__n : Nat) (l__c : Nat) (w : World) (K : Value → World → Prop) : wpF Try.prog Try.f19 (.two .leaf (.two (.two .leaf (.one (.loop [(7, 3)] .leaf))) .leaf)) [.slice l__p l__n l__c] w K = reduce_Check.w l__p l__n l__c w K := by kernel_rfl
theorem reduce_Check.ok : fnOk Try.prog Try.f19 1 = true := by kernel_rfl
theorem reduce_Check.calls {l__p : Option Addr} {l__n : Nat} {l__c : Nat} {w : World} {R : Ending → World → Prop} (h : reduce_Check.w l__p l__n l__c w fun v w' => R (.returned v) w') : Calls Try.prog 19 #[.slice l__p l__n l__c] w R :=
  calls_of mixed Try.func19 reduce_Check.ok rfl (fun K => reduce_Check.eq l__p l__n l__c w K) h

/-! ### fathom/fathomref13.Keep: function 20 (named slots 7) -/
def fathomref13_Keep.w (l__p : Option Addr) (l__n : Nat) (l__c : Nat) (at_ : Int) (w : World) (K : Value → World → Prop) : Prop :=
  ∃ I1 : Int → Int → World → Nat → Prop, (∃ k2, I1 0 0 w k2) ∧
  ∀ (free_4 : Int) (i_5 : Int) (w6 : World) (k2 : Nat) (_ : Fr), I1 free_4 i_5 w6 k2 →
  cnd (decide (i_5 < (l__n : Int)))
    (ixK l__p l__n i_5 3 fun a7 =>
      ∃ x8 : Int, ∃ x9 : Int, ∃ x10 : Bool, CellsAt w6 a7 0 [.int .i64 x8, .int .i64 x9, .bool x10] ∧ 
      Calls Try.prog 22 #[.agg #[.int .i64 x8, .int .i64 x9, .bool x10]] w6 fun e w11 => ∃ r12 : Bool, e = .returned (.bool r12) ∧ 
      cnd (!r12)
      (∃ k3, k3 < k2 ∧ I1 (IntKind.i64.wrap (free_4 + (1 : Int))) (IntKind.i64.wrap (i_5 + (1 : Int))) w11 k3)
      (∃ k3, k3 < k2 ∧ I1 free_4 (IntKind.i64.wrap (i_5 + (1 : Int))) w11 k3))
    (ixK l__p l__n at_ 3 fun a13 =>
      ∃ x14 : Int, ∃ x15 : Int, ∃ x16 : Bool, CellsAt w6 a13 0 [.int .i64 x14, .int .i64 x15, .bool x16] ∧ 
      Calls Try.prog 22 #[.agg #[.int .i64 x14, .int .i64 x15, .bool x16]] w6 fun e w17 => ∃ r18 : Bool, e = .returned (.bool r18) ∧ 
      cnd r18
      (K (.bool true) w17)
      (Calls Try.prog 21 #[.slice l__p l__n l__c, .int .i64 at_, .bool false] w17 fun e w19 => ∃ r20 : Int, e = .returned (.int .i64 r20) ∧ 
      (2 : Int) ≠ 0 ∧ K (.bool (decide (r20 < (IntKind.i64.wrap (free_4.tdiv (2 : Int)))))) w19))
theorem fathomref13_Keep.eq (l__p : Option Addr) (l__n : Nat) (l__c : Nat) (at_ : Int) (w : World) (K : Value → World → Prop) : wpF Try.prog Try.f20 (.two .leaf (.two .leaf (.two (.two .leaf (.one (.loop [(5, 3), (6, 3)] .leaf))) .leaf))) [.slice l__p l__n l__c, .int .i64 at_] w K = fathomref13_Keep.w l__p l__n l__c at_ w K := by kernel_rfl
theorem fathomref13_Keep.ok : fnOk Try.prog Try.f20 2 = true := by kernel_rfl
theorem fathomref13_Keep.calls {l__p : Option Addr} {l__n : Nat} {l__c : Nat} {at_ : Int} {w : World} {R : Ending → World → Prop} (h : fathomref13_Keep.w l__p l__n l__c at_ w fun v w' => R (.returned v) w') : Calls Try.prog 20 #[.slice l__p l__n l__c, .int .i64 at_] w R :=
  calls_of mixed Try.func20 fathomref13_Keep.ok rfl (fun K => fathomref13_Keep.eq l__p l__n l__c at_ w K) h

/-! ### fathom/fathomref13.Rank: function 21 (named slots 9) -/
def fathomref13_Rank.w (l__p : Option Addr) (l__n : Nat) (l__c : Nat) (at_ : Int) (all_ : Bool) (w : World) (K : Value → World → Prop) : Prop :=
  ∃ I1 : Int → Int → World → Nat → Prop, (∃ k2, I1 0 0 w k2) ∧
  ∀ (n_4 : Int) (i_5 : Int) (w6 : World) (k2 : Nat) (_ : Fr), I1 n_4 i_5 w6 k2 →
  cnd (decide (i_5 < (l__n : Int)))
    (cnd (i_5 != at_)
      (cnd all_
      (Calls Try.prog 23 #[.slice l__p l__n l__c, .int .i64 i_5, .int .i64 at_] w6 fun e w7 => ∃ r8 : Bool, e = .returned (.bool r8) ∧ 
      cnd r8
      (∃ k3, k3 < k2 ∧ I1 (IntKind.i64.wrap (n_4 + (1 : Int))) (IntKind.i64.wrap (i_5 + (1 : Int))) w7 k3)
      (∃ k3, k3 < k2 ∧ I1 n_4 (IntKind.i64.wrap (i_5 + (1 : Int))) w7 k3))
      (ixK l__p l__n i_5 3 fun a9 =>
      ∃ x10 : Int, ∃ x11 : Int, ∃ x12 : Bool, CellsAt w6 a9 0 [.int .i64 x10, .int .i64 x11, .bool x12] ∧ 
      Calls Try.prog 22 #[.agg #[.int .i64 x10, .int .i64 x11, .bool x12]] w6 fun e w13 => ∃ r14 : Bool, e = .returned (.bool r14) ∧ 
      cnd (!r14)
      (Calls Try.prog 23 #[.slice l__p l__n l__c, .int .i64 i_5, .int .i64 at_] w13 fun e w15 => ∃ r16 : Bool, e = .returned (.bool r16) ∧ 
      cnd r16
      (∃ k3, k3 < k2 ∧ I1 (IntKind.i64.wrap (n_4 + (1 : Int))) (IntKind.i64.wrap (i_5 + (1 : Int))) w15 k3)
      (∃ k3, k3 < k2 ∧ I1 n_4 (IntKind.i64.wrap (i_5 + (1 : Int))) w15 k3))
      (∃ k3, k3 < k2 ∧ I1 n_4 (IntKind.i64.wrap (i_5 + (1 : Int))) w13 k3)))
      (∃ k3, k3 < k2 ∧ I1 n_4 (IntKind.i64.wrap (i_5 + (1 : Int))) w6 k3))
    (K (.int .i64 n_4) w6)
theorem fathomref13_Rank.eq (l__p : Option Addr) (l__n : Nat) (l__c : Nat) (at_ : Int) (all_ : Bool) (w : World) (K : Value → World → Prop) : wpF Try.prog Try.f21 (.two .leaf (.two .leaf (.two (.two .leaf (.one (.loop [(7, 3), (8, 3)] .leaf))) .leaf))) [.slice l__p l__n l__c, .int .i64 at_, .bool all_] w K = fathomref13_Rank.w l__p l__n l__c at_ all_ w K := by kernel_rfl
theorem fathomref13_Rank.ok : fnOk Try.prog Try.f21 3 = true := by kernel_rfl
theorem fathomref13_Rank.calls {l__p : Option Addr} {l__n : Nat} {l__c : Nat} {at_ : Int} {all_ : Bool} {w : World} {R : Ending → World → Prop} (h : fathomref13_Rank.w l__p l__n l__c at_ all_ w fun v w' => R (.returned v) w') : Calls Try.prog 21 #[.slice l__p l__n l__c, .int .i64 at_, .bool all_] w R :=
  calls_of mixed Try.func21 fathomref13_Rank.ok rfl (fun K => fathomref13_Rank.eq l__p l__n l__c at_ all_ w K) h

/-! ### fathom/fathomref13.Must: function 22 (named slots 3) -/
def fathomref13_Must.w (c_0 : Int) (c_1 : Int) (c_2 : Bool) (w : World) (K : Value → World → Prop) : Prop :=
  ∀ (n1 : Nat) (w2 : World), New (.cells #[.int .i64 c_0, .int .i64 c_1, .bool c_2] 35) w n1 w2 → 
  ∃ x3 : Bool, w2.cell? ((Addr.mk n1 0 none).add 2) = some (.bool x3) ∧ 
  cnd x3
  (K (.bool true) w2)
  (∃ x4 : Int, w2.cell? ((Addr.mk n1 0 none).add 0) = some (.int .i64 x4) ∧ 
  K (.bool (decide (x4 ≤ (2 : Int)))) w2)
theorem fathomref13_Must.eq (c_0 : Int) (c_1 : Int) (c_2 : Bool) (w : World) (K : Value → World → Prop) : wpF Try.prog Try.f22 .leaf [.agg #[.int .i64 c_0, .int .i64 c_1, .bool c_2]] w K = fathomref13_Must.w c_0 c_1 c_2 w K := by kernel_rfl
theorem fathomref13_Must.ok : fnOk Try.prog Try.f22 1 = true := by kernel_rfl
theorem fathomref13_Must.calls {c_0 : Int} {c_1 : Int} {c_2 : Bool} {w : World} {R : Ending → World → Prop} (h : fathomref13_Must.w c_0 c_1 c_2 w fun v w' => R (.returned v) w') : Calls Try.prog 22 #[.agg #[.int .i64 c_0, .int .i64 c_1, .bool c_2]] w R :=
  calls_of mixed Try.func22 fathomref13_Must.ok rfl (fun K => fathomref13_Must.eq c_0 c_1 c_2 w K) h

/-! ### fathom/fathomref13.Better: function 23 (named slots 7) -/
def fathomref13_Better.w (l__p : Option Addr) (l__n : Nat) (l__c : Nat) (a_ : Int) (b_ : Int) (w : World) (K : Value → World → Prop) : Prop :=
  ixK l__p l__n a_ 3 fun a1 =>
  ∃ x2 : Int, w.drew.cell? (a1.add 0) = some (.int .i64 x2) ∧ 
  ixK l__p l__n b_ 3 fun a3 =>
  ∃ x4 : Int, w.drew.cell? (a3.add 0) = some (.int .i64 x4) ∧ 
  cnd (x2 != x4)
  (ixK l__p l__n a_ 3 fun a5 =>
    ∃ x6 : Int, w.drew.drew.cell? (a5.add 0) = some (.int .i64 x6) ∧ 
    ixK l__p l__n b_ 3 fun a7 =>
    ∃ x8 : Int, w.drew.drew.cell? (a7.add 0) = some (.int .i64 x8) ∧ 
    K (.bool (decide (x6 < x8))) w.drew.drew)
  (ixK l__p l__n a_ 3 fun a9 =>
    ∃ x10 : Int, w.drew.drew.cell? (a9.add 1) = some (.int .i64 x10) ∧ 
    ixK l__p l__n b_ 3 fun a11 =>
    ∃ x12 : Int, w.drew.drew.cell? (a11.add 1) = some (.int .i64 x12) ∧ 
    cnd (x10 != x12)
    (ixK l__p l__n a_ 3 fun a13 =>
      ∃ x14 : Int, w.drew.drew.drew.cell? (a13.add 1) = some (.int .i64 x14) ∧ 
      ixK l__p l__n b_ 3 fun a15 =>
      ∃ x16 : Int, w.drew.drew.drew.cell? (a15.add 1) = some (.int .i64 x16) ∧ 
      K (.bool (decide (x14 < x16))) w.drew.drew.drew)
    (K (.bool (decide (a_ > b_))) w.drew.drew))
theorem fathomref13_Better.eq (l__p : Option Addr) (l__n : Nat) (l__c : Nat) (a_ : Int) (b_ : Int) (w : World) (K : Value → World → Prop) : wpF Try.prog Try.f23 .leaf [.slice l__p l__n l__c, .int .i64 a_, .int .i64 b_] w K = fathomref13_Better.w l__p l__n l__c a_ b_ w K := by kernel_rfl
theorem fathomref13_Better.ok : fnOk Try.prog Try.f23 3 = true := by kernel_rfl
theorem fathomref13_Better.calls {l__p : Option Addr} {l__n : Nat} {l__c : Nat} {a_ : Int} {b_ : Int} {w : World} {R : Ending → World → Prop} (h : fathomref13_Better.w l__p l__n l__c a_ b_ w fun v w' => R (.returned v) w') : Calls Try.prog 23 #[.slice l__p l__n l__c, .int .i64 a_, .int .i64 b_] w R :=
  calls_of mixed Try.func23 fathomref13_Better.ok rfl (fun K => fathomref13_Better.eq l__p l__n l__c a_ b_ w K) h

/-! ### fathom/reduce.Quota: function 24 (named slots 6) -/
def reduce_Quota.w (first_ : Int) (times_ : Int) (w : World) (K : Value → World → Prop) : Prop :=
  cnd (decide (first_ < (1 : Int)))
  (K (.int .i64 0) w)
  (cnd (decide (first_ > (1048576 : Int)))
  (K (.int .i64 0) w)
  (cnd (decide (times_ < (0 : Int)))
  (K (.int .i64 0) w)
  (cnd (decide (times_ > (100 : Int)))
  (K (.int .i64 0) w)
  (∃ I1 : Int → Int → World → Nat → Prop, (∃ k2, I1 first_ 0 w k2) ∧
    ∀ (n_4 : Int) (v5 : Int) (w6 : World) (k2 : Nat) (_ : Fr), I1 n_4 v5 w6 k2 →
    cnd (decide (v5 < times_))
      ((10 : Int) ≠ 0 ∧ ∃ k3, k3 < k2 ∧ I1 (IntKind.i64.wrap (n_4 + (IntKind.i64.wrap ((IntKind.i64.wrap (n_4.tdiv (10 : Int))) + (1 : Int))))) (IntKind.i64.wrap (v5 + (1 : Int))) w6 k3)
      (K (.int .i64 n_4) w6)))))
theorem reduce_Quota.eq (first_ : Int) (times_ : Int) (w : World) (K : Value → World → Prop) : wpF Try.prog Try.f24 (.two .leaf (.two .leaf (.two .leaf (.two (.two .leaf (.one (.loop [(5, 3), (22, 3)] .leaf))) .leaf)))) [.int .i64 first_, .int .i64 times_] w K = reduce_Quota.w first_ times_ w K := by kernel_rfl
theorem reduce_Quota.ok : fnOk Try.prog Try.f24 2 = true := by kernel_rfl
theorem reduce_Quota.calls {first_ : Int} {times_ : Int} {w : World} {R : Ending → World → Prop} (h : reduce_Quota.w first_ times_ w fun v w' => R (.returned v) w') : Calls Try.prog 24 #[.int .i64 first_, .int .i64 times_] w R :=
  calls_of mixed Try.func24 reduce_Quota.ok rfl (fun K => reduce_Quota.eq first_ times_ w K) h

/-! ### fathom/reduce.Due: function 25 (named slots 8) -/
def reduce_Due.w (learnt_ : Int) (first_ : Int) (times_ : Int) (w : World) (K : Value → World → Prop) : Prop :=
  Calls Try.prog 24 #[.int .i64 first_, .int .i64 times_] w fun e w1 => ∃ r2 : Int, e = .returned (.int .i64 r2) ∧ 
  cnd (decide (r2 > (0 : Int)))
  (K (.bool (decide (learnt_ ≥ r2))) w1)
  (K (.bool false) w1)
theorem reduce_Due.eq (learnt_ : Int) (first_ : Int) (times_ : Int) (w : World) (K : Value → World → Prop) : wpF Try.prog Try.f25 .leaf [.int .i64 learnt_, .int .i64 first_, .int .i64 times_] w K = reduce_Due.w learnt_ first_ times_ w K := by kernel_rfl
theorem reduce_Due.ok : fnOk Try.prog Try.f25 3 = true := by kernel_rfl
theorem reduce_Due.calls {learnt_ : Int} {first_ : Int} {times_ : Int} {w : World} {R : Ending → World → Prop} (h : reduce_Due.w learnt_ first_ times_ w fun v w' => R (.returned v) w') : Calls Try.prog 25 #[.int .i64 learnt_, .int .i64 first_, .int .i64 times_] w R :=
  calls_of mixed Try.func25 reduce_Due.ok rfl (fun K => reduce_Due.eq learnt_ first_ times_ w K) h

/-! ### fathom/fathomref13.Quota: function 26 (named slots 6) -/
def fathomref13_Quota.w (first_ : Int) (times_ : Int) (w : World) (K : Value → World → Prop) : Prop :=
  cnd (times_ == (0 : Int))
  (K (.int .i64 first_) w)
  (Calls Try.prog 26 #[.int .i64 first_, .int .i64 (IntKind.i64.wrap (times_ - (1 : Int)))] w fun e w1 => ∃ r2 : Int, e = .returned (.int .i64 r2) ∧ 
    (10 : Int) ≠ 0 ∧ K (.int .i64 (IntKind.i64.wrap ((IntKind.i64.wrap (r2 + (IntKind.i64.wrap (r2.tdiv (10 : Int))))) + (1 : Int)))) w1)
theorem fathomref13_Quota.eq (first_ : Int) (times_ : Int) (w : World) (K : Value → World → Prop) : wpF Try.prog Try.f26 .leaf [.int .i64 first_, .int .i64 times_] w K = fathomref13_Quota.w first_ times_ w K := by kernel_rfl
theorem fathomref13_Quota.ok : fnOk Try.prog Try.f26 2 = true := by kernel_rfl
theorem fathomref13_Quota.calls {first_ : Int} {times_ : Int} {w : World} {R : Ending → World → Prop} (h : fathomref13_Quota.w first_ times_ w fun v w' => R (.returned v) w') : Calls Try.prog 26 #[.int .i64 first_, .int .i64 times_] w R :=
  calls_of mixed Try.func26 fathomref13_Quota.ok rfl (fun K => fathomref13_Quota.eq first_ times_ w K) h

/-! ### fathom/reduce.must: function 64 (named slots 3) -/
def reduce_must.w (c_0 : Int) (c_1 : Int) (c_2 : Bool) (w : World) (K : Value → World → Prop) : Prop :=
  ∀ (n1 : Nat) (w2 : World), New (.cells #[.int .i64 c_0, .int .i64 c_1, .bool c_2] 35) w n1 w2 → 
  ∃ x3 : Bool, w2.cell? ((Addr.mk n1 0 none).add 2) = some (.bool x3) ∧ 
  cnd x3
  (K (.bool true) w2)
  (∃ x4 : Int, w2.cell? ((Addr.mk n1 0 none).add 0) = some (.int .i64 x4) ∧ 
  K (.bool (decide (x4 ≤ (2 : Int)))) w2)
theorem reduce_must.eq (c_0 : Int) (c_1 : Int) (c_2 : Bool) (w : World) (K : Value → World → Prop) : wpF Try.prog Try.f64 .leaf [.agg #[.int .i64 c_0, .int .i64 c_1, .bool c_2]] w K = reduce_must.w c_0 c_1 c_2 w K := by kernel_rfl
theorem reduce_must.ok : fnOk Try.prog Try.f64 1 = true := by kernel_rfl
theorem reduce_must.calls {c_0 : Int} {c_1 : Int} {c_2 : Bool} {w : World} {R : Ending → World → Prop} (h : reduce_must.w c_0 c_1 c_2 w fun v w' => R (.returned v) w') : Calls Try.prog 64 #[.agg #[.int .i64 c_0, .int .i64 c_1, .bool c_2]] w R :=
  calls_of mixed Try.func64 reduce_must.ok rfl (fun K => reduce_must.eq c_0 c_1 c_2 w K) h

/-! ### slices.SortFunc[[]int,int]: function 65 (named slots 5) -/
def slices_SortFunc_int_int.w (x0__p : Option Addr) (x0__n : Nat) (x0__c : Nat) (cmp_f : FuncId) (cmp_v : Array Value) (w : World) (K : Value → World → Prop) : Prop :=
  Calls Try.prog 99 #[.int .u64 (IntKind.u64.wrap (x0__n : Int))] w fun e w1 => ∃ r2 : Int, e = .returned (.int .i64 r2) ∧ 
  Calls Try.prog 98 #[.slice x0__p x0__n x0__c, .int .i64 0, .int .i64 (x0__n : Int), .int .i64 r2, .func (.func cmp_f) #[] cmp_v] w1 fun e w3 => e = .returned (.tuple #[]) ∧ 
  K (.tuple #[]) w3
theorem slices_SortFunc_int_int.eq (x0__p : Option Addr) (x0__n : Nat) (x0__c : Nat) (cmp_f : FuncId) (cmp_v : Array Value) (w : World) (K : Value → World → Prop) : wpF Try.prog Try.f65 .leaf [.slice x0__p x0__n x0__c, .func (.func cmp_f) #[] cmp_v] w K = slices_SortFunc_int_int.w x0__p x0__n x0__c cmp_f cmp_v w K := by kernel_rfl
theorem slices_SortFunc_int_int.ok : fnOk Try.prog Try.f65 2 = true := by kernel_rfl
theorem slices_SortFunc_int_int.calls {x0__p : Option Addr} {x0__n : Nat} {x0__c : Nat} {cmp_f : FuncId} {cmp_v : Array Value} {w : World} {R : Ending → World → Prop} (h : slices_SortFunc_int_int.w x0__p x0__n x0__c cmp_f cmp_v w fun v w' => R (.returned v) w') : Calls Try.prog 65 #[.slice x0__p x0__n x0__c, .func (.func cmp_f) #[] cmp_v] w R :=
  calls_of mixed Try.func65 slices_SortFunc_int_int.ok rfl (fun K => slices_SortFunc_int_int.eq x0__p x0__n x0__c cmp_f cmp_v w K) h

/-! ### fathom/reduce.Order$1: function 66 (named slots 6) -/
def reduce_Order_1.w (a_ : Int) (b_ : Int) (c0_ : Addr) (w : World) (K : Value → World → Prop) : Prop :=
  ∃ x1_p : Option Addr, ∃ x1_n : Nat, ∃ x1_c : Nat, w.drew.cell? c0_ = some (.slice x1_p x1_n x1_c) ∧ 
  ixK x1_p x1_n a_ 3 fun a2 =>
  ∃ x3 : Int, w.drew.cell? (a2.add 0) = some (.int .i64 x3) ∧ 
  ∃ x4_p : Option Addr, ∃ x4_n : Nat, ∃ x4_c : Nat, w.drew.cell? c0_ = some (.slice x4_p x4_n x4_c) ∧ 
  ixK x4_p x4_n b_ 3 fun a5 =>
  ∃ x6 : Int, w.drew.cell? (a5.add 0) = some (.int .i64 x6) ∧ 
  cnd (x3 != x6)
  (∃ x7_p : Option Addr, ∃ x7_n : Nat, ∃ x7_c : Nat, w.drew.drew.cell? c0_ = some (.slice x7_p x7_n x7_c) ∧ 
    ixK x7_p x7_n a_ 3 fun a8 =>
    ∃ x9 : Int, w.drew.drew.cell? (a8.add 0) = some (.int .i64 x9) ∧ 
    ∃ x10_p : Option Addr, ∃ x10_n : Nat, ∃ x10_c : Nat, w.drew.drew.cell? c0_ = some (.slice x10_p x10_n x10_c) ∧ 
    ixK x10_p x10_n b_ 3 fun a11 =>
    ∃ x12 : Int, w.drew.drew.cell? (a11.add 0) = some (.int .i64 x12) ∧ 
    K (.int .i64 (IntKind.i64.wrap (x9 - x12))) w.drew.drew)
  (∃ x13_p : Option Addr, ∃ x13_n : Nat, ∃ x13_c : Nat, w.drew.drew.cell? c0_ = some (.slice x13_p x13_n x13_c) ∧ 
    ixK x13_p x13_n a_ 3 fun a14 =>
    ∃ x15 : Int, w.drew.drew.cell? (a14.add 1) = some (.int .i64 x15) ∧ 
    ∃ x16_p : Option Addr, ∃ x16_n : Nat, ∃ x16_c : Nat, w.drew.drew.cell? c0_ = some (.slice x16_p x16_n x16_c) ∧ 
    ixK x16_p x16_n b_ 3 fun a17 =>
    ∃ x18 : Int, w.drew.drew.cell? (a17.add 1) = some (.int .i64 x18) ∧ 
    cnd (x15 != x18)
    (∃ x19_p : Option Addr, ∃ x19_n : Nat, ∃ x19_c : Nat, w.drew.drew.drew.cell? c0_ = some (.slice x19_p x19_n x19_c) ∧ 
      ixK x19_p x19_n a_ 3 fun a20 =>
      ∃ x21 : Int, w.drew.drew.drew.cell? (a20.add 1) = some (.int .i64 x21) ∧ 
      ∃ x22_p : Option Addr, ∃ x22_n : Nat, ∃ x22_c : Nat, w.drew.drew.drew.cell? c0_ = some (.slice x22_p x22_n x22_c) ∧ 
      ixK x22_p x22_n b_ 3 fun a23 =>
      ∃ x24 : Int, w.drew.drew.drew.cell? (a23.add 1) = some (.int .i64 x24) ∧ 
      K (.int .i64 (IntKind.i64.wrap (x21 - x24))) w.drew.drew.drew)
    (K (.int .i64 (IntKind.i64.wrap (b_ - a_))) w.drew.drew))
theorem reduce_Order_1.eq (a_ : Int) (b_ : Int) (c0_ : Addr) (w : World) (K : Value → World → Prop) : wpF Try.prog Try.f66 .leaf [.int .i64 a_, .int .i64 b_, .pointer (some c0_)] w K = reduce_Order_1.w a_ b_ c0_ w K := by kernel_rfl
theorem reduce_Order_1.ok : fnOk Try.prog Try.f66 3 = true := by kernel_rfl
theorem reduce_Order_1.calls {a_ : Int} {b_ : Int} {c0_ : Addr} {w : World} {R : Ending → World → Prop} (h : reduce_Order_1.w a_ b_ c0_ w fun v w' => R (.returned v) w') : Calls Try.prog 66 #[.int .i64 a_, .int .i64 b_, .pointer (some c0_)] w R :=
  calls_of mixed Try.func66 reduce_Order_1.ok rfl (fun K => reduce_Order_1.eq a_ b_ c0_ w K) h

/-! ### slices.pdqsortCmpFunc[int]: function 98 (named slots 101) cuts [(2, 117), (2, 92), (4, 79)] -/
def slices_pdqsortCmpFunc_int.w (data__p : Option Addr) (data__n : Nat) (data__c : Nat) (a_ : Int) (b_ : Int) (limit_ : Int) (cmp_f : FuncId) (cmp_v : Array Value) (w : World) (K : Value → World → Prop) : Prop :=
  ∃ I1 : Int → Int → Int → Bool → Bool → World → Nat → Prop, (∃ k2, I1 a_ b_ limit_ true true w k2) ∧
  ∀ (a_4 : Int) (b_5 : Int) (limit_6 : Int) (wasBalanced_7 : Bool) (wasPartitioned_8 : Bool) (w9 : World) (k2 : Nat) (_ : Fr), I1 a_4 b_5 limit_6 wasBalanced_7 wasPartitioned_8 w9 k2 →
  cnd (decide ((IntKind.i64.wrap (b_5 - a_4)) ≤ (12 : Int)))
    (Calls Try.prog 104 #[.slice data__p data__n data__c, .int .i64 a_4, .int .i64 b_5, .func (.func cmp_f) #[] cmp_v] w9 fun e w10 => e = .returned (.tuple #[]) ∧ 
      K (.tuple #[]) w10)
    (cnd (limit_6 == (0 : Int))
      (Calls Try.prog 105 #[.slice data__p data__n data__c, .int .i64 a_4, .int .i64 b_5, .func (.func cmp_f) #[] cmp_v] w9 fun e w11 => e = .returned (.tuple #[]) ∧ 
        K (.tuple #[]) w11)
      (∃ J12 : Int → World → Prop, (cnd (!wasBalanced_7)
        (Calls Try.prog 106 #[.slice data__p data__n data__c, .int .i64 a_4, .int .i64 b_5, .func (.func cmp_f) #[] cmp_v] w9 fun e w13 => e = .returned (.tuple #[]) ∧ 
          J12 (IntKind.i64.wrap (limit_6 - (1 : Int))) w13)
        (J12 limit_6 w9)) ∧
        ∀ (limit_14 : Int) (w15 : World) (_ : Fr), J12 limit_14 w15 → 
        Calls Try.prog 107 #[.slice data__p data__n data__c, .int .i64 a_4, .int .i64 b_5, .func (.func cmp_f) #[] cmp_v] w15 fun e w16 => ∃ r17 : Int, ∃ r18 : Int, e = .returned (.tuple #[.int .i64 r17, .int .i64 r18]) ∧ 
        ∃ J19 : Int → Int → World → Prop, (cnd (r18 == (2 : Int))
        (Calls Try.prog 108 #[.slice data__p data__n data__c, .int .i64 a_4, .int .i64 b_5, .func (.func cmp_f) #[] cmp_v] w16 fun e w20 => e = .returned (.tuple #[]) ∧ 
          J19 (IntKind.i64.wrap ((IntKind.i64.wrap (b_5 - (1 : Int))) - (IntKind.i64.wrap (r17 - a_4)))) 1 w20)
        (J19 r17 r18 w16)) ∧
        ∀ (pivot_21 : Int) (hint_22 : Int) (w23 : World) (_ : Fr), J19 pivot_21 hint_22 w23 → 
        ∃ J24 : World → Prop, (cnd wasBalanced_7
        (cnd wasPartitioned_8
        (cnd (hint_22 == (1 : Int))
        (Calls Try.prog 109 #[.slice data__p data__n data__c, .int .i64 a_4, .int .i64 b_5, .func (.func cmp_f) #[] cmp_v] w23 fun e w25 => ∃ r26 : Bool, e = .returned (.bool r26) ∧ 
          cnd r26
          (K (.tuple #[]) w25)
          (J24 w25))
        (J24 w23))
        (J24 w23))
        (J24 w23)) ∧
        ∀ (w27 : World) (_ : Fr), J24 w27 → 
        cnd (decide (a_4 > (0 : Int)))
        (ixK data__p data__n (IntKind.i64.wrap (a_4 - (1 : Int))) 1 fun a28 =>
        ∃ x29 : Int, w27.drew.cell? a28 = some (.int .i64 x29) ∧ 
        ixK data__p data__n pivot_21 1 fun a30 =>
        ∃ x31 : Int, w27.drew.cell? a30 = some (.int .i64 x31) ∧ 
        cnd (entB Try.prog cmp_f) (Calls Try.prog cmp_f (#[] ++ #[.int .i64 x29, .int .i64 x31] ++ cmp_v) w27.drew fun e w32 => ∃ r33 : Int, e = .returned (.int .i64 r33) ∧ 
        cnd (!(decide (r33 < (0 : Int))))
        (Calls Try.prog 110 #[.slice data__p data__n data__c, .int .i64 a_4, .int .i64 b_5, .int .i64 pivot_21, .func (.func cmp_f) #[] cmp_v] w32 fun e w34 => ∃ r35 : Int, e = .returned (.int .i64 r35) ∧ 
          ∃ k3, k3 < k2 ∧ I1 r35 b_5 limit_14 wasBalanced_7 wasPartitioned_8 w34 k3)
        (Calls Try.prog 111 #[.slice data__p data__n data__c, .int .i64 a_4, .int .i64 b_5, .int .i64 pivot_21, .func (.func cmp_f) #[] cmp_v] w32 fun e w36 => ∃ r37 : Int, ∃ r38 : Bool, e = .returned (.tuple #[.int .i64 r37, .bool r38]) ∧ 
          (8 : Int) ≠ 0 ∧ cnd (decide ((IntKind.i64.wrap (r37 - a_4)) < (IntKind.i64.wrap (b_5 - r37))))
          (Calls Try.prog 98 #[.slice data__p data__n data__c, .int .i64 a_4, .int .i64 r37, .int .i64 limit_14, .func (.func cmp_f) #[] cmp_v] w36 fun e w39 => e = .returned (.tuple #[]) ∧ 
            ∃ k3, k3 < k2 ∧ I1 (IntKind.i64.wrap (r37 + (1 : Int))) b_5 limit_14 (decide ((IntKind.i64.wrap (r37 - a_4)) ≥ (IntKind.i64.wrap ((IntKind.i64.wrap (b_5 - a_4)).tdiv (8 : Int))))) r38 w39 k3)
          (Calls Try.prog 98 #[.slice data__p data__n data__c, .int .i64 (IntKind.i64.wrap (r37 + (1 : Int))), .int .i64 b_5, .int .i64 limit_14, .func (.func cmp_f) #[] cmp_v] w36 fun e w40 => e = .returned (.tuple #[]) ∧ 
            ∃ k3, k3 < k2 ∧ I1 a_4 r37 limit_14 (decide ((IntKind.i64.wrap (b_5 - r37)) ≥ (IntKind.i64.wrap ((IntKind.i64.wrap (b_5 - a_4)).tdiv (8 : Int))))) r38 w40 k3))) False)
        (Calls Try.prog 111 #[.slice data__p data__n data__c, .int .i64 a_4, .int .i64 b_5, .int .i64 pivot_21, .func (.func cmp_f) #[] cmp_v] w27.drew fun e w41 => ∃ r42 : Int, ∃ r43 : Bool, e = .returned (.tuple #[.int .i64 r42, .bool r43]) ∧ 
        (8 : Int) ≠ 0 ∧ cnd (decide ((IntKind.i64.wrap (r42 - a_4)) < (IntKind.i64.wrap (b_5 - r42))))
        (Calls Try.prog 98 #[.slice data__p data__n data__c, .int .i64 a_4, .int .i64 r42, .int .i64 limit_14, .func (.func cmp_f) #[] cmp_v] w41 fun e w44 => e = .returned (.tuple #[]) ∧ 
          ∃ k3, k3 < k2 ∧ I1 (IntKind.i64.wrap (r42 + (1 : Int))) b_5 limit_14 (decide ((IntKind.i64.wrap (r42 - a_4)) ≥ (IntKind.i64.wrap ((IntKind.i64.wrap (b_5 - a_4)).tdiv (8 : Int))))) r43 w44 k3)
        (Calls Try.prog 98 #[.slice data__p data__n data__c, .int .i64 (IntKind.i64.wrap (r42 + (1 : Int))), .int .i64 b_5, .int .i64 limit_14, .func (.func cmp_f) #[] cmp_v] w41 fun e w45 => e = .returned (.tuple #[]) ∧ 
          ∃ k3, k3 < k2 ∧ I1 a_4 r42 limit_14 (decide ((IntKind.i64.wrap (b_5 - r42)) ≥ (IntKind.i64.wrap ((IntKind.i64.wrap (b_5 - a_4)).tdiv (8 : Int))))) r43 w45 k3))))
theorem slices_pdqsortCmpFunc_int.eq (data__p : Option Addr) (data__n : Nat) (data__c : Nat) (a_ : Int) (b_ : Int) (limit_ : Int) (cmp_f : FuncId) (cmp_v : Array Value) (w : World) (K : Value → World → Prop) : wpF Try.prog Try.f98 (.two .leaf (.two .leaf (.one (.loop [(1, 3), (2, 3), (3, 3), (10, 4), (11, 4)] (.one (.two .leaf (.two .leaf (.two .leaf (.cut [(3, 3)] .leaf (.two .leaf (.cut [(13, 3), (14, 103)] .leaf (.cut [] .leaf .leaf)))))))))))) [.slice data__p data__n data__c, .int .i64 a_, .int .i64 b_, .int .i64 limit_, .func (.func cmp_f) #[] cmp_v] w K = slices_pdqsortCmpFunc_int.w data__p data__n data__c a_ b_ limit_ cmp_f cmp_v w K := by kernel_rfl
theorem slices_pdqsortCmpFunc_int.ok : fnOk Try.prog Try.f98 5 = true := by kernel_rfl
theorem slices_pdqsortCmpFunc_int.calls {data__p : Option Addr} {data__n : Nat} {data__c : Nat} {a_ : Int} {b_ : Int} {limit_ : Int} {cmp_f : FuncId} {cmp_v : Array Value} {w : World} {R : Ending → World → Prop} (h : slices_pdqsortCmpFunc_int.w data__p data__n data__c a_ b_ limit_ cmp_f cmp_v w fun v w' => R (.returned v) w') : Calls Try.prog 98 #[.slice data__p data__n data__c, .int .i64 a_, .int .i64 b_, .int .i64 limit_, .func (.func cmp_f) #[] cmp_v] w R :=
  calls_of mixed Try.func98 slices_pdqsortCmpFunc_int.ok rfl (fun K => slices_pdqsortCmpFunc_int.eq data__p data__n data__c a_ b_ limit_ cmp_f cmp_v w K) h

/-! ### math/bits.Len: function 99 (named slots 3) -/
def bits_Len.w (x0_ : Int) (w : World) (K : Value → World → Prop) : Prop :=
  Calls Try.prog 113 #[.int .u64 x0_] w fun e w1 => ∃ r2 : Int, e = .returned (.int .i64 r2) ∧ 
  K (.int .i64 r2) w1
theorem bits_Len.eq (x0_ : Int) (w : World) (K : Value → World → Prop) : wpF Try.prog Try.f99 .leaf [.int .u64 x0_] w K = bits_Len.w x0_ w K := by kernel_rfl
theorem bits_Len.ok : fnOk Try.prog Try.f99 1 = true := by kernel_rfl
theorem bits_Len.calls {x0_ : Int} {w : World} {R : Ending → World → Prop} (h : bits_Len.w x0_ w fun v w' => R (.returned v) w') : Calls Try.prog 99 #[.int .u64 x0_] w R :=
  calls_of mixed Try.func99 bits_Len.ok rfl (fun K => bits_Len.eq x0_ w K) h

/-! ### slices.insertionSortCmpFunc[int]: function 104 (named slots 106) -/
def slices_insertionSortCmpFunc_int.w (data__p : Option Addr) (data__n : Nat) (data__c : Nat) (a_ : Int) (b_ : Int) (cmp_f : FuncId) (cmp_v : Array Value) (w : World) (K : Value → World → Prop) : Prop :=
  ∃ I1 : Int → World → Nat → Prop, (∃ k2, I1 (IntKind.i64.wrap (a_ + (1 : Int))) w k2) ∧
  ∀ (i_4 : Int) (w5 : World) (k2 : Nat) (_ : Fr), I1 i_4 w5 k2 →
  cnd (decide (i_4 < b_))
    (∃ I6 : Int → World → Nat → Prop, (∃ k7, I6 i_4 w5 k7) ∧
      ∀ (j_9 : Int) (w10 : World) (k7 : Nat) (_ : Fr), I6 j_9 w10 k7 →
      cnd (decide (j_9 > a_))
        (ixK data__p data__n j_9 1 fun a11 =>
        ∃ x12 : Int, w10.drew.cell? a11 = some (.int .i64 x12) ∧ 
        ixK data__p data__n (IntKind.i64.wrap (j_9 - (1 : Int))) 1 fun a13 =>
        ∃ x14 : Int, w10.drew.cell? a13 = some (.int .i64 x14) ∧ 
        cnd (entB Try.prog cmp_f) (Calls Try.prog cmp_f (#[] ++ #[.int .i64 x12, .int .i64 x14] ++ cmp_v) w10.drew fun e w15 => ∃ r16 : Int, e = .returned (.int .i64 r16) ∧ 
        cnd (decide (r16 < (0 : Int)))
        (ixK data__p data__n (IntKind.i64.wrap (j_9 - (1 : Int))) 1 fun a17 =>
          ∃ x18 : Int, w15.drew.cell? a17 = some (.int .i64 x18) ∧ 
          ixK data__p data__n j_9 1 fun a19 =>
          ∃ x20 : Int, w15.drew.cell? a19 = some (.int .i64 x20) ∧ 
          ixK data__p data__n j_9 1 fun a21 =>
          ∃ w22 : World, StoreAt a21 0 [.int .i64 x18] w15.drew w22 ∧ 
          ixK data__p data__n (IntKind.i64.wrap (j_9 - (1 : Int))) 1 fun a23 =>
          ∃ w24 : World, StoreAt a23 0 [.int .i64 x20] w22 w24 ∧ 
          ∃ k8, k8 < k7 ∧ I6 (IntKind.i64.wrap (j_9 - (1 : Int))) w24 k8)
        (∃ k3, k3 < k2 ∧ I1 (IntKind.i64.wrap (i_4 + (1 : Int))) w15 k3)) False)
        (∃ k3, k3 < k2 ∧ I1 (IntKind.i64.wrap (i_4 + (1 : Int))) w10.drew k3))
    (K (.tuple #[]) w5)
theorem slices_insertionSortCmpFunc_int.eq (data__p : Option Addr) (data__n : Nat) (data__c : Nat) (a_ : Int) (b_ : Int) (cmp_f : FuncId) (cmp_v : Array Value) (w : World) (K : Value → World → Prop) : wpF Try.prog Try.f104 (.two .leaf (.one (.loop [(8, 3)] (.two .leaf (.two (.one (.two .leaf (.one (.loop [(9, 3)] .leaf)))) .leaf))))) [.slice data__p data__n data__c, .int .i64 a_, .int .i64 b_, .func (.func cmp_f) #[] cmp_v] w K = slices_insertionSortCmpFunc_int.w data__p data__n data__c a_ b_ cmp_f cmp_v w K := by kernel_rfl
theorem slices_insertionSortCmpFunc_int.ok : fnOk Try.prog Try.f104 4 = true := by kernel_rfl
theorem slices_insertionSortCmpFunc_int.calls {data__p : Option Addr} {data__n : Nat} {data__c : Nat} {a_ : Int} {b_ : Int} {cmp_f : FuncId} {cmp_v : Array Value} {w : World} {R : Ending → World → Prop} (h : slices_insertionSortCmpFunc_int.w data__p data__n data__c a_ b_ cmp_f cmp_v w fun v w' => R (.returned v) w') : Calls Try.prog 104 #[.slice data__p data__n data__c, .int .i64 a_, .int .i64 b_, .func (.func cmp_f) #[] cmp_v] w R :=
  calls_of mixed Try.func104 slices_insertionSortCmpFunc_int.ok rfl (fun K => slices_insertionSortCmpFunc_int.eq data__p data__n data__c a_ b_ cmp_f cmp_v w K) h

/-! ### slices.heapSortCmpFunc[int]: function 105 (named slots 106) -/
def slices_heapSortCmpFunc_int.w (data__p : Option Addr) (data__n : Nat) (data__c : Nat) (a_ : Int) (b_ : Int) (cmp_f : FuncId) (cmp_v : Array Value) (w : World) (K : Value → World → Prop) : Prop :=
  (2 : Int) ≠ 0 ∧ ∃ I1 : Int → World → Nat → Prop, (∃ k2, I1 (IntKind.i64.wrap ((IntKind.i64.wrap ((IntKind.i64.wrap (b_ - a_)) - (1 : Int))).tdiv (2 : Int))) w k2) ∧
  ∀ (i_4 : Int) (w5 : World) (k2 : Nat) (_ : Fr), I1 i_4 w5 k2 →
  cnd (decide (i_4 ≥ (0 : Int)))
    (Calls Try.prog 114 #[.slice data__p data__n data__c, .int .i64 i_4, .int .i64 (IntKind.i64.wrap (b_ - a_)), .int .i64 a_, .func (.func cmp_f) #[] cmp_v] w5 fun e w6 => e = .returned (.tuple #[]) ∧ 
      ∃ k3, k3 < k2 ∧ I1 (IntKind.i64.wrap (i_4 - (1 : Int))) w6 k3)
    (∃ I7 : Int → World → Nat → Prop, (∃ k8, I7 (IntKind.i64.wrap ((IntKind.i64.wrap (b_ - a_)) - (1 : Int))) w5 k8) ∧
      ∀ (i_10 : Int) (w11 : World) (k8 : Nat) (_ : Fr), I7 i_10 w11 k8 →
      cnd (decide (i_10 ≥ (0 : Int)))
        (ixK data__p data__n (IntKind.i64.wrap (a_ + i_10)) 1 fun a12 =>
          ∃ x13 : Int, w11.drew.cell? a12 = some (.int .i64 x13) ∧ 
          ixK data__p data__n a_ 1 fun a14 =>
          ∃ x15 : Int, w11.drew.cell? a14 = some (.int .i64 x15) ∧ 
          ixK data__p data__n a_ 1 fun a16 =>
          ∃ w17 : World, StoreAt a16 0 [.int .i64 x13] w11.drew w17 ∧ 
          ixK data__p data__n (IntKind.i64.wrap (a_ + i_10)) 1 fun a18 =>
          ∃ w19 : World, StoreAt a18 0 [.int .i64 x15] w17 w19 ∧ 
          Calls Try.prog 114 #[.slice data__p data__n data__c, .int .i64 0, .int .i64 i_10, .int .i64 a_, .func (.func cmp_f) #[] cmp_v] w19 fun e w20 => e = .returned (.tuple #[]) ∧ 
          ∃ k9, k9 < k8 ∧ I7 (IntKind.i64.wrap (i_10 - (1 : Int))) w20 k9)
        (K (.tuple #[]) w11))
theorem slices_heapSortCmpFunc_int.eq (data__p : Option Addr) (data__n : Nat) (data__c : Nat) (a_ : Int) (b_ : Int) (cmp_f : FuncId) (cmp_v : Array Value) (w : World) (K : Value → World → Prop) : wpF Try.prog Try.f105 (.two .leaf (.two .leaf (.two .leaf (.two (.two .leaf (.one (.loop [(11, 3)] .leaf))) (.two .leaf (.one (.loop [(12, 3)] .leaf))))))) [.slice data__p data__n data__c, .int .i64 a_, .int .i64 b_, .func (.func cmp_f) #[] cmp_v] w K = slices_heapSortCmpFunc_int.w data__p data__n data__c a_ b_ cmp_f cmp_v w K := by kernel_rfl
theorem slices_heapSortCmpFunc_int.ok : fnOk Try.prog Try.f105 4 = true := by kernel_rfl
theorem slices_heapSortCmpFunc_int.calls {data__p : Option Addr} {data__n : Nat} {data__c : Nat} {a_ : Int} {b_ : Int} {cmp_f : FuncId} {cmp_v : Array Value} {w : World} {R : Ending → World → Prop} (h : slices_heapSortCmpFunc_int.w data__p data__n data__c a_ b_ cmp_f cmp_v w fun v w' => R (.returned v) w') : Calls Try.prog 105 #[.slice data__p data__n data__c, .int .i64 a_, .int .i64 b_, .func (.func cmp_f) #[] cmp_v] w R :=
  calls_of mixed Try.func105 slices_heapSortCmpFunc_int.ok rfl (fun K => slices_heapSortCmpFunc_int.eq data__p data__n data__c a_ b_ cmp_f cmp_v w K) h

/-! ### slices.breakPatternsCmpFunc[int]: function 106 (named slots 106) -/
def slices_breakPatternsCmpFunc_int.w (data__p : Option Addr) (data__n : Nat) (data__c : Nat) (a_ : Int) (b_ : Int) (cmp_f : FuncId) (cmp_v : Array Value) (w : World) (K : Value → World → Prop) : Prop :=
  cnd (decide ((IntKind.i64.wrap (b_ - a_)) ≥ (8 : Int)))
  (∀ (n1 : Nat) (w2 : World), New (.cells #[.int .u64 0] 114) w n1 w2 → 
    ∃ w3 : World, StoreAt (Addr.mk n1 0 none) 0 [.int .u64 (IntKind.u64.wrap (IntKind.i64.wrap (b_ - a_)))] w2 w3 ∧ 
    Calls Try.prog 115 #[.int .i64 (IntKind.i64.wrap (b_ - a_))] w3 fun e w4 => ∃ r5 : Int, e = .returned (.int .u64 r5) ∧ 
    (4 : Int) ≠ 0 ∧ ∃ I6 : Int → World → Nat → Prop, (∃ k7, I6 (IntKind.i64.wrap ((IntKind.i64.wrap (a_ + (IntKind.i64.wrap ((IntKind.i64.wrap ((IntKind.i64.wrap (b_ - a_)).tdiv (4 : Int))) * (2 : Int))))) - (1 : Int))) w4 k7) ∧
    ∀ (idx_9 : Int) (w10 : World) (k7 : Nat) (_ : Fr), I6 idx_9 w10 k7 →
    (4 : Int) ≠ 0 ∧ cnd (decide (idx_9 ≤ (IntKind.i64.wrap ((IntKind.i64.wrap (a_ + (IntKind.i64.wrap ((IntKind.i64.wrap ((IntKind.i64.wrap (b_ - a_)).tdiv (4 : Int))) * (2 : Int))))) + (1 : Int)))))
      (Calls Try.prog 116 #[.pointer (some (Addr.mk n1 0 none))] w10 fun e w11 => ∃ r12 : Int, e = .returned (.int .u64 r12) ∧ 
        cnd (decide ((IntKind.i64.wrap (IntKind.u64.wrap ((BitVec.ofInt (IntKind.bits .u64) r12 &&& BitVec.ofInt (IntKind.bits .u64) (IntKind.u64.wrap (r5 - (1 : Int)))).toNat))) ≥ (IntKind.i64.wrap (b_ - a_))))
        (ixK data__p data__n (IntKind.i64.wrap (a_ + (IntKind.i64.wrap ((IntKind.i64.wrap (IntKind.u64.wrap ((BitVec.ofInt (IntKind.bits .u64) r12 &&& BitVec.ofInt (IntKind.bits .u64) (IntKind.u64.wrap (r5 - (1 : Int)))).toNat))) - (IntKind.i64.wrap (b_ - a_)))))) 1 fun a13 =>
          ∃ x14 : Int, w11.drew.cell? a13 = some (.int .i64 x14) ∧ 
          ixK data__p data__n idx_9 1 fun a15 =>
          ∃ x16 : Int, w11.drew.cell? a15 = some (.int .i64 x16) ∧ 
          ixK data__p data__n idx_9 1 fun a17 =>
          ∃ w18 : World, StoreAt a17 0 [.int .i64 x14] w11.drew w18 ∧ 
          ixK data__p data__n (IntKind.i64.wrap (a_ + (IntKind.i64.wrap ((IntKind.i64.wrap (IntKind.u64.wrap ((BitVec.ofInt (IntKind.bits .u64) r12 &&& BitVec.ofInt (IntKind.bits .u64) (IntKind.u64.wrap (r5 - (1 : Int)))).toNat))) - (IntKind.i64.wrap (b_ - a_)))))) 1 fun a19 =>
          ∃ w20 : World, StoreAt a19 0 [.int .i64 x16] w18 w20 ∧ 
          ∃ k8, k8 < k7 ∧ I6 (IntKind.i64.wrap (idx_9 + (1 : Int))) w20 k8)
        (ixK data__p data__n (IntKind.i64.wrap (a_ + (IntKind.i64.wrap (IntKind.u64.wrap ((BitVec.ofInt (IntKind.bits .u64) r12 &&& BitVec.ofInt (IntKind.bits .u64) (IntKind.u64.wrap (r5 - (1 : Int)))).toNat))))) 1 fun a21 =>
          ∃ x22 : Int, w11.drew.cell? a21 = some (.int .i64 x22) ∧ 
          ixK data__p data__n idx_9 1 fun a23 =>
          ∃ x24 : Int, w11.drew.cell? a23 = some (.int .i64 x24) ∧ 
          ixK data__p data__n idx_9 1 fun a25 =>
          ∃ w26 : World, StoreAt a25 0 [.int .i64 x22] w11.drew w26 ∧ 
          ixK data__p data__n (IntKind.i64.wrap (a_ + (IntKind.i64.wrap (IntKind.u64.wrap ((BitVec.ofInt (IntKind.bits .u64) r12 &&& BitVec.ofInt (IntKind.bits .u64) (IntKind.u64.wrap (r5 - (1 : Int)))).toNat))))) 1 fun a27 =>
          ∃ w28 : World, StoreAt a27 0 [.int .i64 x24] w26 w28 ∧ 
          ∃ k8, k8 < k7 ∧ I6 (IntKind.i64.wrap (idx_9 + (1 : Int))) w28 k8))
      (K (.tuple #[]) w10))
  (K (.tuple #[]) w)
theorem slices_breakPatternsCmpFunc_int.eq (data__p : Option Addr) (data__n : Nat) (data__c : Nat) (a_ : Int) (b_ : Int) (cmp_f : FuncId) (cmp_v : Array Value) (w : World) (K : Value → World → Prop) : wpF Try.prog Try.f106 (.two .leaf (.two .leaf (.two (.two .leaf (.two .leaf (.two .leaf (.one (.loop [(11, 3)] .leaf))))) .leaf))) [.slice data__p data__n data__c, .int .i64 a_, .int .i64 b_, .func (.func cmp_f) #[] cmp_v] w K = slices_breakPatternsCmpFunc_int.w data__p data__n data__c a_ b_ cmp_f cmp_v w K := by kernel_rfl
theorem slices_breakPatternsCmpFunc_int.ok : fnOk Try.prog Try.f106 4 = true := by kernel_rfl
theorem slices_breakPatternsCmpFunc_int.calls {data__p : Option Addr} {data__n : Nat} {data__c : Nat} {a_ : Int} {b_ : Int} {cmp_f : FuncId} {cmp_v : Array Value} {w : World} {R : Ending → World → Prop} (h : slices_breakPatternsCmpFunc_int.w data__p data__n data__c a_ b_ cmp_f cmp_v w fun v w' => R (.returned v) w') : Calls Try.prog 106 #[.slice data__p data__n data__c, .int .i64 a_, .int .i64 b_, .func (.func cmp_f) #[] cmp_v] w R :=
  calls_of mixed Try.func106 slices_breakPatternsCmpFunc_int.ok rfl (fun K => slices_breakPatternsCmpFunc_int.eq data__p data__n data__c a_ b_ cmp_f cmp_v w K) h

/-! ### slices.choosePivotCmpFunc[int]: function 107 (named slots 109) -/
def slices_choosePivotCmpFunc_int.w (data__p : Option Addr) (data__n : Nat) (data__c : Nat) (a_ : Int) (b_ : Int) (cmp_f : FuncId) (cmp_v : Array Value) (w : World) (K : Value → World → Prop) : Prop :=
  ∀ (n1 : Nat) (w2 : World), New (.cells #[.int .i64 0] 3) w n1 w2 → 
  (4 : Int) ≠ 0 ∧ (4 : Int) ≠ 0 ∧ (4 : Int) ≠ 0 ∧ cnd (decide ((IntKind.i64.wrap (b_ - a_)) ≥ (8 : Int)))
  (cnd (decide ((IntKind.i64.wrap (b_ - a_)) ≥ (50 : Int)))
    (Calls Try.prog 117 #[.slice data__p data__n data__c, .int .i64 (IntKind.i64.wrap (a_ + (IntKind.i64.wrap ((IntKind.i64.wrap ((IntKind.i64.wrap (b_ - a_)).tdiv (4 : Int))) * (1 : Int))))), .pointer (some (Addr.mk n1 0 none)), .func (.func cmp_f) #[] cmp_v] w2 fun e w3 => ∃ r4 : Int, e = .returned (.int .i64 r4) ∧ 
      Calls Try.prog 117 #[.slice data__p data__n data__c, .int .i64 (IntKind.i64.wrap (a_ + (IntKind.i64.wrap ((IntKind.i64.wrap ((IntKind.i64.wrap (b_ - a_)).tdiv (4 : Int))) * (2 : Int))))), .pointer (some (Addr.mk n1 0 none)), .func (.func cmp_f) #[] cmp_v] w3 fun e w5 => ∃ r6 : Int, e = .returned (.int .i64 r6) ∧ 
      Calls Try.prog 117 #[.slice data__p data__n data__c, .int .i64 (IntKind.i64.wrap (a_ + (IntKind.i64.wrap ((IntKind.i64.wrap ((IntKind.i64.wrap (b_ - a_)).tdiv (4 : Int))) * (3 : Int))))), .pointer (some (Addr.mk n1 0 none)), .func (.func cmp_f) #[] cmp_v] w5 fun e w7 => ∃ r8 : Int, e = .returned (.int .i64 r8) ∧ 
      Calls Try.prog 118 #[.slice data__p data__n data__c, .int .i64 r4, .int .i64 r6, .int .i64 r8, .pointer (some (Addr.mk n1 0 none)), .func (.func cmp_f) #[] cmp_v] w7 fun e w9 => ∃ r10 : Int, e = .returned (.int .i64 r10) ∧ 
      ∃ x11 : Int, w9.cell? (Addr.mk n1 0 none) = some (.int .i64 x11) ∧ 
      cnd (x11 == (0 : Int))
      (K (.tuple #[.int .i64 r10, .int .i64 1]) w9)
      (cnd (x11 == (12 : Int))
        (K (.tuple #[.int .i64 r10, .int .i64 2]) w9)
        (K (.tuple #[.int .i64 r10, .int .i64 0]) w9)))
    (Calls Try.prog 118 #[.slice data__p data__n data__c, .int .i64 (IntKind.i64.wrap (a_ + (IntKind.i64.wrap ((IntKind.i64.wrap ((IntKind.i64.wrap (b_ - a_)).tdiv (4 : Int))) * (1 : Int))))), .int .i64 (IntKind.i64.wrap (a_ + (IntKind.i64.wrap ((IntKind.i64.wrap ((IntKind.i64.wrap (b_ - a_)).tdiv (4 : Int))) * (2 : Int))))), .int .i64 (IntKind.i64.wrap (a_ + (IntKind.i64.wrap ((IntKind.i64.wrap ((IntKind.i64.wrap (b_ - a_)).tdiv (4 : Int))) * (3 : Int))))), .pointer (some (Addr.mk n1 0 none)), .func (.func cmp_f) #[] cmp_v] w2 fun e w12 => ∃ r13 : Int, e = .returned (.int .i64 r13) ∧ 
      ∃ x14 : Int, w12.cell? (Addr.mk n1 0 none) = some (.int .i64 x14) ∧ 
      cnd (x14 == (0 : Int))
      (K (.tuple #[.int .i64 r13, .int .i64 1]) w12)
      (cnd (x14 == (12 : Int))
        (K (.tuple #[.int .i64 r13, .int .i64 2]) w12)
        (K (.tuple #[.int .i64 r13, .int .i64 0]) w12))))
  (∃ x15 : Int, w2.cell? (Addr.mk n1 0 none) = some (.int .i64 x15) ∧ 
    cnd (x15 == (0 : Int))
    (K (.tuple #[.int .i64 (IntKind.i64.wrap (a_ + (IntKind.i64.wrap ((IntKind.i64.wrap ((IntKind.i64.wrap (b_ - a_)).tdiv (4 : Int))) * (2 : Int))))), .int .i64 1]) w2)
    (cnd (x15 == (12 : Int))
      (K (.tuple #[.int .i64 (IntKind.i64.wrap (a_ + (IntKind.i64.wrap ((IntKind.i64.wrap ((IntKind.i64.wrap (b_ - a_)).tdiv (4 : Int))) * (2 : Int))))), .int .i64 2]) w2)
      (K (.tuple #[.int .i64 (IntKind.i64.wrap (a_ + (IntKind.i64.wrap ((IntKind.i64.wrap ((IntKind.i64.wrap (b_ - a_)).tdiv (4 : Int))) * (2 : Int))))), .int .i64 0]) w2)))
theorem slices_choosePivotCmpFunc_int.eq (data__p : Option Addr) (data__n : Nat) (data__c : Nat) (a_ : Int) (b_ : Int) (cmp_f : FuncId) (cmp_v : Array Value) (w : World) (K : Value → World → Prop) : wpF Try.prog Try.f107 .leaf [.slice data__p data__n data__c, .int .i64 a_, .int .i64 b_, .func (.func cmp_f) #[] cmp_v] w K = slices_choosePivotCmpFunc_int.w data__p data__n data__c a_ b_ cmp_f cmp_v w K := by kernel_rfl
theorem slices_choosePivotCmpFunc_int.ok : fnOk Try.prog Try.f107 4 = true := by kernel_rfl
theorem slices_choosePivotCmpFunc_int.calls {data__p : Option Addr} {data__n : Nat} {data__c : Nat} {a_ : Int} {b_ : Int} {cmp_f : FuncId} {cmp_v : Array Value} {w : World} {R : Ending → World → Prop} (h : slices_choosePivotCmpFunc_int.w data__p data__n data__c a_ b_ cmp_f cmp_v w fun v w' => R (.returned v) w') : Calls Try.prog 107 #[.slice data__p data__n data__c, .int .i64 a_, .int .i64 b_, .func (.func cmp_f) #[] cmp_v] w R :=
  calls_of mixed Try.func107 slices_choosePivotCmpFunc_int.ok rfl (fun K => slices_choosePivotCmpFunc_int.eq data__p data__n data__c a_ b_ cmp_f cmp_v w K) h

/-! ### slices.reverseRangeCmpFunc[int]: function 108 (named slots 106) -/
def slices_reverseRangeCmpFunc_int.w (data__p : Option Addr) (data__n : Nat) (data__c : Nat) (a_ : Int) (b_ : Int) (cmp_f : FuncId) (cmp_v : Array Value) (w : World) (K : Value → World → Prop) : Prop :=
  ∃ I1 : Int → Int → World → Nat → Prop, (∃ k2, I1 a_ (IntKind.i64.wrap (b_ - (1 : Int))) w k2) ∧
  ∀ (i_4 : Int) (j_5 : Int) (w6 : World) (k2 : Nat) (_ : Fr), I1 i_4 j_5 w6 k2 →
  cnd (decide (i_4 < j_5))
    (ixK data__p data__n j_5 1 fun a7 =>
      ∃ x8 : Int, w6.drew.cell? a7 = some (.int .i64 x8) ∧ 
      ixK data__p data__n i_4 1 fun a9 =>
      ∃ x10 : Int, w6.drew.cell? a9 = some (.int .i64 x10) ∧ 
      ixK data__p data__n i_4 1 fun a11 =>
      ∃ w12 : World, StoreAt a11 0 [.int .i64 x8] w6.drew w12 ∧ 
      ixK data__p data__n j_5 1 fun a13 =>
      ∃ w14 : World, StoreAt a13 0 [.int .i64 x10] w12 w14 ∧ 
      ∃ k3, k3 < k2 ∧ I1 (IntKind.i64.wrap (i_4 + (1 : Int))) (IntKind.i64.wrap (j_5 - (1 : Int))) w14 k3)
    (K (.tuple #[]) w6)
theorem slices_reverseRangeCmpFunc_int.eq (data__p : Option Addr) (data__n : Nat) (data__c : Nat) (a_ : Int) (b_ : Int) (cmp_f : FuncId) (cmp_v : Array Value) (w : World) (K : Value → World → Prop) : wpF Try.prog Try.f108 (.two .leaf (.two .leaf (.one (.loop [(8, 3), (9, 3)] .leaf)))) [.slice data__p data__n data__c, .int .i64 a_, .int .i64 b_, .func (.func cmp_f) #[] cmp_v] w K = slices_reverseRangeCmpFunc_int.w data__p data__n data__c a_ b_ cmp_f cmp_v w K := by kernel_rfl
theorem slices_reverseRangeCmpFunc_int.ok : fnOk Try.prog Try.f108 4 = true := by kernel_rfl
theorem slices_reverseRangeCmpFunc_int.calls {data__p : Option Addr} {data__n : Nat} {data__c : Nat} {a_ : Int} {b_ : Int} {cmp_f : FuncId} {cmp_v : Array Value} {w : World} {R : Ending → World → Prop} (h : slices_reverseRangeCmpFunc_int.w data__p data__n data__c a_ b_ cmp_f cmp_v w fun v w' => R (.returned v) w') : Calls Try.prog 108 #[.slice data__p data__n data__c, .int .i64 a_, .int .i64 b_, .func (.func cmp_f) #[] cmp_v] w R :=
  calls_of mixed Try.func108 slices_reverseRangeCmpFunc_int.ok rfl (fun K => slices_reverseRangeCmpFunc_int.eq data__p data__n data__c a_ b_ cmp_f cmp_v w K) h

/-! ### slices.partialInsertionSortCmpFunc[int]: function 109 (named slots 110) cuts [(2, 114), (3, 44)] -/
def slices_partialInsertionSortCmpFunc_int.w (data__p : Option Addr) (data__n : Nat) (data__c : Nat) (a_ : Int) (b_ : Int) (cmp_f : FuncId) (cmp_v : Array Value) (w : World) (K : Value → World → Prop) : Prop :=
  ∃ I1 : Int → Int → World → Nat → Prop, (∃ k2, I1 (IntKind.i64.wrap (a_ + (1 : Int))) 0 w k2) ∧
  ∀ (i_4 : Int) (j_5 : Int) (w6 : World) (k2 : Nat) (_ : Fr), I1 i_4 j_5 w6 k2 →
  cnd (decide (j_5 < (5 : Int)))
    (∃ J7 : Int → World → Prop, (∃ I8 : Int → World → Nat → Prop, (∃ k9, I8 i_4 w6 k9) ∧
      ∀ (i_11 : Int) (w12 : World) (k9 : Nat) (_ : Fr), I8 i_11 w12 k9 →
      cnd (decide (i_11 < b_))
        (ixK data__p data__n i_11 1 fun a13 =>
        ∃ x14 : Int, w12.drew.cell? a13 = some (.int .i64 x14) ∧ 
        ixK data__p data__n (IntKind.i64.wrap (i_11 - (1 : Int))) 1 fun a15 =>
        ∃ x16 : Int, w12.drew.cell? a15 = some (.int .i64 x16) ∧ 
        cnd (entB Try.prog cmp_f) (Calls Try.prog cmp_f (#[] ++ #[.int .i64 x14, .int .i64 x16] ++ cmp_v) w12.drew fun e w17 => ∃ r18 : Int, e = .returned (.int .i64 r18) ∧ 
        cnd (!(decide (r18 < (0 : Int))))
        (∃ k10, k10 < k9 ∧ I8 (IntKind.i64.wrap (i_11 + (1 : Int))) w17 k10)
        (J7 i_11 w17)) False)
        (J7 i_11 w12.drew)) ∧
      ∀ (i_19 : Int) (w20 : World) (_ : Fr), J7 i_19 w20 → 
      cnd (i_19 == b_)
      (K (.bool true) w20)
      (cnd (decide ((IntKind.i64.wrap (b_ - a_)) < (50 : Int)))
        (K (.bool false) w20)
        (ixK data__p data__n (IntKind.i64.wrap (i_19 - (1 : Int))) 1 fun a21 =>
          ∃ x22 : Int, w20.drew.cell? a21 = some (.int .i64 x22) ∧ 
          ixK data__p data__n i_19 1 fun a23 =>
          ∃ x24 : Int, w20.drew.cell? a23 = some (.int .i64 x24) ∧ 
          ixK data__p data__n i_19 1 fun a25 =>
          ∃ w26 : World, StoreAt a25 0 [.int .i64 x22] w20.drew w26 ∧ 
          ixK data__p data__n (IntKind.i64.wrap (i_19 - (1 : Int))) 1 fun a27 =>
          ∃ w28 : World, StoreAt a27 0 [.int .i64 x24] w26 w28 ∧ 
          ∃ J29 : World → Prop, (cnd (decide ((IntKind.i64.wrap (i_19 - a_)) ≥ (2 : Int)))
          (∃ I30 : Int → World → Nat → Prop, (∃ k31, I30 (IntKind.i64.wrap (i_19 - (1 : Int))) w28 k31) ∧
            ∀ (j_33 : Int) (w34 : World) (k31 : Nat) (_ : Fr), I30 j_33 w34 k31 →
            cnd (decide (j_33 ≥ (1 : Int)))
              (ixK data__p data__n j_33 1 fun a35 =>
                ∃ x36 : Int, w34.drew.cell? a35 = some (.int .i64 x36) ∧ 
                ixK data__p data__n (IntKind.i64.wrap (j_33 - (1 : Int))) 1 fun a37 =>
                ∃ x38 : Int, w34.drew.cell? a37 = some (.int .i64 x38) ∧ 
                cnd (entB Try.prog cmp_f) (Calls Try.prog cmp_f (#[] ++ #[.int .i64 x36, .int .i64 x38] ++ cmp_v) w34.drew fun e w39 => ∃ r40 : Int, e = .returned (.int .i64 r40) ∧ 
                cnd (!(decide (r40 < (0 : Int))))
                (J29 w39)
                (ixK data__p data__n (IntKind.i64.wrap (j_33 - (1 : Int))) 1 fun a41 =>
                  ∃ x42 : Int, w39.drew.cell? a41 = some (.int .i64 x42) ∧ 
                  ixK data__p data__n j_33 1 fun a43 =>
                  ∃ x44 : Int, w39.drew.cell? a43 = some (.int .i64 x44) ∧ 
                  ixK data__p data__n j_33 1 fun a45 =>
                  ∃ w46 : World, StoreAt a45 0 [.int .i64 x42] w39.drew w46 ∧ 
                  ixK data__p data__n (IntKind.i64.wrap (j_33 - (1 : Int))) 1 fun a47 =>
                  ∃ w48 : World, StoreAt a47 0 [.int .i64 x44] w46 w48 ∧ 
                  ∃ k32, k32 < k31 ∧ I30 (IntKind.i64.wrap (j_33 - (1 : Int))) w48 k32)) False)
              (J29 w34))
          (J29 w28)) ∧
          ∀ (w49 : World) (_ : Fr), J29 w49 → 
          cnd (decide ((IntKind.i64.wrap (b_ - i_19)) ≥ (2 : Int)))
          (∃ I50 : Int → World → Nat → Prop, (∃ k51, I50 (IntKind.i64.wrap (i_19 + (1 : Int))) w49 k51) ∧
            ∀ (j_53 : Int) (w54 : World) (k51 : Nat) (_ : Fr), I50 j_53 w54 k51 →
            cnd (decide (j_53 < b_))
              (ixK data__p data__n j_53 1 fun a55 =>
                ∃ x56 : Int, w54.drew.cell? a55 = some (.int .i64 x56) ∧ 
                ixK data__p data__n (IntKind.i64.wrap (j_53 - (1 : Int))) 1 fun a57 =>
                ∃ x58 : Int, w54.drew.cell? a57 = some (.int .i64 x58) ∧ 
                cnd (entB Try.prog cmp_f) (Calls Try.prog cmp_f (#[] ++ #[.int .i64 x56, .int .i64 x58] ++ cmp_v) w54.drew fun e w59 => ∃ r60 : Int, e = .returned (.int .i64 r60) ∧ 
                cnd (!(decide (r60 < (0 : Int))))
                (∃ k3, k3 < k2 ∧ I1 i_19 (IntKind.i64.wrap (j_5 + (1 : Int))) w59 k3)
                (ixK data__p data__n (IntKind.i64.wrap (j_53 - (1 : Int))) 1 fun a61 =>
                  ∃ x62 : Int, w59.drew.cell? a61 = some (.int .i64 x62) ∧ 
                  ixK data__p data__n j_53 1 fun a63 =>
                  ∃ x64 : Int, w59.drew.cell? a63 = some (.int .i64 x64) ∧ 
                  ixK data__p data__n j_53 1 fun a65 =>
                  ∃ w66 : World, StoreAt a65 0 [.int .i64 x62] w59.drew w66 ∧ 
                  ixK data__p data__n (IntKind.i64.wrap (j_53 - (1 : Int))) 1 fun a67 =>
                  ∃ w68 : World, StoreAt a67 0 [.int .i64 x64] w66 w68 ∧ 
                  ∃ k52, k52 < k51 ∧ I50 (IntKind.i64.wrap (j_53 + (1 : Int))) w68 k52)) False)
              (∃ k3, k3 < k2 ∧ I1 i_19 (IntKind.i64.wrap (j_5 + (1 : Int))) w54 k3))
          (∃ k3, k3 < k2 ∧ I1 i_19 (IntKind.i64.wrap (j_5 + (1 : Int))) w49 k3))))
    (K (.bool false) w6)
theorem slices_partialInsertionSortCmpFunc_int.eq (data__p : Option Addr) (data__n : Nat) (data__c : Nat) (a_ : Int) (b_ : Int) (cmp_f : FuncId) (cmp_v : Array Value) (w : World) (K : Value → World → Prop) : wpF Try.prog Try.f109 (.two .leaf (.two .leaf (.two (.two .leaf (.one (.loop [(9, 3), (10, 3)] (.two .leaf (.two (.one (.cut [(9, 3)] (.one (.loop [(9, 3)] .leaf)) (.two .leaf (.two .leaf (.two .leaf (.cut [] (.two .leaf (.two (.two .leaf (.one (.loop [(11, 3)] .leaf))) .leaf)) (.two .leaf (.two (.two .leaf (.one (.loop [(12, 3)] .leaf))) .leaf)))))))) .leaf))))) .leaf))) [.slice data__p data__n data__c, .int .i64 a_, .int .i64 b_, .func (.func cmp_f) #[] cmp_v] w K = slices_partialInsertionSortCmpFunc_int.w data__p data__n data__c a_ b_ cmp_f cmp_v w K := by kernel_rfl
theorem slices_partialInsertionSortCmpFunc_int.ok : fnOk Try.prog Try.f109 4 = true := by kernel_rfl
theorem slices_partialInsertionSortCmpFunc_int.calls {data__p : Option Addr} {data__n : Nat} {data__c : Nat} {a_ : Int} {b_ : Int} {cmp_f : FuncId} {cmp_v : Array Value} {w : World} {R : Ending → World → Prop} (h : slices_partialInsertionSortCmpFunc_int.w data__p data__n data__c a_ b_ cmp_f cmp_v w fun v w' => R (.returned v) w') : Calls Try.prog 109 #[.slice data__p data__n data__c, .int .i64 a_, .int .i64 b_, .func (.func cmp_f) #[] cmp_v] w R :=
  calls_of mixed Try.func109 slices_partialInsertionSortCmpFunc_int.ok rfl (fun K => slices_partialInsertionSortCmpFunc_int.eq data__p data__n data__c a_ b_ cmp_f cmp_v w K) h

/-! ### slices.partitionEqualCmpFunc[int]: function 110 (named slots 112) -/
def slices_partitionEqualCmpFunc_int.w (data__p : Option Addr) (data__n : Nat) (data__c : Nat) (a_ : Int) (b_ : Int) (pivot_ : Int) (cmp_f : FuncId) (cmp_v : Array Value) (w : World) (K : Value → World → Prop) : Prop :=
  ixK data__p data__n pivot_ 1 fun a1 =>
  ∃ x2 : Int, w.drew.cell? a1 = some (.int .i64 x2) ∧ 
  ixK data__p data__n a_ 1 fun a3 =>
  ∃ x4 : Int, w.drew.cell? a3 = some (.int .i64 x4) ∧ 
  ixK data__p data__n a_ 1 fun a5 =>
  ∃ w6 : World, StoreAt a5 0 [.int .i64 x2] w.drew w6 ∧ 
  ixK data__p data__n pivot_ 1 fun a7 =>
  ∃ w8 : World, StoreAt a7 0 [.int .i64 x4] w6 w8 ∧ 
  ∃ I9 : Int → Int → World → Nat → Prop, (∃ k10, I9 (IntKind.i64.wrap (a_ + (1 : Int))) (IntKind.i64.wrap (b_ - (1 : Int))) w8 k10) ∧
  ∀ (i_12 : Int) (j_13 : Int) (w14 : World) (k10 : Nat) (_ : Fr), I9 i_12 j_13 w14 k10 →
  ∃ I15 : Int → World → Nat → Prop, (∃ k16, I15 i_12 w14 k16) ∧
    ∀ (i_18 : Int) (w19 : World) (k16 : Nat) (_ : Fr), I15 i_18 w19 k16 →
    cnd (decide (i_18 ≤ j_13))
      (ixK data__p data__n a_ 1 fun a20 =>
      ∃ x21 : Int, w19.drew.cell? a20 = some (.int .i64 x21) ∧ 
      ixK data__p data__n i_18 1 fun a22 =>
      ∃ x23 : Int, w19.drew.cell? a22 = some (.int .i64 x23) ∧ 
      cnd (entB Try.prog cmp_f) (Calls Try.prog cmp_f (#[] ++ #[.int .i64 x21, .int .i64 x23] ++ cmp_v) w19.drew fun e w24 => ∃ r25 : Int, e = .returned (.int .i64 r25) ∧ 
      cnd (!(decide (r25 < (0 : Int))))
      (∃ k17, k17 < k16 ∧ I15 (IntKind.i64.wrap (i_18 + (1 : Int))) w24 k17)
      (∃ I26 : Int → World → Nat → Prop, (∃ k27, I26 j_13 w24 k27) ∧
        ∀ (j_29 : Int) (w30 : World) (k27 : Nat) (_ : Fr), I26 j_29 w30 k27 →
        cnd (decide (i_18 ≤ j_29))
          (ixK data__p data__n a_ 1 fun a31 =>
          ∃ x32 : Int, w30.drew.cell? a31 = some (.int .i64 x32) ∧ 
          ixK data__p data__n j_29 1 fun a33 =>
          ∃ x34 : Int, w30.drew.cell? a33 = some (.int .i64 x34) ∧ 
          cnd (entB Try.prog cmp_f) (Calls Try.prog cmp_f (#[] ++ #[.int .i64 x32, .int .i64 x34] ++ cmp_v) w30.drew fun e w35 => ∃ r36 : Int, e = .returned (.int .i64 r36) ∧ 
          cnd (decide (r36 < (0 : Int)))
          (∃ k28, k28 < k27 ∧ I26 (IntKind.i64.wrap (j_29 - (1 : Int))) w35 k28)
          (cnd (decide (i_18 > j_29))
            (K (.int .i64 i_18) w35)
            (ixK data__p data__n j_29 1 fun a37 =>
              ∃ x38 : Int, w35.drew.cell? a37 = some (.int .i64 x38) ∧ 
              ixK data__p data__n i_18 1 fun a39 =>
              ∃ x40 : Int, w35.drew.cell? a39 = some (.int .i64 x40) ∧ 
              ixK data__p data__n i_18 1 fun a41 =>
              ∃ w42 : World, StoreAt a41 0 [.int .i64 x38] w35.drew w42 ∧ 
              ixK data__p data__n j_29 1 fun a43 =>
              ∃ w44 : World, StoreAt a43 0 [.int .i64 x40] w42 w44 ∧ 
              ∃ k11, k11 < k10 ∧ I9 (IntKind.i64.wrap (i_18 + (1 : Int))) (IntKind.i64.wrap (j_29 - (1 : Int))) w44 k11))) False)
          (cnd (decide (i_18 > j_29))
          (K (.int .i64 i_18) w30.drew)
          (ixK data__p data__n j_29 1 fun a45 =>
            ∃ x46 : Int, w30.drew.drew.cell? a45 = some (.int .i64 x46) ∧ 
            ixK data__p data__n i_18 1 fun a47 =>
            ∃ x48 : Int, w30.drew.drew.cell? a47 = some (.int .i64 x48) ∧ 
            ixK data__p data__n i_18 1 fun a49 =>
            ∃ w50 : World, StoreAt a49 0 [.int .i64 x46] w30.drew.drew w50 ∧ 
            ixK data__p data__n j_29 1 fun a51 =>
            ∃ w52 : World, StoreAt a51 0 [.int .i64 x48] w50 w52 ∧ 
            ∃ k11, k11 < k10 ∧ I9 (IntKind.i64.wrap (i_18 + (1 : Int))) (IntKind.i64.wrap (j_29 - (1 : Int))) w52 k11)))) False)
      (∃ I53 : Int → World → Nat → Prop, (∃ k54, I53 j_13 w19.drew k54) ∧
      ∀ (j_56 : Int) (w57 : World) (k54 : Nat) (_ : Fr), I53 j_56 w57 k54 →
      cnd (decide (i_18 ≤ j_56))
        (ixK data__p data__n a_ 1 fun a58 =>
        ∃ x59 : Int, w57.drew.cell? a58 = some (.int .i64 x59) ∧ 
        ixK data__p data__n j_56 1 fun a60 =>
        ∃ x61 : Int, w57.drew.cell? a60 = some (.int .i64 x61) ∧ 
        cnd (entB Try.prog cmp_f) (Calls Try.prog cmp_f (#[] ++ #[.int .i64 x59, .int .i64 x61] ++ cmp_v) w57.drew fun e w62 => ∃ r63 : Int, e = .returned (.int .i64 r63) ∧ 
        cnd (decide (r63 < (0 : Int)))
        (∃ k55, k55 < k54 ∧ I53 (IntKind.i64.wrap (j_56 - (1 : Int))) w62 k55)
        (cnd (decide (i_18 > j_56))
          (K (.int .i64 i_18) w62)
          (ixK data__p data__n j_56 1 fun a64 =>
            ∃ x65 : Int, w62.drew.cell? a64 = some (.int .i64 x65) ∧ 
            ixK data__p data__n i_18 1 fun a66 =>
            ∃ x67 : Int, w62.drew.cell? a66 = some (.int .i64 x67) ∧ 
            ixK data__p data__n i_18 1 fun a68 =>
            ∃ w69 : World, StoreAt a68 0 [.int .i64 x65] w62.drew w69 ∧ 
            ixK data__p data__n j_56 1 fun a70 =>
            ∃ w71 : World, StoreAt a70 0 [.int .i64 x67] w69 w71 ∧ 
            ∃ k11, k11 < k10 ∧ I9 (IntKind.i64.wrap (i_18 + (1 : Int))) (IntKind.i64.wrap (j_56 - (1 : Int))) w71 k11))) False)
        (cnd (decide (i_18 > j_56))
        (K (.int .i64 i_18) w57.drew)
        (ixK data__p data__n j_56 1 fun a72 =>
          ∃ x73 : Int, w57.drew.drew.cell? a72 = some (.int .i64 x73) ∧ 
          ixK data__p data__n i_18 1 fun a74 =>
          ∃ x75 : Int, w57.drew.drew.cell? a74 = some (.int .i64 x75) ∧ 
          ixK data__p data__n i_18 1 fun a76 =>
          ∃ w77 : World, StoreAt a76 0 [.int .i64 x73] w57.drew.drew w77 ∧ 
          ixK data__p data__n j_56 1 fun a78 =>
          ∃ w79 : World, StoreAt a78 0 [.int .i64 x75] w77 w79 ∧ 
          ∃ k11, k11 < k10 ∧ I9 (IntKind.i64.wrap (i_18 + (1 : Int))) (IntKind.i64.wrap (j_56 - (1 : Int))) w79 k11)))
theorem slices_partitionEqualCmpFunc_int.eq (data__p : Option Addr) (data__n : Nat) (data__c : Nat) (a_ : Int) (b_ : Int) (pivot_ : Int) (cmp_f : FuncId) (cmp_v : Array Value) (w : World) (K : Value → World → Prop) : wpF Try.prog Try.f110 (.two .leaf (.two .leaf (.two .leaf (.two (.one (.loop [(11, 3), (12, 3)] (.one (.two (.one (.loop [(11, 3)] .leaf)) (.two (.one (.loop [(12, 3)] .leaf)) .leaf))))) .leaf)))) [.slice data__p data__n data__c, .int .i64 a_, .int .i64 b_, .int .i64 pivot_, .func (.func cmp_f) #[] cmp_v] w K = slices_partitionEqualCmpFunc_int.w data__p data__n data__c a_ b_ pivot_ cmp_f cmp_v w K := by kernel_rfl
theorem slices_partitionEqualCmpFunc_int.ok : fnOk Try.prog Try.f110 5 = true := by kernel_rfl
theorem slices_partitionEqualCmpFunc_int.calls {data__p : Option Addr} {data__n : Nat} {data__c : Nat} {a_ : Int} {b_ : Int} {pivot_ : Int} {cmp_f : FuncId} {cmp_v : Array Value} {w : World} {R : Ending → World → Prop} (h : slices_partitionEqualCmpFunc_int.w data__p data__n data__c a_ b_ pivot_ cmp_f cmp_v w fun v w' => R (.returned v) w') : Calls Try.prog 110 #[.slice data__p data__n data__c, .int .i64 a_, .int .i64 b_, .int .i64 pivot_, .func (.func cmp_f) #[] cmp_v] w R :=
  calls_of mixed Try.func110 slices_partitionEqualCmpFunc_int.ok rfl (fun K => slices_partitionEqualCmpFunc_int.eq data__p data__n data__c a_ b_ pivot_ cmp_f cmp_v w K) h

/-! ### slices.partitionCmpFunc[int]: function 111 (named slots 114) cuts [(2, 147), (2, 127)] -/
def slices_partitionCmpFunc_int.w (data__p : Option Addr) (data__n : Nat) (data__c : Nat) (a_ : Int) (b_ : Int) (pivot_ : Int) (cmp_f : FuncId) (cmp_v : Array Value) (w : World) (K : Value → World → Prop) : Prop :=
  ixK data__p data__n pivot_ 1 fun a1 =>
  ∃ x2 : Int, w.drew.cell? a1 = some (.int .i64 x2) ∧ 
  ixK data__p data__n a_ 1 fun a3 =>
  ∃ x4 : Int, w.drew.cell? a3 = some (.int .i64 x4) ∧ 
  ixK data__p data__n a_ 1 fun a5 =>
  ∃ w6 : World, StoreAt a5 0 [.int .i64 x2] w.drew w6 ∧ 
  ixK data__p data__n pivot_ 1 fun a7 =>
  ∃ w8 : World, StoreAt a7 0 [.int .i64 x4] w6 w8 ∧ 
  ∃ J9 : Int → World → Prop, (∃ I10 : Int → World → Nat → Prop, (∃ k11, I10 (IntKind.i64.wrap (a_ + (1 : Int))) w8 k11) ∧
  ∀ (i_13 : Int) (w14 : World) (k11 : Nat) (_ : Fr), I10 i_13 w14 k11 →
  cnd (decide (i_13 ≤ (IntKind.i64.wrap (b_ - (1 : Int)))))
    (ixK data__p data__n i_13 1 fun a15 =>
    ∃ x16 : Int, w14.drew.cell? a15 = some (.int .i64 x16) ∧ 
    ixK data__p data__n a_ 1 fun a17 =>
    ∃ x18 : Int, w14.drew.cell? a17 = some (.int .i64 x18) ∧ 
    cnd (entB Try.prog cmp_f) (Calls Try.prog cmp_f (#[] ++ #[.int .i64 x16, .int .i64 x18] ++ cmp_v) w14.drew fun e w19 => ∃ r20 : Int, e = .returned (.int .i64 r20) ∧ 
    cnd (decide (r20 < (0 : Int)))
    (∃ k12, k12 < k11 ∧ I10 (IntKind.i64.wrap (i_13 + (1 : Int))) w19 k12)
    (J9 i_13 w19)) False)
    (J9 i_13 w14.drew)) ∧
  ∀ (i_21 : Int) (w22 : World) (_ : Fr), J9 i_21 w22 → 
  ∃ J23 : Int → World → Prop, (∃ I24 : Int → World → Nat → Prop, (∃ k25, I24 (IntKind.i64.wrap (b_ - (1 : Int))) w22 k25) ∧
  ∀ (j_27 : Int) (w28 : World) (k25 : Nat) (_ : Fr), I24 j_27 w28 k25 →
  cnd (decide (i_21 ≤ j_27))
    (ixK data__p data__n j_27 1 fun a29 =>
    ∃ x30 : Int, w28.drew.cell? a29 = some (.int .i64 x30) ∧ 
    ixK data__p data__n a_ 1 fun a31 =>
    ∃ x32 : Int, w28.drew.cell? a31 = some (.int .i64 x32) ∧ 
    cnd (entB Try.prog cmp_f) (Calls Try.prog cmp_f (#[] ++ #[.int .i64 x30, .int .i64 x32] ++ cmp_v) w28.drew fun e w33 => ∃ r34 : Int, e = .returned (.int .i64 r34) ∧ 
    cnd (!(decide (r34 < (0 : Int))))
    (∃ k26, k26 < k25 ∧ I24 (IntKind.i64.wrap (j_27 - (1 : Int))) w33 k26)
    (J23 j_27 w33)) False)
    (J23 j_27 w28.drew)) ∧
  ∀ (j_35 : Int) (w36 : World) (_ : Fr), J23 j_35 w36 → 
  cnd (decide (i_21 > j_35))
  (ixK data__p data__n a_ 1 fun a37 =>
    ∃ x38 : Int, w36.drew.cell? a37 = some (.int .i64 x38) ∧ 
    ixK data__p data__n j_35 1 fun a39 =>
    ∃ x40 : Int, w36.drew.cell? a39 = some (.int .i64 x40) ∧ 
    ixK data__p data__n j_35 1 fun a41 =>
    ∃ w42 : World, StoreAt a41 0 [.int .i64 x38] w36.drew w42 ∧ 
    ixK data__p data__n a_ 1 fun a43 =>
    ∃ w44 : World, StoreAt a43 0 [.int .i64 x40] w42 w44 ∧ 
    K (.tuple #[.int .i64 j_35, .bool true]) w44)
  (ixK data__p data__n j_35 1 fun a45 =>
    ∃ x46 : Int, w36.drew.cell? a45 = some (.int .i64 x46) ∧ 
    ixK data__p data__n i_21 1 fun a47 =>
    ∃ x48 : Int, w36.drew.cell? a47 = some (.int .i64 x48) ∧ 
    ixK data__p data__n i_21 1 fun a49 =>
    ∃ w50 : World, StoreAt a49 0 [.int .i64 x46] w36.drew w50 ∧ 
    ixK data__p data__n j_35 1 fun a51 =>
    ∃ w52 : World, StoreAt a51 0 [.int .i64 x48] w50 w52 ∧ 
    ∃ I53 : Int → Int → World → Nat → Prop, (∃ k54, I53 (IntKind.i64.wrap (i_21 + (1 : Int))) (IntKind.i64.wrap (j_35 - (1 : Int))) w52 k54) ∧
    ∀ (i_56 : Int) (j_57 : Int) (w58 : World) (k54 : Nat) (_ : Fr), I53 i_56 j_57 w58 k54 →
    ∃ I59 : Int → World → Nat → Prop, (∃ k60, I59 i_56 w58 k60) ∧
      ∀ (i_62 : Int) (w63 : World) (k60 : Nat) (_ : Fr), I59 i_62 w63 k60 →
      cnd (decide (i_62 ≤ j_57))
        (ixK data__p data__n i_62 1 fun a64 =>
        ∃ x65 : Int, w63.drew.cell? a64 = some (.int .i64 x65) ∧ 
        ixK data__p data__n a_ 1 fun a66 =>
        ∃ x67 : Int, w63.drew.cell? a66 = some (.int .i64 x67) ∧ 
        cnd (entB Try.prog cmp_f) (Calls Try.prog cmp_f (#[] ++ #[.int .i64 x65, .int .i64 x67] ++ cmp_v) w63.drew fun e w68 => ∃ r69 : Int, e = .returned (.int .i64 r69) ∧ 
        cnd (decide (r69 < (0 : Int)))
        (∃ k61, k61 < k60 ∧ I59 (IntKind.i64.wrap (i_62 + (1 : Int))) w68 k61)
        (∃ I70 : Int → World → Nat → Prop, (∃ k71, I70 j_57 w68 k71) ∧
          ∀ (j_73 : Int) (w74 : World) (k71 : Nat) (_ : Fr), I70 j_73 w74 k71 →
          cnd (decide (i_62 ≤ j_73))
            (ixK data__p data__n j_73 1 fun a75 =>
            ∃ x76 : Int, w74.drew.cell? a75 = some (.int .i64 x76) ∧ 
            ixK data__p data__n a_ 1 fun a77 =>
            ∃ x78 : Int, w74.drew.cell? a77 = some (.int .i64 x78) ∧ 
            cnd (entB Try.prog cmp_f) (Calls Try.prog cmp_f (#[] ++ #[.int .i64 x76, .int .i64 x78] ++ cmp_v) w74.drew fun e w79 => ∃ r80 : Int, e = .returned (.int .i64 r80) ∧ 
            cnd (!(decide (r80 < (0 : Int))))
            (∃ k72, k72 < k71 ∧ I70 (IntKind.i64.wrap (j_73 - (1 : Int))) w79 k72)
            (cnd (decide (i_62 > j_73))
              (ixK data__p data__n a_ 1 fun a81 =>
                ∃ x82 : Int, w79.drew.cell? a81 = some (.int .i64 x82) ∧ 
                ixK data__p data__n j_73 1 fun a83 =>
                ∃ x84 : Int, w79.drew.cell? a83 = some (.int .i64 x84) ∧ 
                ixK data__p data__n j_73 1 fun a85 =>
                ∃ w86 : World, StoreAt a85 0 [.int .i64 x82] w79.drew w86 ∧ 
                ixK data__p data__n a_ 1 fun a87 =>
                ∃ w88 : World, StoreAt a87 0 [.int .i64 x84] w86 w88 ∧ 
                K (.tuple #[.int .i64 j_73, .bool false]) w88)
              (ixK data__p data__n j_73 1 fun a89 =>
                ∃ x90 : Int, w79.drew.cell? a89 = some (.int .i64 x90) ∧ 
                ixK data__p data__n i_62 1 fun a91 =>
                ∃ x92 : Int, w79.drew.cell? a91 = some (.int .i64 x92) ∧ 
                ixK data__p data__n i_62 1 fun a93 =>
                ∃ w94 : World, StoreAt a93 0 [.int .i64 x90] w79.drew w94 ∧ 
                ixK data__p data__n j_73 1 fun a95 =>
                ∃ w96 : World, StoreAt a95 0 [.int .i64 x92] w94 w96 ∧ 
                ∃ k55, k55 < k54 ∧ I53 (IntKind.i64.wrap (i_62 + (1 : Int))) (IntKind.i64.wrap (j_73 - (1 : Int))) w96 k55))) False)
            (cnd (decide (i_62 > j_73))
            (ixK data__p data__n a_ 1 fun a97 =>
              ∃ x98 : Int, w74.drew.drew.cell? a97 = some (.int .i64 x98) ∧ 
              ixK data__p data__n j_73 1 fun a99 =>
              ∃ x100 : Int, w74.drew.drew.cell? a99 = some (.int .i64 x100) ∧ 
              ixK data__p data__n j_73 1 fun a101 =>
              ∃ w102 : World, StoreAt a101 0 [.int .i64 x98] w74.drew.drew w102 ∧ 
              ixK data__p data__n a_ 1 fun a103 =>
              ∃ w104 : World, StoreAt a103 0 [.int .i64 x100] w102 w104 ∧ 
              K (.tuple #[.int .i64 j_73, .bool false]) w104)
            (ixK data__p data__n j_73 1 fun a105 =>
              ∃ x106 : Int, w74.drew.drew.cell? a105 = some (.int .i64 x106) ∧ 
              ixK data__p data__n i_62 1 fun a107 =>
              ∃ x108 : Int, w74.drew.drew.cell? a107 = some (.int .i64 x108) ∧ 
              ixK data__p data__n i_62 1 fun a109 =>
              ∃ w110 : World, StoreAt a109 0 [.int .i64 x106] w74.drew.drew w110 ∧ 
              ixK data__p data__n j_73 1 fun a111 =>
              ∃ w112 : World, StoreAt a111 0 [.int .i64 x108] w110 w112 ∧ 
              ∃ k55, k55 < k54 ∧ I53 (IntKind.i64.wrap (i_62 + (1 : Int))) (IntKind.i64.wrap (j_73 - (1 : Int))) w112 k55)))) False)
        (∃ I113 : Int → World → Nat → Prop, (∃ k114, I113 j_57 w63.drew k114) ∧
        ∀ (j_116 : Int) (w117 : World) (k114 : Nat) (_ : Fr), I113 j_116 w117 k114 →
        cnd (decide (i_62 ≤ j_116))
          (ixK data__p data__n j_116 1 fun a118 =>
          ∃ x119 : Int, w117.drew.cell? a118 = some (.int .i64 x119) ∧ 
          ixK data__p data__n a_ 1 fun a120 =>
          ∃ x121 : Int, w117.drew.cell? a120 = some (.int .i64 x121) ∧ 
          cnd (entB Try.prog cmp_f) (Calls Try.prog cmp_f (#[] ++ #[.int .i64 x119, .int .i64 x121] ++ cmp_v) w117.drew fun e w122 => ∃ r123 : Int, e = .returned (.int .i64 r123) ∧ 
          cnd (!(decide (r123 < (0 : Int))))
          (∃ k115, k115 < k114 ∧ I113 (IntKind.i64.wrap (j_116 - (1 : Int))) w122 k115)
          (cnd (decide (i_62 > j_116))
            (ixK data__p data__n a_ 1 fun a124 =>
              ∃ x125 : Int, w122.drew.cell? a124 = some (.int .i64 x125) ∧ 
              ixK data__p data__n j_116 1 fun a126 =>
              ∃ x127 : Int, w122.drew.cell? a126 = some (.int .i64 x127) ∧ 
              ixK data__p data__n j_116 1 fun a128 =>
              ∃ w129 : World, StoreAt a128 0 [.int .i64 x125] w122.drew w129 ∧ 
              ixK data__p data__n a_ 1 fun a130 =>
              ∃ w131 : World, StoreAt a130 0 [.int .i64 x127] w129 w131 ∧ 
              K (.tuple #[.int .i64 j_116, .bool false]) w131)
            (ixK data__p data__n j_116 1 fun a132 =>
              ∃ x133 : Int, w122.drew.cell? a132 = some (.int .i64 x133) ∧ 
              ixK data__p data__n i_62 1 fun a134 =>
              ∃ x135 : Int, w122.drew.cell? a134 = some (.int .i64 x135) ∧ 
              ixK data__p data__n i_62 1 fun a136 =>
              ∃ w137 : World, StoreAt a136 0 [.int .i64 x133] w122.drew w137 ∧ 
              ixK data__p data__n j_116 1 fun a138 =>
              ∃ w139 : World, StoreAt a138 0 [.int .i64 x135] w137 w139 ∧ 
              ∃ k55, k55 < k54 ∧ I53 (IntKind.i64.wrap (i_62 + (1 : Int))) (IntKind.i64.wrap (j_116 - (1 : Int))) w139 k55))) False)
          (cnd (decide (i_62 > j_116))
          (ixK data__p data__n a_ 1 fun a140 =>
            ∃ x141 : Int, w117.drew.drew.cell? a140 = some (.int .i64 x141) ∧ 
            ixK data__p data__n j_116 1 fun a142 =>
            ∃ x143 : Int, w117.drew.drew.cell? a142 = some (.int .i64 x143) ∧ 
            ixK data__p data__n j_116 1 fun a144 =>
            ∃ w145 : World, StoreAt a144 0 [.int .i64 x141] w117.drew.drew w145 ∧ 
            ixK data__p data__n a_ 1 fun a146 =>
            ∃ w147 : World, StoreAt a146 0 [.int .i64 x143] w145 w147 ∧ 
            K (.tuple #[.int .i64 j_116, .bool false]) w147)
          (ixK data__p data__n j_116 1 fun a148 =>
            ∃ x149 : Int, w117.drew.drew.cell? a148 = some (.int .i64 x149) ∧ 
            ixK data__p data__n i_62 1 fun a150 =>
            ∃ x151 : Int, w117.drew.drew.cell? a150 = some (.int .i64 x151) ∧ 
            ixK data__p data__n i_62 1 fun a152 =>
            ∃ w153 : World, StoreAt a152 0 [.int .i64 x149] w117.drew.drew w153 ∧ 
            ixK data__p data__n j_116 1 fun a154 =>
            ∃ w155 : World, StoreAt a154 0 [.int .i64 x151] w153 w155 ∧ 
            ∃ k55, k55 < k54 ∧ I53 (IntKind.i64.wrap (i_62 + (1 : Int))) (IntKind.i64.wrap (j_116 - (1 : Int))) w155 k55))))
theorem slices_partitionCmpFunc_int.eq (data__p : Option Addr) (data__n : Nat) (data__c : Nat) (a_ : Int) (b_ : Int) (pivot_ : Int) (cmp_f : FuncId) (cmp_v : Array Value) (w : World) (K : Value → World → Prop) : wpF Try.prog Try.f111 (.two .leaf (.two .leaf (.two .leaf (.cut [(12, 3)] (.one (.loop [(12, 3)] .leaf)) (.cut [(13, 3)] (.one (.loop [(13, 3)] .leaf)) (.two .leaf (.two .leaf (.two .leaf (.two .leaf (.two (.one (.loop [(12, 3), (13, 3)] (.one (.two (.one (.loop [(12, 3)] .leaf)) (.two (.one (.loop [(13, 3)] .leaf)) .leaf))))) .leaf)))))))))) [.slice data__p data__n data__c, .int .i64 a_, .int .i64 b_, .int .i64 pivot_, .func (.func cmp_f) #[] cmp_v] w K = slices_partitionCmpFunc_int.w data__p data__n data__c a_ b_ pivot_ cmp_f cmp_v w K := by kernel_rfl
theorem slices_partitionCmpFunc_int.ok : fnOk Try.prog Try.f111 5 = true := by kernel_rfl
theorem slices_partitionCmpFunc_int.calls {data__p : Option Addr} {data__n : Nat} {data__c : Nat} {a_ : Int} {b_ : Int} {pivot_ : Int} {cmp_f : FuncId} {cmp_v : Array Value} {w : World} {R : Ending → World → Prop} (h : slices_partitionCmpFunc_int.w data__p data__n data__c a_ b_ pivot_ cmp_f cmp_v w fun v w' => R (.returned v) w') : Calls Try.prog 111 #[.slice data__p data__n data__c, .int .i64 a_, .int .i64 b_, .int .i64 pivot_, .func (.func cmp_f) #[] cmp_v] w R :=
  calls_of mixed Try.func111 slices_partitionCmpFunc_int.ok rfl (fun K => slices_partitionCmpFunc_int.eq data__p data__n data__c a_ b_ pivot_ cmp_f cmp_v w K) h

/-! ### math/bits.Len32: function 112 (named slots 3) -/
def bits_Len32.w (x0_ : Int) (w : World) (K : Value → World → Prop) : Prop :=
  cnd (decide (x0_ ≥ (65536 : Int)))
  (0 ≤ (16 : Int) ∧ cnd (decide ((x0_.fdiv (2 ^ (min (16 : Int).toNat (IntKind.bits .u32)))) ≥ (256 : Int)))
    (0 ≤ (8 : Int) ∧ ∃ b1, 0 ≤ (IntKind.u8.wrap ((x0_.fdiv (2 ^ (min (16 : Int).toNat (IntKind.bits .u32)))).fdiv (2 ^ (min (8 : Int).toNat (IntKind.bits .u32))))) ∧ strtab0[(IntKind.u8.wrap ((x0_.fdiv (2 ^ (min (16 : Int).toNat (IntKind.bits .u32)))).fdiv (2 ^ (min (8 : Int).toNat (IntKind.bits .u32))))).toNat]? = some b1 ∧ 
      K (.int .i64 (IntKind.i64.wrap ((IntKind.i64.wrap ((16 : Int) + (8 : Int))) + (IntKind.i64.wrap (b1.toNat : Int))))) w)
    (∃ b2, 0 ≤ (IntKind.u8.wrap (x0_.fdiv (2 ^ (min (16 : Int).toNat (IntKind.bits .u32))))) ∧ strtab0[(IntKind.u8.wrap (x0_.fdiv (2 ^ (min (16 : Int).toNat (IntKind.bits .u32))))).toNat]? = some b2 ∧ 
      K (.int .i64 (IntKind.i64.wrap ((16 : Int) + (IntKind.i64.wrap (b2.toNat : Int))))) w))
  (cnd (decide (x0_ ≥ (256 : Int)))
    (0 ≤ (8 : Int) ∧ ∃ b3, 0 ≤ (IntKind.u8.wrap (x0_.fdiv (2 ^ (min (8 : Int).toNat (IntKind.bits .u32))))) ∧ strtab0[(IntKind.u8.wrap (x0_.fdiv (2 ^ (min (8 : Int).toNat (IntKind.bits .u32))))).toNat]? = some b3 ∧ 
      K (.int .i64 (IntKind.i64.wrap ((IntKind.i64.wrap ((0 : Int) + (8 : Int))) + (IntKind.i64.wrap (b3.toNat : Int))))) w)
    (∃ b4, 0 ≤ (IntKind.u8.wrap x0_) ∧ strtab0[(IntKind.u8.wrap x0_).toNat]? = some b4 ∧ 
      K (.int .i64 (IntKind.i64.wrap ((0 : Int) + (IntKind.i64.wrap (b4.toNat : Int))))) w))
theorem bits_Len32.eq (x0_ : Int) (w : World) (K : Value → World → Prop) : wpF Try.prog Try.f112 .leaf [.int .u32 x0_] w K = bits_Len32.w x0_ w K := by kernel_rfl
theorem bits_Len32.ok : fnOk Try.prog Try.f112 1 = true := by kernel_rfl
theorem bits_Len32.calls {x0_ : Int} {w : World} {R : Ending → World → Prop} (h : bits_Len32.w x0_ w fun v w' => R (.returned v) w') : Calls Try.prog 112 #[.int .u32 x0_] w R :=
  calls_of mixed Try.func112 bits_Len32.ok rfl (fun K => bits_Len32.eq x0_ w K) h

/-! ### math/bits.Len64: function 113 (named slots 3) -/
def bits_Len64.w (x0_ : Int) (w : World) (K : Value → World → Prop) : Prop :=
  cnd (decide (x0_ ≥ (4294967296 : Int)))
  (0 ≤ (32 : Int) ∧ cnd (decide ((x0_.fdiv (2 ^ (min (32 : Int).toNat (IntKind.bits .u64)))) ≥ (65536 : Int)))
    (0 ≤ (16 : Int) ∧ cnd (decide (((x0_.fdiv (2 ^ (min (32 : Int).toNat (IntKind.bits .u64)))).fdiv (2 ^ (min (16 : Int).toNat (IntKind.bits .u64)))) ≥ (256 : Int)))
      (0 ≤ (8 : Int) ∧ ∃ b1, 0 ≤ (IntKind.u8.wrap (((x0_.fdiv (2 ^ (min (32 : Int).toNat (IntKind.bits .u64)))).fdiv (2 ^ (min (16 : Int).toNat (IntKind.bits .u64)))).fdiv (2 ^ (min (8 : Int).toNat (IntKind.bits .u64))))) ∧ strtab0[(IntKind.u8.wrap (((x0_.fdiv (2 ^ (min (32 : Int).toNat (IntKind.bits .u64)))).fdiv (2 ^ (min (16 : Int).toNat (IntKind.bits .u64)))).fdiv (2 ^ (min (8 : Int).toNat (IntKind.bits .u64))))).toNat]? = some b1 ∧ 
        K (.int .i64 (IntKind.i64.wrap ((IntKind.i64.wrap ((IntKind.i64.wrap ((32 : Int) + (16 : Int))) + (8 : Int))) + (IntKind.i64.wrap (b1.toNat : Int))))) w)
      (∃ b2, 0 ≤ (IntKind.u8.wrap ((x0_.fdiv (2 ^ (min (32 : Int).toNat (IntKind.bits .u64)))).fdiv (2 ^ (min (16 : Int).toNat (IntKind.bits .u64))))) ∧ strtab0[(IntKind.u8.wrap ((x0_.fdiv (2 ^ (min (32 : Int).toNat (IntKind.bits .u64)))).fdiv (2 ^ (min (16 : Int).toNat (IntKind.bits .u64))))).toNat]? = some b2 ∧ 
        K (.int .i64 (IntKind.i64.wrap ((IntKind.i64.wrap ((32 : Int) + (16 : Int))) + (IntKind.i64.wrap (b2.toNat : Int))))) w))
    (cnd (decide ((x0_.fdiv (2 ^ (min (32 : Int).toNat (IntKind.bits .u64)))) ≥ (256 : Int)))
      (0 ≤ (8 : Int) ∧ ∃ b3, 0 ≤ (IntKind.u8.wrap ((x0_.fdiv (2 ^ (min (32 : Int).toNat (IntKind.bits .u64)))).fdiv (2 ^ (min (8 : Int).toNat (IntKind.bits .u64))))) ∧ strtab0[(IntKind.u8.wrap ((x0_.fdiv (2 ^ (min (32 : Int).toNat (IntKind.bits .u64)))).fdiv (2 ^ (min (8 : Int).toNat (IntKind.bits .u64))))).toNat]? = some b3 ∧ 
        K (.int .i64 (IntKind.i64.wrap ((IntKind.i64.wrap ((32 : Int) + (8 : Int))) + (IntKind.i64.wrap (b3.toNat : Int))))) w)
      (∃ b4, 0 ≤ (IntKind.u8.wrap (x0_.fdiv (2 ^ (min (32 : Int).toNat (IntKind.bits .u64))))) ∧ strtab0[(IntKind.u8.wrap (x0_.fdiv (2 ^ (min (32 : Int).toNat (IntKind.bits .u64))))).toNat]? = some b4 ∧ 
        K (.int .i64 (IntKind.i64.wrap ((32 : Int) + (IntKind.i64.wrap (b4.toNat : Int))))) w)))
  (cnd (decide (x0_ ≥ (65536 : Int)))
    (0 ≤ (16 : Int) ∧ cnd (decide ((x0_.fdiv (2 ^ (min (16 : Int).toNat (IntKind.bits .u64)))) ≥ (256 : Int)))
      (0 ≤ (8 : Int) ∧ ∃ b5, 0 ≤ (IntKind.u8.wrap ((x0_.fdiv (2 ^ (min (16 : Int).toNat (IntKind.bits .u64)))).fdiv (2 ^ (min (8 : Int).toNat (IntKind.bits .u64))))) ∧ strtab0[(IntKind.u8.wrap ((x0_.fdiv (2 ^ (min (16 : Int).toNat (IntKind.bits .u64)))).fdiv (2 ^ (min (8 : Int).toNat (IntKind.bits .u64))))).toNat]? = some b5 ∧ 
        K (.int .i64 (IntKind.i64.wrap ((IntKind.i64.wrap ((IntKind.i64.wrap ((0 : Int) + (16 : Int))) + (8 : Int))) + (IntKind.i64.wrap (b5.toNat : Int))))) w)
      (∃ b6, 0 ≤ (IntKind.u8.wrap (x0_.fdiv (2 ^ (min (16 : Int).toNat (IntKind.bits .u64))))) ∧ strtab0[(IntKind.u8.wrap (x0_.fdiv (2 ^ (min (16 : Int).toNat (IntKind.bits .u64))))).toNat]? = some b6 ∧ 
        K (.int .i64 (IntKind.i64.wrap ((IntKind.i64.wrap ((0 : Int) + (16 : Int))) + (IntKind.i64.wrap (b6.toNat : Int))))) w))
    (cnd (decide (x0_ ≥ (256 : Int)))
      (0 ≤ (8 : Int) ∧ ∃ b7, 0 ≤ (IntKind.u8.wrap (x0_.fdiv (2 ^ (min (8 : Int).toNat (IntKind.bits .u64))))) ∧ strtab0[(IntKind.u8.wrap (x0_.fdiv (2 ^ (min (8 : Int).toNat (IntKind.bits .u64))))).toNat]? = some b7 ∧ 
        K (.int .i64 (IntKind.i64.wrap ((IntKind.i64.wrap ((0 : Int) + (8 : Int))) + (IntKind.i64.wrap (b7.toNat : Int))))) w)
      (∃ b8, 0 ≤ (IntKind.u8.wrap x0_) ∧ strtab0[(IntKind.u8.wrap x0_).toNat]? = some b8 ∧ 
        K (.int .i64 (IntKind.i64.wrap ((0 : Int) + (IntKind.i64.wrap (b8.toNat : Int))))) w)))
theorem bits_Len64.eq (x0_ : Int) (w : World) (K : Value → World → Prop) : wpF Try.prog Try.f113 .leaf [.int .u64 x0_] w K = bits_Len64.w x0_ w K := by kernel_rfl
theorem bits_Len64.ok : fnOk Try.prog Try.f113 1 = true := by kernel_rfl
theorem bits_Len64.calls {x0_ : Int} {w : World} {R : Ending → World → Prop} (h : bits_Len64.w x0_ w fun v w' => R (.returned v) w') : Calls Try.prog 113 #[.int .u64 x0_] w R :=
  calls_of mixed Try.func113 bits_Len64.ok rfl (fun K => bits_Len64.eq x0_ w K) h

/-! ### slices.siftDownCmpFunc[int]: function 114 (named slots 101) cuts [(3, 42)] -/
def slices_siftDownCmpFunc_int.w (data__p : Option Addr) (data__n : Nat) (data__c : Nat) (lo_ : Int) (hi_ : Int) (first_ : Int) (cmp_f : FuncId) (cmp_v : Array Value) (w : World) (K : Value → World → Prop) : Prop :=
  ∃ I1 : Int → World → Nat → Prop, (∃ k2, I1 lo_ w k2) ∧
  ∀ (root_4 : Int) (w5 : World) (k2 : Nat) (_ : Fr), I1 root_4 w5 k2 →
  cnd (decide ((IntKind.i64.wrap ((IntKind.i64.wrap ((2 : Int) * root_4)) + (1 : Int))) ≥ hi_))
    (K (.tuple #[]) w5)
    (∃ J6 : Int → World → Prop, (cnd (decide ((IntKind.i64.wrap ((IntKind.i64.wrap ((IntKind.i64.wrap ((2 : Int) * root_4)) + (1 : Int))) + (1 : Int))) < hi_))
      (ixK data__p data__n (IntKind.i64.wrap (first_ + (IntKind.i64.wrap ((IntKind.i64.wrap ((2 : Int) * root_4)) + (1 : Int))))) 1 fun a7 =>
      ∃ x8 : Int, w5.drew.cell? a7 = some (.int .i64 x8) ∧ 
      ixK data__p data__n (IntKind.i64.wrap ((IntKind.i64.wrap (first_ + (IntKind.i64.wrap ((IntKind.i64.wrap ((2 : Int) * root_4)) + (1 : Int))))) + (1 : Int))) 1 fun a9 =>
      ∃ x10 : Int, w5.drew.cell? a9 = some (.int .i64 x10) ∧ 
      cnd (entB Try.prog cmp_f) (Calls Try.prog cmp_f (#[] ++ #[.int .i64 x8, .int .i64 x10] ++ cmp_v) w5.drew fun e w11 => ∃ r12 : Int, e = .returned (.int .i64 r12) ∧ 
      cnd (decide (r12 < (0 : Int)))
      (J6 (IntKind.i64.wrap ((IntKind.i64.wrap ((IntKind.i64.wrap ((2 : Int) * root_4)) + (1 : Int))) + (1 : Int))) w11)
      (J6 (IntKind.i64.wrap ((IntKind.i64.wrap ((2 : Int) * root_4)) + (1 : Int))) w11)) False)
      (J6 (IntKind.i64.wrap ((IntKind.i64.wrap ((2 : Int) * root_4)) + (1 : Int))) w5.drew)) ∧
      ∀ (child_13 : Int) (w14 : World) (_ : Fr), J6 child_13 w14 → 
      ixK data__p data__n (IntKind.i64.wrap (first_ + root_4)) 1 fun a15 =>
      ∃ x16 : Int, w14.drew.cell? a15 = some (.int .i64 x16) ∧ 
      ixK data__p data__n (IntKind.i64.wrap (first_ + child_13)) 1 fun a17 =>
      ∃ x18 : Int, w14.drew.cell? a17 = some (.int .i64 x18) ∧ 
      cnd (entB Try.prog cmp_f) (Calls Try.prog cmp_f (#[] ++ #[.int .i64 x16, .int .i64 x18] ++ cmp_v) w14.drew fun e w19 => ∃ r20 : Int, e = .returned (.int .i64 r20) ∧ 
      cnd (!(decide (r20 < (0 : Int))))
      (K (.tuple #[]) w19)
      (ixK data__p data__n (IntKind.i64.wrap (first_ + child_13)) 1 fun a21 =>
        ∃ x22 : Int, w19.drew.cell? a21 = some (.int .i64 x22) ∧ 
        ixK data__p data__n (IntKind.i64.wrap (first_ + root_4)) 1 fun a23 =>
        ∃ x24 : Int, w19.drew.cell? a23 = some (.int .i64 x24) ∧ 
        ixK data__p data__n (IntKind.i64.wrap (first_ + root_4)) 1 fun a25 =>
        ∃ w26 : World, StoreAt a25 0 [.int .i64 x22] w19.drew w26 ∧ 
        ixK data__p data__n (IntKind.i64.wrap (first_ + child_13)) 1 fun a27 =>
        ∃ w28 : World, StoreAt a27 0 [.int .i64 x24] w26 w28 ∧ 
        ∃ k3, k3 < k2 ∧ I1 child_13 w28 k3)) False)
theorem slices_siftDownCmpFunc_int.eq (data__p : Option Addr) (data__n : Nat) (data__c : Nat) (lo_ : Int) (hi_ : Int) (first_ : Int) (cmp_f : FuncId) (cmp_v : Array Value) (w : World) (K : Value → World → Prop) : wpF Try.prog Try.f114 (.two .leaf (.one (.loop [(10, 3)] (.one (.two .leaf (.two .leaf (.cut [(11, 3)] .leaf .leaf))))))) [.slice data__p data__n data__c, .int .i64 lo_, .int .i64 hi_, .int .i64 first_, .func (.func cmp_f) #[] cmp_v] w K = slices_siftDownCmpFunc_int.w data__p data__n data__c lo_ hi_ first_ cmp_f cmp_v w K := by kernel_rfl
theorem slices_siftDownCmpFunc_int.ok : fnOk Try.prog Try.f114 5 = true := by kernel_rfl
theorem slices_siftDownCmpFunc_int.calls {data__p : Option Addr} {data__n : Nat} {data__c : Nat} {lo_ : Int} {hi_ : Int} {first_ : Int} {cmp_f : FuncId} {cmp_v : Array Value} {w : World} {R : Ending → World → Prop} (h : slices_siftDownCmpFunc_int.w data__p data__n data__c lo_ hi_ first_ cmp_f cmp_v w fun v w' => R (.returned v) w') : Calls Try.prog 114 #[.slice data__p data__n data__c, .int .i64 lo_, .int .i64 hi_, .int .i64 first_, .func (.func cmp_f) #[] cmp_v] w R :=
  calls_of mixed Try.func114 slices_siftDownCmpFunc_int.ok rfl (fun K => slices_siftDownCmpFunc_int.eq data__p data__n data__c lo_ hi_ first_ cmp_f cmp_v w K) h

/-! ### slices.nextPowerOfTwo: function 115 (named slots 3) -/
def slices_nextPowerOfTwo.w (length_ : Int) (w : World) (K : Value → World → Prop) : Prop :=
  Calls Try.prog 99 #[.int .u64 (IntKind.u64.wrap length_)] w fun e w1 => ∃ r2 : Int, e = .returned (.int .i64 r2) ∧ 
  0 ≤ r2 ∧ K (.int .u64 (IntKind.u64.wrap ((1 : Int) * 2 ^ (min r2.toNat (IntKind.bits .u64))))) w1
theorem slices_nextPowerOfTwo.eq (length_ : Int) (w : World) (K : Value → World → Prop) : wpF Try.prog Try.f115 .leaf [.int .i64 length_] w K = slices_nextPowerOfTwo.w length_ w K := by kernel_rfl
theorem slices_nextPowerOfTwo.ok : fnOk Try.prog Try.f115 1 = true := by kernel_rfl
theorem slices_nextPowerOfTwo.calls {length_ : Int} {w : World} {R : Ending → World → Prop} (h : slices_nextPowerOfTwo.w length_ w fun v w' => R (.returned v) w') : Calls Try.prog 115 #[.int .i64 length_] w R :=
  calls_of mixed Try.func115 slices_nextPowerOfTwo.ok rfl (fun K => slices_nextPowerOfTwo.eq length_ w K) h

/-! ### (*slices.xorshift).Next: function 116 (named slots 3) -/
def slices_xorshift_Next.w (r_ : Option Addr) (w : World) (K : Value → World → Prop) : Prop :=
  ∃ a1 : Addr, r_ = some a1 ∧ ∃ x2 : Int, w.drew.cell? a1 = some (.int .u64 x2) ∧ 
  ∃ a3 : Addr, r_ = some a3 ∧ ∃ x4 : Int, w.drew.cell? a3 = some (.int .u64 x4) ∧ 
  0 ≤ (13 : Int) ∧ ∃ a5 : Addr, r_ = some a5 ∧ ∃ w6 : World, StoreAt a5 0 [.int .u64 (IntKind.u64.wrap ((BitVec.ofInt (IntKind.bits .u64) x2 ^^^ BitVec.ofInt (IntKind.bits .u64) (IntKind.u64.wrap (x4 * 2 ^ (min (13 : Int).toNat (IntKind.bits .u64))))).toNat))] w.drew w6 ∧ 
  ∃ a7 : Addr, r_ = some a7 ∧ ∃ x8 : Int, w6.drew.cell? a7 = some (.int .u64 x8) ∧ 
  ∃ a9 : Addr, r_ = some a9 ∧ ∃ x10 : Int, w6.drew.cell? a9 = some (.int .u64 x10) ∧ 
  0 ≤ (7 : Int) ∧ ∃ a11 : Addr, r_ = some a11 ∧ ∃ w12 : World, StoreAt a11 0 [.int .u64 (IntKind.u64.wrap ((BitVec.ofInt (IntKind.bits .u64) x8 ^^^ BitVec.ofInt (IntKind.bits .u64) (x10.fdiv (2 ^ (min (7 : Int).toNat (IntKind.bits .u64))))).toNat))] w6.drew w12 ∧ 
  ∃ a13 : Addr, r_ = some a13 ∧ ∃ x14 : Int, w12.drew.cell? a13 = some (.int .u64 x14) ∧ 
  ∃ a15 : Addr, r_ = some a15 ∧ ∃ x16 : Int, w12.drew.cell? a15 = some (.int .u64 x16) ∧ 
  0 ≤ (17 : Int) ∧ ∃ a17 : Addr, r_ = some a17 ∧ ∃ w18 : World, StoreAt a17 0 [.int .u64 (IntKind.u64.wrap ((BitVec.ofInt (IntKind.bits .u64) x14 ^^^ BitVec.ofInt (IntKind.bits .u64) (IntKind.u64.wrap (x16 * 2 ^ (min (17 : Int).toNat (IntKind.bits .u64))))).toNat))] w12.drew w18 ∧ 
  ∃ a19 : Addr, r_ = some a19 ∧ ∃ x20 : Int, w18.cell? a19 = some (.int .u64 x20) ∧ 
  K (.int .u64 x20) w18
theorem slices_xorshift_Next.eq (r_ : Option Addr) (w : World) (K : Value → World → Prop) : wpF Try.prog Try.f116 .leaf [.pointer r_] w K = slices_xorshift_Next.w r_ w K := by kernel_rfl
theorem slices_xorshift_Next.ok : fnOk Try.prog Try.f116 1 = true := by kernel_rfl
theorem slices_xorshift_Next.calls {r_ : Option Addr} {w : World} {R : Ending → World → Prop} (h : slices_xorshift_Next.w r_ w fun v w' => R (.returned v) w') : Calls Try.prog 116 #[.pointer r_] w R :=
  calls_of mixed Try.func116 slices_xorshift_Next.ok rfl (fun K => slices_xorshift_Next.eq r_ w K) h

/-! ### slices.medianAdjacentCmpFunc[int]: function 117 (named slots 121) -/
def slices_medianAdjacentCmpFunc_int.w (data__p : Option Addr) (data__n : Nat) (data__c : Nat) (a_ : Int) (swaps_ : Option Addr) (cmp_f : FuncId) (cmp_v : Array Value) (w : World) (K : Value → World → Prop) : Prop :=
  Calls Try.prog 118 #[.slice data__p data__n data__c, .int .i64 (IntKind.i64.wrap (a_ - (1 : Int))), .int .i64 a_, .int .i64 (IntKind.i64.wrap (a_ + (1 : Int))), .pointer swaps_, .func (.func cmp_f) #[] cmp_v] w fun e w1 => ∃ r2 : Int, e = .returned (.int .i64 r2) ∧ 
  K (.int .i64 r2) w1
theorem slices_medianAdjacentCmpFunc_int.eq (data__p : Option Addr) (data__n : Nat) (data__c : Nat) (a_ : Int) (swaps_ : Option Addr) (cmp_f : FuncId) (cmp_v : Array Value) (w : World) (K : Value → World → Prop) : wpF Try.prog Try.f117 .leaf [.slice data__p data__n data__c, .int .i64 a_, .pointer swaps_, .func (.func cmp_f) #[] cmp_v] w K = slices_medianAdjacentCmpFunc_int.w data__p data__n data__c a_ swaps_ cmp_f cmp_v w K := by kernel_rfl
theorem slices_medianAdjacentCmpFunc_int.ok : fnOk Try.prog Try.f117 4 = true := by kernel_rfl
theorem slices_medianAdjacentCmpFunc_int.calls {data__p : Option Addr} {data__n : Nat} {data__c : Nat} {a_ : Int} {swaps_ : Option Addr} {cmp_f : FuncId} {cmp_v : Array Value} {w : World} {R : Ending → World → Prop} (h : slices_medianAdjacentCmpFunc_int.w data__p data__n data__c a_ swaps_ cmp_f cmp_v w fun v w' => R (.returned v) w') : Calls Try.prog 117 #[.slice data__p data__n data__c, .int .i64 a_, .pointer swaps_, .func (.func cmp_f) #[] cmp_v] w R :=
  calls_of mixed Try.func117 slices_medianAdjacentCmpFunc_int.ok rfl (fun K => slices_medianAdjacentCmpFunc_int.eq data__p data__n data__c a_ swaps_ cmp_f cmp_v w K) h

/-! ### slices.medianCmpFunc[int]: function 118 (named slots 125) -/
def slices_medianCmpFunc_int.w (data__p : Option Addr) (data__n : Nat) (data__c : Nat) (a_ : Int) (b_ : Int) (c_ : Int) (swaps_ : Option Addr) (cmp_f : FuncId) (cmp_v : Array Value) (w : World) (K : Value → World → Prop) : Prop :=
  Calls Try.prog 119 #[.slice data__p data__n data__c, .int .i64 a_, .int .i64 b_, .pointer swaps_, .func (.func cmp_f) #[] cmp_v] w fun e w1 => ∃ r2 : Int, ∃ r3 : Int, e = .returned (.tuple #[.int .i64 r2, .int .i64 r3]) ∧ 
  Calls Try.prog 119 #[.slice data__p data__n data__c, .int .i64 r3, .int .i64 c_, .pointer swaps_, .func (.func cmp_f) #[] cmp_v] w1 fun e w4 => ∃ r5 : Int, ∃ r6 : Int, e = .returned (.tuple #[.int .i64 r5, .int .i64 r6]) ∧ 
  Calls Try.prog 119 #[.slice data__p data__n data__c, .int .i64 r2, .int .i64 r5, .pointer swaps_, .func (.func cmp_f) #[] cmp_v] w4 fun e w7 => ∃ r8 : Int, ∃ r9 : Int, e = .returned (.tuple #[.int .i64 r8, .int .i64 r9]) ∧ 
  K (.int .i64 r9) w7
theorem slices_medianCmpFunc_int.eq (data__p : Option Addr) (data__n : Nat) (data__c : Nat) (a_ : Int) (b_ : Int) (c_ : Int) (swaps_ : Option Addr) (cmp_f : FuncId) (cmp_v : Array Value) (w : World) (K : Value → World → Prop) : wpF Try.prog Try.f118 .leaf [.slice data__p data__n data__c, .int .i64 a_, .int .i64 b_, .int .i64 c_, .pointer swaps_, .func (.func cmp_f) #[] cmp_v] w K = slices_medianCmpFunc_int.w data__p data__n data__c a_ b_ c_ swaps_ cmp_f cmp_v w K := by kernel_rfl
theorem slices_medianCmpFunc_int.ok : fnOk Try.prog Try.f118 6 = true := by kernel_rfl
theorem slices_medianCmpFunc_int.calls {data__p : Option Addr} {data__n : Nat} {data__c : Nat} {a_ : Int} {b_ : Int} {c_ : Int} {swaps_ : Option Addr} {cmp_f : FuncId} {cmp_v : Array Value} {w : World} {R : Ending → World → Prop} (h : slices_medianCmpFunc_int.w data__p data__n data__c a_ b_ c_ swaps_ cmp_f cmp_v w fun v w' => R (.returned v) w') : Calls Try.prog 118 #[.slice data__p data__n data__c, .int .i64 a_, .int .i64 b_, .int .i64 c_, .pointer swaps_, .func (.func cmp_f) #[] cmp_v] w R :=
  calls_of mixed Try.func118 slices_medianCmpFunc_int.ok rfl (fun K => slices_medianCmpFunc_int.eq data__p data__n data__c a_ b_ c_ swaps_ cmp_f cmp_v w K) h

/-! ### slices.order2CmpFunc[int]: function 119 (named slots 127) -/
def slices_order2CmpFunc_int.w (data__p : Option Addr) (data__n : Nat) (data__c : Nat) (a_ : Int) (b_ : Int) (swaps_ : Option Addr) (cmp_f : FuncId) (cmp_v : Array Value) (w : World) (K : Value → World → Prop) : Prop :=
  ixK data__p data__n b_ 1 fun a1 =>
  ∃ x2 : Int, w.drew.cell? a1 = some (.int .i64 x2) ∧ 
  ixK data__p data__n a_ 1 fun a3 =>
  ∃ x4 : Int, w.drew.cell? a3 = some (.int .i64 x4) ∧ 
  cnd (entB Try.prog cmp_f) (Calls Try.prog cmp_f (#[] ++ #[.int .i64 x2, .int .i64 x4] ++ cmp_v) w.drew fun e w5 => ∃ r6 : Int, e = .returned (.int .i64 r6) ∧ 
  cnd (decide (r6 < (0 : Int)))
  (∃ a7 : Addr, swaps_ = some a7 ∧ ∃ x8 : Int, w5.cell? a7 = some (.int .i64 x8) ∧ 
    ∃ a9 : Addr, swaps_ = some a9 ∧ ∃ w10 : World, StoreAt a9 0 [.int .i64 (IntKind.i64.wrap (x8 + (1 : Int)))] w5 w10 ∧ 
    K (.tuple #[.int .i64 b_, .int .i64 a_]) w10)
  (K (.tuple #[.int .i64 a_, .int .i64 b_]) w5)) False
theorem slices_order2CmpFunc_int.eq (data__p : Option Addr) (data__n : Nat) (data__c : Nat) (a_ : Int) (b_ : Int) (swaps_ : Option Addr) (cmp_f : FuncId) (cmp_v : Array Value) (w : World) (K : Value → World → Prop) : wpF Try.prog Try.f119 .leaf [.slice data__p data__n data__c, .int .i64 a_, .int .i64 b_, .pointer swaps_, .func (.func cmp_f) #[] cmp_v] w K = slices_order2CmpFunc_int.w data__p data__n data__c a_ b_ swaps_ cmp_f cmp_v w K := by kernel_rfl
theorem slices_order2CmpFunc_int.ok : fnOk Try.prog Try.f119 5 = true := by kernel_rfl
theorem slices_order2CmpFunc_int.calls {data__p : Option Addr} {data__n : Nat} {data__c : Nat} {a_ : Int} {b_ : Int} {swaps_ : Option Addr} {cmp_f : FuncId} {cmp_v : Array Value} {w : World} {R : Ending → World → Prop} (h : slices_order2CmpFunc_int.w data__p data__n data__c a_ b_ swaps_ cmp_f cmp_v w fun v w' => R (.returned v) w') : Calls Try.prog 119 #[.slice data__p data__n data__c, .int .i64 a_, .int .i64 b_, .pointer swaps_, .func (.func cmp_f) #[] cmp_v] w R :=
  calls_of mixed Try.func119 slices_order2CmpFunc_int.ok rfl (fun K => slices_order2CmpFunc_int.eq data__p data__n data__c a_ b_ swaps_ cmp_f cmp_v w K) h

end Go.Proofs.Ytlpmapeojecenaa.W
